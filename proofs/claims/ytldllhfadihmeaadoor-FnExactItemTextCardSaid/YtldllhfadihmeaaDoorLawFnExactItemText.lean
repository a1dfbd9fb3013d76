/- The law FnExactItemText: for every input the call returns true, and the arguments read as before. Condition: none. -/
import Derived.Test.YtldllhfadihmeaaDoorRows
import Derived.Test.YtldllhfadihmeaaDoorHead
import Derived.Test.YtldllhfadihmeaaDoorLaid
import Derived.Test.YtldllhfadihmeaaDoorTie
import Derived.Test.YtldllhfadihmeaaDoorCards
import Derived.SevenTiedAt
import Derived.Test.YtldllhfadihmeaaDoorItArg
import Derived.Test.YtldllhfadihmeaaDoorItL
import Derived.Test.YtldllhfadihmeaaDoorItT
import Derived.WalkKit
import Derived.WalkSpells
import Derived.WalkLawsBesides
import Derived.ProofKit
import Derived.OpenShut
import Derived.ShutString
import Derived.ChangeOld
import Derived.Below
import Derived.Lib.Hide
namespace Go.Proofs.YtldllhfadihmeaaDoor
open Go.ChangeShapes Go.WideShapes Go.ChangeAt Go.WideMaps Go.WideElems Go.RowKit
open Go.ChangeMaps (open_string shut_string)
set_option linter.unusedVariables false

set_option maxHeartbeats 400000 in
theorem fnExactItemText_walk (i : It) (w : World) (h : i.key.size ≤ maxLen ∧ i.title.size ≤ maxLen ∧ i.body.size ≤ maxLen) (hE : EscAt w) :
    Calls Tryd.prog 5 #[.agg #[.string i.key, .string i.title, .string i.body, .int .i64 i.day]] w fun e w' => e = .returned (.bool true) ∧ Below w.heap.size w w' := by
  obtain ⟨h1, h2, h3⟩ := h
  have hb0 : Below w.heap.size w (w.alloc (.cells #[.string i.key, .string i.title, .string i.body, .int .i64 i.day] 38)) := (Below.refl _ _).alloc (Nat.le_refl _) _
  have c0 := Lib.hid (fun w => szItem_any i 1048576 w h1 h2 h3 (by omega) (by omega))
  have c1 := Lib.hid (fun w => spec_itemText i w h1 h2 h3)
  have c2 := Lib.hid (fun w h => impl_itemText i w h1 h2 h3 h)
  have HE := Lib.hid hE
  have c3 := Lib.hid (fun w => toItem_any i w)
  clear h1 h2 h3 hE
  generalize (⟨(itT i).toArray⟩ : ByteArray) = s at *
  have hcc : Hid (∀ w1, Below w.heap.size w w1 → Below (w.heap.size + 1) (w.alloc (.cells #[.string i.key, .string i.title, .string i.body, .int .i64 i.day] 38)) w1 → w1.cell? ⟨w.heap.size, 0, none⟩ = some (.string i.key) ∧ w1.cell? ⟨w.heap.size, 1, none⟩ = some (.string i.title) ∧ w1.cell? ⟨w.heap.size, 2, none⟩ = some (.string i.body) ∧ w1.cell? ⟨w.heap.size, 3, none⟩ = some (.int .i64 i.day)) := fun w1 _ h =>
    ⟨(h.cell (p := ⟨w.heap.size, 0, none⟩) (by simp)).trans (by go_simp), (h.cell (p := ⟨w.heap.size, 1, none⟩) (by simp)).trans (by go_simp), (h.cell (p := ⟨w.heap.size, 2, none⟩) (by simp)).trans (by go_simp), (h.cell (p := ⟨w.heap.size, 3, none⟩) (by simp)).trans (by go_simp)⟩
  go_enter Tryd.func5, Tryd.ntmps5
  go_wp2_with fail
  refine (c0.out _).mono ?_
  rintro e w1 ⟨⟨r, rfl, r1, r2⟩, hb1⟩
  have hc1 : Below (w.heap.size + 1) (w.alloc (.cells #[.string i.key, .string i.title, .string i.body, .int .i64 i.day] 38)) w1 := hb1.mono (by simp)
  have hz1 := hb0.trans (hc1.mono (by omega))
  by_cases h0 : 0 ≤ r
  · obtain ⟨g0, g1, g2, g3⟩ := hcc.out w1 hz1 hc1
    clear r2
    go_wp2_with fail
    refine (c3.out _).mono ?_
    rintro e w2 ⟨rfl, hb2⟩
    have hc2 := hc1.trans (hb2.mono (by have := hc1.size; simp at this; omega))
    clear g0 g1 g2 g3
    go_wp2_with fail
    refine (c1.out _).mono ?_
    rintro e w3 ⟨rfl, hb3⟩
    have hc3 := hc2.trans (hb3.mono (by have := hc2.size; simp at this; omega))
    have hz3 := hb0.trans (hc3.mono (by omega))
    obtain ⟨g0, g1, g2, g3⟩ := hcc.out w3 hz3 hc3
    go_wp2_with fail
    refine (c3.out _).mono ?_
    rintro e w4 ⟨rfl, hb4⟩
    have hc4 := hc3.trans (hb4.mono (by have := hc3.size; simp at this; omega))
    go_wp2_with fail
    refine (c2.out _ (HE.out.old (hb0.trans (hc4.mono (by omega))))).mono ?_
    rintro e w5 ⟨rfl, hb5⟩
    have hc5 := hc4.trans (hb5.mono (by have := hc4.size; simp at this; omega))
    have hz5 := hb0.trans (hc5.mono (by omega))
    go_wp2
    go_ret
    exact ⟨rfl, hz5⟩
  · go_wp2
    go_ret
    exact ⟨rfl, hz1⟩

theorem fnExactItemText_own : ownKnob Tryd.prog.godebug = none := by kernel_rfl
theorem fnExactItemText_laidOut : laidOutB Tryd.prog = true := by kernel_rfl
set_option maxRecDepth 100000 in
theorem fnExactItemText_lifted (os : Os) (started : os.Started) (H : Type) (enc : TypeId × Value → H) :
    ReturnsInHanded {} Tryd.checked os 5 .any (fun w args => (Rows.fnExactItemTextSpec.pre enc Tryd.prog Tryd.f5 [] false w args ∧ laidMetH Tryd.prog escLaid w) ∧ sizedMet enc Tryd.prog Tryd.f5 (OpenSpec.ofChange Rows.fnExactItemTextSpec) false w args)
      (Rows.fnExactItemTextSpec.post enc Tryd.prog Tryd.f5 false true false false) := by
  refine returnsInHanded_of_change_and (C := Tryd.checked) (X := fun w _ => laidMetH Tryd.prog escLaid w) (fun _ _ _ hh h => h.of_heap hh) fnExactItemText_own started (by kernel_rfl) Tryd.func5
    (ChangeSpec.witness_shaped (enc := enc) (C := Tryd.checked) (os := os) (X := fun w _ => laidMetH Tryd.prog escLaid w) false (World.doorLaid Tryd.prog 400 os) #[.agg #[.string ByteArray.empty, .string ByteArray.empty, .string ByteArray.empty, .int .i64 0]] 8 rfl (World.shaped_of_RefB (by kernel_rfl) (by kernel_rfl)) (by kernel_rfl) (by kernel_rfl) (by kernel_rfl) (esc_met os _)) ?_
  intro W base args ds gs before hval0 hW _ _ hL _
  have hval : ∀ (j : Nat) t v, Tryd.f5.params[j]? = some t → args[j]? = some v → Value.okWide Tryd.prog W .any base t v := hval0
  have hW' := hW
  obtain ⟨p, q, hA0, hV0, rfl, hfz, hnd⟩ := hW
  have hV : DataW.TrodVars enc Tryd.prog W (fun _ => true) [escName] gs q := hV0
  have hA : DataW.TrodAll enc Tryd.prog W 0 (fun _ => true) true Tryd.f5.params.toList args.toList ds p := hA0
  rw [Tryd.params5] at hA hval
  obtain ⟨v0, vs0, d0, ds0, p0, q0, hargs0, rfl, rfl, h0, r0⟩ := trodAll_cons hA
  obtain ⟨rfl, rfl, rfl⟩ := trodAll_nil r0
  obtain rfl : args = #[v0] := by cases args; simp_all
  obtain ⟨g, t, cs, fuel, d, p', rfl, hg, ht, hvar, hd, rfl⟩ := trodVars_one hV
  obtain rfl := Option.some.inj (esc_global.symm.trans hg)
  obtain rfl := Option.some.inj (esc_type.symm.trans ht)
  have hv8 := esc_cells_of hL
  obtain rfl : cs = escCells := Option.some.inj (hvar.symm.trans hv8)
  obtain ⟨rfl, rfl⟩ := DataW.Trod.unique (v := .agg escCells) ⟨fuel, hd⟩ ⟨4, reads_esc enc W _⟩
  have hEA := esc_at_of hv8
  have k0 := h0
  have lt0 : ∀ x ∈ p0, x.block < W.heap.size := by obtain ⟨m, hm⟩ := k0; exact DataW.trod_lt m _ _ _ hm
  obtain ⟨a0, rfl, w0⟩ := it_val Tryd.underlying38 (by kernel_rfl) (by kernel_rfl) (by kernel_rfl) (by kernel_rfl) (by kernel_rfl) (by kernel_rfl) (hval 0 38 v0 rfl rfl) h0
  clear hA0 hval0
  refine (fnExactItemText_walk a0 W w0 hEA).mono fun e W' ⟨he, bel⟩ => ?_
  subst he
  exact ⟨_, rfl, _, _, _, [], _, MemPlace.row ⟨0, 0, none⟩ 8 ++ [], hW', trodAll_mk1 (shut_bool Tryd.underlying4 _), (trodAll_cons_mk (Below.trod fnExactItemText_laidOut (by kernel_rfl) (of_decide_eq_true (by kernel_rfl)) k0 bel lt0) trodAll_mk0), esc_vars enc _ (esc_var_old hv8 bel), bel.frame _, fun h => by cases h⟩

theorem fnExactItemText_closed : joinedFacts Tryd.pinned.checked.prog 5 Tryd.f5 Rows.fnExactItemTextSpec Rows.fnExactItemTextRow = true := by
  show joinedFacts Tryd.prog 5 Tryd.f5 Rows.fnExactItemTextSpec Rows.fnExactItemTextRow = true
  simp only [joinedFacts, Bool.and_eq_true]
  repeat' apply And.intro
  all_goals first | with_reducible exact head_may | (rw [head_final]; kernel_rfl) | (rw [head_make]; kernel_rfl) | as_aux_lemma => kernel_rfl
theorem fnExactItemText_over : Rows.fnExactItemTextRow.holds Tryd.pinned (OpenSpec.ofChange Rows.fnExactItemTextSpec) :=
  OpenClaim.holds_of_wide 5 Tryd.f5 rfl rfl rfl rfl rfl rfl rfl ⟨rfl, rfl, rfl, rfl, rfl⟩ rfl rfl rfl rfl rfl (by kernel_rfl) Tryd.func5 fnExactItemText_closed
    (of_decide_eq_true (by kernel_rfl)) (by unfold Func.isWrapper; first | (rw [if_pos (by decide +kernel)]; kernel_rfl) | (rw [if_neg (by decide +kernel)]; exact ⟨rfl, rfl⟩))
    (fun os started H enc _ => fnExactItemText_lifted os started H enc)

/-- The statement. -/
theorem fnExactItemText_holds : Rows.FnExactItemTextCardSaid :=
  Claim7.holds_tied_plain_at .later [] [.data] true Rows.fnExactItemTextCard.stood.harness false
    fnExactItemText_over (fun _ h => by cases h) (by kernel_rfl) (fun _ h => by cases h) fnExactItemText_row_tie rfl ⟨rfl, rfl⟩ (by kernel_rfl) rfl
    (fun f fn hf hfn => by
      obtain rfl : f = 5 := Option.some.inj ((show Tryd.prog.funcNamed Rows.fnExactItemTextRow.func = some 5 by kernel_rfl).symm.trans hf) |>.symm
      obtain rfl : fn = Tryd.f5 := (Option.some.inj (Tryd.func5.symm.trans hfn)).symm
      exact ⟨by kernel_rfl, fun j t ht => by
        rw [Tryd.params5] at ht
        have hm : t ∈ [38] := by simpa using Array.mem_of_getElem? ht
        have hall : ([38].all fun u => !Tryd.prog.wantsStandIn u) = true := by kernel_rfl
        exact (show Tryd.prog.wantsStandIn t = false by simpa using List.all_eq_true.1 hall t hm)⟩)
    (by kernel_rfl)

end Go.Proofs.YtldllhfadihmeaaDoor
