/- The law FnExactReadItem: for every input the call returns true, and the arguments read as before. Condition: none. -/
import Derived.Test.YtldllhfadihmeaaDoorRows
import Derived.Test.YtldllhfadihmeaaDoorHead
import Derived.Test.YtldllhfadihmeaaDoorLaid
import Derived.Test.YtldllhfadihmeaaDoorTie
import Derived.Test.YtldllhfadihmeaaDoorCards
import Derived.SevenTiedAt
import Derived.Test.YtldllhfadihmeaaDoorItR
import Derived.Test.YtldllhfadihmeaaDoorNewW
import Derived.Test.YtldllhfadihmeaaDoorRdI
import Derived.Test.YtldllhfadihmeaaDoorRdS
import Derived.WalkKit
import Derived.WalkSpells
import Derived.WalkLawsBesides
import Derived.ProofKit
import Derived.OpenShut
import Derived.ShutString
import Derived.ChangeOld
import Derived.Below
import Derived.Lib.Hide
namespace Go.Proofs.YtldllhfadihmeaaDoor
open Go.ChangeShapes Go.WideShapes Go.ChangeAt Go.WideMaps Go.WideElems Go.RowKit
open Go.ChangeMaps (open_string shut_string)
set_option linter.unusedVariables false

set_option maxHeartbeats 1000000 in
theorem fnExactReadItem_walk (s : ByteArray) (hs : s.size ≤ maxLen) (w : World) (hE : EscAt w) :
    Calls Tryd.prog 8 #[.string s] w fun e w' => e = .returned (.bool true) ∧ Below w.heap.size w w' := by
  have HE := Lib.hid hE
  clear hE
  unfold maxLen at hs
  by_cases hl : 1048576 < s.size
  · go_enter Tryd.func8, Tryd.ntmps8
    go_wp2
    go_ret
    exact ⟨rfl, Below.refl _ _⟩
  · have c1 := Lib.hid (fun w => spec_readItem s w (by omega))
    have c2 := Lib.hid (fun w h => impl_readItem s w (by omega) h)
    unfold ItRead at c1 c2
    obtain ⟨x, hx⟩ : ∃ x, x = dI (readI s.data.toList) := ⟨_, rfl⟩
    obtain ⟨ok, hok⟩ : ∃ ok, ok = (readI s.data.toList).isSome := ⟨_, rfl⟩
    rw [← hx, ← hok] at c1 c2
    clear hx hok
    go_enter Tryd.func8, Tryd.ntmps8
    go_wp2_with fail
    refine (c1.out _).mono ?_
    rintro e w1 ⟨rfl, hb1⟩
    have K1 := Lib.hid (fun w3 h => item_kept w1 41 x w3 h)
    have z1 := hb1.alloc hb1.size (.cells #[.string x.key, .string x.title, .string x.body, .int .i64 x.day] 41)
    have hc1 : Below (w1.heap.size + 1) (w1.alloc (.cells #[.string x.key, .string x.title, .string x.body, .int .i64 x.day] 41)) (w1.alloc (.cells #[.string x.key, .string x.title, .string x.body, .int .i64 x.day] 41)) := Below.refl _ _
    go_wp2_with fail
    refine (c2.out _ (HE.out.old z1)).mono ?_
    rintro e w2 ⟨rfl, hb2⟩
    have hc2 := hc1.trans (hb2.mono (by simp))
    have z2 := z1.trans (hb2.mono z1.size)
    have z2a := z2.alloc z2.size (.cells #[.string x.key, .string x.title, .string x.body, .int .i64 x.day] 41)
    obtain ⟨p0, p1, p2, p3⟩ := K1.out _ (hc2.alloc (by have := hc2.size; simp at this; omega) (.cells #[.string x.key, .string x.title, .string x.body, .int .i64 x.day] 41))
    go_wp2_with fail
    refine (eqItem_any x x _).mono ?_
    rintro e w3 ⟨rfl, hb3⟩
    rw [decide_eq_true (rfl : x = x)]
    have z3 := z2a.trans (hb3.mono z2a.size)
    cases ok
    all_goals
      go_wp2
      go_ret
      exact ⟨rfl, z3⟩

theorem fnExactReadItem_own : ownKnob Tryd.prog.godebug = none := by kernel_rfl
theorem fnExactReadItem_laidOut : laidOutB Tryd.prog = true := by kernel_rfl
set_option maxRecDepth 100000 in
theorem fnExactReadItem_lifted (os : Os) (started : os.Started) (H : Type) (enc : TypeId × Value → H) :
    ReturnsInHanded {} Tryd.checked os 8 .any (fun w args => (Rows.fnExactReadItemSpec.pre enc Tryd.prog Tryd.f8 [] false w args ∧ laidMetH Tryd.prog escLaid w) ∧ sizedMet enc Tryd.prog Tryd.f8 (OpenSpec.ofChange Rows.fnExactReadItemSpec) false w args)
      (Rows.fnExactReadItemSpec.post enc Tryd.prog Tryd.f8 false true false false) := by
  refine returnsInHanded_of_change_and (C := Tryd.checked) (X := fun w _ => laidMetH Tryd.prog escLaid w) (fun _ _ _ hh h => h.of_heap hh) fnExactReadItem_own started (by kernel_rfl) Tryd.func8
    (ChangeSpec.witness_shaped (enc := enc) (C := Tryd.checked) (os := os) (X := fun w _ => laidMetH Tryd.prog escLaid w) false (World.doorLaid Tryd.prog 400 os) #[.string ByteArray.empty] 8 rfl (World.shaped_of_RefB (by kernel_rfl) (by kernel_rfl)) (by kernel_rfl) (by kernel_rfl) (by kernel_rfl) (esc_met os _)) ?_
  intro W base args ds gs before hval0 hW _ _ hL _
  have hval : ∀ (j : Nat) t v, Tryd.f8.params[j]? = some t → args[j]? = some v → Value.okWide Tryd.prog W .any base t v := hval0
  have hW' := hW
  obtain ⟨p, q, hA0, hV0, rfl, hfz, hnd⟩ := hW
  have hV : DataW.TrodVars enc Tryd.prog W (fun _ => true) [escName] gs q := hV0
  have hA : DataW.TrodAll enc Tryd.prog W 0 (fun _ => true) true Tryd.f8.params.toList args.toList ds p := hA0
  rw [Tryd.params8] at hA hval
  obtain ⟨v0, vs0, d0, ds0, p0, q0, hargs0, rfl, rfl, h0, r0⟩ := trodAll_cons hA
  obtain ⟨rfl, rfl, rfl⟩ := trodAll_nil r0
  obtain rfl : args = #[v0] := by cases args; simp_all
  obtain ⟨g, t, cs, fuel, d, p', rfl, hg, ht, hvar, hd, rfl⟩ := trodVars_one hV
  obtain rfl := Option.some.inj (esc_global.symm.trans hg)
  obtain rfl := Option.some.inj (esc_type.symm.trans ht)
  have hv8 := esc_cells_of hL
  obtain rfl : cs = escCells := Option.some.inj (hvar.symm.trans hv8)
  obtain ⟨rfl, rfl⟩ := DataW.Trod.unique (v := .agg escCells) ⟨fuel, hd⟩ ⟨4, reads_esc enc W _⟩
  have hEA := esc_at_of hv8
  have k0 := h0
  have lt0 : ∀ x ∈ p0, x.block < W.heap.size := by obtain ⟨m, hm⟩ := k0; exact DataW.trod_lt m _ _ _ hm
  obtain ⟨a0, rfl, rfl, rfl, w0⟩ := open_string Tryd.underlying9 (hval 0 9 v0 rfl rfl) h0
  clear hA0 hval0
  refine (fnExactReadItem_walk a0 w0 W hEA).mono fun e W' ⟨he, bel⟩ => ?_
  subst he
  exact ⟨_, rfl, _, _, _, [], _, MemPlace.row ⟨0, 0, none⟩ 8 ++ [], hW', trodAll_mk1 (shut_bool Tryd.underlying4 _), (trodAll_cons_mk (Below.trod fnExactReadItem_laidOut (by kernel_rfl) (of_decide_eq_true (by kernel_rfl)) k0 bel lt0) trodAll_mk0), esc_vars enc _ (esc_var_old hv8 bel), bel.frame _, fun h => by cases h⟩

theorem fnExactReadItem_closed : joinedFacts Tryd.pinned.checked.prog 8 Tryd.f8 Rows.fnExactReadItemSpec Rows.fnExactReadItemRow = true := by
  show joinedFacts Tryd.prog 8 Tryd.f8 Rows.fnExactReadItemSpec Rows.fnExactReadItemRow = true
  simp only [joinedFacts, Bool.and_eq_true]
  repeat' apply And.intro
  all_goals first | with_reducible exact head_may | (rw [head_final]; kernel_rfl) | (rw [head_make]; kernel_rfl) | as_aux_lemma => kernel_rfl
theorem fnExactReadItem_over : Rows.fnExactReadItemRow.holds Tryd.pinned (OpenSpec.ofChange Rows.fnExactReadItemSpec) :=
  OpenClaim.holds_of_wide 8 Tryd.f8 rfl rfl rfl rfl rfl rfl rfl ⟨rfl, rfl, rfl, rfl, rfl⟩ rfl rfl rfl rfl rfl (by kernel_rfl) Tryd.func8 fnExactReadItem_closed
    (of_decide_eq_true (by kernel_rfl)) (by unfold Func.isWrapper; first | (rw [if_pos (by decide +kernel)]; kernel_rfl) | (rw [if_neg (by decide +kernel)]; exact ⟨rfl, rfl⟩))
    (fun os started H enc _ => fnExactReadItem_lifted os started H enc)

/-- The statement. -/
theorem fnExactReadItem_holds : Rows.FnExactReadItemCardSaid :=
  Claim7.holds_tied_plain_at .later [] [.data] true Rows.fnExactReadItemCard.stood.harness false
    fnExactReadItem_over (fun _ h => by cases h) (by kernel_rfl) (fun _ h => by cases h) fnExactReadItem_row_tie rfl ⟨rfl, rfl⟩ (by kernel_rfl) rfl
    (fun f fn hf hfn => by
      obtain rfl : f = 8 := Option.some.inj ((show Tryd.prog.funcNamed Rows.fnExactReadItemRow.func = some 8 by kernel_rfl).symm.trans hf) |>.symm
      obtain rfl : fn = Tryd.f8 := (Option.some.inj (Tryd.func8.symm.trans hfn)).symm
      exact ⟨by kernel_rfl, fun j t ht => by
        rw [Tryd.params8] at ht
        have hm : t ∈ [9] := by simpa using Array.mem_of_getElem? ht
        have hall : ([9].all fun u => !Tryd.prog.wantsStandIn u) = true := by kernel_rfl
        exact (show Tryd.prog.wantsStandIn t = false by simpa using List.all_eq_true.1 hall t hm)⟩)
    (by kernel_rfl)

end Go.Proofs.YtldllhfadihmeaaDoor
