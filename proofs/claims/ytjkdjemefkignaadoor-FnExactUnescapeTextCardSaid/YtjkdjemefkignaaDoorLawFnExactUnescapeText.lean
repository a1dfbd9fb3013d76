/- The law FnExactUnescapeText: for every input the call returns true, and the arguments read as before. Condition: none. -/
import Derived.Test.YtjkdjemefkignaaDoorRows
import Derived.Test.YtjkdjemefkignaaDoorHead
import Derived.Test.YtjkdjemefkignaaDoorLaid
import Derived.Test.YtjkdjemefkignaaDoorTie
import Derived.Test.YtjkdjemefkignaaDoorCards
import Derived.SevenTiedAt
import Derived.Test.YtjkdjemefkignaaDoorUnescS
import Derived.WalkKit
import Derived.WalkSpells
import Derived.WalkLawsBesides
import Derived.ProofKit
import Derived.OpenShut
import Derived.ShutString
import Derived.ChangeOld
import Derived.Below
import Derived.Lib.Hide
namespace Go.Proofs.YtjkdjemefkignaaDoor
open Go.ChangeShapes Go.WideShapes Go.ChangeAt Go.WideMaps Go.WideElems Go.RowKit
open Go.ChangeMaps (open_string shut_string)
set_option linter.unusedVariables false

set_option maxHeartbeats 800000 in
theorem fnExactUnescapeText_walk (s : ByteArray) (hs : s.size ≤ maxLen) (w : World) (hE : EscAt w) :
    Calls Tryd.prog 4 #[.string s] w fun e w' => e = .returned (.bool true) ∧ Below w.heap.size w w' := by
  have HE := Lib.hid hE
  clear hE
  by_cases hl : 1048576 < s.size
  · go_enter Tryd.func4, Tryd.ntmps4
    go_wp2
    go_ret
    exact ⟨rfl, Below.refl _ _⟩
  · have c1 := Lib.hid (fun w => spec_unescapeText s w (by omega))
    have c2 := Lib.hid (fun w h => impl_unescapeText s w hs h)
    obtain ⟨V, hV⟩ : ∃ V, V = strOpt (unB s.data.toList) := ⟨_, rfl⟩
    rw [← hV] at c1 c2
    have hV2 : (∃ t, V = .tuple #[.string t, .bool true]) ∨ V = .tuple #[.string ⟨#[]⟩, .bool false] := by rw [hV]; exact opt_same _
    clear hV
    rcases hV2 with ⟨t, rfl⟩ | rfl
    all_goals
      go_enter Tryd.func4, Tryd.ntmps4
      go_wp2_with fail
      refine (c1.out _).mono ?_
      rintro e w1 ⟨rfl, hb1⟩
      go_wp2_with fail
      refine (c2.out _ (HE.out.old hb1)).mono ?_
      rintro e w2 ⟨rfl, hb2⟩
      go_wp2
      go_ret
      exact ⟨rfl, hb1.trans (hb2.mono hb1.size)⟩

theorem fnExactUnescapeText_own : ownKnob Tryd.prog.godebug = none := by kernel_rfl
theorem fnExactUnescapeText_laidOut : laidOutB Tryd.prog = true := by kernel_rfl
set_option maxRecDepth 100000 in
theorem fnExactUnescapeText_lifted (os : Os) (started : os.Started) (H : Type) (enc : TypeId × Value → H) :
    ReturnsInHanded {} Tryd.checked os 4 .any (fun w args => (Rows.fnExactUnescapeTextSpec.pre enc Tryd.prog Tryd.f4 [] false w args ∧ laidMetH Tryd.prog escLaid w) ∧ sizedMet enc Tryd.prog Tryd.f4 (OpenSpec.ofChange Rows.fnExactUnescapeTextSpec) false w args)
      (Rows.fnExactUnescapeTextSpec.post enc Tryd.prog Tryd.f4 false true false false) := by
  refine returnsInHanded_of_change_and (C := Tryd.checked) (X := fun w _ => laidMetH Tryd.prog escLaid w) (fun _ _ _ hh h => h.of_heap hh) fnExactUnescapeText_own started (by kernel_rfl) Tryd.func4
    (ChangeSpec.witness_shaped (enc := enc) (C := Tryd.checked) (os := os) (X := fun w _ => laidMetH Tryd.prog escLaid w) false (World.doorLaid Tryd.prog 400 os) #[.string ByteArray.empty] 8 rfl (World.shaped_of_RefB (by kernel_rfl) (by kernel_rfl)) (by kernel_rfl) (by kernel_rfl) (by kernel_rfl) (esc_met os _)) ?_
  intro W base args ds gs before hval0 hW _ _ hL _
  have hval : ∀ (j : Nat) t v, Tryd.f4.params[j]? = some t → args[j]? = some v → Value.okWide Tryd.prog W .any base t v := hval0
  have hW' := hW
  obtain ⟨p, q, hA0, hV0, rfl, hfz, hnd⟩ := hW
  have hV : DataW.TrodVars enc Tryd.prog W (fun _ => true) [escName] gs q := hV0
  have hA : DataW.TrodAll enc Tryd.prog W 0 (fun _ => true) true Tryd.f4.params.toList args.toList ds p := hA0
  rw [Tryd.params4] at hA hval
  obtain ⟨v0, vs0, d0, ds0, p0, q0, hargs0, rfl, rfl, h0, r0⟩ := trodAll_cons hA
  obtain ⟨rfl, rfl, rfl⟩ := trodAll_nil r0
  obtain rfl : args = #[v0] := by cases args; simp_all
  obtain ⟨g, t, cs, fuel, d, p', rfl, hg, ht, hvar, hd, rfl⟩ := trodVars_one hV
  obtain rfl := Option.some.inj (esc_global.symm.trans hg)
  obtain rfl := Option.some.inj (esc_type.symm.trans ht)
  have hv8 := esc_cells_of hL
  obtain rfl : cs = escCells := Option.some.inj (hvar.symm.trans hv8)
  obtain ⟨rfl, rfl⟩ := DataW.Trod.unique (v := .agg escCells) ⟨fuel, hd⟩ ⟨4, reads_esc enc W _⟩
  have hEA := esc_at_of hv8
  have k0 := h0
  have lt0 : ∀ x ∈ p0, x.block < W.heap.size := by obtain ⟨m, hm⟩ := k0; exact DataW.trod_lt m _ _ _ hm
  obtain ⟨a0, rfl, rfl, rfl, w0⟩ := open_string Tryd.underlying9 (hval 0 9 v0 rfl rfl) h0
  clear hA0 hval0
  refine (fnExactUnescapeText_walk a0 w0 W hEA).mono fun e W' ⟨he, bel⟩ => ?_
  subst he
  exact ⟨_, rfl, _, _, _, [], _, MemPlace.row ⟨0, 0, none⟩ 8 ++ [], hW', trodAll_mk1 (shut_bool Tryd.underlying4 _), (trodAll_cons_mk (Below.trod fnExactUnescapeText_laidOut (by kernel_rfl) (of_decide_eq_true (by kernel_rfl)) k0 bel lt0) trodAll_mk0), esc_vars enc _ (esc_var_old hv8 bel), bel.frame _, fun h => by cases h⟩

theorem fnExactUnescapeText_closed : joinedFacts Tryd.pinned.checked.prog 4 Tryd.f4 Rows.fnExactUnescapeTextSpec Rows.fnExactUnescapeTextRow = true := by
  show joinedFacts Tryd.prog 4 Tryd.f4 Rows.fnExactUnescapeTextSpec Rows.fnExactUnescapeTextRow = true
  simp only [joinedFacts, Bool.and_eq_true]
  repeat' apply And.intro
  all_goals first | with_reducible exact head_may | (rw [head_final]; kernel_rfl) | (rw [head_make]; kernel_rfl) | as_aux_lemma => kernel_rfl
theorem fnExactUnescapeText_over : Rows.fnExactUnescapeTextRow.holds Tryd.pinned (OpenSpec.ofChange Rows.fnExactUnescapeTextSpec) :=
  OpenClaim.holds_of_wide 4 Tryd.f4 rfl rfl rfl rfl rfl rfl rfl ⟨rfl, rfl, rfl, rfl, rfl⟩ rfl rfl rfl rfl rfl (by kernel_rfl) Tryd.func4 fnExactUnescapeText_closed
    (of_decide_eq_true (by kernel_rfl)) (by unfold Func.isWrapper; first | (rw [if_pos (by decide +kernel)]; kernel_rfl) | (rw [if_neg (by decide +kernel)]; exact ⟨rfl, rfl⟩))
    (fun os started H enc _ => fnExactUnescapeText_lifted os started H enc)

/-- The statement. -/
theorem fnExactUnescapeText_holds : Rows.FnExactUnescapeTextCardSaid :=
  Claim7.holds_tied_plain_at .later [] [.data] true Rows.fnExactUnescapeTextCard.stood.harness false
    fnExactUnescapeText_over (fun _ h => by cases h) (by kernel_rfl) (fun _ h => by cases h) fnExactUnescapeText_row_tie rfl ⟨rfl, rfl⟩ (by kernel_rfl) rfl
    (fun f fn hf hfn => by
      obtain rfl : f = 4 := Option.some.inj ((show Tryd.prog.funcNamed Rows.fnExactUnescapeTextRow.func = some 4 by kernel_rfl).symm.trans hf) |>.symm
      obtain rfl : fn = Tryd.f4 := (Option.some.inj (Tryd.func4.symm.trans hfn)).symm
      exact ⟨by kernel_rfl, fun j t ht => by
        rw [Tryd.params4] at ht
        have hm : t ∈ [9] := by simpa using Array.mem_of_getElem? ht
        have hall : ([9].all fun u => !Tryd.prog.wantsStandIn u) = true := by kernel_rfl
        exact (show Tryd.prog.wantsStandIn t = false by simpa using List.all_eq_true.1 hall t hm)⟩)
    (by kernel_rfl)

end Go.Proofs.YtjkdjemefkignaaDoor
