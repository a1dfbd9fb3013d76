/- The law FnExactElementsText: for every input the call returns true, and the arguments read as before. Condition: none. -/
import Derived.Test.YtjkdjemefkignaaDoorRows
import Derived.Test.YtjkdjemefkignaaDoorHead
import Derived.Test.YtjkdjemefkignaaDoorLaid
import Derived.Test.YtjkdjemefkignaaDoorTie
import Derived.Test.YtjkdjemefkignaaDoorCards
import Derived.SevenTiedAt
import Derived.Test.YtjkdjemefkignaaDoorElsT
import Derived.Test.YtjkdjemefkignaaDoorElsL
import Derived.Test.YtjkdjemefkignaaDoorElArg
import Derived.WalkKit
import Derived.WalkSpells
import Derived.WalkLawsBesides
import Derived.ProofKit
import Derived.OpenShut
import Derived.ShutString
import Derived.ChangeOld
import Derived.Below
import Derived.Lib.Hide
namespace Go.Proofs.YtjkdjemefkignaaDoor
open Go.ChangeShapes Go.WideShapes Go.ChangeAt Go.WideMaps Go.WideElems Go.RowKit
open Go.ChangeMaps (open_string shut_string)
set_option linter.unusedVariables false

set_option maxHeartbeats 1000000 in
theorem fnExactElementsText_walk (a : Option Addr) (len cap : Nat) (l : List El) (w : World) (h : ElArg w a len l) (hE : EscAt w) :
    Calls Tryd.prog 7 #[.slice a len cap] w fun e w' => e = .returned (.bool true) ∧ Below w.heap.size w w' := by
  have H := Lib.hid h
  have HX := Lib.hid hE
  clear hE
  obtain ⟨h1, h2, h3, h4⟩ := h
  have c1 := Lib.hid (szElementS_any a len cap l w h1 h2 h3 h4)
  clear h1 h2 h3 h4
  go_enter Tryd.func7, Tryd.ntmps7
  go_wp2_with fail
  refine c1.out.mono ?_
  rintro e w1 ⟨⟨r, rfl, hr⟩, hb1⟩
  by_cases h0 : 0 ≤ r
  · obtain ⟨r1, r2⟩ := hr h0
    have R2 := Lib.hid r2
    clear r2 hr
    have HA := H.out.old hb1
    go_wp2_with fail
    refine (toElementS_any a len cap l _ HA.1 HA.2.1 r1).mono ?_
    rintro e w2 ⟨⟨g2, rfl, ho2⟩, hb2⟩
    have hb12 := hb1.trans (hb2.mono hb1.size)
    have hz : ∀ e ∈ l, e.1.size ≤ maxLen ∧ e.2.size ≤ maxLen := HA.2.2.2
    have HZ := Lib.hid hz
    have E2 := Lib.hid (ElAt.own ho2 HA.2.1)
    clear hz ho2
    go_wp2_with fail
    refine (spec_elementsText _ len len l _ E2.out HA.2.1 HA.2.2.1 HZ.out).mono ?_
    rintro e w2b ⟨rfl, hb2b⟩
    have hb12 := hb12.trans (hb2b.mono hb12.size)
    have HA2 := H.out.old hb12
    go_wp2_with fail
    refine (toElementS_any a len cap l _ HA2.1 HA2.2.1 r1).mono ?_
    rintro e w3 ⟨⟨g3, rfl, ho3⟩, hb3⟩
    have hb13 := hb12.trans (hb3.mono hb12.size)
    have E3 := Lib.hid (ElAt.own ho3 HA.2.1)
    clear ho3
    go_wp2_with fail
    refine (impl_elementsText _ len len l _ E3.out HA.2.1 HA.2.2.1 HZ.out (HX.out.old hb13)).mono ?_
    rintro e w4 ⟨rfl, hb4⟩
    have hb14 := hb13.trans (hb4.mono hb13.size)
    have E4 := Lib.hid (E3.out.old hb4)
    have HA4 := H.out.old hb14
    go_wp2_with fail
    refine (toElementS_any a len cap l _ HA4.1 HA4.2.1 r1).mono ?_
    rintro e w5 ⟨⟨g5, rfl, ho5⟩, hb5⟩
    have hb15 := hb14.trans (hb5.mono hb14.size)
    have E5 := Lib.hid (ElAt.own ho5 HA.2.1)
    have E45 := Lib.hid (E4.out.old hb5)
    clear ho5
    go_wp2_with fail
    refine (eqElementS_any _ _ len len len len l l _ E45.out HA.2.1 E5.out HA.2.1 HA.2.2.1 HA.2.2.1).mono ?_
    rintro e w6 ⟨rfl, hb6⟩
    have ht : decide (l = l) = true := decide_eq_true rfl
    go_wp2
    go_ret
    exact ⟨rfl, hb15.trans (hb6.mono hb15.size)⟩
  · go_wp2
    go_ret
    exact ⟨rfl, hb1⟩

theorem fnExactElementsText_own : ownKnob Tryd.prog.godebug = none := by kernel_rfl
theorem fnExactElementsText_laidOut : laidOutB Tryd.prog = true := by kernel_rfl
set_option maxRecDepth 100000 in
theorem fnExactElementsText_lifted (os : Os) (started : os.Started) (H : Type) (enc : TypeId × Value → H) :
    ReturnsInHanded {} Tryd.checked os 7 .any (fun w args => (Rows.fnExactElementsTextSpec.pre enc Tryd.prog Tryd.f7 [] false w args ∧ laidMetH Tryd.prog escLaid w) ∧ sizedMet enc Tryd.prog Tryd.f7 (OpenSpec.ofChange Rows.fnExactElementsTextSpec) false w args)
      (Rows.fnExactElementsTextSpec.post enc Tryd.prog Tryd.f7 false true false false) := by
  refine returnsInHanded_of_change_and (C := Tryd.checked) (X := fun w _ => laidMetH Tryd.prog escLaid w) (fun _ _ _ hh h => h.of_heap hh) fnExactElementsText_own started (by kernel_rfl) Tryd.func7
    (ChangeSpec.witness_shaped (enc := enc) (C := Tryd.checked) (os := os) (X := fun w _ => laidMetH Tryd.prog escLaid w) false (World.doorLaid Tryd.prog 400 os) #[.slice none 0 0] 8 rfl (World.shaped_of_RefB (by kernel_rfl) (by kernel_rfl)) (by kernel_rfl) (by kernel_rfl) (by kernel_rfl) (esc_met os _)) ?_
  intro W base args ds gs before hval0 hW _ _ hL _
  have hval : ∀ (j : Nat) t v, Tryd.f7.params[j]? = some t → args[j]? = some v → Value.okWide Tryd.prog W .any base t v := hval0
  have hW' := hW
  obtain ⟨p, q, hA0, hV0, rfl, hfz, hnd⟩ := hW
  have hV : DataW.TrodVars enc Tryd.prog W (fun _ => true) [escName] gs q := hV0
  have hA : DataW.TrodAll enc Tryd.prog W 0 (fun _ => true) true Tryd.f7.params.toList args.toList ds p := hA0
  rw [Tryd.params7] at hA hval
  obtain ⟨v0, vs0, d0, ds0, p0, q0, hargs0, rfl, rfl, h0, r0⟩ := trodAll_cons hA
  obtain ⟨rfl, rfl, rfl⟩ := trodAll_nil r0
  obtain rfl : args = #[v0] := by cases args; simp_all
  obtain ⟨g, t, cs, fuel, d, p', rfl, hg, ht, hvar, hd, rfl⟩ := trodVars_one hV
  obtain rfl := Option.some.inj (esc_global.symm.trans hg)
  obtain rfl := Option.some.inj (esc_type.symm.trans ht)
  have hv8 := esc_cells_of hL
  obtain rfl : cs = escCells := Option.some.inj (hvar.symm.trans hv8)
  obtain ⟨rfl, rfl⟩ := DataW.Trod.unique (v := .agg escCells) ⟨fuel, hd⟩ ⟨4, reads_esc enc W _⟩
  have hEA := esc_at_of hv8
  have k0 := h0
  have lt0 : ∀ x ∈ p0, x.block < W.heap.size := by obtain ⟨m, hm⟩ := k0; exact DataW.trod_lt m _ _ _ hm
  obtain ⟨a0, len0, cap0, rfl⟩ := okWide_slice Tryd.underlying30 (hval 0 30 v0 rfl rfl)
  obtain ⟨z0, w0⟩ : ∃ zs, ElArg W a0 len0 zs := by
    obtain ⟨fuel, hf⟩ := h0
    exact el_arg Tryd.underlying30 Tryd.underlying53 (by kernel_rfl) rfl rfl (by kernel_rfl) (by kernel_rfl) (by kernel_rfl) (by kernel_rfl) (by simpa [Value.cells] using hf)
  clear hA0 hval0
  refine (fnExactElementsText_walk a0 len0 cap0 z0 W w0 hEA).mono fun e W' ⟨he, bel⟩ => ?_
  subst he
  exact ⟨_, rfl, _, _, _, [], _, MemPlace.row ⟨0, 0, none⟩ 8 ++ [], hW', trodAll_mk1 (shut_bool Tryd.underlying4 _), (trodAll_cons_mk (Below.trod fnExactElementsText_laidOut (by kernel_rfl) (of_decide_eq_true (by kernel_rfl)) k0 bel lt0) trodAll_mk0), esc_vars enc _ (esc_var_old hv8 bel), bel.frame _, fun h => by cases h⟩

theorem fnExactElementsText_closed : joinedFacts Tryd.pinned.checked.prog 7 Tryd.f7 Rows.fnExactElementsTextSpec Rows.fnExactElementsTextRow = true := by
  show joinedFacts Tryd.prog 7 Tryd.f7 Rows.fnExactElementsTextSpec Rows.fnExactElementsTextRow = true
  simp only [joinedFacts, Bool.and_eq_true]
  repeat' apply And.intro
  all_goals first | with_reducible exact head_may | (rw [head_final]; kernel_rfl) | (rw [head_make]; kernel_rfl) | as_aux_lemma => kernel_rfl
theorem fnExactElementsText_over : Rows.fnExactElementsTextRow.holds Tryd.pinned (OpenSpec.ofChange Rows.fnExactElementsTextSpec) :=
  OpenClaim.holds_of_wide 7 Tryd.f7 rfl rfl rfl rfl rfl rfl rfl ⟨rfl, rfl, rfl, rfl, rfl⟩ rfl rfl rfl rfl rfl (by kernel_rfl) Tryd.func7 fnExactElementsText_closed
    (of_decide_eq_true (by kernel_rfl)) (by unfold Func.isWrapper; first | (rw [if_pos (by decide +kernel)]; kernel_rfl) | (rw [if_neg (by decide +kernel)]; exact ⟨rfl, rfl⟩))
    (fun os started H enc _ => fnExactElementsText_lifted os started H enc)

/-- The statement. -/
theorem fnExactElementsText_holds : Rows.FnExactElementsTextCardSaid :=
  Claim7.holds_tied_plain_at .later [] [.data] true Rows.fnExactElementsTextCard.stood.harness false
    fnExactElementsText_over (fun _ h => by cases h) (by kernel_rfl) (fun _ h => by cases h) fnExactElementsText_row_tie rfl ⟨rfl, rfl⟩ (by kernel_rfl) rfl
    (fun f fn hf hfn => by
      obtain rfl : f = 7 := Option.some.inj ((show Tryd.prog.funcNamed Rows.fnExactElementsTextRow.func = some 7 by kernel_rfl).symm.trans hf) |>.symm
      obtain rfl : fn = Tryd.f7 := (Option.some.inj (Tryd.func7.symm.trans hfn)).symm
      exact ⟨by kernel_rfl, fun j t ht => by
        rw [Tryd.params7] at ht
        have hm : t ∈ [30] := by simpa using Array.mem_of_getElem? ht
        have hall : ([30].all fun u => !Tryd.prog.wantsStandIn u) = true := by kernel_rfl
        exact (show Tryd.prog.wantsStandIn t = false by simpa using List.all_eq_true.1 hall t hm)⟩)
    (by kernel_rfl)

end Go.Proofs.YtjkdjemefkignaaDoor
