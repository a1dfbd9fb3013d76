/- The law FnExactFeedValid: for every input the call returns true, and the arguments read as before. Condition: none. -/
import Derived.Test.YtldllhfadihmeaaRows
import Derived.Test.YtldllhfadihmeaaHead
import Derived.Test.YtldllhfadihmeaaFvW
import Derived.Test.YtldllhfadihmeaaFvS
import Derived.Test.YtldllhfadihmeaaItR
import Derived.WalkKit
import Derived.WalkSpells
import Derived.WalkLawsBesides
import Derived.ProofKit
import Derived.OpenShut
import Derived.ShutString
import Derived.ChangeOld
import Derived.Below
import Derived.Lib.Hide
namespace Go.Proofs.Ytldllhfadihmeaa
open Go.ChangeShapes Go.WideShapes Go.ChangeAt Go.RowKit
open Go.ChangeMaps (open_string shut_string)
set_option linter.unusedVariables false

set_option maxHeartbeats 1000000 in
theorem fnExactFeedValid_walk (a : Option Addr) (len cap : Nat) (l : List It) (w : World) (h : ItArg w a len l) :
    Calls Try.prog 6 #[.slice a len cap] w fun e w' => e = .returned (.bool true) ∧ Below w.heap.size w w' := by
  have H := Lib.hid h
  obtain ⟨h1, h2, h3, h4⟩ := h
  have c1 := Lib.hid (szItemS_any a len cap l w h1 h2 h3 h4)
  clear h1 h2 h3 h4
  go_enter Try.func6, Try.ntmps6
  go_wp2_with fail
  refine c1.out.mono ?_
  rintro e w1 ⟨⟨r, rfl, hr⟩, hb1⟩
  by_cases h0 : 0 ≤ r
  · obtain ⟨r1, r2⟩ := hr h0
    have R2 := Lib.hid r2
    clear r2 hr
    have HA := H.out.old hb1
    go_wp2_with fail
    refine (toItemS_any a len cap l _ HA.1 HA.2.1 r1).mono ?_
    rintro e w2 ⟨⟨g2, rfl, ho2⟩, hb2⟩
    have hb12 := hb1.trans (hb2.mono hb1.size)
    have hz : ∀ i ∈ l, i.key.size ≤ maxLen ∧ i.title.size ≤ maxLen ∧ i.body.size ≤ maxLen := HA.2.2.2
    have HZ := Lib.hid hz
    have E2 := Lib.hid (ItAt.own ho2 HA.2.1)
    clear hz ho2
    go_wp2_with fail
    refine (spec_feedValid _ len len l _ E2.out HA.2.1 HA.2.2.1 HZ.out).mono ?_
    rintro e w2b ⟨rfl, hb2b⟩
    have hb12 := hb12.trans (hb2b.mono hb12.size)
    have HA2 := H.out.old hb12
    go_wp2_with fail
    refine (toItemS_any a len cap l _ HA2.1 HA2.2.1 r1).mono ?_
    rintro e w3 ⟨⟨g3, rfl, ho3⟩, hb3⟩
    have hb13 := hb12.trans (hb3.mono hb12.size)
    have E3 := Lib.hid (ItAt.own ho3 HA.2.1)
    clear ho3
    go_wp2_with fail
    refine (impl_feedValid _ len len l _ E3.out HA.2.1 (Nat.le_refl _) HA.2.2.1 HZ.out).mono ?_
    rintro e w4 ⟨rfl, hb4⟩
    have hb14 := hb13.trans (hb4.mono hb13.size)
    have E4 := Lib.hid (E3.out.old hb4)
    have HA4 := H.out.old hb14
    go_wp2_with fail
    refine (toItemS_any a len cap l _ HA4.1 HA4.2.1 r1).mono ?_
    rintro e w5 ⟨⟨g5, rfl, ho5⟩, hb5⟩
    have hb15 := hb14.trans (hb5.mono hb14.size)
    have E5 := Lib.hid (ItAt.own ho5 HA.2.1)
    have E45 := Lib.hid (E4.out.old hb5)
    clear ho5
    go_wp2_with fail
    refine (eqItemS_any _ _ len len len len l l _ E45.out HA.2.1 E5.out HA.2.1 HA.2.2.1 HA.2.2.1).mono ?_
    rintro e w6 ⟨rfl, hb6⟩
    have ht : decide (l = l) = true := decide_eq_true rfl
    go_wp2
    go_ret
    exact ⟨rfl, hb15.trans (hb6.mono hb15.size)⟩
  · go_wp2
    go_ret
    exact ⟨rfl, hb1⟩

theorem fnExactFeedValid_own : ownKnob Try.prog.godebug = none := by kernel_rfl
theorem fnExactFeedValid_laidOut : laidOutB Try.prog = true := by kernel_rfl
set_option maxRecDepth 100000 in
theorem fnExactFeedValid_lifted (os : Os) (started : os.Started) (H : Type) (enc : TypeId × Value → H) :
    ReturnsInHanded {} Try.checked os 6 .any (Rows.fnExactFeedValidSpec.pre6 enc Try.prog Try.f6 Rows.fnExactFeedValidRow.domain false) (Rows.fnExactFeedValidSpec.post enc Try.prog Try.f6 false true false false) := by
  refine returnsInHanded_of_change (C := Try.checked) fnExactFeedValid_own started (by kernel_rfl) Try.func6
    (ChangeSpec.witness6 (enc := enc) (C := Try.checked) false ⟨#[], #[.slice none 0 0], []⟩ 8 (by kernel_rfl) (by kernel_rfl) (by kernel_rfl) (by kernel_rfl)) ?_
  intro W base args ds gs before hval0 hW hcnd _
  have hval : ∀ (j : Nat) t v, Try.f6.params[j]? = some t → args[j]? = some v → Value.okWide Try.prog W .any base t v := hval0
  have hW' := hW
  obtain ⟨p, q, hA0, hV, rfl, hfz, hnd⟩ := hW
  have hA : DataW.TrodAll enc Try.prog W 0 (fun _ => true) true Try.f6.params.toList args.toList ds p := hA0
  rw [Try.params6] at hA hval
  obtain ⟨v0, vs0, d0, ds0, p0, q0, hargs0, rfl, rfl, h0, r0⟩ := trodAll_cons hA
  obtain ⟨rfl, rfl, rfl⟩ := trodAll_nil r0
  obtain rfl : args = #[v0] := by cases args; simp_all
  obtain ⟨rfl, rfl⟩ := trodVars_none hV
  have k0 := h0
  have lt0 : ∀ x ∈ p0, x.block < W.heap.size := by obtain ⟨m, hm⟩ := k0; exact DataW.trod_lt m _ _ _ hm
  obtain ⟨a0, len0, cap0, rfl⟩ := okWide_slice Try.underlying22 (hval 0 22 v0 rfl rfl)
  obtain ⟨z0, w0⟩ : ∃ zs, ItArg W a0 len0 zs := by
    obtain ⟨fuel, hf⟩ := h0
    exact it_arg Try.underlying22 Try.underlying31 (by kernel_rfl) rfl rfl rfl rfl (by kernel_rfl) (by kernel_rfl) (by kernel_rfl) (by kernel_rfl) (by kernel_rfl) (by kernel_rfl) (by kernel_rfl) (by kernel_rfl) (by simpa [Value.cells] using hf)
  clear hA0 hval0
  refine (fnExactFeedValid_walk a0 len0 cap0 z0 W w0).mono fun e W' ⟨he, bel⟩ => ?_
  subst he
  exact ⟨_, rfl, _, _, _, [], _, [], hW', trodAll_mk1 (shut_bool Try.underlying4 _), (trodAll_cons_mk (Below.trod fnExactFeedValid_laidOut (by kernel_rfl) (of_decide_eq_true (by kernel_rfl)) k0 bel lt0) trodAll_mk0), rfl, bel.frame _, fun h => by cases h⟩

theorem fnExactFeedValid_closed : joinedFacts Try.pinned.checked.prog 6 Try.f6 Rows.fnExactFeedValidSpec Rows.fnExactFeedValidRow = true := by
  show joinedFacts Try.prog 6 Try.f6 Rows.fnExactFeedValidSpec Rows.fnExactFeedValidRow = true
  simp only [joinedFacts, Bool.and_eq_true]
  repeat' apply And.intro
  all_goals first | with_reducible exact head_may | (rw [head_final]; kernel_rfl) | (rw [head_make]; kernel_rfl) | as_aux_lemma => kernel_rfl
theorem fnExactFeedValid_over : Rows.fnExactFeedValidRow.holds Try.pinned (OpenSpec.ofChange Rows.fnExactFeedValidSpec) :=
  OpenClaim.holds_of_wide 6 Try.f6 rfl rfl rfl rfl rfl rfl rfl ⟨rfl, rfl, rfl, rfl, rfl⟩ rfl rfl rfl rfl rfl (by kernel_rfl) Try.func6 fnExactFeedValid_closed
    (of_decide_eq_true (by kernel_rfl)) (by unfold Func.isWrapper; first | (rw [if_pos (by decide +kernel)]; kernel_rfl) | (rw [if_neg (by decide +kernel)]; exact ⟨rfl, rfl⟩))
    (fun os started H enc _ => fnExactFeedValid_lifted os started H enc)

/-- The statement. -/
theorem fnExactFeedValid_holds : Rows.FnExactFeedValidSaid := fnExactFeedValid_over

end Go.Proofs.Ytldllhfadihmeaa
