/- The law FnExactElementText: for every input the call returns true, and the arguments read as before. Condition: none. -/
import Derived.Test.YtjkdjemefkignaaRows
import Derived.Test.YtjkdjemefkignaaHead
import Derived.Test.YtjkdjemefkignaaElText
import Derived.Test.YtjkdjemefkignaaElsL
import Derived.Test.YtjkdjemefkignaaElArg
import Derived.WalkKit
import Derived.WalkSpells
import Derived.WalkLawsBesides
import Derived.ProofKit
import Derived.OpenShut
import Derived.ShutString
import Derived.ChangeOld
import Derived.Below
import Derived.Lib.Hide
namespace Go.Proofs.Ytjkdjemefkignaa
open Go.ChangeShapes Go.WideShapes Go.ChangeAt Go.RowKit
open Go.ChangeMaps (open_string shut_string)
set_option linter.unusedVariables false

theorem opt_same (o : Option ByteArray) : (∃ t, strOpt o = .tuple #[.string t, .bool true]) ∨ strOpt o = .tuple #[.string ⟨#[]⟩, .bool false] := by
  cases o with
  | none => exact .inr rfl
  | some t => exact .inl ⟨t, rfl⟩

set_option maxHeartbeats 1000000 in
theorem fnExactElementText_walk (a : Option Addr) (len cap : Nat) (l : List El) (s : ByteArray) (hs : s.size ≤ maxLen) (w : World) (h : ElArg w a len l) :
    Calls Try.prog 7 #[.slice a len cap, .string s] w fun e w' => e = .returned (.bool true) ∧ Below w.heap.size w w' := by
  have H := Lib.hid h
  obtain ⟨h1, h2, h3, h4⟩ := h
  have c1 := Lib.hid (szElementS_any a len cap l w h1 h2 h3 h4)
  clear h1 h2 h3 h4
  by_cases hl : 1048576 < s.size
  · go_enter Try.func7, Try.ntmps7
    go_wp2
    go_ret
    exact ⟨rfl, Below.refl _ _⟩
  go_enter Try.func7, Try.ntmps7
  go_wp2_with fail
  refine c1.out.mono ?_
  rintro e w1 ⟨⟨r, rfl, hr⟩, hb1⟩
  by_cases h0 : 0 ≤ r
  · obtain ⟨r1, r2⟩ := hr h0
    clear r2 hr
    have HA := H.out.old hb1
    go_wp2_with fail
    refine (toElementS_any a len cap l _ HA.1 HA.2.1 r1).mono ?_
    rintro e w2 ⟨⟨g2, rfl, ho2⟩, hb2⟩
    have hb12 := hb1.trans (hb2.mono hb1.size)
    have hz : ∀ e ∈ l, e.1.size ≤ maxLen ∧ e.2.size ≤ maxLen := HA.2.2.2
    have HZ := Lib.hid hz
    have E2 := Lib.hid (ElAt.own ho2 HA.2.1)
    clear hz ho2
    obtain ⟨V, hV⟩ : ∃ V, V = strOpt (elT l s) := ⟨_, rfl⟩
    have c2 := Lib.hid (fun w h => spec_elementText (some ⟨g2, 0, none⟩) len len l s w h HA.2.1 HA.2.2.1 HZ.out)
    have c3 := Lib.hid (fun a w h => impl_elementText a len len l s w h HA.2.1 HA.2.2.1 HZ.out)
    rw [← hV] at c2 c3
    have hV2 : (∃ t, V = .tuple #[.string t, .bool true]) ∨ V = .tuple #[.string ⟨#[]⟩, .bool false] := by rw [hV]; exact opt_same _
    clear hV
    rcases hV2 with ⟨t, rfl⟩ | rfl
    all_goals
      go_wp2_with fail
      refine (c2.out _ E2.out).mono ?_
      rintro e w' ⟨rfl, rfl⟩
      have HA2 := H.out.old hb12
      go_wp2_with fail
      refine (toElementS_any a len cap l _ HA2.1 HA2.2.1 r1).mono ?_
      rintro e w3 ⟨⟨g3, rfl, ho3⟩, hb3⟩
      have hb13 := hb12.trans (hb3.mono hb12.size)
      have E3 := Lib.hid (ElAt.own ho3 HA.2.1)
      clear ho3
      go_wp2_with fail
      refine (c3.out _ _ E3.out).mono ?_
      rintro e w4 ⟨rfl, hb4⟩
      have hb14 := hb13.trans (hb4.mono hb13.size)
      have E4 := Lib.hid (E3.out.old hb4)
      have HA4 := H.out.old hb14
      go_wp2_with fail
      refine (toElementS_any a len cap l _ HA4.1 HA4.2.1 r1).mono ?_
      rintro e w5 ⟨⟨g5, rfl, ho5⟩, hb5⟩
      have hb15 := hb14.trans (hb5.mono hb14.size)
      have E5 := Lib.hid (ElAt.own ho5 HA.2.1)
      have E45 := Lib.hid (E4.out.old hb5)
      clear ho5
      go_wp2_with fail
      refine (eqElementS_any _ _ len len len len l l _ E45.out HA.2.1 E5.out HA.2.1 HA.2.2.1 HA.2.2.1).mono ?_
      rintro e w6 ⟨rfl, hb6⟩
      have ht : decide (l = l) = true := decide_eq_true rfl
      go_wp2
      go_ret
      exact ⟨rfl, hb15.trans (hb6.mono hb15.size)⟩
  · go_wp2
    go_ret
    exact ⟨rfl, hb1⟩

theorem fnExactElementText_own : ownKnob Try.prog.godebug = none := by kernel_rfl
theorem fnExactElementText_laidOut : laidOutB Try.prog = true := by kernel_rfl
set_option maxRecDepth 100000 in
theorem fnExactElementText_lifted (os : Os) (started : os.Started) (H : Type) (enc : TypeId × Value → H) :
    ReturnsInHanded {} Try.checked os 7 .any (Rows.fnExactElementTextSpec.pre6 enc Try.prog Try.f7 Rows.fnExactElementTextRow.domain false) (Rows.fnExactElementTextSpec.post enc Try.prog Try.f7 false true false false) := by
  refine returnsInHanded_of_change (C := Try.checked) fnExactElementText_own started (by kernel_rfl) Try.func7
    (ChangeSpec.witness6 (enc := enc) (C := Try.checked) false ⟨#[], #[.slice none 0 0, .string ByteArray.empty], []⟩ 8 (by kernel_rfl) (by kernel_rfl) (by kernel_rfl) (by kernel_rfl)) ?_
  intro W base args ds gs before hval0 hW hcnd _
  have hval : ∀ (j : Nat) t v, Try.f7.params[j]? = some t → args[j]? = some v → Value.okWide Try.prog W .any base t v := hval0
  have hW' := hW
  obtain ⟨p, q, hA0, hV, rfl, hfz, hnd⟩ := hW
  have hA : DataW.TrodAll enc Try.prog W 0 (fun _ => true) true Try.f7.params.toList args.toList ds p := hA0
  rw [Try.params7] at hA hval
  obtain ⟨v0, vs0, d0, ds0, p0, q0, hargs0, rfl, rfl, h0, r0⟩ := trodAll_cons hA
  obtain ⟨v1, vs1, d1, ds1, p1, q1, hargs1, rfl, rfl, h1, r1⟩ := trodAll_cons r0
  obtain ⟨rfl, rfl, rfl⟩ := trodAll_nil r1
  obtain rfl := hargs1
  obtain rfl : args = #[v0, v1] := by cases args; simp_all
  obtain ⟨rfl, rfl⟩ := trodVars_none hV
  have k0 := h0
  have lt0 : ∀ x ∈ p0, x.block < W.heap.size := by obtain ⟨m, hm⟩ := k0; exact DataW.trod_lt m _ _ _ hm
  have k1 := h1
  have lt1 : ∀ x ∈ p1, x.block < W.heap.size := by obtain ⟨m, hm⟩ := k1; exact DataW.trod_lt m _ _ _ hm
  obtain ⟨a0, len0, cap0, rfl⟩ := okWide_slice Try.underlying28 (hval 0 28 v0 rfl rfl)
  obtain ⟨z0, w0⟩ : ∃ zs, ElArg W a0 len0 zs := by
    obtain ⟨fuel, hf⟩ := h0
    exact el_arg Try.underlying28 Try.underlying51 (by kernel_rfl) rfl rfl (by kernel_rfl) (by kernel_rfl) (by kernel_rfl) (by kernel_rfl) (by simpa [Value.cells] using hf)
  obtain ⟨a1, rfl, rfl, rfl, w1⟩ := open_string Try.underlying9 (hval 1 9 v1 rfl rfl) h1
  clear hA0 hval0
  refine (fnExactElementText_walk a0 len0 cap0 z0 a1 w1 W w0).mono fun e W' ⟨he, bel⟩ => ?_
  subst he
  exact ⟨_, rfl, _, _, _, [], _, [], hW', trodAll_mk1 (shut_bool Try.underlying4 _), (trodAll_cons_mk (Below.trod fnExactElementText_laidOut (by kernel_rfl) (of_decide_eq_true (by kernel_rfl)) k0 bel lt0) (trodAll_cons_mk (Below.trod fnExactElementText_laidOut (by kernel_rfl) (of_decide_eq_true (by kernel_rfl)) k1 bel lt1) trodAll_mk0)), rfl, bel.frame _, fun h => by cases h⟩

theorem fnExactElementText_closed : joinedFacts Try.pinned.checked.prog 7 Try.f7 Rows.fnExactElementTextSpec Rows.fnExactElementTextRow = true := by
  show joinedFacts Try.prog 7 Try.f7 Rows.fnExactElementTextSpec Rows.fnExactElementTextRow = true
  simp only [joinedFacts, Bool.and_eq_true]
  repeat' apply And.intro
  all_goals first | with_reducible exact head_may | (rw [head_final]; kernel_rfl) | (rw [head_make]; kernel_rfl) | as_aux_lemma => kernel_rfl
theorem fnExactElementText_over : Rows.fnExactElementTextRow.holds Try.pinned (OpenSpec.ofChange Rows.fnExactElementTextSpec) :=
  OpenClaim.holds_of_wide 7 Try.f7 rfl rfl rfl rfl rfl rfl rfl ⟨rfl, rfl, rfl, rfl, rfl⟩ rfl rfl rfl rfl rfl (by kernel_rfl) Try.func7 fnExactElementText_closed
    (of_decide_eq_true (by kernel_rfl)) (by unfold Func.isWrapper; first | (rw [if_pos (by decide +kernel)]; kernel_rfl) | (rw [if_neg (by decide +kernel)]; exact ⟨rfl, rfl⟩))
    (fun os started H enc _ => fnExactElementText_lifted os started H enc)

/-- The statement. -/
theorem fnExactElementText_holds : Rows.FnExactElementTextSaid := fnExactElementText_over

end Go.Proofs.Ytjkdjemefkignaa
