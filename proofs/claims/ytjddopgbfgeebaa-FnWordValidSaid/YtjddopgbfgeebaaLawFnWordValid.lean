/- The law FnWordValid: for every input the call returns true, and the arguments read as before. Condition: none. -/
import Derived.Test.YtjddopgbfgeebaaRows
import Derived.Test.YtjddopgbfgeebaaHead
import Derived.Test.YtjddopgbfgeebaaDrawA
import Derived.WalkKit
import Derived.WalkSpells
import Derived.WalkLawsBesides
import Derived.ProofKit
import Derived.OpenShut
import Derived.ShutString
import Derived.ChangeOld
import Derived.Below
import Derived.Lib.Hide
namespace Go.Proofs.Ytjddopgbfgeebaa
open Go.ChangeShapes Go.WideShapes Go.ChangeAt Go.RowKit
open Go.ChangeMaps (open_string shut_string)
set_option linter.unusedVariables false

theorem word_space (s : ByteArray) : wordV (s ++ ⟨#[32]⟩).data.toList = false := by
  rw [← Bool.not_eq_true]
  intro h
  rw [show (s ++ ⟨#[32]⟩ : ByteArray).data.toList = s.data.toList ++ [32] from by simp [ByteArray.data_append]] at h
  simp only [wordV, Bool.and_eq_true, List.all_append] at h
  have := h.1.2.2
  simp [lodB, lowB] at this
theorem word_first {s : ByteArray} (h : wordV s.data.toList = true) : 1 ≤ s.size ∧ wordV (s.extract 0 1).data.toList = true := by
  simp only [wordV, Bool.and_eq_true, decide_eq_true_eq, size_toList] at h
  obtain ⟨⟨⟨h1, _⟩, h3⟩, h4⟩ := h
  refine ⟨h1, ?_⟩
  rw [Lib.extract_data, List.drop_zero]
  rcases hs : s.data.toList with _ | ⟨c, r⟩
  · rw [hs] at h4; have := size_toList s; rw [hs] at this; simp at this; omega
  · rw [hs] at h3 h4
    simp only [List.all_cons, Bool.and_eq_true] at h3
    simp only [List.head?_cons, Option.all_some] at h4
    simp [wordV, h3.1, h4]

set_option maxHeartbeats 400000 in
theorem fnWordValid_walk (a : Option Addr) (len cap : Nat) (zs : List Int) (w : World) (h : IsRow .u8 w a len cap zs) :
    Calls Try.prog 11 #[.slice a len cap] w fun e w' => e = .returned (.bool true) ∧ Below w.heap.size w w' := by
  have H := Lib.hid h
  clear h
  by_cases hl : 1048576 < len
  · go_enter Try.func11, Try.ntmps11
    go_wp2
    go_ret
    exact ⟨rfl, Below.refl _ _⟩
  · go_enter Try.func11, Try.ntmps11
    go_wp2_with fail
    refine (drawWordValid_any a len cap zs _ H.out).mono ?_
    rintro e w1 ⟨s, rfl, hs, hb⟩
    have hsz : s.size ≤ maxLen := by unfold maxLen; omega
    have hsz2 : (s ++ ⟨#[32]⟩ : ByteArray).size ≤ maxLen := by rw [ByteArray.size_append]; have : (⟨#[32]⟩ : ByteArray).size = 1 := rfl; unfold maxLen; omega
    have c1 := Lib.hid (fun w => impl_wordValid s w hsz)
    have c2 := Lib.hid (fun w => spec_wordValid s w hsz)
    have c3 := Lib.hid (fun w => impl_wordValid (s ++ ⟨#[32]⟩) w hsz2)
    rw [word_space] at c3
    cases hv : wordV s.data.toList
    · rw [hv] at c1 c2
      go_wp2_with fail
      refine (c1.out _).mono ?_
      rintro e w' ⟨rfl, rfl⟩
      go_wp2_with fail
      refine (c2.out _).mono ?_
      rintro e w' ⟨rfl, rfl⟩
      go_wp2_with fail
      refine (c3.out _).mono ?_
      rintro e w' ⟨rfl, rfl⟩
      go_wp2_with fail
      refine (alive_any _).mono ?_
      rintro e w' ⟨rfl, rfl⟩
      go_wp2
      go_ret
      exact ⟨rfl, hb⟩
    · obtain ⟨hs1, hw1⟩ := word_first hv
      have hsz4 : (s.extract 0 1).size ≤ maxLen := by rw [ByteArray.size_extract]; unfold maxLen; omega
      have c4 := Lib.hid (fun w => impl_wordValid (s.extract 0 1) w hsz4)
      rw [hw1] at c4
      rw [hv] at c1 c2
      clear hw1
      go_wp2_with fail
      refine (c1.out _).mono ?_
      rintro e w' ⟨rfl, rfl⟩
      go_wp2_with fail
      refine (c2.out _).mono ?_
      rintro e w' ⟨rfl, rfl⟩
      go_wp2_with fail
      refine (c3.out _).mono ?_
      rintro e w' ⟨rfl, rfl⟩
      go_wp2_with fail
      refine (c4.out _).mono ?_
      rintro e w' ⟨rfl, rfl⟩
      go_wp2_with fail
      refine (alive_any _).mono ?_
      rintro e w' ⟨rfl, rfl⟩
      go_wp2
      go_ret
      exact ⟨rfl, hb⟩

theorem fnWordValid_own : ownKnob Try.prog.godebug = none := by kernel_rfl
theorem fnWordValid_laidOut : laidOutB Try.prog = true := by kernel_rfl
set_option maxRecDepth 100000 in
theorem fnWordValid_lifted (os : Os) (started : os.Started) (H : Type) (enc : TypeId × Value → H) :
    ReturnsInHanded {} Try.checked os 11 .any (Rows.fnWordValidSpec.pre6 enc Try.prog Try.f11 Rows.fnWordValidRow.domain false) (Rows.fnWordValidSpec.post enc Try.prog Try.f11 false true false false) := by
  refine returnsInHanded_of_change (C := Try.checked) fnWordValid_own started (by kernel_rfl) Try.func11
    (ChangeSpec.witness6 (enc := enc) (C := Try.checked) false ⟨#[], #[.slice none 0 0], []⟩ 8 (by kernel_rfl) (by kernel_rfl) (by kernel_rfl) (by kernel_rfl)) ?_
  intro W base args ds gs before hval0 hW hcnd _
  have hval : ∀ (j : Nat) t v, Try.f11.params[j]? = some t → args[j]? = some v → Value.okWide Try.prog W .any base t v := hval0
  have hW' := hW
  obtain ⟨p, q, hA0, hV, rfl, hfz, hnd⟩ := hW
  have hA : DataW.TrodAll enc Try.prog W 0 (fun _ => true) true Try.f11.params.toList args.toList ds p := hA0
  rw [Try.params11] at hA hval
  obtain ⟨v0, vs0, d0, ds0, p0, q0, hargs0, rfl, rfl, h0, r0⟩ := trodAll_cons hA
  obtain ⟨rfl, rfl, rfl⟩ := trodAll_nil r0
  obtain rfl : args = #[v0] := by cases args; simp_all
  obtain ⟨rfl, rfl⟩ := trodVars_none hV
  have k0 := h0
  have lt0 : ∀ x ∈ p0, x.block < W.heap.size := by obtain ⟨m, hm⟩ := k0; exact DataW.trod_lt m _ _ _ hm
  obtain ⟨a0, len0, cap0, rfl⟩ := okWide_slice Try.underlying31 (hval 0 31 v0 rfl rfl)
  obtain ⟨z0, w0⟩ : ∃ zs, IsRow .u8 W a0 len0 cap0 zs := by
    obtain ⟨fuel, hf⟩ := h0
    rcases open_ints Try.underlying31 Try.underlying5 (by kernel_rfl) hf with ⟨hcs, _⟩ | ⟨x, l, c, zs, hcs, _, hl, hm, hz, _, hcell, hwz⟩
    · simp [Value.cells] at hcs
      obtain ⟨rfl, rfl, rfl⟩ := hcs
      exact ⟨[], .inl ⟨rfl, rfl, rfl, rfl⟩⟩
    · simp [Value.cells] at hcs
      obtain ⟨rfl, rfl, rfl⟩ := hcs
      exact ⟨zs, .inr ⟨_, rfl, hl, hm, by simpa using hz, hcell, hwz⟩⟩
  clear hA0 hval0
  refine (fnWordValid_walk a0 len0 cap0 z0 W w0).mono fun e W' ⟨he, bel⟩ => ?_
  subst he
  exact ⟨_, rfl, _, _, _, [], _, [], hW', trodAll_mk1 (shut_bool Try.underlying4 _), (trodAll_cons_mk (Below.trod fnWordValid_laidOut (by kernel_rfl) (of_decide_eq_true (by kernel_rfl)) k0 bel lt0) trodAll_mk0), rfl, bel.frame _, fun h => by cases h⟩

theorem fnWordValid_closed : joinedFacts Try.pinned.checked.prog 11 Try.f11 Rows.fnWordValidSpec Rows.fnWordValidRow = true := by
  show joinedFacts Try.prog 11 Try.f11 Rows.fnWordValidSpec Rows.fnWordValidRow = true
  simp only [joinedFacts, Bool.and_eq_true]
  repeat' apply And.intro
  all_goals first | with_reducible exact head_may | (rw [head_final]; kernel_rfl) | (rw [head_make]; kernel_rfl) | as_aux_lemma => kernel_rfl
theorem fnWordValid_over : Rows.fnWordValidRow.holds Try.pinned (OpenSpec.ofChange Rows.fnWordValidSpec) :=
  OpenClaim.holds_of_wide 11 Try.f11 rfl rfl rfl rfl rfl rfl rfl ⟨rfl, rfl, rfl, rfl, rfl⟩ rfl rfl rfl rfl rfl (by kernel_rfl) Try.func11 fnWordValid_closed
    (of_decide_eq_true (by kernel_rfl)) (by unfold Func.isWrapper; first | (rw [if_pos (by decide +kernel)]; kernel_rfl) | (rw [if_neg (by decide +kernel)]; exact ⟨rfl, rfl⟩))
    (fun os started H enc _ => fnWordValid_lifted os started H enc)

/-- The statement. -/
theorem fnWordValid_holds : Rows.FnWordValidSaid := fnWordValid_over

end Go.Proofs.Ytjddopgbfgeebaa
