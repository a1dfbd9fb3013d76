/- The law FnReadDate: for every input the call returns true, and the arguments read as before. Condition: none. -/
import Derived.Test.YtjddopgbfgeebaaRows
import Derived.Test.YtjddopgbfgeebaaHead
import Derived.Test.YtjddopgbfgeebaaDrawD
import Derived.Test.YtjddopgbfgeebaaDateR
import Derived.WalkKit
import Derived.WalkSpells
import Derived.WalkLawsBesides
import Derived.ProofKit
import Derived.OpenShut
import Derived.ShutString
import Derived.ChangeOld
import Derived.Below
import Derived.Lib.Hide
namespace Go.Proofs.Ytjddopgbfgeebaa
open Go.ChangeShapes Go.WideShapes Go.ChangeAt Go.RowKit
open Go.ChangeMaps (open_string shut_string)
set_option linter.unusedVariables false

theorem date_back {s : ByteArray} (h : 0 ≤ readD s.data.toList) : (⟨(dateT (readD s.data.toList)).toArray⟩ : ByteArray) = s := (ba_eq (date_read h).symm).symm
theorem date_more {s : ByteArray} (h : 0 ≤ readD s.data.toList) : readD (s ++ ⟨#[48]⟩).data.toList = -1 := by
  apply readD_len
  have hb := readD_bd s.data.toList
  have hl := date_len h hb.2
  rw [date_read h] at hl
  rw [ba_app, List.length_append, hl]
  decide

set_option maxHeartbeats 400000 in
theorem fnReadDate_walk (a : Option Addr) (len cap : Nat) (zs : List Int) (w : World) (h : IsRow .u8 w a len cap zs) :
    Calls Try.prog 21 #[.slice a len cap] w fun e w' => e = .returned (.bool true) ∧ Below w.heap.size w w' := by
  have H := Lib.hid h
  clear h
  by_cases hl : 1048576 < len
  · go_enter Try.func21, Try.ntmps21
    go_wp2
    go_ret
    exact ⟨rfl, Below.refl _ _⟩
  · go_enter Try.func21, Try.ntmps21
    go_wp2_with fail
    refine (drawReadDate_any a len cap zs _ H.out).mono ?_
    rintro e w1 ⟨s, rfl, hs, hb⟩
    have hsz : s.size ≤ maxLen := by unfold maxLen; omega
    have hz1 : (⟨#[48]⟩ : ByteArray).size = 1 := rfl
    have hsz2 : (s ++ (⟨#[48]⟩ : ByteArray)).size ≤ maxLen := by rw [ByteArray.size_append]; unfold maxLen; omega
    have c1 := Lib.hid (fun w => impl_readDate s w hsz)
    have c2 := Lib.hid (fun w => spec_readDate s w hsz)
    by_cases hn : 0 ≤ readD s.data.toList
    · have c3 := Lib.hid (fun w => impl_dateText (readD s.data.toList) w)
      have c4 := Lib.hid (fun w => impl_readDate (s ++ (⟨#[48]⟩ : ByteArray)) w hsz2)
      rw [date_back hn] at c3
      rw [date_more hn] at c4
      generalize readD s.data.toList = v at *
      go_wp2_with fail
      refine (c1.out _).mono ?_
      rintro e w2 ⟨rfl, hb2⟩
      go_wp2_with fail
      refine (c2.out _).mono ?_
      rintro e w3 ⟨rfl, hb3⟩
      go_wp2_with fail
      refine (c3.out _).mono ?_
      rintro e w4 ⟨rfl, hb4⟩
      go_wp2_with fail
      refine (c4.out _).mono ?_
      rintro e w5 ⟨rfl, hb5⟩
      have B2 := hb.trans (hb2.mono hb.size)
      have B3 := B2.trans (hb3.mono B2.size)
      have B4 := B3.trans (hb4.mono B3.size)
      have B5 := B4.trans (hb5.mono B4.size)
      go_wp2
      go_ret
      exact ⟨rfl, B5⟩
    · have hv : readD s.data.toList = -1 := by have := readD_bd s.data.toList; omega
      rw [hv] at c1 c2
      clear hn hv
      go_wp2_with fail
      refine (c1.out _).mono ?_
      rintro e w2 ⟨rfl, hb2⟩
      go_wp2_with fail
      refine (c2.out _).mono ?_
      rintro e w3 ⟨rfl, hb3⟩
      go_wp2_with fail
      refine (alive_any _).mono ?_
      rintro e w' ⟨rfl, rfl⟩
      have B2 := hb.trans (hb2.mono hb.size)
      have B3 := B2.trans (hb3.mono B2.size)
      go_wp2
      go_ret
      exact ⟨rfl, B3⟩

theorem fnReadDate_own : ownKnob Try.prog.godebug = none := by kernel_rfl
theorem fnReadDate_laidOut : laidOutB Try.prog = true := by kernel_rfl
set_option maxRecDepth 100000 in
theorem fnReadDate_lifted (os : Os) (started : os.Started) (H : Type) (enc : TypeId × Value → H) :
    ReturnsInHanded {} Try.checked os 21 .any (Rows.fnReadDateSpec.pre6 enc Try.prog Try.f21 Rows.fnReadDateRow.domain false) (Rows.fnReadDateSpec.post enc Try.prog Try.f21 false true false false) := by
  refine returnsInHanded_of_change (C := Try.checked) fnReadDate_own started (by kernel_rfl) Try.func21
    (ChangeSpec.witness6 (enc := enc) (C := Try.checked) false ⟨#[], #[.slice none 0 0], []⟩ 8 (by kernel_rfl) (by kernel_rfl) (by kernel_rfl) (by kernel_rfl)) ?_
  intro W base args ds gs before hval0 hW hcnd _
  have hval : ∀ (j : Nat) t v, Try.f21.params[j]? = some t → args[j]? = some v → Value.okWide Try.prog W .any base t v := hval0
  have hW' := hW
  obtain ⟨p, q, hA0, hV, rfl, hfz, hnd⟩ := hW
  have hA : DataW.TrodAll enc Try.prog W 0 (fun _ => true) true Try.f21.params.toList args.toList ds p := hA0
  rw [Try.params21] at hA hval
  obtain ⟨v0, vs0, d0, ds0, p0, q0, hargs0, rfl, rfl, h0, r0⟩ := trodAll_cons hA
  obtain ⟨rfl, rfl, rfl⟩ := trodAll_nil r0
  obtain rfl : args = #[v0] := by cases args; simp_all
  obtain ⟨rfl, rfl⟩ := trodVars_none hV
  have k0 := h0
  have lt0 : ∀ x ∈ p0, x.block < W.heap.size := by obtain ⟨m, hm⟩ := k0; exact DataW.trod_lt m _ _ _ hm
  obtain ⟨a0, len0, cap0, rfl⟩ := okWide_slice Try.underlying31 (hval 0 31 v0 rfl rfl)
  obtain ⟨z0, w0⟩ : ∃ zs, IsRow .u8 W a0 len0 cap0 zs := by
    obtain ⟨fuel, hf⟩ := h0
    rcases open_ints Try.underlying31 Try.underlying5 (by kernel_rfl) hf with ⟨hcs, _⟩ | ⟨x, l, c, zs, hcs, _, hl, hm, hz, _, hcell, hwz⟩
    · simp [Value.cells] at hcs
      obtain ⟨rfl, rfl, rfl⟩ := hcs
      exact ⟨[], .inl ⟨rfl, rfl, rfl, rfl⟩⟩
    · simp [Value.cells] at hcs
      obtain ⟨rfl, rfl, rfl⟩ := hcs
      exact ⟨zs, .inr ⟨_, rfl, hl, hm, by simpa using hz, hcell, hwz⟩⟩
  clear hA0 hval0
  refine (fnReadDate_walk a0 len0 cap0 z0 W w0).mono fun e W' ⟨he, bel⟩ => ?_
  subst he
  exact ⟨_, rfl, _, _, _, [], _, [], hW', trodAll_mk1 (shut_bool Try.underlying4 _), (trodAll_cons_mk (Below.trod fnReadDate_laidOut (by kernel_rfl) (of_decide_eq_true (by kernel_rfl)) k0 bel lt0) trodAll_mk0), rfl, bel.frame _, fun h => by cases h⟩

theorem fnReadDate_closed : joinedFacts Try.pinned.checked.prog 21 Try.f21 Rows.fnReadDateSpec Rows.fnReadDateRow = true := by
  show joinedFacts Try.prog 21 Try.f21 Rows.fnReadDateSpec Rows.fnReadDateRow = true
  simp only [joinedFacts, Bool.and_eq_true]
  repeat' apply And.intro
  all_goals first | with_reducible exact head_may | (rw [head_final]; kernel_rfl) | (rw [head_make]; kernel_rfl) | as_aux_lemma => kernel_rfl
theorem fnReadDate_over : Rows.fnReadDateRow.holds Try.pinned (OpenSpec.ofChange Rows.fnReadDateSpec) :=
  OpenClaim.holds_of_wide 21 Try.f21 rfl rfl rfl rfl rfl rfl rfl ⟨rfl, rfl, rfl, rfl, rfl⟩ rfl rfl rfl rfl rfl (by kernel_rfl) Try.func21 fnReadDate_closed
    (of_decide_eq_true (by kernel_rfl)) (by unfold Func.isWrapper; first | (rw [if_pos (by decide +kernel)]; kernel_rfl) | (rw [if_neg (by decide +kernel)]; exact ⟨rfl, rfl⟩))
    (fun os started H enc _ => fnReadDate_lifted os started H enc)

/-- The statement. -/
theorem fnReadDate_holds : Rows.FnReadDateSaid := fnReadDate_over

end Go.Proofs.Ytjddopgbfgeebaa
