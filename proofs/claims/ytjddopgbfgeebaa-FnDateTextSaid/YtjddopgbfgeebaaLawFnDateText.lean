/- The law FnDateText: for every input the call returns true, and the arguments read as before. Condition: none. -/
import Derived.Test.YtjddopgbfgeebaaRows
import Derived.Test.YtjddopgbfgeebaaHead
import Derived.Test.YtjddopgbfgeebaaDrawD
import Derived.Test.YtjddopgbfgeebaaDateR
import Derived.WalkKit
import Derived.WalkSpells
import Derived.WalkLawsBesides
import Derived.ProofKit
import Derived.OpenShut
import Derived.ShutString
import Derived.ChangeOld
import Derived.Below
import Derived.Lib.Hide
namespace Go.Proofs.Ytjddopgbfgeebaa
open Go.ChangeShapes Go.WideShapes Go.ChangeAt Go.RowKit
open Go.ChangeMaps (open_string shut_string)
set_option linter.unusedVariables false

theorem text_of (l : List UInt8) : ∃ s : ByteArray, s = ⟨l.toArray⟩ ∧ s.data.toList = l ∧ s.toList = l := ⟨_, rfl, rfl, by rw [ByteArray.toList_eq]⟩
theorem readD_nil : readD [] = -1 := readD_len (by decide)

set_option maxHeartbeats 400000 in
theorem fnDateText_walk (a : Option Addr) (len cap : Nat) (zs : List Int) (w : World) (h : IsRow .u8 w a len cap zs) :
    Calls Try.prog 20 #[.slice a len cap] w fun e w' => e = .returned (.bool true) ∧ Below w.heap.size w w' := by
  have H := Lib.hid h
  clear h
  by_cases hl : 1048576 < len
  · go_enter Try.func20, Try.ntmps20
    go_wp2
    go_ret
    exact ⟨rfl, Below.refl _ _⟩
  · go_enter Try.func20, Try.ntmps20
    go_wp2_with fail
    refine (drawDateText_any a len cap zs _ H.out).mono ?_
    rintro e w1 ⟨n, rfl, n0, n1, hb⟩
    obtain ⟨s, hs, hl1, hl2⟩ := text_of (dateT n)
    have hsz : s.size ≤ 10 := by rw [← size_toList, hl1]; exact date_size n
    have c1 := Lib.hid (fun w => impl_dateText n w)
    have c2 := Lib.hid (fun w => spec_dateText n w)
    have c3 := Lib.hid (fun w => impl_readDate s w (by unfold maxLen; omega))
    rw [← hs] at c1 c2
    rw [hl1] at c3
    by_cases hn : 0 ≤ n ∧ n ≤ 1460969
    · obtain ⟨h0, h1⟩ := hn
      rw [read_date h0 h1] at c3
      have hne : s.toList.isEmpty = false := by rw [hl2]; exact List.isEmpty_eq_false_iff.2 (date_ne h0 h1)
      have h10 : s.size = 10 := by rw [← size_toList, hl1]; exact date_len h0 h1
      have hb10 : ((s.size : Int) == 10) = true := by rw [beq_iff_eq]; omega
      obtain ⟨u, hu, hu1, hu2⟩ := text_of (dateT (n + 1))
      have c4 := Lib.hid (fun w => impl_dateText (n + 1) w)
      rw [← hu] at c4
      by_cases hm : n + 1 ≤ 1460969
      · have hue : u.toList.isEmpty = false := by rw [hu2]; exact List.isEmpty_eq_false_iff.2 (date_ne (by omega) hm)
        have hless := date_less h0 hm
        have hq1 : Op.bytesLess u.toList s.toList = false := by rw [hu2, hl2]; exact hless.1
        have hq2 : (u.toList == s.toList) = false := by rw [hu2, hl2, beq_eq_false_iff_ne]; exact hless.2
        clear hs hl1 hl2 hu hu1 hu2 hless h10
        go_wp2_with fail
        refine (c1.out _).mono ?_
        rintro e w2 ⟨rfl, hb2⟩
        go_wp2_with fail
        refine (c2.out _).mono ?_
        rintro e w3 ⟨rfl, hb3⟩
        go_wp2_with fail
        refine (c4.out _).mono ?_
        rintro e w4 ⟨rfl, hb4⟩
        go_wp2_with fail
        refine (c3.out _).mono ?_
        rintro e w5 ⟨rfl, hb5⟩
        have B2 := hb.trans (hb2.mono hb.size)
        have B3 := B2.trans (hb3.mono B2.size)
        have B4 := B3.trans (hb4.mono B3.size)
        have B5 := B4.trans (hb5.mono B4.size)
        go_wp2
        go_ret
        exact ⟨rfl, B5⟩
      · have hue : u.toList.isEmpty = true := by rw [hu2, date_none (by omega)]; rfl
        clear hs hl1 hl2 hu hu1 hu2 h10
        go_wp2_with fail
        refine (c1.out _).mono ?_
        rintro e w2 ⟨rfl, hb2⟩
        go_wp2_with fail
        refine (c2.out _).mono ?_
        rintro e w3 ⟨rfl, hb3⟩
        go_wp2_with fail
        refine (c4.out _).mono ?_
        rintro e w4 ⟨rfl, hb4⟩
        go_wp2_with fail
        refine (c3.out _).mono ?_
        rintro e w5 ⟨rfl, hb5⟩
        have B2 := hb.trans (hb2.mono hb.size)
        have B3 := B2.trans (hb3.mono B2.size)
        have B4 := B3.trans (hb4.mono B3.size)
        have B5 := B4.trans (hb5.mono B4.size)
        go_wp2
        go_ret
        exact ⟨rfl, B5⟩
    · rw [date_none (by omega), readD_nil] at c3
      have hne : s.toList.isEmpty = true := by rw [hl2, date_none (by omega)]; rfl
      clear hs hl1 hl2 hn
      go_wp2_with fail
      refine (c1.out _).mono ?_
      rintro e w2 ⟨rfl, hb2⟩
      go_wp2_with fail
      refine (c2.out _).mono ?_
      rintro e w3 ⟨rfl, hb3⟩
      go_wp2_with fail
      refine (c3.out _).mono ?_
      rintro e w4 ⟨rfl, hb4⟩
      go_wp2_with fail
      refine (alive_any _).mono ?_
      rintro e w' ⟨rfl, rfl⟩
      have B2 := hb.trans (hb2.mono hb.size)
      have B3 := B2.trans (hb3.mono B2.size)
      have B4 := B3.trans (hb4.mono B3.size)
      go_wp2
      go_ret
      exact ⟨rfl, B4⟩

theorem fnDateText_own : ownKnob Try.prog.godebug = none := by kernel_rfl
theorem fnDateText_laidOut : laidOutB Try.prog = true := by kernel_rfl
set_option maxRecDepth 100000 in
theorem fnDateText_lifted (os : Os) (started : os.Started) (H : Type) (enc : TypeId × Value → H) :
    ReturnsInHanded {} Try.checked os 20 .any (Rows.fnDateTextSpec.pre6 enc Try.prog Try.f20 Rows.fnDateTextRow.domain false) (Rows.fnDateTextSpec.post enc Try.prog Try.f20 false true false false) := by
  refine returnsInHanded_of_change (C := Try.checked) fnDateText_own started (by kernel_rfl) Try.func20
    (ChangeSpec.witness6 (enc := enc) (C := Try.checked) false ⟨#[], #[.slice none 0 0], []⟩ 8 (by kernel_rfl) (by kernel_rfl) (by kernel_rfl) (by kernel_rfl)) ?_
  intro W base args ds gs before hval0 hW hcnd _
  have hval : ∀ (j : Nat) t v, Try.f20.params[j]? = some t → args[j]? = some v → Value.okWide Try.prog W .any base t v := hval0
  have hW' := hW
  obtain ⟨p, q, hA0, hV, rfl, hfz, hnd⟩ := hW
  have hA : DataW.TrodAll enc Try.prog W 0 (fun _ => true) true Try.f20.params.toList args.toList ds p := hA0
  rw [Try.params20] at hA hval
  obtain ⟨v0, vs0, d0, ds0, p0, q0, hargs0, rfl, rfl, h0, r0⟩ := trodAll_cons hA
  obtain ⟨rfl, rfl, rfl⟩ := trodAll_nil r0
  obtain rfl : args = #[v0] := by cases args; simp_all
  obtain ⟨rfl, rfl⟩ := trodVars_none hV
  have k0 := h0
  have lt0 : ∀ x ∈ p0, x.block < W.heap.size := by obtain ⟨m, hm⟩ := k0; exact DataW.trod_lt m _ _ _ hm
  obtain ⟨a0, len0, cap0, rfl⟩ := okWide_slice Try.underlying31 (hval 0 31 v0 rfl rfl)
  obtain ⟨z0, w0⟩ : ∃ zs, IsRow .u8 W a0 len0 cap0 zs := by
    obtain ⟨fuel, hf⟩ := h0
    rcases open_ints Try.underlying31 Try.underlying5 (by kernel_rfl) hf with ⟨hcs, _⟩ | ⟨x, l, c, zs, hcs, _, hl, hm, hz, _, hcell, hwz⟩
    · simp [Value.cells] at hcs
      obtain ⟨rfl, rfl, rfl⟩ := hcs
      exact ⟨[], .inl ⟨rfl, rfl, rfl, rfl⟩⟩
    · simp [Value.cells] at hcs
      obtain ⟨rfl, rfl, rfl⟩ := hcs
      exact ⟨zs, .inr ⟨_, rfl, hl, hm, by simpa using hz, hcell, hwz⟩⟩
  clear hA0 hval0
  refine (fnDateText_walk a0 len0 cap0 z0 W w0).mono fun e W' ⟨he, bel⟩ => ?_
  subst he
  exact ⟨_, rfl, _, _, _, [], _, [], hW', trodAll_mk1 (shut_bool Try.underlying4 _), (trodAll_cons_mk (Below.trod fnDateText_laidOut (by kernel_rfl) (of_decide_eq_true (by kernel_rfl)) k0 bel lt0) trodAll_mk0), rfl, bel.frame _, fun h => by cases h⟩

theorem fnDateText_closed : joinedFacts Try.pinned.checked.prog 20 Try.f20 Rows.fnDateTextSpec Rows.fnDateTextRow = true := by
  show joinedFacts Try.prog 20 Try.f20 Rows.fnDateTextSpec Rows.fnDateTextRow = true
  simp only [joinedFacts, Bool.and_eq_true]
  repeat' apply And.intro
  all_goals first | with_reducible exact head_may | (rw [head_final]; kernel_rfl) | (rw [head_make]; kernel_rfl) | as_aux_lemma => kernel_rfl
theorem fnDateText_over : Rows.fnDateTextRow.holds Try.pinned (OpenSpec.ofChange Rows.fnDateTextSpec) :=
  OpenClaim.holds_of_wide 20 Try.f20 rfl rfl rfl rfl rfl rfl rfl ⟨rfl, rfl, rfl, rfl, rfl⟩ rfl rfl rfl rfl rfl (by kernel_rfl) Try.func20 fnDateText_closed
    (of_decide_eq_true (by kernel_rfl)) (by unfold Func.isWrapper; first | (rw [if_pos (by decide +kernel)]; kernel_rfl) | (rw [if_neg (by decide +kernel)]; exact ⟨rfl, rfl⟩))
    (fun os started H enc _ => fnDateText_lifted os started H enc)

/-- The statement. -/
theorem fnDateText_holds : Rows.FnDateTextSaid := fnDateText_over

end Go.Proofs.Ytjddopgbfgeebaa
