/- LeapYear, MonthDays, DayNumber and what they call, the program's and the reference's, compute leapB, mdays and dnum, for all numbers of 64 bits. -/
import Derived.Test.YtldllhfadihmeaaDays
import Derived.Test.YtldllhfadihmeaaText
namespace Go.Proofs.Ytldllhfadihmeaa
open Go.RowKit

theorem leap_out {y : Int} (h : y < 1 ∨ 4000 < y) : leapB y = false := by rw [leapB_not]; omega

set_option maxHeartbeats 400000 in
theorem impl_within (n lo hi : Int) (w : World) :
    Calls Try.prog 92 #[.int .i64 n, .int .i64 lo, .int .i64 hi] w fun e w' => e = .returned (.bool (inB n lo hi)) ∧ w = w' := by
  by_cases h1 : lo ≤ n
  · by_cases h2 : n ≤ hi
    all_goals
      go_enter Try.func92, Try.ntmps92
      go_wp2
      go_ret
      exact ⟨ret_bool (by first | exact (inB_true h1 h2).symm | exact (inB_high (by omega)).symm), rfl⟩
  · go_enter Try.func92, Try.ntmps92
    go_wp2
    go_ret
    exact ⟨ret_bool (inB_low (by omega)).symm, rfl⟩

set_option maxHeartbeats 400000 in
theorem impl_leapYear (y : Int) (w : World) :
    Calls Try.prog 93 #[.int .i64 y] w fun e w' => e = .returned (.bool (leapB y)) ∧ w = w' := by
  by_cases h : 1 ≤ y ∧ y ≤ 4000
  · obtain ⟨h1, h2⟩ := h
    have hi := inB_true h1 h2
    cases h4 : ((y % 4) == (0 : Int)) <;> cases h100 : ((y % 100) != (0 : Int)) <;> cases h400 : ((y % 400) == (0 : Int))
    all_goals
      go_enter Try.func93, Try.ntmps93
      go_wp2_with (go_at_call 92; refine (impl_within _ _ _ _).mono ?_; rintro e w' ⟨rfl, rfl⟩)
      all_goals
        go_ret
        simp only [beq_iff_eq, beq_eq_false_iff_ne, bne_iff_ne, bne_eq_false_iff_eq] at h4 h100 h400
        first
          | exact ⟨ret_bool ((leapB_iff y).2 (by omega)).symm, rfl⟩
          | exact ⟨ret_bool ((leapB_not y).2 (by omega)).symm, rfl⟩
          | (exfalso; omega)
  · have hn : y < 1 ∨ 4000 < y := by omega
    have hi : inB y 1 4000 = false := inB_not.2 hn
    clear h
    go_enter Try.func93, Try.ntmps93
    go_wp2_with (go_at_call 92; refine (impl_within _ _ _ _).mono ?_; rintro e w' ⟨rfl, rfl⟩)
    go_ret
    exact ⟨ret_bool (leap_out hn).symm, rfl⟩

set_option maxHeartbeats 400000 in
theorem spec_leapYear (y : Int) (w : World) :
    Calls Try.prog 99 #[.int .i64 y] w fun e w' => e = .returned (.bool (leapB y)) ∧ w = w' := by
  by_cases h : 1 ≤ y ∧ y ≤ 4000
  · obtain ⟨h1, h2⟩ := h
    have hi := inB_true h1 h2
    cases h4 : ((y % 4) == (0 : Int)) <;> cases h100 : ((y % 100) != (0 : Int)) <;> cases h400 : ((y % 400) == (0 : Int))
    all_goals
      go_enter Try.func99, Try.ntmps99
      go_wp2_with (go_at_call 70; refine (spec_in _ _ _ _).mono ?_; rintro e w' ⟨rfl, rfl⟩)
      all_goals
        go_ret
        simp only [beq_iff_eq, beq_eq_false_iff_ne, bne_iff_ne, bne_eq_false_iff_eq] at h4 h100 h400
        first
          | exact ⟨ret_bool ((leapB_iff y).2 (by omega)).symm, rfl⟩
          | exact ⟨ret_bool ((leapB_not y).2 (by omega)).symm, rfl⟩
          | (exfalso; omega)
  · have hn : y < 1 ∨ 4000 < y := by omega
    have hi : inB y 1 4000 = false := inB_not.2 hn
    clear h
    go_enter Try.func99, Try.ntmps99
    go_wp2_with (go_at_call 70; refine (spec_in _ _ _ _).mono ?_; rintro e w' ⟨rfl, rfl⟩)
    go_ret
    exact ⟨ret_bool (leap_out hn).symm, rfl⟩

theorem mdays_leap {y : Int} (h1 : 1 ≤ y) (h2 : y ≤ 4000) (h : leapB y = true) : mdays y 2 = 29 := by rw [mdays_feb h1 h2]; unfold lp; rw [if_pos h]; rfl
theorem mdays_plain {y : Int} (h1 : 1 ≤ y) (h2 : y ≤ 4000) (h : leapB y = false) : mdays y 2 = 28 := by rw [mdays_feb h1 h2]; unfold lp; rw [if_neg (by rw [h]; simp)]; rfl

set_option maxHeartbeats 1000000 in
theorem impl_monthDays (y m : Int) (w : World) :
    Calls Try.prog 74 #[.int .i64 y, .int .i64 m] w fun e w' => e = .returned (.int .i64 (mdays y m)) ∧ w = w' := by
  by_cases h : 1 ≤ y ∧ y ≤ 4000
  · obtain ⟨h1, h2⟩ := h
    have hi := inB_true h1 h2
    by_cases h' : 1 ≤ m ∧ m ≤ 12
    · obtain ⟨h3, h4⟩ := h'
      have hj := inB_true h3 h4
      have hm : m = 2 ∨ (m = 4 ∨ m = 6 ∨ m = 9 ∨ m = 11) ∨ (m = 1 ∨ m = 3 ∨ m = 5 ∨ m = 7 ∨ m = 8 ∨ m = 10 ∨ m = 12) := by omega
      rcases hm with rfl | hm | hm
      · cases hl : leapB y
        · have e := mdays_plain h1 h2 hl
          have E := Lib.hid e
          clear e
          go_enter Try.func74, Try.ntmps74
          go_wp2_with (first | (go_at_call 92; refine (impl_within _ _ _ _).mono ?_; rintro e w' ⟨rfl, rfl⟩) | (go_at_call 93; refine (impl_leapYear _ _).mono ?_; rintro e w' ⟨rfl, rfl⟩))
          go_ret
          exact ⟨ret_int E.out.symm, rfl⟩
        · have e := mdays_leap h1 h2 hl
          have E := Lib.hid e
          clear e
          go_enter Try.func74, Try.ntmps74
          go_wp2_with (first | (go_at_call 92; refine (impl_within _ _ _ _).mono ?_; rintro e w' ⟨rfl, rfl⟩) | (go_at_call 93; refine (impl_leapYear _ _).mono ?_; rintro e w' ⟨rfl, rfl⟩))
          go_ret
          exact ⟨ret_int E.out.symm, rfl⟩
      · have E := Lib.hid (mdays_short h1 h2 hm)
        rcases hm with rfl | rfl | rfl | rfl
        all_goals
          go_enter Try.func74, Try.ntmps74
          go_wp2_with (first | (go_at_call 92; refine (impl_within _ _ _ _).mono ?_; rintro e w' ⟨rfl, rfl⟩))
          go_ret
          exact ⟨ret_int E.out.symm, rfl⟩
      · have E := Lib.hid (mdays_long h1 h2 hm)
        rcases hm with rfl | rfl | rfl | rfl | rfl | rfl | rfl
        all_goals
          go_enter Try.func74, Try.ntmps74
          go_wp2_with (first | (go_at_call 92; refine (impl_within _ _ _ _).mono ?_; rintro e w' ⟨rfl, rfl⟩))
          go_ret
          exact ⟨ret_int E.out.symm, rfl⟩
    · have hj : inB m 1 12 = false := inB_not.2 (by omega)
      have E := Lib.hid (mdays_none (y := y) (m := m) (by omega))
      clear h'
      go_enter Try.func74, Try.ntmps74
      go_wp2_with (first | (go_at_call 92; refine (impl_within _ _ _ _).mono ?_; rintro e w' ⟨rfl, rfl⟩))
      go_ret
      exact ⟨ret_int E.out.symm, rfl⟩
  · have hi : inB y 1 4000 = false := inB_not.2 (by omega)
    have E := Lib.hid (mdays_none (y := y) (m := m) (by omega))
    clear h
    go_enter Try.func74, Try.ntmps74
    go_wp2_with (first | (go_at_call 92; refine (impl_within _ _ _ _).mono ?_; rintro e w' ⟨rfl, rfl⟩))
    go_ret
    exact ⟨ret_int E.out.symm, rfl⟩

set_option maxHeartbeats 1000000 in
theorem spec_monthDays (y m : Int) (w : World) :
    Calls Try.prog 91 #[.int .i64 y, .int .i64 m] w fun e w' => e = .returned (.int .i64 (mdays y m)) ∧ Below w.heap.size w w' := by
  by_cases h : 1 ≤ y ∧ y ≤ 4000
  · obtain ⟨h1, h2⟩ := h
    have hi := inB_true h1 h2
    by_cases h' : 1 ≤ m ∧ m ≤ 12
    · obtain ⟨h3, h4⟩ := h'
      have hj := inB_true h3 h4
      have hm : m = 2 ∨ (m = 4 ∨ m = 6 ∨ m = 9 ∨ m = 11) ∨ (m = 1 ∨ m = 3 ∨ m = 5 ∨ m = 7 ∨ m = 8 ∨ m = 10 ∨ m = 12) := by omega
      rcases hm with rfl | hm | hm
      · cases hl : leapB y
        · have e := mdays_plain h1 h2 hl
          have E := Lib.hid e
          clear e
          go_enter Try.func91, Try.ntmps91
          go_wp2_with (first | (go_at_call 70; refine (spec_in _ _ _ _).mono ?_; rintro e w' ⟨rfl, rfl⟩) | (go_at_call 99; refine (spec_leapYear _ _).mono ?_; rintro e w' ⟨rfl, rfl⟩))
          go_ret
          exact ⟨ret_int E.out.symm, (Below.refl _ _).alloc (Nat.le_refl _) _⟩
        · have e := mdays_leap h1 h2 hl
          have E := Lib.hid e
          clear e
          go_enter Try.func91, Try.ntmps91
          go_wp2_with (first | (go_at_call 70; refine (spec_in _ _ _ _).mono ?_; rintro e w' ⟨rfl, rfl⟩) | (go_at_call 99; refine (spec_leapYear _ _).mono ?_; rintro e w' ⟨rfl, rfl⟩))
          go_ret
          exact ⟨ret_int E.out.symm, Below.refl _ _⟩
      · have E := Lib.hid (mdays_short h1 h2 hm)
        rcases hm with rfl | rfl | rfl | rfl
        all_goals
          go_enter Try.func91, Try.ntmps91
          go_wp2_with (first | (go_at_call 70; refine (spec_in _ _ _ _).mono ?_; rintro e w' ⟨rfl, rfl⟩))
          go_ret
          exact ⟨ret_int E.out.symm, (Below.refl _ _).alloc (Nat.le_refl _) _⟩
      · have E := Lib.hid (mdays_long h1 h2 hm)
        rcases hm with rfl | rfl | rfl | rfl | rfl | rfl | rfl
        all_goals
          go_enter Try.func91, Try.ntmps91
          go_wp2_with (first | (go_at_call 70; refine (spec_in _ _ _ _).mono ?_; rintro e w' ⟨rfl, rfl⟩))
          go_ret
          exact ⟨ret_int E.out.symm, (Below.refl _ _).alloc (Nat.le_refl _) _⟩
    · have hj : inB m 1 12 = false := inB_not.2 (by omega)
      have E := Lib.hid (mdays_none (y := y) (m := m) (by omega))
      clear h'
      go_enter Try.func91, Try.ntmps91
      go_wp2_with (first | (go_at_call 70; refine (spec_in _ _ _ _).mono ?_; rintro e w' ⟨rfl, rfl⟩))
      go_ret
      exact ⟨ret_int E.out.symm, Below.refl _ _⟩
  · have hi : inB y 1 4000 = false := inB_not.2 (by omega)
    have E := Lib.hid (mdays_none (y := y) (m := m) (by omega))
    clear h
    go_enter Try.func91, Try.ntmps91
    go_wp2_with (first | (go_at_call 70; refine (spec_in _ _ _ _).mono ?_; rintro e w' ⟨rfl, rfl⟩))
    go_ret
    exact ⟨ret_int E.out.symm, Below.refl _ _⟩

end Go.Proofs.Ytldllhfadihmeaa
