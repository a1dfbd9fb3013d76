/- DayNumber and daysBefore, the program's and the reference's, compute dnum and before. -/
import Derived.Test.YtldllhfadihmeaaDaysW
namespace Go.Proofs.Ytldllhfadihmeaa
open Go.RowKit

set_option maxHeartbeats 400000 in
theorem impl_daysBefore (y : Int) (w : World) (h1 : 1 ≤ y) (h2 : y ≤ 4001) :
    Calls Try.prog 73 #[.int .i64 y] w fun e w' => e = .returned (.int .i64 (before y)) ∧ w = w' := by
  go_enter Try.func73, Try.ntmps73
  go_wp2
  go_ret
  exact ⟨ret_int rfl, rfl⟩

/-- What a round of DayNumber's loop keeps. -/
def CumTo (y : Int) (k : Nat) (v : Int) : Prop := v = before y + cum y (k - 1)
theorem CumTo.next {y : Int} {k : Nat} {v : Int} (h : CumTo y k v) (hk : 1 ≤ k) : CumTo y (k + 1) (v + mdays y k) := by
  unfold CumTo at *
  obtain ⟨j, rfl⟩ : ∃ j, k = j + 1 := ⟨k - 1, by omega⟩
  rw [h, show j + 1 + 1 - 1 = j + 1 from rfl, show j + 1 - 1 = j from rfl, cum_succ]; omega
theorem CumTo.bd {y : Int} {k : Nat} {v : Int} (h : CumTo y k v) (h1 : 1 ≤ y) (h2 : y ≤ 4000) (hk : k ≤ 13) : 0 ≤ v ∧ v ≤ 1461400 := by
  unfold CumTo at h
  have a := before_bd h1 (by omega)
  have b := cum_bd h1 h2 (k - 1) (by omega)
  omega
theorem CumTo.done {y d : Int} {k : Nat} {v : Int} (h : CumTo y k v) (hk : 1 ≤ k) (h1 : 1 ≤ d) (h2 : d ≤ mdays y k) : dnum y k d = v + d - 1 := by
  unfold CumTo at h
  rw [dnum_yes h1 h2, h, show ((k : Int) - 1).toNat = k - 1 from by omega]


set_option maxHeartbeats 400000 in
theorem spec_dayNumber (y m d : Int) (w : World) :
    Calls Try.prog 71 #[.int .i64 y, .int .i64 m, .int .i64 d] w fun e w' => e = .returned (.int .i64 (dnum y m d)) ∧ Below w.heap.size w w' := by
  by_cases h : 1 ≤ d ∧ d ≤ mdays y m
  · obtain ⟨h1, h2⟩ := h
    have hi := inB_true h1 h2
    obtain ⟨y1, y2, m1, m2⟩ := mdays_ok (y := y) (m := m) (by omega)
    have hd31 := mdays_bd y1 y2 m1 m2
    obtain ⟨km, rfl⟩ := Int.eq_ofNat_of_zero_le (a := m) (by omega)
    have hbb := before_bd (y := y) y1 (by omega)
    have HC : CumTo y 1 (before y) := by unfold CumTo; simp [cum]
    have HB : Hid (before y = 365 * (y - 1) + (y - 1) / 4 - (y - 1) / 100 + (y - 1) / 400) := rfl
    go_enter Try.func71, Try.ntmps71
    go_wp2_with (first | (go_at_call 91; refine (spec_monthDays _ _ _).mono ?_; rintro e w1 ⟨rfl, hb1⟩) | (go_at_call 70; refine (spec_in _ _ _ _).mono ?_; rintro e w' ⟨rfl, rfl⟩))
    go_loopw [8, 9] (fun n i wr => ∃ (k : Nat) (v : Int), 1 ≤ k ∧ k ≤ km ∧ i = .int .i64 k ∧ n = .int .i64 (v + d - 1) ∧ 0 ≤ v ∧ v ≤ 1461400 ∧ CumTo y k v ∧ Below w.heap.size w wr) (fun _ i _ => km - (intOf i).toNat)
    case atStart => exact ⟨1, before y, by omega, by omega, rfl, by rw [HB.out], by omega, by omega, HC, hb1⟩
    case round =>
      obtain ⟨k, v, k1, k2, rfl, rfl, v0, v1, hc, hbr⟩ := hrel
      by_cases hlt : k < km
      · have hn := hc.next k1
        have hb2 := hn.bd y1 y2 (by omega)
        have hmd := mdays_bd (m := (k : Int)) y1 y2 (by omega) (by omega)
        go_wp2_with (first | (go_at_call 91; refine (spec_monthDays _ _ _).mono ?_; rintro e w2 ⟨rfl, hb2'⟩))
        go_roundw
        case rel => exact ⟨k + 1, v + mdays y k, by omega, by omega, by go_num, by rw [show v + d - 1 + mdays y k = v + mdays y k + d - 1 from by omega], hb2.1, hb2.2, hn, hbr.trans (hb2'.mono hbr.size)⟩
        case measure => simp [intOf]; omega
      · obtain rfl : k = km := by omega
        have E := Lib.hid (hc.done k1 h1 h2)
        go_wp2
        go_ret
        exact ⟨ret_int E.out.symm, hbr⟩
  · have E := Lib.hid (dnum_none (y := y) (m := m) (d := d) h)
    have hi : inB d 1 (mdays y m) = false := inB_not.2 (by omega)
    clear h
    go_enter Try.func71, Try.ntmps71
    go_wp2_with (first | (go_at_call 91; refine (spec_monthDays _ _ _).mono ?_; rintro e w1 ⟨rfl, hb1⟩) | (go_at_call 70; refine (spec_in _ _ _ _).mono ?_; rintro e w' ⟨rfl, rfl⟩))
    go_ret
    exact ⟨ret_int E.out.symm, hb1⟩

end Go.Proofs.Ytldllhfadihmeaa
