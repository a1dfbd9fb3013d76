/- The walk of DateText, the program's. -/
import Derived.Test.YtldllhfadihmeaaDate
import Derived.Test.YtldllhfadihmeaaDayNumW
import Derived.Laws.BytesString
import Derived.Handy
import Derived.ShutString
import Derived.Test.YtldllhfadihmeaaConv
import Derived.Outline
import Derived.Deep.QuietTactic
import Derived.BigQuiet
import Derived.Deep.RegionWith
namespace Go.Proofs.Ytldllhfadihmeaa
open Go.RowKit

theorem conv2 (a b : Int) (W : World) : (convert 37 9 (.slice (some ⟨W.heap.size, 0, none⟩) 2 2)).run Try.prog (W.alloc (.cells #[.int .u8 a, .int .u8 b] 5)) =
    .ok (.string ⟨[UInt8.ofNat a.toNat, UInt8.ofNat b.toNat].toArray⟩) (W.alloc (.cells #[.int .u8 a, .int .u8 b] 5)) := conv_bytes W [a, b] 2 rfl
theorem conv4 (a b c d : Int) (W : World) : (convert 37 9 (.slice (some ⟨W.heap.size, 0, none⟩) 4 4)).run Try.prog (W.alloc (.cells #[.int .u8 a, .int .u8 b, .int .u8 c, .int .u8 d] 5)) =
    .ok (.string ⟨[UInt8.ofNat a.toNat, UInt8.ofNat b.toNat, UInt8.ofNat c.toNat, UInt8.ofNat d.toNat].toArray⟩) (W.alloc (.cells #[.int .u8 a, .int .u8 b, .int .u8 c, .int .u8 d] 5)) := conv_bytes W [a, b, c, d] 4 rfl

set_option maxHeartbeats 1000000 in
theorem impl_padded2 (n : Nat) (w : World) (hn : n ≤ 9999) :
    Calls Try.prog 75 #[.int .i64 n, .int .i64 2] w fun e w' => e = .returned (.string ⟨(pad 2 n).toArray⟩) ∧ Below w.heap.size w w' := by
  have hmk : ∀ w, (Instr.makeSlice 37 (.int .i64 2) (.int .i64 2)).run Try.prog w = .ok (.slice (some ⟨w.heap.size, 0, none⟩) 2 2) (w.alloc (.cells #[.int .u8 0, .int .u8 0] 5)) := fun _ => by kernel_rfl
  have hcv := conv2
  go_enter Try.func75, Try.ntmps75
  go_wp2
  go_rounds 3
  go_ret
  exact ⟨rfl, (Below.refl _ _).alloc (Nat.le_refl _) _⟩

set_option maxHeartbeats 1000000 in
theorem impl_padded4 (n : Nat) (w : World) (hn : n ≤ 9999) :
    Calls Try.prog 75 #[.int .i64 n, .int .i64 4] w fun e w' => e = .returned (.string ⟨(pad 4 n).toArray⟩) ∧ Below w.heap.size w w' := by
  have hmk : ∀ w, (Instr.makeSlice 37 (.int .i64 4) (.int .i64 4)).run Try.prog w = .ok (.slice (some ⟨w.heap.size, 0, none⟩) 4 4) (w.alloc (.cells #[.int .u8 0, .int .u8 0, .int .u8 0, .int .u8 0] 5)) := fun _ => by kernel_rfl
  have hcv := conv4
  go_enter Try.func75, Try.ntmps75
  go_wp2
  go_rounds 5
  go_ret
  exact ⟨rfl, (Below.refl _ _).alloc (Nat.le_refl _) _⟩

/-- What is left of the day behind the months that were passed. -/
def RestTo (n y : Int) (k : Nat) (v : Int) : Prop := v = n - before y - cum y (k - 1)
theorem RestTo.next {n y : Int} {k : Nat} {v : Int} (h : RestTo n y k v) (hk : 1 ≤ k) : RestTo n y (k + 1) (v - mdays y k) := by
  unfold RestTo at *
  obtain ⟨j, rfl⟩ : ∃ j, k = j + 1 := ⟨k - 1, by omega⟩
  rw [h, show j + 1 + 1 - 1 = j + 1 from rfl, show j + 1 - 1 = j from rfl, cum_succ]; omega
theorem RestTo.last {n y : Int} {v : Int} (h : RestTo n y 13 v) (h1 : 1 ≤ y) (h2 : y ≤ 4000) (hn : n < before (y + 1)) : v < 0 := by
  unfold RestTo at h
  rw [show 13 - 1 = 12 from rfl, cum_12 h1 h2] at h
  rw [before_succ h1 h2] at hn
  omega
theorem RestTo.date {n y : Int} {k : Nat} {v : Int} (h : RestTo n y k v) (hk : 1 ≤ k) (h0 : 0 ≤ v) (hv : v < mdays y k) (hn : 0 ≤ n) : dateT n = fmt y.toNat k (v + 1).toNat := by
  unfold RestTo at h
  have e : dnum y k (v + 1) = n := by
    rw [dnum_yes (by omega) (by omega), show ((k : Int) - 1).toNat = k - 1 from by omega]; omega
  rw [← e, date_of (by omega), Int.toNat_natCast]
theorem fmt_join (y m d : Nat) : (⟨(pad 4 y).toArray⟩ ++ ⟨#[46]⟩ ++ ⟨(pad 2 m).toArray⟩ ++ ⟨#[46]⟩ ++ ⟨(pad 2 d).toArray⟩ : ByteArray).data.toList = fmt y m d := by
  simp [ByteArray.data_append, fmt]
theorem pad_size (w n : Nat) : (⟨(pad w n).toArray⟩ : ByteArray).size = w := by rw [size_of_list, pad_len]

set_option maxHeartbeats 1000000 in
theorem impl_dateText (n : Int) (w : World) :
    Calls Try.prog 59 #[.int .i64 n] w fun e w' => e = .returned (.string ⟨(dateT n).toArray⟩) ∧ Below w.heap.size w w' := by
  by_cases h0 : 0 ≤ n
  · by_cases h1 : n ≤ 1460969
    · have hb := before_max
      have hg := before_guess h0
      have c0 := Lib.hid (fun w => impl_daysBefore 4001 w (by omega) (by omega))
      rw [hb] at c0
      clear hb
      go_enter Try.func59, Try.ntmps59
      go_wp2_with fail
      refine (c0.out _).mono ?_
      rintro e w' ⟨rfl, rfl⟩
      go_wp2
      go_loop [3] (fun t => ∃ y : Int, 1 ≤ y ∧ y ≤ 4000 ∧ before y ≤ n ∧ t = .int .i64 y) (fun t => (4000 - intOf t).toNat)
      case atStart => exact ⟨_, by omega, by omega, hg, rfl⟩
      case round =>
        obtain ⟨y, y1, y2, y3, rfl⟩ := hrel
        have hbb := before_bd (y := y + 1) (by omega) (by omega)
        have hbs := before_bd (y := y) (by omega) (by omega)
        by_cases hc : before (y + 1) ≤ n
        · have hy : y + 1 ≤ 4000 := by
            apply Classical.byContradiction; intro hy
            obtain rfl : y = 4000 := by omega
            have := before_max
            rw [show (4000 : Int) + 1 = 4001 from rfl] at hc
            omega
          go_wp2_with fail
          refine (impl_daysBefore _ _ (by omega) (by omega)).mono ?_
          rintro e w' ⟨rfl, rfl⟩
          go_wp2
          go_round
          case rel => exact ⟨y + 1, by omega, hy, hc, rfl⟩
          case measure => simp [intOf]; omega
        · go_wp2_with fail
          refine (impl_daysBefore _ _ (by omega) (by omega)).mono ?_
          rintro e w' ⟨rfl, rfl⟩
          go_wp2_with fail
          refine (impl_daysBefore _ _ (by omega) (by omega)).mono ?_
          rintro e w' ⟨rfl, rfl⟩
          go_wp2
          go_loop [4, 5] (fun r i => ∃ (k : Nat) (v : Int), 1 ≤ k ∧ k ≤ 12 ∧ i = .int .i64 k ∧ r = .int .i64 v ∧ 0 ≤ v ∧ v ≤ 1460969 ∧ RestTo n y k v) (fun _ i => 13 - (intOf i).toNat)
          case atStart => exact ⟨1, _, by omega, by omega, rfl, rfl, by omega, by omega, by unfold RestTo; simp [cum]⟩
          case round =>
            obtain ⟨k, v, k1, k2, rfl, rfl, v0, v1, hr⟩ := hrel
            have hmd := mdays_bd (m := (k : Int)) y1 y2 (by omega) (by omega)
            by_cases hv : mdays y k ≤ v
            · have hn := hr.next k1
              have hk12 : k + 1 ≤ 12 := by
                apply Classical.byContradiction; intro hk
                obtain rfl : k = 12 := by omega
                have := hn.last y1 y2 (by omega)
                omega
              go_wp2_with fail
              refine (impl_monthDays _ _ _).mono ?_
              rintro e w' ⟨rfl, rfl⟩
              go_wp2_with fail
              refine (impl_monthDays _ _ _).mono ?_
              rintro e w' ⟨rfl, rfl⟩
              go_wp2
              go_round
              case rel => exact ⟨k + 1, v - mdays y k, by omega, by omega, by go_num, by go_num, by omega, by omega, hn⟩
              case measure => simp [intOf]; omega
            · have E := Lib.hid (hr.date k1 v0 (by omega) h0)
              obtain ⟨Y, rfl⟩ := Int.eq_ofNat_of_zero_le (a := y) (by omega)
              obtain ⟨V, rfl⟩ := Int.eq_ofNat_of_zero_le v0
              have p4 := pad_size 4 Y
              have p2 := pad_size 2 k
              have p2' := pad_size 2 (V + 1)
              have p1 : (⟨#[46]⟩ : ByteArray).size = 1 := rfl
              go_wp2_with fail
              refine (impl_monthDays _ _ _).mono ?_
              rintro e w' ⟨rfl, rfl⟩
              go_wp2_with fail
              refine (impl_padded4 Y _ (by omega)).mono ?_
              rintro e w1 ⟨rfl, hb1⟩
              go_wp2_with fail
              refine (impl_padded2 k _ (by omega)).mono ?_
              rintro e w2 ⟨rfl, hb2⟩
              go_wp2_with fail
              refine (impl_padded2 (V + 1) _ (by omega)).mono ?_
              rintro e w3 ⟨rfl, hb3⟩
              go_wp2
              go_ret
              exact ⟨ret_str (by rw [fmt_join, E.out, show ((V : Int) + 1).toNat = V + 1 from by omega, Int.toNat_natCast]), hb1.trans ((hb2.mono hb1.size).trans (hb3.mono (Nat.le_trans hb1.size hb2.size)))⟩
    · have hb := before_max
      have c0 := Lib.hid (fun w => impl_daysBefore 4001 w (by omega) (by omega))
      rw [hb] at c0
      clear hb
      go_enter Try.func59, Try.ntmps59
      go_wp2_with fail
      refine (c0.out _).mono ?_
      rintro e w' ⟨rfl, rfl⟩
      go_wp2
      go_ret
      exact ⟨ret_str (date_none (by omega)).symm, Below.refl _ _⟩
  · go_enter Try.func59, Try.ntmps59
    go_wp2
    go_ret
    exact ⟨ret_str (date_none (by omega)).symm, Below.refl _ _⟩
end Go.Proofs.Ytldllhfadihmeaa
