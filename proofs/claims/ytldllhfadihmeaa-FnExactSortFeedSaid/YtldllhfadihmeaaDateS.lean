/- The walks of DateText and ReadDate, the reference's. -/
import Derived.Test.YtldllhfadihmeaaDateW
namespace Go.Proofs.Ytldllhfadihmeaa
open Go.RowKit

def dlist (y m d : Int) : List Int := [y / 1000, y / 100 % 10, y / 10 % 10, y % 10, -1, m / 10, m % 10, -1, d / 10, d % 10]
def dbyte (n : Int) : UInt8 := if n < 0 then 46 else UInt8.ofNat (48 + n).toNat
theorem dbyte_of (n : Nat) : dbyte ((n % 10 : Nat) : Int) = dg n := by
  unfold dbyte dg
  rw [if_neg (by omega)]
  congr 1
theorem dbyte_lt {n : Nat} (h : n < 10) : dbyte (n : Int) = dg n := by
  rw [← dbyte_of, Nat.mod_eq_of_lt h]
theorem dlist_fmt (y m d : Nat) (h1 : y < 10000) (h2 : m < 100) (h3 : d < 100) : (dlist y m d).map dbyte = fmt y m d := by
  have e1 := dbyte_lt (n := y / 1000) (by omega)
  have e2 := dbyte_of (y / 100)
  have e3 := dbyte_of (y / 10)
  have e4 := dbyte_of y
  have e5 := dbyte_lt (n := m / 10) (by omega)
  have e6 := dbyte_of m
  have e7 := dbyte_lt (n := d / 10) (by omega)
  have e8 := dbyte_of d
  have d1 : dg (y / 1000) = dg (y / 10 / 10 / 10) := by rw [Nat.div_div_eq_div_mul, Nat.div_div_eq_div_mul]
  have d2 : dg (y / 100) = dg (y / 10 / 10) := by rw [Nat.div_div_eq_div_mul]
  have e0 : dbyte (-1) = 46 := by decide
  simp only [dlist, List.map_cons, List.map_nil, e0]
  simp only [fmt, pad, List.nil_append, List.cons_append]
  rw [← d1, ← d2, ← e1, ← e2, ← e3, ← e4, ← e5, ← e6, ← e7, ← e8]
  rfl
theorem dlist_fmt' {y d : Int} {k : Nat} (h1 : 0 ≤ y) (h2 : y < 10000) (h3 : k < 100) (h4 : 0 ≤ d) (h5 : d < 100) : (dlist y k d).map dbyte = fmt y.toNat k d.toNat := by
  obtain ⟨Y, rfl⟩ := Int.eq_ofNat_of_zero_le h1
  obtain ⟨D, rfl⟩ := Int.eq_ofNat_of_zero_le h4
  rw [Int.toNat_natCast, Int.toNat_natCast]
  exact dlist_fmt Y k D (by omega) h3 (by omega)
def OutTo (L : List Int) (k : Nat) (t : ByteArray) : Prop := t.data.toList = (L.take k).map dbyte
theorem OutTo.size {L : List Int} {k : Nat} {t : ByteArray} (h : OutTo L k t) : t.size ≤ k := by
  rw [← size_toList, h, List.length_map]; exact List.length_take_le _ _
theorem OutTo.dot {L : List Int} {k : Nat} {t : ByteArray} (h : OutTo L k t) (hk : k < L.length) (hx : L[k] < 0) : OutTo L (k + 1) (t ++ ⟨#[46]⟩) := by
  unfold OutTo at *
  rw [ba_app, h, List.take_succ_eq_append_getElem hk, List.map_append]
  simp [dbyte, hx]
theorem OutTo.dig {L : List Int} {k : Nat} {t : ByteArray} (h : OutTo L k t) (hk : k < L.length) (hx : 0 ≤ L[k]) : OutTo L (k + 1) (t ++ ⟨[UInt8.ofNat (48 + L[k]).toNat].toArray⟩) := by
  unfold OutTo at *
  rw [ba_app, h, List.take_succ_eq_append_getElem hk, List.map_append]
  simp [dbyte, show ¬ L[k] < 0 from by omega]
theorem dlist_bd (y m d : Int) (h1 : 0 ≤ y) (h2 : y < 10000) (h3 : 0 ≤ m) (h4 : m < 100) (h5 : 0 ≤ d) (h6 : d < 100) : ∀ x ∈ dlist y m d, -1 ≤ x ∧ x ≤ 9 := by
  intro x hx
  simp only [dlist, List.mem_cons, List.not_mem_nil, or_false] at hx
  omega
theorem last_date : ∀ w : World, Calls Try.prog 71 #[.int .i64 4000, .int .i64 12, .int .i64 31] w fun e w' => e = .returned (.int .i64 1460969) ∧ Below w.heap.size w w' := fun w => by
  have := spec_dayNumber 4000 12 31 w
  rwa [dnum_last] at this

set_option maxHeartbeats 2000000 in
theorem spec_dateText (n : Int) (w : World) :
    Calls Try.prog 56 #[.int .i64 n] w fun e w' => e = .returned (.string ⟨(dateT n).toArray⟩) ∧ Below w.heap.size w w' := by
  have c0 := Lib.hid last_date
  by_cases h : 0 ≤ n ∧ n ≤ 1460969
  · obtain ⟨h0, h1⟩ := h
    have hi := inB_true h0 h1
    have hg := before_guess h0
    go_enter Try.func56, Try.ntmps56
    go_wp2_with fail
    refine (c0.out _).mono ?_
    rintro e w1 ⟨rfl, hb1⟩
    go_wp2_with fail
    refine (spec_in _ _ _ _).mono ?_
    rintro e w' ⟨rfl, rfl⟩
    go_wp2
    go_loopw [3] (fun t wr => ∃ y : Int, 1 ≤ y ∧ y ≤ 4000 ∧ before y ≤ n ∧ t = .int .i64 y ∧ Below w.heap.size w wr) (fun t _ => (4000 - intOf t).toNat)
    case atStart => exact ⟨_, by omega, by omega, hg, rfl, hb1⟩
    case round =>
      obtain ⟨y, y1, y2, y3, rfl, hbr⟩ := hrel
      have hmax := before_max
      by_cases hc : y < 4000 ∧ before (y + 1) ≤ n
      · obtain ⟨hy, hc⟩ := hc
        have c1 := Lib.hid (fun w => spec_dayNumber (y + 1) 1 1 w)
        rw [dnum_first (by omega) (by omega)] at c1
        go_wp2_with fail
        refine (c1.out _).mono ?_
        rintro e w2 ⟨rfl, hb2⟩
        go_wp2
        go_roundw
        case rel => exact ⟨y + 1, by omega, by omega, hc, rfl, hbr.trans (hb2.mono hbr.size)⟩
        case measure => simp [intOf]; omega
      · have hlast : n < before (y + 1) := by
          by_cases hy : y < 4000
          · omega
          · obtain rfl : y = 4000 := by omega
            rw [show (4000 : Int) + 1 = 4001 from rfl]; omega
        have hbs := before_bd (y := y) (by omega) (by omega)
        have hcase : y < 4000 ∨ 4000 ≤ y := by omega
        clear hc hmax
        rcases hcase with hy | hy
        all_goals
          first
            | (have c1 := Lib.hid (fun w => spec_dayNumber (y + 1) 1 1 w)
               rw [dnum_first (y := y + 1) (by omega) (by omega)] at c1
               have hx : decide (before (y + 1) ≤ n) = false := decide_eq_false (by omega)
               go_wp2_with fail
               refine (c1.out _).mono ?_
               rintro e w2 ⟨rfl, hb2⟩
               have hbz : Below w.heap.size w w2 := hbr.trans (hb2.mono hbr.size))
            | (obtain ⟨w2, rfl⟩ : ∃ wx : World, wx = wr := ⟨wr, rfl⟩
               have hbz : Below w.heap.size w w2 := hbr)
          clear hbr
          go_wp2
          go_loopw [4] (fun t wr => ∃ k : Nat, 1 ≤ k ∧ k ≤ 12 ∧ t = .int .i64 k ∧ before y + cum y (k - 1) ≤ n ∧ Below w.heap.size w wr) (fun t _ => 12 - (intOf t).toNat)
          case atStart => exact ⟨1, by omega, by omega, rfl, by simp [cum]; omega, hbz⟩
          case round =>
            obtain ⟨k, k1, k2, rfl, k3, hbk⟩ := hrel
            have cb := cum_bd y1 y2 (k - 1) (by omega)
            by_cases hc : k < 12 ∧ before y + cum y k ≤ n
            · obtain ⟨hk, hc⟩ := hc
              have c2 := Lib.hid (fun w => spec_dayNumber y (k + 1 : Nat) 1 w)
              rw [dnum_start (k := k + 1) y1 y2 (by omega) (by omega), show k + 1 - 1 = k from rfl] at c2
              go_wp2_with fail
              refine (c2.out _).mono ?_
              rintro e w3 ⟨rfl, hb3⟩
              go_wp2
              go_roundw
              case rel => exact ⟨k + 1, by omega, by omega, by go_num, hc, hbk.trans (hb3.mono hbk.size)⟩
              case measure => simp [intOf]; omega
            · have hmd := mdays_bd (m := (k : Int)) y1 y2 (by omega) (by omega)
              have hv : n - before y - cum y (k - 1) < mdays y k := by
                by_cases hk : k < 12
                · have hs := cum_succ y (k - 1)
                  rw [show k - 1 + 1 = k from by omega] at hs
                  omega
                · obtain rfl : k = 12 := by omega
                  have hr : RestTo n y 12 (n - before y - cum y (12 - 1)) := rfl
                  have := (hr.next (by omega)).last y1 y2 hlast
                  omega
              have E := Lib.hid (RestTo.date (n := n) (y := y) (k := k) (v := n - before y - cum y (k - 1)) rfl k1 (by omega) hv h0)
              have c4 := Lib.hid (fun w => spec_dayNumber y k 1 w)
              rw [dnum_start (k := k) y1 y2 k1 k2] at c4
              have hcase2 : k < 12 ∨ 12 ≤ k := by omega
              have hc' : k < 12 → n < before y + cum y k := fun hk => by omega
              have HC := Lib.hid hc'
              clear hc hc'
              rcases hcase2 with hk | hk
              all_goals
                first
                  | (have c3 := Lib.hid (fun w => spec_dayNumber y (k + 1 : Nat) 1 w)
                     rw [dnum_start (k := k + 1) y1 y2 (by omega) (by omega), show k + 1 - 1 = k from rfl] at c3
                     have hx : decide (before y + cum y k ≤ n) = false := decide_eq_false (by have := HC.out hk; omega)
                     go_wp2_with fail
                     refine (c3.out _).mono ?_
                     rintro e w4 ⟨rfl, hb4⟩
                     have hby : Below w.heap.size w w4 := hbk.trans (hb4.mono hbk.size))
                  | (obtain ⟨w4, rfl⟩ : ∃ wx : World, wx = wr := ⟨wr, rfl⟩
                     have hby : Below w.heap.size w w4 := hbk)
                clear hbk
                obtain ⟨S, hS, d0, d1⟩ : ∃ S : Int, S = before y + cum y (k - 1) ∧ S ≤ n ∧ n ≤ S + 30 := ⟨_, rfl, by omega, by omega⟩
                have E2 : Hid (dateT n = fmt y.toNat k (n - S + 1).toNat) := by rw [hS, E.out, show n - before y - cum y (k - 1) + 1 = n - (before y + cum y (k - 1)) + 1 from by omega]; rfl
                rw [← hS] at c4
                go_wp2_with fail
                refine (c4.out _).mono ?_
                rintro e w5 ⟨rfl, hb5⟩
                have hb6 : Below w.heap.size w w5 := hby.trans (hb5.mono hby.size)
                have hz := hb6.size
                clear c4 hS E hb5 cb hmd hv
                have hcv := conv1
                have z1 : (⟨#[46]⟩ : ByteArray).size = 1 := rfl
                have z2 : ∀ x : UInt8, (⟨[x].toArray⟩ : ByteArray).size = 1 := fun _ => rfl
                go_wp2
                go_loopw [6, 8] (fun o i wr => ∃ (j : Nat) (u : ByteArray), j ≤ 10 ∧ i = .int .i64 j ∧ o = .string u ∧ u.size ≤ 10 ∧ OutTo (dlist y k (n - S + 1)) j u ∧ wr.heap[w5.heap.size]? = some (.cells ((dlist y k (n - S + 1)).map (Value.int .i64)).toArray 3 (0, 0)) ∧ Below w.heap.size w wr ∧ w5.heap.size < wr.heap.size) (fun _ i _ => 10 - (intOf i).toNat)
                case atStart => exact ⟨0, ⟨#[]⟩, by omega, rfl, rfl, by decide, rfl, heap_alloc_new _ _, hb6.alloc hz _, by simp⟩
                case round =>
                  obtain ⟨j, u, hj, rfl, rfl, hu, ho, hblk, hbw, hlt5⟩ := hrel
                  by_cases hlt : j < 10
                  · have hL : j < (dlist y k (n - S + 1)).length := hlt
                    have hxb := dlist_bd y k (n - S + 1) (by omega) (by omega) (by omega) (by omega) (by omega) (by omega) _ (List.getElem_mem hL)
                    have hcell : wr.cell? ⟨w5.heap.size, j, none⟩ = some (.int .i64 (dlist y k (n - S + 1))[j]) := by
                      rw [cell_of_row _ _ _ _ _ _ hblk]; simp
                    have HO1 := Lib.hid (fun h => ho.dot hL h)
                    have HO2 := Lib.hid (fun h => ho.dig hL h)
                    have HB := Lib.hid hblk
                    have hus := ho.size
                    clear ho hblk
                    generalize (dlist y k (n - S + 1))[j] = x at *
                    by_cases hx : x < 0
                    · go_wp2
                      go_roundw
                      case rel => exact ⟨j + 1, _, by omega, by go_num, rfl, by have := (HO1.out hx).size; omega, HO1.out hx, HB.out, hbw, hlt5⟩
                      case measure => simp [intOf]; omega
                    · have z3 := z2 (UInt8.ofNat (48 + x).toNat)
                      clear z2
                      go_wp2
                      go_roundw
                      case rel => exact ⟨j + 1, _, by omega, by go_num, rfl, by have := (HO2.out (by omega)).size; omega, HO2.out (by omega), (Below.heap_alloc _ _ _ hlt5).trans HB.out, hbw.alloc hbw.size _, by simp; omega⟩
                      case measure => simp [intOf]; omega
                  · go_wp2
                    go_ret
                    exact ⟨ret_str (by
                      unfold OutTo at ho
                      rw [List.take_of_length_le (by show 10 ≤ j; omega)] at ho
                      rw [ho, E2.out]
                      exact dlist_fmt' (by omega) (by omega) (by omega) (by omega) (by omega)), hbw⟩
  · have hi : inB n 0 1460969 = false := inB_not.2 (by omega)
    go_enter Try.func56, Try.ntmps56
    go_wp2_with fail
    refine (c0.out _).mono ?_
    rintro e w1 ⟨rfl, hb1⟩
    go_wp2_with fail
    refine (spec_in _ _ _ _).mono ?_
    rintro e w' ⟨rfl, rfl⟩
    go_wp2
    go_ret
    exact ⟨ret_str (date_none (by omega)).symm, hb1⟩

end Go.Proofs.Ytldllhfadihmeaa
