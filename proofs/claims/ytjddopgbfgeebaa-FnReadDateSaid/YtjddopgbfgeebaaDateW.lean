/- The walks of DateText and ReadDate, the program's. -/
import Derived.Test.YtjddopgbfgeebaaDate
import Derived.Test.YtjddopgbfgeebaaDayNumW
import Derived.Laws.BytesString
import Derived.Handy
import Derived.ShutString
import Derived.Test.YtjddopgbfgeebaaMarkW
import Derived.Outline
import Derived.Deep.QuietTactic
import Derived.BigQuiet
import Derived.Deep.RegionWith
namespace Go.Proofs.Ytjddopgbfgeebaa
open Go.RowKit

theorem conv_bytes (W : World) (zs : List Int) (n : Nat) (hn : zs.length = n) : (convert 31 9 (.slice (some ⟨W.heap.size, 0, none⟩) n n)).run Try.prog (W.alloc (.cells (zs.map (Value.int .u8)).toArray 5)) =
    .ok (.string (zs.foldl (fun r n => r.push (UInt8.ofNat n.toNat)) ByteArray.empty)) (W.alloc (.cells (zs.map (Value.int .u8)).toArray 5)) := by
  subst hn
  rw [run_convert_bytes_string _ _ _ 5 _ _ _ Try.underlying31 Try.underlying5 Try.underlying9]
  refine run_bytesToString _ _ _ _ zs ?_
  have hr := run_loadCells_list (P := Try.prog) (w := W.alloc (.cells (zs.map (Value.int .u8)).toArray 5)) ⟨W.heap.size, 0, none⟩ (zs.map (Value.int .u8)) (fun j u hj => by
    have e : (⟨W.heap.size, 0, none⟩ : Addr).add j = ⟨W.heap.size, j, none⟩ := by unfold Addr.add; split <;> simp_all
    rw [e, cell_of_row _ _ _ _ _ _ (heap_alloc_new _ _)]
    simpa using hj)
  rw [List.length_map] at hr
  exact hr
theorem conv2 (a b : Int) (W : World) : (convert 31 9 (.slice (some ⟨W.heap.size, 0, none⟩) 2 2)).run Try.prog (W.alloc (.cells #[.int .u8 a, .int .u8 b] 5)) =
    .ok (.string ⟨[UInt8.ofNat a.toNat, UInt8.ofNat b.toNat].toArray⟩) (W.alloc (.cells #[.int .u8 a, .int .u8 b] 5)) := conv_bytes W [a, b] 2 rfl
theorem conv4 (a b c d : Int) (W : World) : (convert 31 9 (.slice (some ⟨W.heap.size, 0, none⟩) 4 4)).run Try.prog (W.alloc (.cells #[.int .u8 a, .int .u8 b, .int .u8 c, .int .u8 d] 5)) =
    .ok (.string ⟨[UInt8.ofNat a.toNat, UInt8.ofNat b.toNat, UInt8.ofNat c.toNat, UInt8.ofNat d.toNat].toArray⟩) (W.alloc (.cells #[.int .u8 a, .int .u8 b, .int .u8 c, .int .u8 d] 5)) := conv_bytes W [a, b, c, d] 4 rfl

set_option maxHeartbeats 1000000 in
theorem impl_padded2 (n : Nat) (w : World) (hn : n ≤ 9999) :
    Calls Try.prog 58 #[.int .i64 n, .int .i64 2] w fun e w' => e = .returned (.string ⟨(pad 2 n).toArray⟩) ∧ Below w.heap.size w w' := by
  have hmk : ∀ w, (Instr.makeSlice 31 (.int .i64 2) (.int .i64 2)).run Try.prog w = .ok (.slice (some ⟨w.heap.size, 0, none⟩) 2 2) (w.alloc (.cells #[.int .u8 0, .int .u8 0] 5)) := fun _ => by kernel_rfl
  have hcv := conv2
  go_enter Try.func58, Try.ntmps58
  go_wp2
  go_rounds 3
  go_ret
  exact ⟨rfl, (Below.refl _ _).alloc (Nat.le_refl _) _⟩

set_option maxHeartbeats 1000000 in
theorem impl_padded4 (n : Nat) (w : World) (hn : n ≤ 9999) :
    Calls Try.prog 58 #[.int .i64 n, .int .i64 4] w fun e w' => e = .returned (.string ⟨(pad 4 n).toArray⟩) ∧ Below w.heap.size w w' := by
  have hmk : ∀ w, (Instr.makeSlice 31 (.int .i64 4) (.int .i64 4)).run Try.prog w = .ok (.slice (some ⟨w.heap.size, 0, none⟩) 4 4) (w.alloc (.cells #[.int .u8 0, .int .u8 0, .int .u8 0, .int .u8 0] 5)) := fun _ => by kernel_rfl
  have hcv := conv4
  go_enter Try.func58, Try.ntmps58
  go_wp2
  go_rounds 5
  go_ret
  exact ⟨rfl, (Below.refl _ _).alloc (Nat.le_refl _) _⟩

/-- What is left of the day behind the months that were passed. -/
def RestTo (n y : Int) (k : Nat) (v : Int) : Prop := v = n - before y - cum y (k - 1)
theorem RestTo.next {n y : Int} {k : Nat} {v : Int} (h : RestTo n y k v) (hk : 1 ≤ k) : RestTo n y (k + 1) (v - mdays y k) := by
  unfold RestTo at *
  obtain ⟨j, rfl⟩ : ∃ j, k = j + 1 := ⟨k - 1, by omega⟩
  rw [h, show j + 1 + 1 - 1 = j + 1 from rfl, show j + 1 - 1 = j from rfl, cum_succ]; omega
theorem RestTo.last {n y : Int} {v : Int} (h : RestTo n y 13 v) (h1 : 1 ≤ y) (h2 : y ≤ 4000) (hn : n < before (y + 1)) : v < 0 := by
  unfold RestTo at h
  rw [show 13 - 1 = 12 from rfl, cum_12 h1 h2] at h
  rw [before_succ h1 h2] at hn
  omega
theorem RestTo.date {n y : Int} {k : Nat} {v : Int} (h : RestTo n y k v) (hk : 1 ≤ k) (h0 : 0 ≤ v) (hv : v < mdays y k) (hn : 0 ≤ n) : dateT n = fmt y.toNat k (v + 1).toNat := by
  unfold RestTo at h
  have e : dnum y k (v + 1) = n := by
    rw [dnum_yes (by omega) (by omega), show ((k : Int) - 1).toNat = k - 1 from by omega]; omega
  rw [← e, date_of (by omega), Int.toNat_natCast]
theorem fmt_join (y m d : Nat) : (⟨(pad 4 y).toArray⟩ ++ ⟨#[46]⟩ ++ ⟨(pad 2 m).toArray⟩ ++ ⟨#[46]⟩ ++ ⟨(pad 2 d).toArray⟩ : ByteArray).data.toList = fmt y m d := by
  simp [ByteArray.data_append, fmt]
theorem pad_size (w n : Nat) : (⟨(pad w n).toArray⟩ : ByteArray).size = w := by rw [size_of_list, pad_len]

set_option maxHeartbeats 1000000 in
theorem impl_dateText (n : Int) (w : World) :
    Calls Try.prog 43 #[.int .i64 n] w fun e w' => e = .returned (.string ⟨(dateT n).toArray⟩) ∧ Below w.heap.size w w' := by
  by_cases h0 : 0 ≤ n
  · by_cases h1 : n ≤ 1460969
    · have hb := before_max
      have hg := before_guess h0
      have c0 := Lib.hid (fun w => impl_daysBefore 4001 w (by omega) (by omega))
      rw [hb] at c0
      clear hb
      go_enter Try.func43, Try.ntmps43
      go_wp2_with fail
      refine (c0.out _).mono ?_
      rintro e w' ⟨rfl, rfl⟩
      go_wp2
      go_loop [3] (fun t => ∃ y : Int, 1 ≤ y ∧ y ≤ 4000 ∧ before y ≤ n ∧ t = .int .i64 y) (fun t => (4000 - intOf t).toNat)
      case atStart => exact ⟨_, by omega, by omega, hg, rfl⟩
      case round =>
        obtain ⟨y, y1, y2, y3, rfl⟩ := hrel
        have hbb := before_bd (y := y + 1) (by omega) (by omega)
        have hbs := before_bd (y := y) (by omega) (by omega)
        by_cases hc : before (y + 1) ≤ n
        · have hy : y + 1 ≤ 4000 := by
            apply Classical.byContradiction; intro hy
            obtain rfl : y = 4000 := by omega
            have := before_max
            rw [show (4000 : Int) + 1 = 4001 from rfl] at hc
            omega
          go_wp2_with fail
          refine (impl_daysBefore _ _ (by omega) (by omega)).mono ?_
          rintro e w' ⟨rfl, rfl⟩
          go_wp2
          go_round
          case rel => exact ⟨y + 1, by omega, hy, hc, rfl⟩
          case measure => simp [intOf]; omega
        · go_wp2_with fail
          refine (impl_daysBefore _ _ (by omega) (by omega)).mono ?_
          rintro e w' ⟨rfl, rfl⟩
          go_wp2_with fail
          refine (impl_daysBefore _ _ (by omega) (by omega)).mono ?_
          rintro e w' ⟨rfl, rfl⟩
          go_wp2
          go_loop [4, 5] (fun r i => ∃ (k : Nat) (v : Int), 1 ≤ k ∧ k ≤ 12 ∧ i = .int .i64 k ∧ r = .int .i64 v ∧ 0 ≤ v ∧ v ≤ 1460969 ∧ RestTo n y k v) (fun _ i => 13 - (intOf i).toNat)
          case atStart => exact ⟨1, _, by omega, by omega, rfl, rfl, by omega, by omega, by unfold RestTo; simp [cum]⟩
          case round =>
            obtain ⟨k, v, k1, k2, rfl, rfl, v0, v1, hr⟩ := hrel
            have hmd := mdays_bd (m := (k : Int)) y1 y2 (by omega) (by omega)
            by_cases hv : mdays y k ≤ v
            · have hn := hr.next k1
              have hk12 : k + 1 ≤ 12 := by
                apply Classical.byContradiction; intro hk
                obtain rfl : k = 12 := by omega
                have := hn.last y1 y2 (by omega)
                omega
              go_wp2_with fail
              refine (impl_monthDays _ _ _).mono ?_
              rintro e w' ⟨rfl, rfl⟩
              go_wp2_with fail
              refine (impl_monthDays _ _ _).mono ?_
              rintro e w' ⟨rfl, rfl⟩
              go_wp2
              go_round
              case rel => exact ⟨k + 1, v - mdays y k, by omega, by omega, by go_num, by go_num, by omega, by omega, hn⟩
              case measure => simp [intOf]; omega
            · have E := Lib.hid (hr.date k1 v0 (by omega) h0)
              obtain ⟨Y, rfl⟩ := Int.eq_ofNat_of_zero_le (a := y) (by omega)
              obtain ⟨V, rfl⟩ := Int.eq_ofNat_of_zero_le v0
              have p4 := pad_size 4 Y
              have p2 := pad_size 2 k
              have p2' := pad_size 2 (V + 1)
              have p1 : (⟨#[46]⟩ : ByteArray).size = 1 := rfl
              go_wp2_with fail
              refine (impl_monthDays _ _ _).mono ?_
              rintro e w' ⟨rfl, rfl⟩
              go_wp2_with fail
              refine (impl_padded4 Y _ (by omega)).mono ?_
              rintro e w1 ⟨rfl, hb1⟩
              go_wp2_with fail
              refine (impl_padded2 k _ (by omega)).mono ?_
              rintro e w2 ⟨rfl, hb2⟩
              go_wp2_with fail
              refine (impl_padded2 (V + 1) _ (by omega)).mono ?_
              rintro e w3 ⟨rfl, hb3⟩
              go_wp2
              go_ret
              exact ⟨ret_str (by rw [fmt_join, E.out, show ((V : Int) + 1).toNat = V + 1 from by omega, Int.toNat_natCast]), hb1.trans ((hb2.mono hb1.size).trans (hb3.mono (Nat.le_trans hb1.size hb2.size)))⟩
    · have hb := before_max
      have c0 := Lib.hid (fun w => impl_daysBefore 4001 w (by omega) (by omega))
      rw [hb] at c0
      clear hb
      go_enter Try.func43, Try.ntmps43
      go_wp2_with fail
      refine (c0.out _).mono ?_
      rintro e w' ⟨rfl, rfl⟩
      go_wp2
      go_ret
      exact ⟨ret_str (date_none (by omega)).symm, Below.refl _ _⟩
  · go_enter Try.func43, Try.ntmps43
    go_wp2
    go_ret
    exact ⟨ret_str (date_none (by omega)).symm, Below.refl _ _⟩

/-- What a round of readPadded's loop keeps. -/
def RpTo (s : ByteArray) (k : Nat) (v : Int) : Prop := AllTo digit s k ∧ v = dval (s.data.toList.take k)
theorem RpTo.next {s : ByteArray} {k : Nat} {v : Int} (h : RpTo s k v) (hk : k < s.size) (h1 : 48 ≤ (s[k].toNat : Int)) (h2 : (s[k].toNat : Int) ≤ 57) : RpTo s (k + 1) (v * 10 + ((s[k].toNat : Int) - 48)) := by
  obtain ⟨ha, rfl⟩ := h
  refine ⟨ha.next hk ((digit_iff _).2 ⟨h1, h2⟩), ?_⟩
  rw [take_snoc s k hk, dval_snoc]; omega
theorem RpTo.bd {s : ByteArray} {k : Nat} {v : Int} (h : RpTo s k v) (hk : k ≤ s.size) (h10 : k ≤ 10) : 0 ≤ v ∧ v ≤ 9999999999 := by
  obtain ⟨ha, rfl⟩ := h
  have hb := dval_bd k (s.data.toList.take k) (by rw [List.length_take, size_toList]; omega) ha
  have h2 : (10 : Int) ^ k ≤ 10 ^ 10 := by
    have h3 : (10 : Nat) ^ k ≤ 10 ^ 10 := Nat.pow_le_pow_right (by omega) h10
    exact_mod_cast h3
  omega
theorem RpTo.done {s : ByteArray} {k : Nat} {v : Int} (h : RpTo s k v) (hk : s.size ≤ k) : rdP s.data.toList = v := by
  obtain ⟨ha, rfl⟩ := h
  rw [rdP_yes (ha.done hk), List.take_of_length_le (by rw [size_toList]; exact hk)]
theorem rdP_at {s : ByteArray} {k : Nat} (hk : k < s.size) (h : ¬ (48 ≤ (s[k].toNat : Int) ∧ (s[k].toNat : Int) ≤ 57)) : rdP s.data.toList = -1 := by
  apply rdP_no
  apply all_bad hk
  rw [← Bool.not_eq_true, digit_iff]; exact h

set_option maxHeartbeats 400000 in
theorem impl_readPadded (s : ByteArray) (w : World) (hs : s.size ≤ 10) :
    Calls Try.prog 60 #[.string s] w fun e w' => e = .returned (.int .i64 (rdP s.data.toList)) ∧ w = w' := by
  go_enter Try.func60, Try.ntmps60
  go_wp2
  go_loop [3, 4] (fun n i => ∃ (k : Nat) (v : Int), k ≤ s.size ∧ i = .int .i64 k ∧ n = .int .i64 v ∧ 0 ≤ v ∧ v ≤ 9999999999 ∧ RpTo s k v) (fun _ i => s.size - (intOf i).toNat)
  case atStart => exact ⟨0, 0, by omega, rfl, rfl, by omega, by omega, AllTo.zero _ s, rfl⟩
  case round =>
    obtain ⟨k, v, hk, rfl, rfl, v0, v1, hr⟩ := hrel
    by_cases hlt : k < s.size
    · by_cases hd : 48 ≤ (s[k].toNat : Int) ∧ (s[k].toNat : Int) ≤ 57
      · obtain ⟨d1, d2⟩ := hd
        have hn := hr.next hlt d1 d2
        have hb := hn.bd (by omega) (by omega)
        go_wp2
        go_round
        case rel => exact ⟨k + 1, _, by omega, by go_num, by go_num, hb.1, hb.2, hn⟩
        case measure => simp [intOf]; omega
      · have E := Lib.hid (rdP_at hlt hd)
        have hm : (s[k].toNat : Int) < 48 ∨ 57 < (s[k].toNat : Int) := by omega
        clear hd
        rcases hm with hm | hm
        all_goals
          go_wp2
          go_ret
          exact ⟨ret_int E.out.symm, rfl⟩
    · go_wp2
      go_ret
      exact ⟨ret_int (hr.done (by omega)).symm, rfl⟩

theorem below_drewN {B : Nat} {a w : World} (h : Below B a w) (n : Nat) : Below B a (w.drewN n) := ⟨h.os, h.tape, h.output, h.size, h.block⟩
theorem quiet_same {P : Program} {f : FuncId} {args : Array Value} {w : World} {n : Nat} {v : Value} (h : Calls P f args (w.drewN n) fun e w' => e = .returned v ∧ w.drewN n = w') :
    Calls P f args (w.drewN n) fun e w'' => e = .returned v ∧ ∃ m, w'' = w.drewN m := h.mono fun _ _ ⟨he, hm⟩ => ⟨he, n, hm.symm⟩
theorem at_get {s : ByteArray} {k : Nat} (h : k < s.size) : s.data.toList[k]? = some s[k] := by
  rw [List.getElem?_eq_getElem (by rw [size_toList]; exact h)]; rfl
theorem byte_ne {s : ByteArray} {k : Nat} (hk : k < s.size) (h : ¬ s[k].toNat = 46) : s.data.toList[k]? ≠ some 46 := by
  rw [at_get hk]; intro e; injection e with e; exact h (by rw [e]; rfl)
theorem byte_eq {s : ByteArray} {k : Nat} (hk : k < s.size) (h : s[k].toNat = 46) : s.data.toList[k]? = some 46 := by
  rw [at_get hk, ← UInt8.ofNat_toNat (x := s[k]), h]; rfl

set_option maxHeartbeats 1000000 in
theorem impl_readDate (s : ByteArray) (w : World) (hs : s.size ≤ maxLen) :
    Calls Try.prog 47 #[.string s] w fun e w' => e = .returned (.int .i64 (readD s.data.toList)) ∧ Below w.heap.size w w' := by
  unfold maxLen at hs
  by_cases hl : s.size = 10
  · have hlb : ((s.size : Int) != 10) = false := by rw [bne_eq_false_iff_eq]; omega
    have h4 : 4 < s.size := by omega
    have h7 : 7 < s.size := by omega
    have h10 : s.size ≤ 10 := by omega
    have HL := Lib.hid hl
    clear hl
    by_cases e4 : s[4].toNat = 46
    · have b4 : ((s[4].toNat : Int) != 46) = false := by rw [bne_eq_false_iff_eq]; omega
      have E4 := Lib.hid (byte_eq h4 e4)
      clear e4
      by_cases e7 : s[7].toNat = 46
      · have b7 : ((s[7].toNat : Int) != 46) = false := by rw [bne_eq_false_iff_eq]; omega
        have E7 := Lib.hid (byte_eq h7 e7)
        clear e7
        have c1 := Lib.hid (fun w => impl_readPadded (s.extract 0 4) w (by rw [ByteArray.size_extract]; omega))
        have c2 := Lib.hid (fun w => impl_readPadded (s.extract 5 7) w (by rw [ByteArray.size_extract]; omega))
        have c3 := Lib.hid (fun w => impl_readPadded (s.extract 8 s.size) w (by rw [ByteArray.size_extract]; omega))
        rw [Lib.extract_data, List.drop_zero, show 4 - 0 = 4 from rfl] at c1
        rw [Lib.extract_data] at c2 c3
        rw [show 7 - 5 = 2 from rfl] at c2
        rw [List.take_of_length_le (by rw [List.length_drop, size_toList]; omega)] at c3
        have R := Lib.hid (fun a b c => read_whole ((size_toList s).trans HL.out) E4.out E7.out a b c)
        have R' := Lib.hid (fun h => read_part (l := s.data.toList) (.inr (.inr h)))
        generalize rdP (List.take 4 s.data.toList) = Y at *
        generalize rdP (List.take 2 (List.drop 5 s.data.toList)) = M at *
        generalize rdP (List.drop 8 s.data.toList) = D at *
        have hc : (0 ≤ Y ∧ 0 ≤ M ∧ 0 ≤ D) ∨ Y < 0 ∨ (0 ≤ Y ∧ M < 0) ∨ (0 ≤ Y ∧ 0 ≤ M ∧ D < 0) := by omega
        rcases hc with ⟨y0, m0, d0⟩ | y0 | ⟨y0, m0⟩ | ⟨y0, m0, d0⟩
        · go_enter Try.func47, Try.ntmps47
          go_wp2_with fail
          go_quiet ((first | (go_at_call_of 60 (s.extract 0 4); exact quiet_same (c1.out _)) | (go_at_call_of 60 (s.extract 5 7); exact quiet_same (c2.out _)) | (go_at_call_of 60 (s.extract 8 s.size); exact quiet_same (c3.out _))))
          go_wp2_with fail
          refine (impl_dayNumber _ _ _ _).mono ?_
          rintro e w' ⟨rfl, rfl⟩
          go_wp2
          go_ret
          exact ⟨ret_int (R.out y0 m0 d0).symm, (below_drewN (Below.refl _ _) _)⟩
        all_goals
          have E := Lib.hid (R'.out (by omega))
          go_enter Try.func47, Try.ntmps47
          go_wp2_with fail
          go_quiet ((first | (go_at_call_of 60 (s.extract 0 4); exact quiet_same (c1.out _)) | (go_at_call_of 60 (s.extract 5 7); exact quiet_same (c2.out _)) | (go_at_call_of 60 (s.extract 8 s.size); exact quiet_same (c3.out _))))
          go_wp2
          go_ret
          exact ⟨ret_int E.out.symm, (below_drewN (Below.refl _ _) _)⟩
      · have b7 : ((s[7].toNat : Int) != 46) = true := by rw [bne_iff_ne]; omega
        have E := Lib.hid (read_part (.inr (.inl (byte_ne h7 e7))))
        clear e7
        go_enter Try.func47, Try.ntmps47
        go_wp2
        go_ret
        exact ⟨ret_int E.out.symm, Below.refl _ _⟩
    · have b4 : ((s[4].toNat : Int) != 46) = true := by rw [bne_iff_ne]; omega
      have E := Lib.hid (read_part (.inl (byte_ne h4 e4)))
      clear e4
      go_enter Try.func47, Try.ntmps47
      go_wp2
      go_ret
      exact ⟨ret_int E.out.symm, Below.refl _ _⟩
  · have hlb : ((s.size : Int) != 10) = true := by rw [bne_iff_ne]; omega
    have E := Lib.hid (readD_len (l := s.data.toList) (by rw [size_toList]; exact hl))
    clear hl
    go_enter Try.func47, Try.ntmps47
    go_wp2
    go_ret
    exact ⟨ret_int E.out.symm, Below.refl _ _⟩

end Go.Proofs.Ytjddopgbfgeebaa
