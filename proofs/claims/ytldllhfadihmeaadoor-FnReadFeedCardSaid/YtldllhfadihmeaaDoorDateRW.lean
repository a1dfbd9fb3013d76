/- The walk of ReadDate, the program's. -/
import Derived.Test.YtldllhfadihmeaaDoorDateW
namespace Go.Proofs.YtldllhfadihmeaaDoor
open Go.RowKit

/-- What a round of readPadded's loop keeps. -/
def RpTo (s : ByteArray) (k : Nat) (v : Int) : Prop := AllTo digit s k ∧ v = dval (s.data.toList.take k)
theorem RpTo.next {s : ByteArray} {k : Nat} {v : Int} (h : RpTo s k v) (hk : k < s.size) (h1 : 48 ≤ (s[k].toNat : Int)) (h2 : (s[k].toNat : Int) ≤ 57) : RpTo s (k + 1) (v * 10 + ((s[k].toNat : Int) - 48)) := by
  obtain ⟨ha, rfl⟩ := h
  refine ⟨ha.next hk ((digit_iff _).2 ⟨h1, h2⟩), ?_⟩
  rw [take_snoc s k hk, dval_snoc]; omega
theorem RpTo.bd {s : ByteArray} {k : Nat} {v : Int} (h : RpTo s k v) (hk : k ≤ s.size) (h10 : k ≤ 10) : 0 ≤ v ∧ v ≤ 9999999999 := by
  obtain ⟨ha, rfl⟩ := h
  have hb := dval_bd k (s.data.toList.take k) (by rw [List.length_take, size_toList]; omega) ha
  have h2 : (10 : Int) ^ k ≤ 10 ^ 10 := by
    have h3 : (10 : Nat) ^ k ≤ 10 ^ 10 := Nat.pow_le_pow_right (by omega) h10
    exact_mod_cast h3
  omega
theorem RpTo.done {s : ByteArray} {k : Nat} {v : Int} (h : RpTo s k v) (hk : s.size ≤ k) : rdP s.data.toList = v := by
  obtain ⟨ha, rfl⟩ := h
  rw [rdP_yes (ha.done hk), List.take_of_length_le (by rw [size_toList]; exact hk)]
theorem rdP_at {s : ByteArray} {k : Nat} (hk : k < s.size) (h : ¬ (48 ≤ (s[k].toNat : Int) ∧ (s[k].toNat : Int) ≤ 57)) : rdP s.data.toList = -1 := by
  apply rdP_no
  apply all_bad hk
  rw [← Bool.not_eq_true, digit_iff]; exact h

set_option maxHeartbeats 400000 in
theorem impl_readPadded (s : ByteArray) (w : World) (hs : s.size ≤ 10) :
    Calls Tryd.prog 80 #[.string s] w fun e w' => e = .returned (.int .i64 (rdP s.data.toList)) ∧ w = w' := by
  go_enter Tryd.func80, Tryd.ntmps80
  go_wp2
  go_loop [3, 4] (fun n i => ∃ (k : Nat) (v : Int), k ≤ s.size ∧ i = .int .i64 k ∧ n = .int .i64 v ∧ 0 ≤ v ∧ v ≤ 9999999999 ∧ RpTo s k v) (fun _ i => s.size - (intOf i).toNat)
  case atStart => exact ⟨0, 0, by omega, rfl, rfl, by omega, by omega, AllTo.zero _ s, rfl⟩
  case round =>
    obtain ⟨k, v, hk, rfl, rfl, v0, v1, hr⟩ := hrel
    by_cases hlt : k < s.size
    · by_cases hd : 48 ≤ (s[k].toNat : Int) ∧ (s[k].toNat : Int) ≤ 57
      · obtain ⟨d1, d2⟩ := hd
        have hn := hr.next hlt d1 d2
        have hb := hn.bd (by omega) (by omega)
        go_wp2
        go_round
        case rel => exact ⟨k + 1, _, by omega, by go_num, by go_num, hb.1, hb.2, hn⟩
        case measure => simp [intOf]; omega
      · have E := Lib.hid (rdP_at hlt hd)
        have hm : (s[k].toNat : Int) < 48 ∨ 57 < (s[k].toNat : Int) := by omega
        clear hd
        rcases hm with hm | hm
        all_goals
          go_wp2
          go_ret
          exact ⟨ret_int E.out.symm, rfl⟩
    · go_wp2
      go_ret
      exact ⟨ret_int (hr.done (by omega)).symm, rfl⟩

theorem below_drewN {B : Nat} {a w : World} (h : Below B a w) (n : Nat) : Below B a (w.drewN n) := ⟨h.os, h.tape, h.output, h.size, h.block⟩
theorem quiet_same {P : Program} {f : FuncId} {args : Array Value} {w : World} {n : Nat} {v : Value} (h : Calls P f args (w.drewN n) fun e w' => e = .returned v ∧ w.drewN n = w') :
    Calls P f args (w.drewN n) fun e w'' => e = .returned v ∧ ∃ m, w'' = w.drewN m := h.mono fun _ _ ⟨he, hm⟩ => ⟨he, n, hm.symm⟩
theorem at_get {s : ByteArray} {k : Nat} (h : k < s.size) : s.data.toList[k]? = some s[k] := by
  rw [List.getElem?_eq_getElem (by rw [size_toList]; exact h)]; rfl
theorem byte_ne {s : ByteArray} {k : Nat} (hk : k < s.size) (h : ¬ s[k].toNat = 46) : s.data.toList[k]? ≠ some 46 := by
  rw [at_get hk]; intro e; injection e with e; exact h (by rw [e]; rfl)
theorem byte_eq {s : ByteArray} {k : Nat} (hk : k < s.size) (h : s[k].toNat = 46) : s.data.toList[k]? = some 46 := by
  rw [at_get hk, ← UInt8.ofNat_toNat (x := s[k]), h]; rfl

set_option maxHeartbeats 1000000 in
theorem impl_readDate (s : ByteArray) (w : World) (hs : s.size ≤ maxLen) :
    Calls Tryd.prog 61 #[.string s] w fun e w' => e = .returned (.int .i64 (readD s.data.toList)) ∧ Below w.heap.size w w' := by
  unfold maxLen at hs
  by_cases hl : s.size = 10
  · have hlb : ((s.size : Int) != 10) = false := by rw [bne_eq_false_iff_eq]; omega
    have h4 : 4 < s.size := by omega
    have h7 : 7 < s.size := by omega
    have h10 : s.size ≤ 10 := by omega
    have HL := Lib.hid hl
    clear hl
    by_cases e4 : s[4].toNat = 46
    · have b4 : ((s[4].toNat : Int) != 46) = false := by rw [bne_eq_false_iff_eq]; omega
      have E4 := Lib.hid (byte_eq h4 e4)
      clear e4
      by_cases e7 : s[7].toNat = 46
      · have b7 : ((s[7].toNat : Int) != 46) = false := by rw [bne_eq_false_iff_eq]; omega
        have E7 := Lib.hid (byte_eq h7 e7)
        clear e7
        have c1 := Lib.hid (fun w => impl_readPadded (s.extract 0 4) w (by rw [ByteArray.size_extract]; omega))
        have c2 := Lib.hid (fun w => impl_readPadded (s.extract 5 7) w (by rw [ByteArray.size_extract]; omega))
        have c3 := Lib.hid (fun w => impl_readPadded (s.extract 8 s.size) w (by rw [ByteArray.size_extract]; omega))
        rw [Lib.extract_data, List.drop_zero, show 4 - 0 = 4 from rfl] at c1
        rw [Lib.extract_data] at c2 c3
        rw [show 7 - 5 = 2 from rfl] at c2
        rw [List.take_of_length_le (by rw [List.length_drop, size_toList]; omega)] at c3
        have R := Lib.hid (fun a b c => read_whole ((size_toList s).trans HL.out) E4.out E7.out a b c)
        have R' := Lib.hid (fun h => read_part (l := s.data.toList) (.inr (.inr h)))
        generalize rdP (List.take 4 s.data.toList) = Y at *
        generalize rdP (List.take 2 (List.drop 5 s.data.toList)) = M at *
        generalize rdP (List.drop 8 s.data.toList) = D at *
        have hc : (0 ≤ Y ∧ 0 ≤ M ∧ 0 ≤ D) ∨ Y < 0 ∨ (0 ≤ Y ∧ M < 0) ∨ (0 ≤ Y ∧ 0 ≤ M ∧ D < 0) := by omega
        rcases hc with ⟨y0, m0, d0⟩ | y0 | ⟨y0, m0⟩ | ⟨y0, m0, d0⟩
        · go_enter Tryd.func61, Tryd.ntmps61
          go_wp2_with fail
          go_quiet ((first | (go_at_call_of 80 (s.extract 0 4); exact quiet_same (c1.out _)) | (go_at_call_of 80 (s.extract 5 7); exact quiet_same (c2.out _)) | (go_at_call_of 80 (s.extract 8 s.size); exact quiet_same (c3.out _))))
          go_wp2_with fail
          refine (impl_dayNumber _ _ _ _).mono ?_
          rintro e w' ⟨rfl, rfl⟩
          go_wp2
          go_ret
          exact ⟨ret_int (R.out y0 m0 d0).symm, (below_drewN (Below.refl _ _) _)⟩
        all_goals
          have E := Lib.hid (R'.out (by omega))
          go_enter Tryd.func61, Tryd.ntmps61
          go_wp2_with fail
          go_quiet ((first | (go_at_call_of 80 (s.extract 0 4); exact quiet_same (c1.out _)) | (go_at_call_of 80 (s.extract 5 7); exact quiet_same (c2.out _)) | (go_at_call_of 80 (s.extract 8 s.size); exact quiet_same (c3.out _))))
          go_wp2
          go_ret
          exact ⟨ret_int E.out.symm, (below_drewN (Below.refl _ _) _)⟩
      · have b7 : ((s[7].toNat : Int) != 46) = true := by rw [bne_iff_ne]; omega
        have E := Lib.hid (read_part (.inr (.inl (byte_ne h7 e7))))
        clear e7
        go_enter Tryd.func61, Tryd.ntmps61
        go_wp2
        go_ret
        exact ⟨ret_int E.out.symm, Below.refl _ _⟩
    · have b4 : ((s[4].toNat : Int) != 46) = true := by rw [bne_iff_ne]; omega
      have E := Lib.hid (read_part (.inl (byte_ne h4 e4)))
      clear e4
      go_enter Tryd.func61, Tryd.ntmps61
      go_wp2
      go_ret
      exact ⟨ret_int E.out.symm, Below.refl _ _⟩
  · have hlb : ((s.size : Int) != 10) = true := by rw [bne_iff_ne]; omega
    have E := Lib.hid (readD_len (l := s.data.toList) (by rw [size_toList]; exact hl))
    clear hl
    go_enter Tryd.func61, Tryd.ntmps61
    go_wp2
    go_ret
    exact ⟨ret_int E.out.symm, Below.refl _ _⟩

end Go.Proofs.YtldllhfadihmeaaDoor
