/- TextValid, WordValid and digitValue, the program's and the reference's, compute textV, wordV and digV, for every string of at most 2^63 - 1 bytes. -/
import Derived.Test.YtldllhfadihmeaaPlain
import Derived.Test.YtldllhfadihmeaaRows
import Derived.WalkKit
import Derived.WalkSpells
import Derived.WalkLawsBesides
import Derived.Lib.Hide
import Derived.Lib.Strings
namespace Go.Proofs.Ytldllhfadihmeaa
open Go.RowKit

theorem ret_bool {a b : Bool} (h : a = b) : Ending.returned (.bool a) = .returned (.bool b) := by rw [h]
theorem ret_int {k : IntKind} {a b : Int} (h : a = b) : Ending.returned (.int k a) = .returned (.int k b) := by rw [h]

set_option maxHeartbeats 400000 in
theorem impl_textValid (s : ByteArray) (w : World) (hs : s.size ≤ maxLen) :
    Calls Try.prog 58 #[.string s] w fun e w' => e = .returned (.bool (textV s.data.toList)) ∧ w = w' := by
  unfold maxLen at hs
  by_cases hl : 80 < s.size
  · go_enter Try.func58, Try.ntmps58
    go_wp2
    go_ret
    exact ⟨(ret_bool (textV_long hl)).symm, rfl⟩
  · go_enter Try.func58, Try.ntmps58
    go_wp2
    go_loop [3] (fun i => ∃ k : Nat, k ≤ s.size ∧ i = .int .i64 k ∧ AllTo okB s k) (fun i => s.size - (intOf i).toNat)
    case atStart => exact ⟨0, Nat.zero_le _, rfl, AllTo.zero _ s⟩
    case round =>
      obtain ⟨k, hk, rfl, ho⟩ := hrel
      by_cases hlt : k < s.size
      · go_wp2
        all_goals first
          | (go_ret; exact ⟨ret_bool (textV_bad hlt (by omega)).symm, rfl⟩)
          | (go_round
             case rel => exact ⟨k + 1, by omega, by go_num, ho.next hlt (okB_true (by omega) (by omega))⟩
             case measure => simp [intOf]; omega)
      · go_wp2
        go_ret
        exact ⟨ret_bool (by rw [textV_done ho (by omega)]; exact (decide_eq_true (by omega)).symm), rfl⟩

set_option maxHeartbeats 400000 in
theorem spec_textValid (s : ByteArray) (w : World) (hs : s.size ≤ maxLen) :
    Calls Try.prog 55 #[.string s] w fun e w' => e = .returned (.bool (textV s.data.toList)) ∧ w = w' := by
  unfold maxLen at hs
  go_enter Try.func55, Try.ntmps55
  go_wp2
  go_loop [3] (fun i => ∃ k : Nat, k ≤ s.size ∧ i = .int .i64 k ∧ AllTo okB s k) (fun i => s.size - (intOf i).toNat)
  case atStart => exact ⟨0, Nat.zero_le _, rfl, AllTo.zero _ s⟩
  case round =>
    obtain ⟨k, hk, rfl, ho⟩ := hrel
    by_cases hlt : k < s.size
    · go_wp2
      all_goals first
        | (go_ret; exact ⟨ret_bool (textV_bad hlt (by omega)).symm, rfl⟩)
        | (go_round
           case rel => exact ⟨k + 1, by omega, by go_num, ho.next hlt (okB_true (by omega) (by omega))⟩
           case measure => simp [intOf]; omega)
    · go_wp2
      go_ret
      exact ⟨ret_bool (by rw [textV_done ho (by omega)]; exact decide_eq_decide.2 (by omega)), rfl⟩

set_option maxHeartbeats 400000 in
theorem impl_digitValue (c : Int) (w : World) (h0 : 0 ≤ c) (h1 : c ≤ 255) :
    Calls Try.prog 72 #[.int .u8 c] w fun e w' => e = .returned (.int .i64 (digV c)) ∧ w = w' := by
  by_cases ha : 48 ≤ c ∧ c ≤ 57
  · obtain ⟨h2, h3⟩ := ha
    go_enter Try.func72, Try.ntmps72
    go_wp2
    go_ret
    exact ⟨(ret_int (digV_num h2 h3)).symm, rfl⟩
  · by_cases hb : 97 ≤ c ∧ c ≤ 122
    · obtain ⟨h2, h3⟩ := hb
      go_enter Try.func72, Try.ntmps72
      go_wp2
      go_ret
      exact ⟨(ret_int ((digV_low h2 h3).trans (by omega))).symm, rfl⟩
    · go_enter Try.func72, Try.ntmps72
      go_wp2
      all_goals first
        | (exfalso; omega)
        | (go_ret; exact ⟨(ret_int (digV_none (by omega))).symm, rfl⟩)

set_option maxHeartbeats 400000 in
theorem impl_wordValid (s : ByteArray) (w : World) (hs : s.size ≤ maxLen) :
    Calls Try.prog 57 #[.string s] w fun e w' => e = .returned (.bool (wordV s.data.toList)) ∧ w = w' := by
  unfold maxLen at hs
  by_cases hl : s.size < 1 ∨ 8 < s.size
  · rcases hl with h1 | h1
    all_goals
      go_enter Try.func57, Try.ntmps57
      go_wp2
      go_ret
      exact ⟨ret_bool (wordV_size (by omega)).symm, rfl⟩
  · have h0 : 0 < s.size := by omega
    have h8 : s.size ≤ 8 := by omega
    clear hl
    by_cases hc : 97 ≤ (s[0].toNat : Int) ∧ (s[0].toNat : Int) ≤ 122
    · obtain ⟨c1, c2⟩ := hc
      go_enter Try.func57, Try.ntmps57
      go_wp2
      go_loop [3] (fun i => ∃ k : Nat, 1 ≤ k ∧ k ≤ s.size ∧ i = .int .i64 k ∧ AllTo lodB s k) (fun i => s.size - (intOf i).toNat)
      case atStart => exact ⟨1, by omega, by omega, rfl, (AllTo.zero _ s).next h0 (lodB_true (by omega))⟩
      case round =>
        obtain ⟨k, hk1, hk, rfl, ho⟩ := hrel
        by_cases hlt : k < s.size
        · have hb : (s[k].toNat : Int) ≤ 255 := by have := s[k].toNat_lt; omega
          go_wp2_with (go_at_call 72; refine (impl_digitValue _ _ (by omega) (by omega)).mono ?_; rintro e w' ⟨rfl, rfl⟩)
          all_goals first
            | (go_ret; exact ⟨ret_bool (wordV_bad hlt ((digV_neg _).1 (by assumption))).symm, rfl⟩)
            | (go_round
               case rel => exact ⟨k + 1, by omega, by omega, by go_num, ho.next hlt (lodB_true (digV_pos (by assumption)))⟩
               case measure => simp [intOf]; omega)
        · go_wp2
          go_ret
          exact ⟨ret_bool (by rw [wordV_done ho (by omega) h0 ⟨c1, c2⟩]; exact (decide_eq_true (by omega)).symm), rfl⟩
    · go_enter Try.func57, Try.ntmps57
      go_wp2
      all_goals first
        | (go_ret; exact ⟨ret_bool (wordV_head h0 (by omega)).symm, rfl⟩)
        | (exfalso; omega)

/-- The first byte is a small letter, if one was looked at. -/
def HeadLow (s : ByteArray) (k : Nat) : Prop := 0 < k → ∃ h : 0 < s.size, 97 ≤ (s[0].toNat : Int) ∧ (s[0].toNat : Int) ≤ 122
theorem HeadLow.next {s : ByteArray} {k : Nat} (h : HeadLow s k) (hk : k < s.size) (h1 : k = 0 → 97 ≤ (s[k].toNat : Int) ∧ (s[k].toNat : Int) ≤ 122) : HeadLow s (k + 1) := by
  intro _
  rcases Nat.eq_zero_or_pos k with rfl | hp
  · exact ⟨hk, h1 rfl⟩
  · exact h hp
theorem wordV_first {s : ByteArray} {k : Nat} (hk : k < s.size) (h0 : k = 0) (h : ¬ (97 ≤ (s[k].toNat : Int) ∧ (s[k].toNat : Int) ≤ 122)) : wordV s.data.toList = false := by
  subst h0; exact wordV_head hk h
theorem wordV_end {s : ByteArray} {k : Nat} (h : AllTo lodB s k) (hh : HeadLow s k) (hk : s.size = k) : wordV s.data.toList = inB s.size 1 8 := by
  rcases Nat.eq_zero_or_pos k with rfl | hp
  · rw [wordV_size (by omega)]; exact (inB_low (by omega)).symm
  · obtain ⟨h0, hl⟩ := hh hp
    rw [wordV_done h (by omega) h0 hl]; unfold inB; rw [decide_eq_true (p := (1 : Int) ≤ s.size) (by omega), Bool.true_and]; exact decide_eq_decide.2 (by omega)

set_option maxHeartbeats 400000 in
theorem spec_in (n lo hi : Int) (w : World) :
    Calls Try.prog 70 #[.int .i64 n, .int .i64 lo, .int .i64 hi] w fun e w' => e = .returned (.bool (inB n lo hi)) ∧ w = w' := by
  by_cases h1 : lo ≤ n
  · by_cases h2 : n ≤ hi
    all_goals
      go_enter Try.func70, Try.ntmps70
      go_wp2
      go_ret
      exact ⟨ret_bool (by first | exact (inB_true h1 h2).symm | exact (inB_high (by omega)).symm), rfl⟩
  · go_enter Try.func70, Try.ntmps70
    go_wp2
    go_ret
    exact ⟨ret_bool (inB_low (by omega)).symm, rfl⟩

set_option maxHeartbeats 400000 in
theorem spec_wordValid (s : ByteArray) (w : World) (hs : s.size ≤ maxLen) :
    Calls Try.prog 54 #[.string s] w fun e w' => e = .returned (.bool (wordV s.data.toList)) ∧ w = w' := by
  unfold maxLen at hs
  go_enter Try.func54, Try.ntmps54
  go_wp2
  go_loop [3] (fun i => ∃ k : Nat, k ≤ s.size ∧ i = .int .i64 k ∧ AllTo lodB s k ∧ HeadLow s k) (fun i => s.size - (intOf i).toNat)
  case atStart => exact ⟨0, by omega, rfl, AllTo.zero _ s, fun h => absurd h (by omega)⟩
  case round =>
    obtain ⟨k, hk, rfl, ho, hh⟩ := hrel
    by_cases hlt : k < s.size
    · by_cases hc : 97 ≤ (s[k].toNat : Int) ∧ (s[k].toNat : Int) ≤ 122
      · obtain ⟨c1, c2⟩ := hc
        go_wp2
        go_round
        case rel => exact ⟨k + 1, by omega, by go_num, ho.next hlt (lodB_true (by omega)), hh.next hlt (fun _ => ⟨c1, c2⟩)⟩
        case measure => simp [intOf]; omega
      · have hn : (s[k].toNat : Int) < 97 ∨ 122 < (s[k].toNat : Int) := by omega
        clear hc
        rcases Nat.eq_zero_or_pos k with h0 | h0
        · have H0 := Lib.hid h0
          have hb : ((k : Int) == 0) = true := by rw [h0]; rfl
          clear h0
          rcases hn with hn | hn
          · have hx : decide (97 ≤ (s[k].toNat : Int)) = false := decide_eq_false (by omega)
            go_wp2
            go_ret
            exact ⟨ret_bool (wordV_first hlt H0.out (by omega)).symm, rfl⟩
          · have hx : decide ((s[k].toNat : Int) ≤ 122) = false := decide_eq_false (by omega)
            go_wp2
            go_ret
            exact ⟨ret_bool (wordV_first hlt H0.out (by omega)).symm, rfl⟩
        · have hb : ((k : Int) == 0) = false := by rw [beq_eq_false_iff_ne]; omega
          by_cases hd : 48 ≤ (s[k].toNat : Int) ∧ (s[k].toNat : Int) ≤ 57
          · obtain ⟨d1, d2⟩ := hd
            have d3 : (s[k].toNat : Int) < 97 := by omega
            clear hn
            go_wp2
            go_round
            case rel => exact ⟨k + 1, by omega, by go_num, ho.next hlt (lodB_true (by omega)), hh.next hlt (fun h => absurd h (by omega))⟩
            case measure => simp [intOf]; omega
          · have hm : (s[k].toNat : Int) < 48 ∨ (57 < (s[k].toNat : Int) ∧ (s[k].toNat : Int) < 97) ∨ 122 < (s[k].toNat : Int) := by omega
            clear hd hn
            rcases hm with hm | ⟨hm, hm2⟩ | hm
            · go_wp2
              go_ret
              exact ⟨ret_bool (wordV_bad hlt (by omega)).symm, rfl⟩
            · go_wp2
              go_ret
              exact ⟨ret_bool (wordV_bad hlt (by omega)).symm, rfl⟩
            · have hx : decide ((s[k].toNat : Int) ≤ 122) = false := decide_eq_false (by omega)
              go_wp2
              go_ret
              exact ⟨ret_bool (wordV_bad hlt (by omega)).symm, rfl⟩
    · have he : s.size = k := by omega
      have HE := Lib.hid he
      clear he
      go_wp2_with (go_at_call 70; refine (spec_in _ _ _ _).mono ?_; rintro e w' ⟨rfl, rfl⟩)
      go_ret
      exact ⟨ret_bool (wordV_end ho hh HE.out).symm, rfl⟩

end Go.Proofs.Ytldllhfadihmeaa
