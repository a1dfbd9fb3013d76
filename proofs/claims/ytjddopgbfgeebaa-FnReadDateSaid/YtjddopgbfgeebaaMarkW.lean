/- MarkText and ReadMark, the program's and the reference's, compute markT and readM, for every number and every string of at most 2^63 - 1 bytes. -/
import Derived.Test.YtjddopgbfgeebaaMark
import Derived.Test.YtjddopgbfgeebaaText
import Derived.Lib.SmallJoins
import Derived.Lib.Strings
namespace Go.Proofs.Ytjddopgbfgeebaa
open Go.RowKit

theorem ba_eq {s : ByteArray} {l : List UInt8} (h : s.data.toList = l) : s = ⟨l.toArray⟩ := by
  cases s; subst h; rfl
theorem ba_app (a b : ByteArray) : (a ++ b).data.toList = a.data.toList ++ b.data.toList := by simp [ByteArray.data_append]
theorem ret_str {s : ByteArray} {l : List UInt8} (h : s.data.toList = l) : Ending.returned (.string s) = .returned (.string ⟨l.toArray⟩) := by rw [ba_eq h]
theorem digs_all : ∀ r : Fin 36, ((⟨#[48, 49, 50, 51, 52, 53, 54, 55, 56, 57, 97, 98, 99, 100, 101, 102, 103, 104, 105, 106, 107, 108, 109, 110, 111, 112, 113, 114, 115, 116, 117, 118, 119, 120, 121, 122]⟩ : ByteArray).data.toList.drop r.val).take (r.val + 1 - r.val) = [mdig r.val] := by decide
theorem digs_at {r : Nat} (h : r < 36) : ((⟨#[48, 49, 50, 51, 52, 53, 54, 55, 56, 57, 97, 98, 99, 100, 101, 102, 103, 104, 105, 106, 107, 108, 109, 110, 111, 112, 113, 114, 115, 116, 117, 118, 119, 120, 121, 122]⟩ : ByteArray).extract r (r + 1)).data.toList = [mdig r] := by
  rw [Lib.extract_data]; exact digs_all ⟨r, h⟩
/-- What a round of MarkText's loop keeps: the digits ahead, and the text so far, are the mark. -/
def MkTo (n m : Nat) (t : ByteArray) : Prop := ∃ f, f ≤ 6 ∧ m < 36 ^ (f + 1) ∧ hiD f m ++ t.data.toList = mk 7 n
theorem MkTo.start {m : Nat} (h : m ≤ 1000000000) : MkTo m m ((⟨#[48, 49, 50, 51, 52, 53, 54, 55, 56, 57, 97, 98, 99, 100, 101, 102, 103, 104, 105, 106, 107, 108, 109, 110, 111, 112, 113, 114, 115, 116, 117, 118, 119, 120, 121, 122]⟩ : ByteArray).extract (m % 36) (m % 36 + 1)) :=
  ⟨6, by omega, by omega, by rw [digs_at (Nat.mod_lt _ (by omega)), mk_hi]⟩
theorem MkTo.size {n m : Nat} {t : ByteArray} (h : MkTo n m t) : t.size ≤ 7 := by
  obtain ⟨f, _, _, he⟩ := h
  have := mk_len 7 n
  rw [← he, List.length_append, size_toList] at this
  omega
theorem MkTo.next {n m : Nat} {t : ByteArray} (h : MkTo n m t) (hm : 36 ≤ m) : MkTo n (m / 36) ((⟨#[48, 49, 50, 51, 52, 53, 54, 55, 56, 57, 97, 98, 99, 100, 101, 102, 103, 104, 105, 106, 107, 108, 109, 110, 111, 112, 113, 114, 115, 116, 117, 118, 119, 120, 121, 122]⟩ : ByteArray).extract (m / 36 % 36) (m / 36 % 36 + 1) ++ t) := by
  obtain ⟨f, h1, h2, h3⟩ := h
  rcases f with _ | f
  · simp at h2; omega
  · refine ⟨f, by omega, by rw [Nat.pow_succ] at h2; exact Nat.div_lt_of_lt_mul (by omega), ?_⟩
    rw [ba_app, digs_at (Nat.mod_lt _ (by omega)), ← List.append_assoc, ← mk_hi, ← h3]
    unfold hiD
    rw [if_neg (by omega)]
theorem MkTo.done {n m : Nat} {t : ByteArray} (h : MkTo n m t) (hm : m < 36) (hn : n ≤ 1000000000) : t.data.toList = markT (n : Int) := by
  obtain ⟨f, h1, h2, h3⟩ := h
  unfold hiD at h3
  rw [if_pos hm, List.nil_append] at h3
  unfold markT
  rw [if_pos (by omega), Int.toNat_natCast, h3]

set_option maxHeartbeats 400000 in
theorem impl_markText (n : Int) (w : World) :
    Calls Try.prog 27 #[.int .i64 n] w fun e w' => e = .returned (.string ⟨(markT n).toArray⟩) ∧ w = w' := by
  by_cases h0 : 0 ≤ n ∧ n ≤ 1000000000
  · obtain ⟨h0, h1⟩ := h0
    obtain ⟨m0, rfl⟩ := Int.eq_ofNat_of_zero_le h0
    go_enter Try.func27, Try.ntmps27
    go_wp2
    go_loop [0, 3] (fun n t => ∃ (m : Nat) (u : ByteArray), m ≤ m0 ∧ n = .int .i64 m ∧ t = .string u ∧ u.size ≤ 7 ∧ MkTo m0 m u) (fun n _ => (intOf n).toNat)
    case atStart => exact ⟨m0, _, Nat.le_refl _, rfl, rfl, (MkTo.start (by omega)).size, MkTo.start (by omega)⟩
    case round =>
      obtain ⟨m, u, hm, rfl, rfl, hu, hk⟩ := hrel
      by_cases hlt : 36 ≤ m
      · have hs : ∀ r : Nat, ((⟨#[48, 49, 50, 51, 52, 53, 54, 55, 56, 57, 97, 98, 99, 100, 101, 102, 103, 104, 105, 106, 107, 108, 109, 110, 111, 112, 113, 114, 115, 116, 117, 118, 119, 120, 121, 122]⟩ : ByteArray).extract r (r + 1)).size ≤ 36 := fun r => by
          rw [ByteArray.size_extract]; exact Nat.le_trans (Nat.sub_le _ _) (Nat.min_le_right _ _)
        have hs2 := hs (m / 36 % 36)
        clear hs
        go_wp2
        go_round
        case rel => exact ⟨m / 36, _, by omega, by go_num, rfl, (hk.next hlt).size, hk.next hlt⟩
        case measure => simp [intOf]; omega
      · go_wp2
        go_ret
        exact ⟨ret_str (hk.done (by omega) (by omega)), rfl⟩
  · have hn : n < 0 ∨ 1000000000 < n := by omega
    clear h0
    rcases hn with hn | hn
    all_goals
      go_enter Try.func27, Try.ntmps27
      go_wp2
      go_ret
      exact ⟨ret_str (markT_none (by omega)).symm, rfl⟩

set_option maxHeartbeats 400000 in
theorem spec_markText (n : Int) (w : World) :
    Calls Try.prog 26 #[.int .i64 n] w fun e w' => e = .returned (.string ⟨(markT n).toArray⟩) ∧ w = w' := by
  by_cases h0 : 0 ≤ n ∧ n ≤ 1000000000
  · obtain ⟨h0, h1⟩ := h0
    have hb := inB_true h0 h1
    obtain ⟨m0, rfl⟩ := Int.eq_ofNat_of_zero_le h0
    go_enter Try.func26, Try.ntmps26
    go_wp2_with (go_at_call 50; refine (spec_in _ _ _ _).mono ?_; rintro e w' ⟨rfl, rfl⟩)
    go_loop [0, 4] (fun n t => ∃ (m : Nat) (u : ByteArray), m ≤ m0 ∧ n = .int .i64 m ∧ t = .string u ∧ u.size ≤ 7 ∧ MkTo m0 m u) (fun n _ => (intOf n).toNat)
    case atStart => exact ⟨m0, _, Nat.le_refl _, rfl, rfl, (MkTo.start (by omega)).size, MkTo.start (by omega)⟩
    case round =>
      obtain ⟨m, u, hm, rfl, rfl, hu, hk⟩ := hrel
      by_cases hlt : 36 ≤ m
      · have hs : ∀ r : Nat, ((⟨#[48, 49, 50, 51, 52, 53, 54, 55, 56, 57, 97, 98, 99, 100, 101, 102, 103, 104, 105, 106, 107, 108, 109, 110, 111, 112, 113, 114, 115, 116, 117, 118, 119, 120, 121, 122]⟩ : ByteArray).extract r (r + 1)).size ≤ 36 := fun r => by
          rw [ByteArray.size_extract]; exact Nat.le_trans (Nat.sub_le _ _) (Nat.min_le_right _ _)
        have hs2 := hs (m / 36 % 36)
        clear hs
        go_wp2
        go_round
        case rel => exact ⟨m / 36, _, by omega, by go_num, rfl, (hk.next hlt).size, hk.next hlt⟩
        case measure => simp [intOf]; omega
      · go_wp2
        go_ret
        exact ⟨ret_str (hk.done (by omega) (by omega)), rfl⟩
  · have hn : n < 0 ∨ 1000000000 < n := by omega
    have hb : inB n 0 1000000000 = false := inB_not.2 hn
    clear h0
    go_enter Try.func26, Try.ntmps26
    go_wp2_with (go_at_call 50; refine (spec_in _ _ _ _).mono ?_; rintro e w' ⟨rfl, rfl⟩)
    go_ret
    exact ⟨ret_str (markT_none (by omega)).symm, rfl⟩

/-- What a round of ReadMark's loop keeps. -/
def RdTo (s : ByteArray) (k : Nat) (v : Int) : Prop := (s.data.toList.take k).all digB = true ∧ v = mval (s.data.toList.take k)
theorem RdTo.zero (s : ByteArray) : RdTo s 0 0 := by simp [RdTo, mval_nil]
theorem RdTo.next {s : ByteArray} {k : Nat} {v : Int} (h : RdTo s k v) (hk : k < s.size) (hd : 0 ≤ digV (s[k].toNat : Int)) : RdTo s (k + 1) (36 * v + digV (s[k].toNat : Int)) := by
  obtain ⟨h1, rfl⟩ := h
  refine ⟨?_, ?_⟩
  · rw [take_snoc s k hk, List.all_append, h1]; simpa [digB] using hd
  · rw [take_snoc s k hk, mval_snoc]
theorem RdTo.bd {s : ByteArray} {k : Nat} {v : Int} (h : RdTo s k v) (hk : k ≤ 7) : 0 ≤ v ∧ v ≤ 78364164095 := by
  obtain ⟨h1, rfl⟩ := h
  exact mval_bd7 h1 (Nat.le_trans (List.length_take_le _ _) hk)
theorem digB_false {c : UInt8} (h : digV (c.toNat : Int) < 0) : digB c = false := by unfold digB; exact decide_eq_false (by omega)
theorem readM_at {s : ByteArray} {k : Nat} (hk : k < s.size) (h : digV (s[k].toNat : Int) < 0) : readM s.data.toList = -1 := readM_bad (all_bad hk (digB_false h))
theorem readM_len {s : ByteArray} (h : s.size < 1 ∨ 6 < s.size) : readM s.data.toList = -1 := by
  apply readM_no; rw [← Bool.not_eq_true, canonM_iff, size_toList]; omega
theorem readM_lead {s : ByteArray} (h1 : 1 < s.size) (h : s[0].toNat = 48) : readM s.data.toList = -1 := by
  apply readM_no; rw [← Bool.not_eq_true, canonM_iff, size_toList, head_at s (by omega)]
  rintro ⟨_, _, h3, _, _⟩
  rcases h3 with h3 | h3
  · omega
  · apply h3; rw [← UInt8.ofNat_toNat (x := s[0]), h]; rfl
theorem RdTo.great {s : ByteArray} {k : Nat} {v : Int} (h : RdTo s k v) (hk : s.size ≤ k) (hv : 1000000000 < v) : readM s.data.toList = -1 := by
  obtain ⟨h1, rfl⟩ := h
  rw [List.take_of_length_le (by rw [size_toList]; exact hk)] at hv
  apply readM_no; rw [← Bool.not_eq_true, canonM_iff]; omega
theorem RdTo.done {s : ByteArray} {k : Nat} {v : Int} (h : RdTo s k v) (hk : s.size ≤ k) (h1 : 1 ≤ s.size) (h6 : s.size ≤ 6) (hl : 1 < s.size → s[0].toNat ≠ 48) (hv : v ≤ 1000000000) : readM s.data.toList = v := by
  obtain ⟨ha, rfl⟩ := h
  rw [List.take_of_length_le (by rw [size_toList]; exact hk)] at ha hv ⊢
  apply readM_yes; rw [canonM_iff, size_toList, head_at s (by omega)]
  refine ⟨h1, h6, ?_, ha, hv⟩
  rcases Nat.lt_or_ge 1 s.size with h | h
  · right; intro e; injection e with e; exact hl h (by rw [e]; rfl)
  · left; omega
theorem RdTo.same {s : ByteArray} {k : Nat} {v : Int} (h : RdTo s k v) (h7 : k ≤ 7) (hk : s.size ≤ k ∨ 7 ≤ k) : v = mval (s.data.toList.take 7) := by
  obtain ⟨ha, rfl⟩ := h
  rcases hk with hk | hk
  · rw [List.take_of_length_le (by rw [size_toList]; exact hk), List.take_of_length_le (by rw [size_toList]; omega)]
  · obtain rfl : k = 7 := by omega
    rfl

set_option maxHeartbeats 400000 in
theorem impl_readMark (s : ByteArray) (w : World) (hs : s.size ≤ maxLen) :
    Calls Try.prog 33 #[.string s] w fun e w' => e = .returned (.int .i64 (readM s.data.toList)) ∧ w = w' := by
  unfold maxLen at hs
  by_cases hl : s.size < 1 ∨ 6 < s.size
  · have hl2 := hl
    rcases hl with hl | hl
    all_goals
      go_enter Try.func33, Try.ntmps33
      go_wp2
      go_ret
      exact ⟨ret_int (readM_len (by omega)).symm, rfl⟩
  · have h0 : 1 ≤ s.size := by omega
    have h6 : s.size ≤ 6 := by omega
    clear hl
    by_cases hz : 1 < s.size ∧ s[0].toNat = 48
    · obtain ⟨z1, z2⟩ := hz
      have Z2 := Lib.hid z2
      have zb : ((s[0].toNat : Int) == 48) = true := by rw [z2]; rfl
      clear z2
      go_enter Try.func33, Try.ntmps33
      go_wp2
      go_ret
      exact ⟨ret_int (readM_lead z1 Z2.out).symm, rfl⟩
    · have HZ : Hid (1 < s.size → s[0].toNat ≠ 48) := fun a b => hz ⟨a, b⟩
      clear hz
      have key : ∀ W : World, W = w → (1 < s.size → ((s[0].toNat : Int) == 48) = false) := fun _ _ h => by
        rw [beq_eq_false_iff_ne]; have := HZ.out h; omega
      by_cases h1 : 1 < s.size
      all_goals
        first
          | (have zb := key w rfl h1)
          | skip
        clear key
        go_enter Try.func33, Try.ntmps33
        go_wp2
        go_loop [3, 4] (fun n i => ∃ (k : Nat) (v : Int), k ≤ s.size ∧ i = .int .i64 k ∧ n = .int .i64 v ∧ 0 ≤ v ∧ v ≤ 78364164095 ∧ RdTo s k v) (fun _ i => s.size - (intOf i).toNat)
        case atStart => exact ⟨0, 0, by omega, rfl, rfl, by omega, by omega, RdTo.zero s⟩
        case round =>
          obtain ⟨k, v, hk, rfl, rfl, v0, v1, hr⟩ := hrel
          by_cases hlt : k < s.size
          · have hb : (s[k].toNat : Int) ≤ 255 := by have := s[k].toNat_lt; omega
            have hd := digV_bd (s[k].toNat : Int)
            go_wp2_with (go_at_call 52; refine (impl_digitValue _ _ (by omega) (by omega)).mono ?_; rintro e w' ⟨rfl, rfl⟩)
            all_goals first
              | (go_ret; exact ⟨ret_int (readM_at hlt (by assumption)).symm, rfl⟩)
              | (have hn := hr.next hlt (by assumption)
                 have hb2 := hn.bd (by omega)
                 go_round
                 case rel => exact ⟨k + 1, _, by omega, by go_num, by go_num, hb2.1, hb2.2, hn⟩
                 case measure => simp [intOf]; omega)
          · go_wp2
            all_goals first
              | (go_ret; exact ⟨ret_int (hr.great (by omega) (by assumption)).symm, rfl⟩)
              | (go_ret; exact ⟨ret_int (hr.done (by omega) h0 h6 HZ.out (by omega)).symm, rfl⟩)

theorem spec_end_nil {s : ByteArray} (h : s.toList = []) : readM s.data.toList = -1 := by
  rw [ByteArray.toList_eq] at h; rw [h]; decide
theorem spec_end_no {s : ByteArray} {v : Int} (hv : v = mval (s.data.toList.take 7)) (h : s.toList.isEmpty = true ∨ (!markT v == s.toList) = true) : readM s.data.toList = -1 := by
  subst hv
  rcases h with h | h
  · exact spec_end_nil (List.isEmpty_iff.1 h)
  · rw [ByteArray.toList_eq] at h; exact spec_read_no (by simpa using h)
theorem spec_end_yes {s : ByteArray} {v : Int} (hv : v = mval (s.data.toList.take 7)) (h : s.toList.isEmpty = false ∧ (!markT v == s.toList) = false) : readM s.data.toList = v := by
  subst hv
  obtain ⟨h1, h2⟩ := h
  rw [ByteArray.toList_eq] at h1 h2
  exact spec_read_yes (by rw [List.isEmpty_eq_false_iff] at h1; exact h1) (by simpa using h2)

set_option maxHeartbeats 400000 in
theorem spec_readMark (s : ByteArray) (w : World) (hs : s.size ≤ maxLen) :
    Calls Try.prog 32 #[.string s] w fun e w' => e = .returned (.int .i64 (readM s.data.toList)) ∧ w = w' := by
  unfold maxLen at hs
  go_enter Try.func32, Try.ntmps32
  go_wp2
  go_loop [3, 4] (fun n i => ∃ (k : Nat) (v : Int), k ≤ s.size ∧ k ≤ 7 ∧ i = .int .i64 k ∧ n = .int .i64 v ∧ 0 ≤ v ∧ v ≤ 78364164095 ∧ RdTo s k v) (fun _ i => s.size - (intOf i).toNat)
  case atStart => exact ⟨0, 0, by omega, by omega, rfl, rfl, by omega, by omega, RdTo.zero s⟩
  case round =>
    obtain ⟨k, v, hk, hk7, rfl, rfl, v0, v1, hr⟩ := hrel
    by_cases hlt : k < s.size ∧ k < 7
    · obtain ⟨hlt, hlt7⟩ := hlt
      have v2 : v ≤ 2176782335 := by
        obtain ⟨ha, he⟩ := hr
        rw [he]; exact (mval_bd6 ha (Nat.le_trans (List.length_take_le _ _) (by omega))).2
      have hb : (s[k].toNat : Int) ≤ 255 := by have := s[k].toNat_lt; omega
      by_cases hd1 : 48 ≤ (s[k].toNat : Int) ∧ (s[k].toNat : Int) ≤ 57
      · obtain ⟨d1, d2⟩ := hd1
        have hn := hr.next hlt (by rw [digV_num d1 d2]; omega)
        rw [digV_num d1 d2] at hn
        have hb2 := hn.bd (by omega)
        have HN := Lib.hid hn
        clear hn
        go_wp2
        go_round
        case rel => exact ⟨k + 1, _, by omega, by omega, by go_num, by go_num, hb2.1, hb2.2, HN.out⟩
        case measure => simp [intOf]; omega
      · by_cases hd2 : 97 ≤ (s[k].toNat : Int) ∧ (s[k].toNat : Int) ≤ 122
        · obtain ⟨d1, d2⟩ := hd2
          have hn := hr.next hlt (by rw [digV_low d1 d2]; omega)
          rw [digV_low d1 d2] at hn
          have hb2 := hn.bd (by omega)
          have HN := Lib.hid hn
          have hx : decide ((s[k].toNat : Int) ≤ 57) = false := decide_eq_false (by omega)
          clear hn hd1
          go_wp2
          go_round
          case rel => exact ⟨k + 1, _, by omega, by omega, by go_num, by go_num, hb2.1, hb2.2, HN.out⟩
          case measure => simp [intOf]; omega
        · have hneg : digV (s[k].toNat : Int) < 0 := (digV_neg _).2 (by omega)
          have HG := Lib.hid hneg
          clear hneg
          go_wp2
          all_goals first
            | (go_ret; exact ⟨ret_int (readM_at hlt HG.out).symm, rfl⟩)
            | (exfalso; omega)
    · have hv := hr.same hk7 (by omega)
      have HV := Lib.hid hv
      have he : s.size ≤ k ∨ 7 ≤ k := by omega
      clear hv hlt
      rcases he with he | he
      all_goals
        go_wp2_with (go_at_call 26; refine (spec_markText _ _).mono ?_; rintro e w' ⟨rfl, rfl⟩)
        all_goals first
          | (go_ret; exact ⟨ret_int (spec_end_no HV.out (by assumption)).symm, rfl⟩)
          | (go_ret; exact ⟨ret_int (spec_end_yes HV.out (by assumption)).symm, rfl⟩)
          | (go_ret; exact ⟨ret_int (spec_end_nil (by assumption)).symm, rfl⟩)

end Go.Proofs.Ytjddopgbfgeebaa
