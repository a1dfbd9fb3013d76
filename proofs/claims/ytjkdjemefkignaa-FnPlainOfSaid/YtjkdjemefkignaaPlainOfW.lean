/- PlainOf, the program's and the reference's, computes plainT, for every string of at most 2^63 - 1 bytes. -/
import Derived.Test.YtjkdjemefkignaaPlainOf
import Derived.Test.YtjkdjemefkignaaStr
namespace Go.Proofs.Ytjkdjemefkignaa
open Go.RowKit

/-- What a round of the program's loop keeps. -/
def PlTo (s0 s u : ByteArray) : Prop := u.data.toList ++ plainF false s.data.toList = plainF false s0.data.toList
theorem PlTo.start (s : ByteArray) : PlTo s s ⟨#[]⟩ := rfl
theorem PlTo.size {s0 s u : ByteArray} (h : PlTo s0 s u) : u.size ≤ s0.size := by
  have h2 := congrArg List.length (show _ = _ from h)
  rw [List.length_append, size_toList] at h2
  have := (plainF_sub s0.data.toList false).length_le
  rw [size_toList] at this; omega
theorem PlTo.last {s0 s u : ByteArray} (h : PlTo s0 s u) (hn : 60 ∉ s.data.toList) : (u ++ s).data.toList = plainF false s0.data.toList := by
  unfold PlTo at h
  rw [plainF_same _ hn] at h
  rw [ba_app, h]
theorem PlTo.open {s0 s u : ByteArray} {a b : List UInt8} (h : PlTo s0 s u) (hs : s.data.toList = a ++ 60 :: b) (ha : 60 ∉ a) : (u ++ s.extract 0 a.length).data.toList ++ plainF true b = plainF false s0.data.toList := by
  unfold PlTo at h
  rw [hs, plainF_out _ _ ha, plainF_open] at h
  rw [ba_app, take_part hs, List.append_assoc, h]
theorem PlTo.next {s0 u : ByteArray} {b c d : List UInt8} {s' : ByteArray} (h : u.data.toList ++ plainF true b = plainF false s0.data.toList) (hb : b = c ++ 62 :: d) (hc : 62 ∉ c) (hs : s'.data.toList = d) : PlTo s0 s' u := by
  unfold PlTo
  rw [hb, plainF_in _ _ hc] at h
  rw [hs, h]
theorem PlTo.stop {s0 u : ByteArray} {b : List UInt8} (h : u.data.toList ++ plainF true b = plainF false s0.data.toList) (hb : 62 ∉ b) : u.data.toList = plainF false s0.data.toList := by
  rw [plainF_end _ hb, List.append_nil] at h; exact h

set_option maxHeartbeats 1000000 in
theorem impl_plainOf (s0 : ByteArray) (w : World) (hs : s0.size ≤ maxLen) :
    Calls Try.prog 10 #[.string s0] w fun e w' => e = .returned (.string ⟨(plainT s0.data.toList).toArray⟩) ∧ w = w' := by
  have c0 := Lib.hid (fun w => impl_textValid s0 w hs)
  cases hv : textV s0.data.toList
  · rw [hv] at c0
    have E := Lib.hid (plainT_no hv)
    go_enter Try.func10, Try.ntmps10
    go_wp2_with fail
    refine (c0.out _).mono ?_
    rintro e w' ⟨rfl, rfl⟩
    go_wp2
    go_ret
    exact ⟨ret_str E.out.symm, rfl⟩
  · rw [hv] at c0
    have E := Lib.hid (plainT_yes hv)
    have h80 : s0.size ≤ 80 := by
      simp only [textV, Bool.and_eq_true, decide_eq_true_eq, size_toList] at hv; exact hv.1
    clear hv
    go_enter Try.func10, Try.ntmps10
    go_wp2_with fail
    refine (c0.out _).mono ?_
    rintro e w' ⟨rfl, rfl⟩
    go_wp2
    go_loop [0, 3] (fun a t => ∃ (s u : ByteArray), a = .string s ∧ t = .string u ∧ s.size ≤ 80 ∧ PlTo s0 s u) (fun a _ => (strLen a))
    case atStart => exact ⟨s0, ⟨#[]⟩, rfl, rfl, h80, PlTo.start s0⟩
    case round =>
      obtain ⟨s, u, rfl, rfl, hs8, hp⟩ := hrel
      have hu := hp.size
      rcases indexB s.data.toList 60 with ⟨h1, h2⟩ | ⟨a, b, h1, h2, h3⟩
      · have c1 := Lib.hid (fun w => indexByte_any s 60 w)
        rw [show (60 : Int).toNat.toUInt8 = 60 from rfl, h1] at c1
        have F := Lib.hid (hp.last h2)
        clear h1 h2
        go_wp2_with fail
        refine (c1.out _).mono ?_
        rintro e w' ⟨rfl, rfl⟩
        go_wp2
        go_ret
        exact ⟨ret_str (F.out.trans E.out.symm), rfl⟩
      · obtain ⟨n, hn⟩ : ∃ n, n = a.length := ⟨_, rfl⟩
        have hsz : a.length < s.size := by rw [← size_toList, h1, List.length_append, List.length_cons]; omega
        have c1 := Lib.hid (fun w => indexByte_any s 60 w)
        rw [show (60 : Int).toNat.toUInt8 = 60 from rfl, h3, ← hn] at c1
        have d1 := drop_part h1
        have F := Lib.hid (hp.open h1 h2)
        rw [← hn] at d1 F hsz
        have hz : (u ++ s.extract 0 n).size ≤ 160 := by rw [ByteArray.size_append, ByteArray.size_extract]; omega
        have c2 := Lib.hid (fun w => indexByte_any (s.extract n s.size) 62 w)
        rw [d1, show (62 : Int).toNat.toUInt8 = 62 from rfl] at c2
        clear h3 hp
        rcases indexB (60 :: b) 62 with ⟨k1, k2⟩ | ⟨c, d, k1, k2, k3⟩
        · rw [k1] at c2
          have G := Lib.hid (PlTo.stop F.out (fun e => k2 (List.mem_cons_of_mem _ e)))
          clear k1 k2 h1 h2 d1 hn
          go_wp2_with fail
          refine (c1.out _).mono ?_
          rintro e w' ⟨rfl, rfl⟩
          go_wp2_with fail
          refine (c2.out _).mono ?_
          rintro e w' ⟨rfl, rfl⟩
          go_wp2
          go_ret
          exact ⟨ret_str (G.out.trans E.out.symm), rfl⟩
        · obtain ⟨m, hm⟩ : ∃ m, m = c.length := ⟨_, rfl⟩
          rw [k3, ← hm] at c2
          obtain ⟨c', rfl⟩ : ∃ c', c = 60 :: c' := by
            cases c with
            | nil => simp at k1
            | cons x c' => simp at k1; exact ⟨c', by rw [k1.1]⟩
          have hb : b = c' ++ 62 :: d := by simpa using k1
          have hs2 : s.data.toList = (a ++ 60 :: c' ++ [62]) ++ d := by rw [h1, hb]; simp
          have d2 := drop_part hs2
          have hl2 : (a ++ 60 :: c' ++ [62]).length = n + m + 1 := by rw [hm, hn]; simp; omega
          rw [hl2] at d2
          have hlt2 : n + m < s.size := by
            have := congrArg List.length hs2
            rw [size_toList, List.length_append, hl2] at this; omega
          have G := Lib.hid (PlTo.next F.out hb (fun e => k2 (List.mem_cons_of_mem _ e)) d2)
          have hz2 : (s.extract (n + m + 1) s.size).size ≤ 80 := by rw [ByteArray.size_extract]; omega
          have hz3 : (s.extract (n + m + 1) s.size).size < s.size := by rw [ByteArray.size_extract]; omega
          clear k1 k2 k3 h1 h2 d1 d2 hn hm hb hs2 hl2
          go_wp2_with fail
          refine (c1.out _).mono ?_
          rintro e w' ⟨rfl, rfl⟩
          go_wp2_with fail
          refine (c2.out _).mono ?_
          rintro e w' ⟨rfl, rfl⟩
          go_wp2
          go_round
          case rel => exact ⟨_, _, rfl, rfl, hz2, G.out⟩
          case measure => simpa [strLen] using hz3

/-- What a round of the reference's loop keeps. -/
def SpTo (s : ByteArray) (k : Nat) (b : Bool) (u : ByteArray) : Prop := u.size ≤ k ∧ u.data.toList ++ plainF b (s.data.toList.drop k) = plainF false s.data.toList
theorem SpTo.start (s : ByteArray) : SpTo s 0 false ⟨#[]⟩ := ⟨by decide, rfl⟩
theorem drop_at (s : ByteArray) (k : Nat) (h : k < s.size) : s.data.toList.drop k = s[k] :: s.data.toList.drop (k + 1) := by
  rw [List.drop_eq_getElem_cons (by rw [size_toList]; exact h)]; rfl
theorem SpTo.shut {s : ByteArray} {k : Nat} {u : ByteArray} (h : SpTo s k true u) (hk : k < s.size) (hc : s[k].toNat = 62) : SpTo s (k + 1) false u := by
  obtain ⟨h1, h2⟩ := h
  have : s[k] = 62 := by rw [← UInt8.toNat_inj, hc]; rfl
  rw [drop_at s k hk, this, plainF, if_pos rfl] at h2
  exact ⟨by omega, h2⟩
theorem SpTo.skip {s : ByteArray} {k : Nat} {u : ByteArray} (h : SpTo s k true u) (hk : k < s.size) (hc : s[k].toNat ≠ 62) : SpTo s (k + 1) true u := by
  obtain ⟨h1, h2⟩ := h
  have : s[k] ≠ 62 := fun e => hc (by rw [e]; rfl)
  rw [drop_at s k hk, plainF, if_neg this] at h2
  exact ⟨by omega, h2⟩
theorem SpTo.opens {s : ByteArray} {k : Nat} {u : ByteArray} (h : SpTo s k false u) (hk : k < s.size) (hc : s[k].toNat = 60) : SpTo s (k + 1) true u := by
  obtain ⟨h1, h2⟩ := h
  have : s[k] = 60 := by rw [← UInt8.toNat_inj, hc]; rfl
  rw [drop_at s k hk, this, plainF, if_pos rfl] at h2
  exact ⟨by omega, h2⟩
theorem one_byte (s : ByteArray) (k : Nat) (hk : k < s.size) : (s.extract k (k + 1)).data.toList = [s[k]] := by
  rw [Lib.extract_data, drop_at s k hk, show k + 1 - k = 1 from by omega]; rfl
theorem SpTo.keep {s : ByteArray} {k : Nat} {u : ByteArray} (h : SpTo s k false u) (hk : k < s.size) (hc : s[k].toNat ≠ 60) : SpTo s (k + 1) false (u ++ s.extract k (k + 1)) := by
  obtain ⟨h1, h2⟩ := h
  have : s[k] ≠ 60 := fun e => hc (by rw [e]; rfl)
  rw [drop_at s k hk, plainF, if_neg this] at h2
  refine ⟨by rw [ByteArray.size_append, ByteArray.size_extract]; omega, ?_⟩
  rw [ba_app, one_byte s k hk, List.append_assoc]; exact h2
theorem SpTo.done {s : ByteArray} {k : Nat} {b : Bool} {u : ByteArray} (h : SpTo s k b u) (hk : s.size ≤ k) : u.data.toList = plainF false s.data.toList := by
  obtain ⟨h1, h2⟩ := h
  rw [List.drop_of_length_le (by rw [size_toList]; exact hk), plainF_nil, List.append_nil] at h2
  exact h2

set_option maxHeartbeats 1000000 in
theorem spec_plainOf (s : ByteArray) (w : World) (hs : s.size ≤ maxLen) :
    Calls Try.prog 9 #[.string s] w fun e w' => e = .returned (.string ⟨(plainT s.data.toList).toArray⟩) ∧ w = w' := by
  have c0 := Lib.hid (fun w => spec_textValid s w hs)
  cases hv : textV s.data.toList
  · rw [hv] at c0
    have E := Lib.hid (plainT_no hv)
    unfold maxLen at hs
    go_enter Try.func9, Try.ntmps9
    go_wp2
    go_loop [3, 4, 5] (fun o b i => o = .string ⟨#[]⟩ ∧ b = .bool false ∧ i = .int .i64 0) (fun _ _ _ => 0)
    case atStart => exact ⟨rfl, rfl, rfl⟩
    case round =>
      obtain ⟨rfl, rfl, rfl⟩ := hrel
      by_cases h0 : 0 < s.size
      · go_wp2_with fail
        refine (c0.out _).mono ?_
        rintro e w' ⟨rfl, rfl⟩
        go_wp2
        go_ret
        exact ⟨ret_str E.out.symm, rfl⟩
      · go_wp2
        go_ret
        exact ⟨ret_str E.out.symm, rfl⟩
  · rw [hv] at c0
    have E := Lib.hid (plainT_yes hv)
    have h80 : s.size ≤ 80 := by
      simp only [textV, Bool.and_eq_true, decide_eq_true_eq, size_toList] at hv; exact hv.1
    clear hv hs
    go_enter Try.func9, Try.ntmps9
    go_wp2
    go_loop [3, 4, 5] (fun o b i => ∃ (k : Nat) (c : Bool) (u : ByteArray), o = .string u ∧ b = .bool c ∧ i = .int .i64 k ∧ k ≤ s.size ∧ SpTo s k c u) (fun _ _ i => s.size - (intOf i).toNat)
    case atStart => exact ⟨0, false, ⟨#[]⟩, rfl, rfl, rfl, by omega, SpTo.start s⟩
    case round =>
      obtain ⟨k, c, u, rfl, rfl, rfl, hk, hp⟩ := hrel
      have hu := hp.1
      by_cases hlt : k < s.size
      · have hx : (s.extract k (k + 1)).size = 1 := by rw [ByteArray.size_extract]; omega
        cases c
        · by_cases h60 : s[k].toNat = 60
          · have H := Lib.hid (hp.opens hlt h60)
            have hb : ((s[k].toNat : Int) == 60) = true := by rw [beq_iff_eq]; omega
            clear hp h60
            go_wp2_with fail
            refine (c0.out _).mono ?_
            rintro e w' ⟨rfl, rfl⟩
            go_wp2
            go_round
            case rel => exact ⟨k + 1, _, _, rfl, rfl, by go_num, by omega, H.out⟩
            case measure => simp [intOf]; omega
          · have H := Lib.hid (hp.keep hlt h60)
            have hb : ((s[k].toNat : Int) == 60) = false := by rw [beq_eq_false_iff_ne]; omega
            clear hp h60
            go_wp2_with fail
            refine (c0.out _).mono ?_
            rintro e w' ⟨rfl, rfl⟩
            go_wp2
            all_goals
              go_round
              case rel => exact ⟨k + 1, _, _, rfl, rfl, by go_num, by omega, H.out⟩
              case measure => simp [intOf]; omega
        · by_cases h62 : s[k].toNat = 62
          · have H := Lib.hid (hp.shut hlt h62)
            have hb : ((s[k].toNat : Int) == 62) = true := by rw [beq_iff_eq]; omega
            have hb2 : ((s[k].toNat : Int) == 60) = false := by rw [beq_eq_false_iff_ne]; omega
            clear hp h62
            go_wp2_with fail
            refine (c0.out _).mono ?_
            rintro e w' ⟨rfl, rfl⟩
            go_wp2
            go_round
            case rel => exact ⟨k + 1, _, _, rfl, rfl, by go_num, by omega, H.out⟩
            case measure => simp [intOf]; omega
          · have H := Lib.hid (hp.skip hlt h62)
            have hb : ((s[k].toNat : Int) == 62) = false := by rw [beq_eq_false_iff_ne]; omega
            clear hp h62
            go_wp2_with fail
            refine (c0.out _).mono ?_
            rintro e w' ⟨rfl, rfl⟩
            go_wp2
            all_goals
              go_round
              case rel => exact ⟨k + 1, _, _, rfl, rfl, by go_num, by omega, H.out⟩
              case measure => simp [intOf]; omega
      · have F := Lib.hid (hp.done (by omega))
        clear hp
        go_wp2
        go_ret
        exact ⟨ret_str (F.out.trans E.out.symm), rfl⟩
end Go.Proofs.Ytjkdjemefkignaa
