/- EscapeText, the program's and the reference's, computes escT, for every string of at most 2^63 - 1 bytes. -/
import Derived.Test.YtldllhfadihmeaaDoorEscW
namespace Go.Proofs.YtldllhfadihmeaaDoor
open Go.RowKit

/-- The name of a byte, or nothing. -/
def nameI (c : Int) : List UInt8 := if c = 38 then ampN else if c = 60 then ltN else if c = 62 then gtN else if c = 34 then quotN else []
theorem nameI_none {c : Int} (h1 : c ≠ 38) (h2 : c ≠ 60) (h3 : c ≠ 62) (h4 : c ≠ 34) : nameI c = [] := by
  unfold nameI; rw [if_neg h1, if_neg h2, if_neg h3, if_neg h4]

set_option maxHeartbeats 1000000 in
theorem spec_l3Name (c : Int) (w : World) :
    Calls Tryd.prog 83 #[.int .u8 c] w fun e w' => e = .returned (.string ⟨(nameI c).toArray⟩) ∧ w = w' := by
  by_cases h1 : c = 38
  · subst h1
    go_enter Tryd.func83, Tryd.ntmps83
    go_wp2
    go_ret
    exact ⟨rfl, rfl⟩
  by_cases h2 : c = 60
  · subst h2
    go_enter Tryd.func83, Tryd.ntmps83
    go_wp2
    go_ret
    exact ⟨rfl, rfl⟩
  by_cases h3 : c = 62
  · subst h3
    go_enter Tryd.func83, Tryd.ntmps83
    go_wp2
    go_ret
    exact ⟨rfl, rfl⟩
  by_cases h4 : c = 34
  · subst h4
    go_enter Tryd.func83, Tryd.ntmps83
    go_wp2
    go_ret
    exact ⟨rfl, rfl⟩
  have E := Lib.hid (nameI_none h1 h2 h3 h4)
  have b1 : (c == 38) = false := beq_eq_false_iff_ne.2 h1
  have b2 : (c == 60) = false := beq_eq_false_iff_ne.2 h2
  have b3 : (c == 62) = false := beq_eq_false_iff_ne.2 h3
  have b4 : (c == 34) = false := beq_eq_false_iff_ne.2 h4
  clear h1 h2 h3 h4
  go_enter Tryd.func83, Tryd.ntmps83
  go_wp2
  go_ret
  exact ⟨ret_str E.out.symm, rfl⟩

/-- What a round of EscapeText's loop keeps. -/
def EcTo (s : ByteArray) (k : Nat) (u : ByteArray) : Prop := u.data.toList = esc (s.data.toList.take k)
theorem EcTo.zero (s : ByteArray) : EcTo s 0 ⟨#[]⟩ := by simp [EcTo, esc]
theorem EcTo.next {s u : ByteArray} {k : Nat} (h : EcTo s k u) (hk : k < s.size) {v : ByteArray} (hv : v.data.toList = escB s[k]) : EcTo s (k + 1) (u ++ v) := by
  unfold EcTo at *
  rw [take_snoc s k hk, esc_snoc, ba_app, h, hv]
theorem EcTo.done {s u : ByteArray} {k : Nat} (h : EcTo s k u) (hk : s.size ≤ k) : u.data.toList = esc s.data.toList := by
  unfold EcTo at h
  rwa [List.take_of_length_le (by rw [size_toList]; exact hk)] at h
theorem EcTo.size {s u : ByteArray} {k : Nat} (h : EcTo s k u) : u.size ≤ 6 * k := by
  rw [← size_toList, show u.data.toList = _ from h]
  have := (esc_len (s.data.toList.take k)).2
  have h2 := List.length_take_le k s.data.toList
  omega
theorem textV_size {s : ByteArray} (h : textV s.data.toList = true) : s.size ≤ 80 := by
  have := textV_len h; rwa [size_toList] at this

set_option maxHeartbeats 1000000 in
theorem impl_escapeText (s : ByteArray) (w : World) (hs : s.size ≤ maxLen) (hE : EscAt w) :
    Calls Tryd.prog 75 #[.string s] w fun e w' => e = .returned (.string ⟨(escT s.data.toList).toArray⟩) ∧ Below w.heap.size w w' := by
  have c0 := Lib.hid (fun w => impl_textValid s w hs)
  have HE := Lib.hid hE
  clear hE
  cases hv : textV s.data.toList
  · rw [hv] at c0
    have E := Lib.hid (escT_no hv)
    go_enter Tryd.func75, Tryd.ntmps75
    go_wp2_with fail
    refine (c0.out _).mono ?_
    rintro e w' ⟨rfl, rfl⟩
    go_wp2
    go_ret
    exact ⟨ret_str E.out.symm, Below.refl _ _⟩
  · rw [hv] at c0
    have E := Lib.hid (escT_yes hv)
    have h80 := textV_size hv
    clear hv hs
    go_enter Tryd.func75, Tryd.ntmps75
    go_wp2_with fail
    refine (c0.out _).mono ?_
    rintro e w' ⟨rfl, rfl⟩
    go_wp2
    go_loopw [3, 4] (fun t i wr => ∃ (k : Nat) (u : ByteArray), t = .string u ∧ i = .int .i64 k ∧ k ≤ s.size ∧ EcTo s k u ∧ Below w.heap.size w wr) (fun _ i _ => s.size - (intOf i).toNat)
    case atStart => exact ⟨0, ⟨#[]⟩, rfl, rfl, by omega, EcTo.zero s, Below.refl _ _⟩
    case round =>
      obtain ⟨k, u, rfl, rfl, hk, ho, hbr⟩ := hrel
      by_cases hlt : k < s.size
      · have hu := ho.size
        have HO := Lib.hid (ho.next hlt (v := ⟨(escB s[k]).toArray⟩) rfl)
        have c1 := Lib.hid (fun w h => impl_escapedByte s[k] w h)
        have HW := Lib.hid (HE.out.old hbr)
        have hz : (⟨(escB s[k]).toArray⟩ : ByteArray).size ≤ 6 := by rw [size_of_list]; exact (escB_len _).2
        generalize (⟨(escB s[k]).toArray⟩ : ByteArray) = v at *
        clear ho
        go_wp2_with fail
        refine (c1.out _ HW.out).mono ?_
        rintro e w2 ⟨rfl, hb2⟩
        go_wp2
        go_roundw
        case rel => exact ⟨k + 1, _, rfl, by go_num, by omega, HO.out, hbr.trans (hb2.mono hbr.size)⟩
        case measure => simp [intOf]; omega
      · have F := Lib.hid (ho.done (by omega))
        go_wp2
        go_ret
        exact ⟨ret_str (F.out.trans E.out.symm), hbr⟩

set_option maxHeartbeats 2000000 in
theorem spec_escapeText (s : ByteArray) (w : World) (hs : s.size ≤ maxLen) :
    Calls Tryd.prog 72 #[.string s] w fun e w' => e = .returned (.string ⟨(escT s.data.toList).toArray⟩) ∧ w = w' := by
  have c0 := Lib.hid (fun w => spec_textValid s w hs)
  cases hv : textV s.data.toList
  · rw [hv] at c0
    have E := Lib.hid (escT_no hv)
    unfold maxLen at hs
    go_enter Tryd.func72, Tryd.ntmps72
    go_wp2
    go_loop [3, 4] (fun o i => o = .string ⟨#[]⟩ ∧ i = .int .i64 0) (fun _ _ => 0)
    case atStart => exact ⟨rfl, rfl⟩
    case round =>
      obtain ⟨rfl, rfl⟩ := hrel
      by_cases h0 : 0 < s.size
      · go_wp2_with fail
        refine (c0.out _).mono ?_
        rintro e w' ⟨rfl, rfl⟩
        go_wp2
        go_ret
        exact ⟨ret_str E.out.symm, rfl⟩
      · go_wp2
        go_ret
        exact ⟨ret_str E.out.symm, rfl⟩
  · rw [hv] at c0
    have E := Lib.hid (escT_yes hv)
    have h80 := textV_size hv
    clear hv hs
    go_enter Tryd.func72, Tryd.ntmps72
    go_wp2
    go_loop [3, 4] (fun t i => ∃ (k : Nat) (u : ByteArray), t = .string u ∧ i = .int .i64 k ∧ k ≤ s.size ∧ EcTo s k u) (fun _ i => s.size - (intOf i).toNat)
    case atStart => exact ⟨0, ⟨#[]⟩, rfl, rfl, by omega, EcTo.zero s⟩
    case round =>
      obtain ⟨k, u, rfl, rfl, hk, ho⟩ := hrel
      by_cases hlt : k < s.size
      · have hu := ho.size
        have HO := Lib.hid (fun v hv => ho.next hlt (v := v) hv)
        have c1 := Lib.hid (fun w => spec_l3Name (s[k].toNat : Int) w)
        have one := one_byte s k hlt
        clear ho
        have hz1 : (⟨#[38, 97, 109, 112, 59]⟩ : ByteArray).size = 5 := rfl
        have hz2 : (⟨#[38, 108, 116, 59]⟩ : ByteArray).size = 4 := rfl
        have hz3 : (⟨#[38, 103, 116, 59]⟩ : ByteArray).size = 4 := rfl
        have hz4 : (⟨#[38, 113, 117, 111, 116, 59]⟩ : ByteArray).size = 6 := rfl
        have hx : (s.extract k (k + 1)).size = 1 := by rw [ByteArray.size_extract]; omega
        rcases escB_of s[k] with ⟨h1, h2⟩ | ⟨h1, h2⟩ | ⟨h1, h2⟩ | ⟨h1, h2⟩ | ⟨h1, h3, h4, h5, h2⟩
        · have c2 : Hid (∀ w, Calls Tryd.prog 83 #[.int .u8 (s[k].toNat : Int)] w fun e w' => e = .returned (.string ⟨#[38, 97, 109, 112, 59]⟩) ∧ w = w') := by
            have := c1.out; rw [show nameI (s[k].toNat : Int) = ampN from by rw [h1]; rfl] at this; exact this
          have H2 := Lib.hid (HO.out ⟨#[38, 97, 109, 112, 59]⟩ h2.symm)
          clear h1 h2 c1
          go_wp2_with fail
          refine (c0.out _).mono ?_
          rintro e w' ⟨rfl, rfl⟩
          go_wp2_with fail
          refine (c2.out _).mono ?_
          rintro e w' ⟨rfl, rfl⟩
          go_wp2
          go_round
          case rel => exact ⟨k + 1, _, rfl, by go_num, by omega, H2.out⟩
          case measure => simp [intOf]; omega
        · have c2 : Hid (∀ w, Calls Tryd.prog 83 #[.int .u8 (s[k].toNat : Int)] w fun e w' => e = .returned (.string ⟨#[38, 108, 116, 59]⟩) ∧ w = w') := by
            have := c1.out; rw [show nameI (s[k].toNat : Int) = ltN from by rw [h1]; rfl] at this; exact this
          have H2 := Lib.hid (HO.out ⟨#[38, 108, 116, 59]⟩ h2.symm)
          clear h1 h2 c1
          go_wp2_with fail
          refine (c0.out _).mono ?_
          rintro e w' ⟨rfl, rfl⟩
          go_wp2_with fail
          refine (c2.out _).mono ?_
          rintro e w' ⟨rfl, rfl⟩
          go_wp2
          go_round
          case rel => exact ⟨k + 1, _, rfl, by go_num, by omega, H2.out⟩
          case measure => simp [intOf]; omega
        · have c2 : Hid (∀ w, Calls Tryd.prog 83 #[.int .u8 (s[k].toNat : Int)] w fun e w' => e = .returned (.string ⟨#[38, 103, 116, 59]⟩) ∧ w = w') := by
            have := c1.out; rw [show nameI (s[k].toNat : Int) = gtN from by rw [h1]; rfl] at this; exact this
          have H2 := Lib.hid (HO.out ⟨#[38, 103, 116, 59]⟩ h2.symm)
          clear h1 h2 c1
          go_wp2_with fail
          refine (c0.out _).mono ?_
          rintro e w' ⟨rfl, rfl⟩
          go_wp2_with fail
          refine (c2.out _).mono ?_
          rintro e w' ⟨rfl, rfl⟩
          go_wp2
          go_round
          case rel => exact ⟨k + 1, _, rfl, by go_num, by omega, H2.out⟩
          case measure => simp [intOf]; omega
        · have c2 : Hid (∀ w, Calls Tryd.prog 83 #[.int .u8 (s[k].toNat : Int)] w fun e w' => e = .returned (.string ⟨#[38, 113, 117, 111, 116, 59]⟩) ∧ w = w') := by
            have := c1.out; rw [show nameI (s[k].toNat : Int) = quotN from by rw [h1]; rfl] at this; exact this
          have H2 := Lib.hid (HO.out ⟨#[38, 113, 117, 111, 116, 59]⟩ h2.symm)
          clear h1 h2 c1
          go_wp2_with fail
          refine (c0.out _).mono ?_
          rintro e w' ⟨rfl, rfl⟩
          go_wp2_with fail
          refine (c2.out _).mono ?_
          rintro e w' ⟨rfl, rfl⟩
          go_wp2
          go_round
          case rel => exact ⟨k + 1, _, rfl, by go_num, by omega, H2.out⟩
          case measure => simp [intOf]; omega
        · have c2 : Hid (∀ w, Calls Tryd.prog 83 #[.int .u8 (s[k].toNat : Int)] w fun e w' => e = .returned (.string ⟨#[]⟩) ∧ w = w') := by
            have := c1.out; rw [nameI_none (c := (s[k].toNat : Int)) (by omega) (by omega) (by omega) (by omega)] at this; exact this
          have H2 := Lib.hid (HO.out (s.extract k (k + 1)) (one.trans h2.symm))
          clear h1 h2 h3 h4 h5 c1
          go_wp2_with fail
          refine (c0.out _).mono ?_
          rintro e w' ⟨rfl, rfl⟩
          go_wp2_with fail
          refine (c2.out _).mono ?_
          rintro e w' ⟨rfl, rfl⟩
          go_wp2
          go_round
          case rel => exact ⟨k + 1, _, rfl, by go_num, by omega, H2.out⟩
          case measure => simp [intOf]; omega
      · have F := Lib.hid (ho.done (by omega))
        go_wp2
        go_ret
        exact ⟨ret_str (F.out.trans E.out.symm), rfl⟩
end Go.Proofs.YtldllhfadihmeaaDoor
