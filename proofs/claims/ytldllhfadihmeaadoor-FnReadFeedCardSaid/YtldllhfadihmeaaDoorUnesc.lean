/- firstByte reads the beginning of an escaped text; UnescapeText of the program computes unE. -/
import Derived.Test.YtldllhfadihmeaaDoorEscT
import Derived.Test.YtldllhfadihmeaaDoorPre
import Derived.Deep.QuietTactic
import Derived.BigQuiet
namespace Go.Proofs.YtldllhfadihmeaaDoor
open Go.RowKit

def name0 : ByteArray := ⟨#[38, 97, 109, 112, 59]⟩
theorem name0_esc : escB 38 = name0.data.toList := rfl
def name1 : ByteArray := ⟨#[38, 108, 116, 59]⟩
theorem name1_esc : escB 60 = name1.data.toList := rfl
def name2 : ByteArray := ⟨#[38, 103, 116, 59]⟩
theorem name2_esc : escB 62 = name2.data.toList := rfl
def name3 : ByteArray := ⟨#[38, 113, 117, 111, 116, 59]⟩
theorem name3_esc : escB 34 = name3.data.toList := rfl
theorem pre_of {s p : ByteArray} {c : UInt8} (h : hasP s p = true) (hp : escB c = p.data.toList) : escB c <+: s.data.toList := by rw [hp]; exact (hasP_iff s p).1 h
theorem nopre_of {s p : ByteArray} {c : UInt8} (h : hasP s p = false) (hp : escB c = p.data.toList) : ¬ escB c <+: s.data.toList := by
  rw [hp]; intro h2; rw [(hasP_iff s p).2 h2] at h; cases h
/-- A writing that begins a text begins with an ampersand or is its first byte. -/
theorem first_of {s : ByteArray} (h0 : 0 < s.size) {d : UInt8} (h : escB d <+: s.data.toList) : (s[0].toNat = 38 ∧ (d = 38 ∨ d = 60 ∨ d = 62 ∨ d = 34)) ∨ (d = s[0] ∧ d ≠ 38 ∧ d ≠ 60 ∧ d ≠ 62 ∧ d ≠ 34) := by
  have hs : s.data.toList = s[0] :: s.data.toList.drop 1 := by have := drop_at s 0 h0; rwa [List.drop_zero] at this
  rw [hs] at h
  rcases escB_cases d with ⟨hd, e⟩ | ⟨hd, e⟩ | ⟨hd, e⟩ | ⟨hd, e⟩ | ⟨h1, h2, h3, h4, e⟩
  all_goals rw [e] at h
  · left; have := (List.cons_prefix_cons.1 h).1; exact ⟨by rw [← this]; rfl, .inl hd⟩
  · left; have := (List.cons_prefix_cons.1 h).1; exact ⟨by rw [← this]; rfl, .inr (.inl hd)⟩
  · left; have := (List.cons_prefix_cons.1 h).1; exact ⟨by rw [← this]; rfl, .inr (.inr (.inl hd))⟩
  · left; have := (List.cons_prefix_cons.1 h).1; exact ⟨by rw [← this]; rfl, .inr (.inr (.inr hd))⟩
  · right; have := (List.cons_prefix_cons.1 h).1; exact ⟨this, h1, h2, h3, h4⟩
theorem okB_bad {c : UInt8} (h : (c.toNat : Int) < 32 ∨ (126 : Int) < (c.toNat : Int)) : okB c = false := okB_false h
theorem FirstB.range {s : ByteArray} (h0 : 0 < s.size) (h : (s[0].toNat : Int) < 32 ∨ (126 : Int) < (s[0].toNat : Int)) : FirstB s.data.toList 0 0 := by
  left
  refine ⟨rfl, fun d hd hp => ?_⟩
  rcases first_of h0 hp with ⟨e, _⟩ | ⟨rfl, _⟩
  · omega
  · rw [okB_false h] at hd; cases hd
/-- What the rounds of firstByte's loop keep: none of the first k names begins the text; the first byte is no ampersand and then none of the first k signs. -/
def FbTo (s : ByteArray) (c : UInt8) (k : Nat) : Prop :=
  (0 < k → ¬ escB 38 <+: s.data.toList) ∧ (1 < k → ¬ escB 60 <+: s.data.toList ∧ c.toNat ≠ 60) ∧ (2 < k → ¬ escB 62 <+: s.data.toList ∧ c.toNat ≠ 62) ∧ (3 < k → ¬ escB 34 <+: s.data.toList ∧ c.toNat ≠ 34)
theorem FbTo.zero (s : ByteArray) (c : UInt8) : FbTo s c 0 := ⟨by omega, by omega, by omega, by omega⟩
theorem FbTo.next0 {s : ByteArray} {c : UInt8} (h : hasP s name0 = false) : FbTo s c 1 := ⟨fun _ => nopre_of h name0_esc, by omega, by omega, by omega⟩
theorem FbTo.next1 {s : ByteArray} {c : UInt8} (h : FbTo s c 1) (h1 : hasP s name1 = false) (h2 : c.toNat ≠ 60) : FbTo s c 2 := ⟨fun _ => h.1 (by omega), fun _ => ⟨nopre_of h1 name1_esc, h2⟩, by omega, by omega⟩
theorem FbTo.next2 {s : ByteArray} {c : UInt8} (h : FbTo s c 2) (h1 : hasP s name2 = false) (h2 : c.toNat ≠ 62) : FbTo s c 3 := ⟨fun _ => h.1 (by omega), fun _ => h.2.1 (by omega), fun _ => ⟨nopre_of h1 name2_esc, h2⟩, by omega⟩
theorem FbTo.next3 {s : ByteArray} {c : UInt8} (h : FbTo s c 3) (h1 : hasP s name3 = false) (h2 : c.toNat ≠ 34) : FbTo s c 4 := ⟨fun _ => h.1 (by omega), fun _ => h.2.1 (by omega), fun _ => h.2.2.1 (by omega), fun _ => ⟨nopre_of h1 name3_esc, h2⟩⟩
theorem FirstB.sign {s : ByteArray} (h0 : 0 < s.size) (h : s[0].toNat = 60 ∨ s[0].toNat = 62 ∨ s[0].toNat = 34) : FirstB s.data.toList 0 0 := by
  left
  refine ⟨rfl, fun d _ hp => ?_⟩
  rcases first_of h0 hp with ⟨e, _⟩ | ⟨rfl, _, h2, h3, h4⟩
  · omega
  · rcases h with h | h | h
    · exact h2 (by rw [← UInt8.toNat_inj, h]; rfl)
    · exact h3 (by rw [← UInt8.toNat_inj, h]; rfl)
    · exact h4 (by rw [← UInt8.toNat_inj, h]; rfl)
theorem FbTo.amp {s : ByteArray} {c : UInt8} (h : FbTo s c 4) (h0 : 0 < s.size) (hc : s[0].toNat = 38) : FirstB s.data.toList 0 0 := by
  left
  refine ⟨rfl, fun d _ hp => ?_⟩
  rcases first_of h0 hp with ⟨_, e⟩ | ⟨rfl, h1, _⟩
  · rcases e with rfl | rfl | rfl | rfl
    · exact h.1 (by omega) hp
    · exact (h.2.1 (by omega)).1 hp
    · exact (h.2.2.1 (by omega)).1 hp
    · exact (h.2.2.2 (by omega)).1 hp
  · exact h1 (by rw [← UInt8.toNat_inj, hc]; rfl)
theorem FbTo.self {s : ByteArray} (h0 : 0 < s.size) (h : FbTo s s[0] 4) (hc : s[0].toNat ≠ 38) (h1 : 32 ≤ (s[0].toNat : Int)) (h2 : (s[0].toNat : Int) ≤ 126) : FirstB s.data.toList s[0] 1 := by
  right
  have e : escB s[0] = [s[0]] := by
    rcases escB_of s[0] with ⟨e, _⟩ | ⟨e, _⟩ | ⟨e, _⟩ | ⟨e, _⟩ | ⟨_, _, _, _, e⟩
    · exact absurd e hc
    · exact absurd e (h.2.1 (by omega)).2
    · exact absurd e (h.2.2.1 (by omega)).2
    · exact absurd e (h.2.2.2 (by omega)).2
    · exact e
  refine ⟨okB_true (by omega) (by omega), by rw [e]; rfl, ?_⟩
  rw [e]
  have hs : s.data.toList = s[0] :: s.data.toList.drop 1 := by have := drop_at s 0 h0; rwa [List.drop_zero] at this
  exact ⟨s.data.toList.drop 1, hs.symm⟩
theorem FirstB.named {s p : ByteArray} {c : UInt8} (h : hasP s p = true) (hp : escB c = p.data.toList) (hc : okB c = true) : FirstB s.data.toList c p.size :=
  .inr ⟨hc, by rw [hp, size_toList], pre_of h hp⟩

/-- What firstByte leaves behind. -/
def FirstPost (s : ByteArray) (w : World) (e : Ending) (w' : World) : Prop :=
  (∃ (c : UInt8) (n : Nat), e = .returned (.tuple #[.int .u8 (c.toNat : Int), .int .i64 (n : Int)]) ∧ FirstB s.data.toList c n) ∧ Below w.heap.size w w'

set_option maxHeartbeats 4000000 in
theorem impl_firstByte (s : ByteArray) (w : World) (h0 : 0 < s.size) (hs : s.size ≤ maxLen) (h : EscAt w) :
    Calls Tryd.prog 93 #[.string s] w (FirstPost s w) := by
  by_cases hr : (s[0].toNat : Int) < 32 ∨ (126 : Int) < (s[0].toNat : Int)
  · have E := Lib.hid (FirstB.range h0 hr)
    clear h
    unfold maxLen at hs
    rcases hr with hr | hr
    all_goals
      go_enter Tryd.func93, Tryd.ntmps93
      go_wp2
      go_ret2
      exact ⟨⟨0, 0, rfl, E.out⟩, Below.refl _ _⟩
  have r1 : 32 ≤ (s[0].toNat : Int) := by omega
  have r2 : (s[0].toNat : Int) ≤ 126 := by omega
  clear hr
  have e0 : w.cell? ⟨0, 0, none⟩ = some (.int .u8 38) := h 0 _ rfl
  have e1 : w.cell? ⟨0, 1, none⟩ = some (.string ⟨#[38, 97, 109, 112, 59]⟩) := h 1 _ rfl
  have e2 : w.cell? ⟨0, 2, none⟩ = some (.int .u8 60) := h 2 _ rfl
  have e3 : w.cell? ⟨0, 3, none⟩ = some (.string ⟨#[38, 108, 116, 59]⟩) := h 3 _ rfl
  have e4 : w.cell? ⟨0, 4, none⟩ = some (.int .u8 62) := h 4 _ rfl
  have e5 : w.cell? ⟨0, 5, none⟩ = some (.string ⟨#[38, 103, 116, 59]⟩) := h 5 _ rfl
  have e6 : w.cell? ⟨0, 6, none⟩ = some (.int .u8 34) := h 6 _ rfl
  have e7 : w.cell? ⟨0, 7, none⟩ = some (.string ⟨#[38, 113, 117, 111, 116, 59]⟩) := h 7 _ rfl
  have i0 := esc_index0
  have i1 := esc_index1
  have i2 := esc_index2
  have i3 := esc_index3
  have p0 := Lib.hid (fun w => hasPrefix_any s ⟨#[38, 97, 109, 112, 59]⟩ w hs (by decide))
  have p1 := Lib.hid (fun w => hasPrefix_any s ⟨#[38, 108, 116, 59]⟩ w hs (by decide))
  have p2 := Lib.hid (fun w => hasPrefix_any s ⟨#[38, 103, 116, 59]⟩ w hs (by decide))
  have p3 := Lib.hid (fun w => hasPrefix_any s ⟨#[38, 113, 117, 111, 116, 59]⟩ w hs (by decide))
  have HS := Lib.hid hs
  clear h
  unfold maxLen at hs
  go_enter Tryd.func93, Tryd.ntmps93
  go_wp2
  go_loopw [16] (fun i wr => ∃ k : Nat, i = .int .i64 k ∧ k ≤ 4 ∧ Hid (FbTo s s[0] k) ∧ Below w.heap.size w wr) (fun i _ => 4 - (intOf i).toNat)
  case atStart => exact ⟨0, rfl, by omega, FbTo.zero s _, Below.refl _ _⟩
  case round =>
    obtain ⟨k, rfl, hk, ho, hbr⟩ := hrel
    clear e0 e1 e2 e3 e4 e5 e6 e7
    have hk5 : k = 0 ∨ k = 1 ∨ k = 2 ∨ k = 3 ∨ k = 4 := by omega
    rcases hk5 with rfl | rfl | rfl | rfl | rfl
    · have hbw := hbr.alloc hbr.size (.cells #[.int .u8 38, .string ⟨#[38, 97, 109, 112, 59]⟩] 94)
      have hz : (⟨#[38, 97, 109, 112, 59]⟩ : ByteArray).size = 5 := rfl
      cases hq : hasP s name0
      · have c1 : Hid (∀ w, Calls Tryd.prog 90 #[.string s, .string ⟨#[38, 97, 109, 112, 59]⟩] w fun e w' => e = .returned (.bool false) ∧ w = w') := by
          have := p0.out; rw [show hasP s ⟨#[38, 97, 109, 112, 59]⟩ = false from hq] at this; exact this
        have HO : Hid (FbTo s s[0] 1) := FbTo.next0 hq
        clear hq hz
        by_cases hc : s[0].toNat = 38
        · have hb : ((38 : Int) == (s[0].toNat : Int)) = true := by rw [beq_iff_eq]; omega
          have hb2 : ((s[0].toNat : Int) != 38) = false := by rw [bne_eq_false_iff_eq]; omega
          clear hc
          go_wp2_with fail
          refine (c1.out _).mono ?_
          rintro e w' ⟨rfl, rfl⟩
          go_wp2
          go_roundw
          case rel => exact ⟨1, rfl, by omega, HO.out, hbw⟩
          case measure => simp [intOf]
        · have hb : ((38 : Int) == (s[0].toNat : Int)) = false := by rw [beq_eq_false_iff_ne]; omega
          clear hc
          go_wp2_with fail
          refine (c1.out _).mono ?_
          rintro e w' ⟨rfl, rfl⟩
          go_wp2
          go_roundw
          case rel => exact ⟨1, rfl, by omega, HO.out, hbw⟩
          case measure => simp [intOf]
      · have c1 : Hid (∀ w, Calls Tryd.prog 90 #[.string s, .string ⟨#[38, 97, 109, 112, 59]⟩] w fun e w' => e = .returned (.bool true) ∧ w = w') := by
          have := p0.out; rw [show hasP s ⟨#[38, 97, 109, 112, 59]⟩ = true from hq] at this; exact this
        have E : Hid (FirstB s.data.toList 38 5) := FirstB.named hq name0_esc (by decide)
        clear hq
        go_wp2_with fail
        refine (c1.out _).mono ?_
        rintro e w' ⟨rfl, rfl⟩
        go_wp2
        go_quiet (fail)
        go_wp2
        go_ret2
        exact ⟨⟨38, 5, rfl, E.out⟩, below_drewN' hbw _⟩
    · have hbw := hbr.alloc hbr.size (.cells #[.int .u8 60, .string ⟨#[38, 108, 116, 59]⟩] 94)
      have hz : (⟨#[38, 108, 116, 59]⟩ : ByteArray).size = 4 := rfl
      cases hq : hasP s name1
      · have c1 : Hid (∀ w, Calls Tryd.prog 90 #[.string s, .string ⟨#[38, 108, 116, 59]⟩] w fun e w' => e = .returned (.bool false) ∧ w = w') := by
          have := p1.out; rw [show hasP s ⟨#[38, 108, 116, 59]⟩ = false from hq] at this; exact this
        by_cases hc : s[0].toNat = 60
        · have hb : ((60 : Int) == (s[0].toNat : Int)) = true := by rw [beq_iff_eq]; omega
          have hb2 : ((s[0].toNat : Int) != 38) = true := by rw [bne_iff_ne]; omega
          have E := Lib.hid (FirstB.sign h0 (by omega))
          clear hc hq hz
          go_wp2_with fail
          refine (c1.out _).mono ?_
          rintro e w' ⟨rfl, rfl⟩
          go_wp2
          go_ret2
          exact ⟨⟨0, 0, rfl, E.out⟩, hbw⟩
        · have hb : ((60 : Int) == (s[0].toNat : Int)) = false := by rw [beq_eq_false_iff_ne]; omega
          have HO : Hid (FbTo s s[0] 2) := ho.out.next1 hq hc
          clear hc hq hz
          go_wp2_with fail
          refine (c1.out _).mono ?_
          rintro e w' ⟨rfl, rfl⟩
          go_wp2
          go_roundw
          case rel => exact ⟨2, rfl, by omega, HO.out, hbw⟩
          case measure => simp [intOf]
      · have c1 : Hid (∀ w, Calls Tryd.prog 90 #[.string s, .string ⟨#[38, 108, 116, 59]⟩] w fun e w' => e = .returned (.bool true) ∧ w = w') := by
          have := p1.out; rw [show hasP s ⟨#[38, 108, 116, 59]⟩ = true from hq] at this; exact this
        have E : Hid (FirstB s.data.toList 60 4) := FirstB.named hq name1_esc (by decide)
        clear hq
        go_wp2_with fail
        refine (c1.out _).mono ?_
        rintro e w' ⟨rfl, rfl⟩
        go_wp2
        go_quiet (fail)
        go_wp2
        go_ret2
        exact ⟨⟨60, 4, rfl, E.out⟩, below_drewN' hbw _⟩
    · have hbw := hbr.alloc hbr.size (.cells #[.int .u8 62, .string ⟨#[38, 103, 116, 59]⟩] 94)
      have hz : (⟨#[38, 103, 116, 59]⟩ : ByteArray).size = 4 := rfl
      cases hq : hasP s name2
      · have c1 : Hid (∀ w, Calls Tryd.prog 90 #[.string s, .string ⟨#[38, 103, 116, 59]⟩] w fun e w' => e = .returned (.bool false) ∧ w = w') := by
          have := p2.out; rw [show hasP s ⟨#[38, 103, 116, 59]⟩ = false from hq] at this; exact this
        by_cases hc : s[0].toNat = 62
        · have hb : ((62 : Int) == (s[0].toNat : Int)) = true := by rw [beq_iff_eq]; omega
          have hb2 : ((s[0].toNat : Int) != 38) = true := by rw [bne_iff_ne]; omega
          have E := Lib.hid (FirstB.sign h0 (by omega))
          clear hc hq hz
          go_wp2_with fail
          refine (c1.out _).mono ?_
          rintro e w' ⟨rfl, rfl⟩
          go_wp2
          go_ret2
          exact ⟨⟨0, 0, rfl, E.out⟩, hbw⟩
        · have hb : ((62 : Int) == (s[0].toNat : Int)) = false := by rw [beq_eq_false_iff_ne]; omega
          have HO : Hid (FbTo s s[0] 3) := ho.out.next2 hq hc
          clear hc hq hz
          go_wp2_with fail
          refine (c1.out _).mono ?_
          rintro e w' ⟨rfl, rfl⟩
          go_wp2
          go_roundw
          case rel => exact ⟨3, rfl, by omega, HO.out, hbw⟩
          case measure => simp [intOf]
      · have c1 : Hid (∀ w, Calls Tryd.prog 90 #[.string s, .string ⟨#[38, 103, 116, 59]⟩] w fun e w' => e = .returned (.bool true) ∧ w = w') := by
          have := p2.out; rw [show hasP s ⟨#[38, 103, 116, 59]⟩ = true from hq] at this; exact this
        have E : Hid (FirstB s.data.toList 62 4) := FirstB.named hq name2_esc (by decide)
        clear hq
        go_wp2_with fail
        refine (c1.out _).mono ?_
        rintro e w' ⟨rfl, rfl⟩
        go_wp2
        go_quiet (fail)
        go_wp2
        go_ret2
        exact ⟨⟨62, 4, rfl, E.out⟩, below_drewN' hbw _⟩
    · have hbw := hbr.alloc hbr.size (.cells #[.int .u8 34, .string ⟨#[38, 113, 117, 111, 116, 59]⟩] 94)
      have hz : (⟨#[38, 113, 117, 111, 116, 59]⟩ : ByteArray).size = 6 := rfl
      cases hq : hasP s name3
      · have c1 : Hid (∀ w, Calls Tryd.prog 90 #[.string s, .string ⟨#[38, 113, 117, 111, 116, 59]⟩] w fun e w' => e = .returned (.bool false) ∧ w = w') := by
          have := p3.out; rw [show hasP s ⟨#[38, 113, 117, 111, 116, 59]⟩ = false from hq] at this; exact this
        by_cases hc : s[0].toNat = 34
        · have hb : ((34 : Int) == (s[0].toNat : Int)) = true := by rw [beq_iff_eq]; omega
          have hb2 : ((s[0].toNat : Int) != 38) = true := by rw [bne_iff_ne]; omega
          have E := Lib.hid (FirstB.sign h0 (by omega))
          clear hc hq hz
          go_wp2_with fail
          refine (c1.out _).mono ?_
          rintro e w' ⟨rfl, rfl⟩
          go_wp2
          go_ret2
          exact ⟨⟨0, 0, rfl, E.out⟩, hbw⟩
        · have hb : ((34 : Int) == (s[0].toNat : Int)) = false := by rw [beq_eq_false_iff_ne]; omega
          have HO : Hid (FbTo s s[0] 4) := ho.out.next3 hq hc
          clear hc hq hz
          go_wp2_with fail
          refine (c1.out _).mono ?_
          rintro e w' ⟨rfl, rfl⟩
          go_wp2
          go_roundw
          case rel => exact ⟨4, rfl, by omega, HO.out, hbw⟩
          case measure => simp [intOf]
      · have c1 : Hid (∀ w, Calls Tryd.prog 90 #[.string s, .string ⟨#[38, 113, 117, 111, 116, 59]⟩] w fun e w' => e = .returned (.bool true) ∧ w = w') := by
          have := p3.out; rw [show hasP s ⟨#[38, 113, 117, 111, 116, 59]⟩ = true from hq] at this; exact this
        have E : Hid (FirstB s.data.toList 34 6) := FirstB.named hq name3_esc (by decide)
        clear hq
        go_wp2_with fail
        refine (c1.out _).mono ?_
        rintro e w' ⟨rfl, rfl⟩
        go_wp2
        go_quiet (fail)
        go_wp2
        go_ret2
        exact ⟨⟨34, 6, rfl, E.out⟩, below_drewN' hbw _⟩
    · by_cases hc : s[0].toNat = 38
      · have hb : ((s[0].toNat : Int) == 38) = true := by rw [beq_iff_eq]; omega
        have E := Lib.hid (ho.out.amp h0 hc)
        clear hc
        go_wp2
        go_ret2
        exact ⟨⟨0, 0, rfl, E.out⟩, hbr⟩
      · have hb : ((s[0].toNat : Int) == 38) = false := by rw [beq_eq_false_iff_ne]; omega
        have E := Lib.hid (FbTo.self h0 ho.out hc r1 r2)
        clear hc
        go_wp2
        go_ret2
        exact ⟨⟨_, 1, rfl, E.out⟩, hbr⟩
end Go.Proofs.YtldllhfadihmeaaDoor
