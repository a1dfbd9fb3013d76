/- How a byte is written, in the program and in the reference; the escaped text of the reference. -/
import Derived.Test.YtldllhfadihmeaaDoorPlM
import Derived.Test.YtldllhfadihmeaaDoorConv
namespace Go.Proofs.YtldllhfadihmeaaDoor
open Go.RowKit

/-- The package-level table of the program's names lies as its text lays it. -/
def escCells : Array Value := #[.int .u8 38, .string ⟨#[38, 97, 109, 112, 59]⟩, .int .u8 60, .string ⟨#[38, 108, 116, 59]⟩, .int .u8 62, .string ⟨#[38, 103, 116, 59]⟩, .int .u8 34, .string ⟨#[38, 113, 117, 111, 116, 59]⟩]
def EscAt (w : World) : Prop := ∀ j u, escCells[j]? = some u → w.cell? ⟨0, j, none⟩ = some u
theorem EscAt.pos {w : World} (h : EscAt w) : 0 < w.heap.size := World.block_lt_of_cell? w _ (h 0 _ rfl)
theorem EscAt.old {w w' : World} (h : EscAt w) (hb : Below w.heap.size w w') : EscAt w' := fun j u hj => (hb.cell (p := ⟨0, j, none⟩) h.pos).trans (h j u hj)
theorem EscAt.grown {w w' : World} {g : Nat} (h : EscAt w) (hg : w.grownBy w' (some g)) (hne : 0 < g) : EscAt w' := fun j u hj => hg.cell (h j u hj) (fun e => by injection e with e; exact absurd e (Nat.ne_of_lt hne))
theorem escB_of (c : UInt8) : (c.toNat = 38 ∧ escB c = ampN) ∨ (c.toNat = 60 ∧ escB c = ltN) ∨ (c.toNat = 62 ∧ escB c = gtN) ∨ (c.toNat = 34 ∧ escB c = quotN) ∨ (c.toNat ≠ 38 ∧ c.toNat ≠ 60 ∧ c.toNat ≠ 62 ∧ c.toNat ≠ 34 ∧ escB c = [c]) := by
  rcases escB_cases c with ⟨h, e⟩ | ⟨h, e⟩ | ⟨h, e⟩ | ⟨h, e⟩ | ⟨h1, h2, h3, h4, e⟩
  · exact .inl ⟨by rw [h]; rfl, e⟩
  · exact .inr (.inl ⟨by rw [h]; rfl, e⟩)
  · exact .inr (.inr (.inl ⟨by rw [h]; rfl, e⟩))
  · exact .inr (.inr (.inr (.inl ⟨by rw [h]; rfl, e⟩)))
  · refine .inr (.inr (.inr (.inr ⟨?_, ?_, ?_, ?_, e⟩)))
    · intro h; exact h1 (by rw [← UInt8.toNat_inj, h]; rfl)
    · intro h; exact h2 (by rw [← UInt8.toNat_inj, h]; rfl)
    · intro h; exact h3 (by rw [← UInt8.toNat_inj, h]; rfl)
    · intro h; exact h4 (by rw [← UInt8.toNat_inj, h]; rfl)

theorem escB_at0 {c : UInt8} (h : c.toNat = 38) : escB c = [38, 97, 109, 112, 59] := by rw [show c = 38 from by rw [← UInt8.toNat_inj, h]; rfl]; rfl
theorem escB_at1 {c : UInt8} (h : c.toNat = 60) : escB c = [38, 108, 116, 59] := by rw [show c = 60 from by rw [← UInt8.toNat_inj, h]; rfl]; rfl
theorem escB_at2 {c : UInt8} (h : c.toNat = 62) : escB c = [38, 103, 116, 59] := by rw [show c = 62 from by rw [← UInt8.toNat_inj, h]; rfl]; rfl
theorem escB_at3 {c : UInt8} (h : c.toNat = 34) : escB c = [38, 113, 117, 111, 116, 59] := by rw [show c = 34 from by rw [← UInt8.toNat_inj, h]; rfl]; rfl
/-- The byte is none of the first k signs. -/
def NoEsc (k : Nat) (c : UInt8) : Prop := (0 < k → c.toNat ≠ 38) ∧ (1 < k → c.toNat ≠ 60) ∧ (2 < k → c.toNat ≠ 62) ∧ (3 < k → c.toNat ≠ 34)
theorem NoEsc.zero (c : UInt8) : NoEsc 0 c := ⟨by omega, by omega, by omega, by omega⟩
theorem NoEsc.next0 {c : UInt8} (_ : NoEsc 0 c) (hc : ¬ c.toNat = 38) : NoEsc 1 c := ⟨fun _ => hc, by omega, by omega, by omega⟩
theorem NoEsc.next1 {c : UInt8} (h : NoEsc 1 c) (hc : ¬ c.toNat = 60) : NoEsc 2 c := ⟨fun _ => h.1 (by omega), fun _ => hc, by omega, by omega⟩
theorem NoEsc.next2 {c : UInt8} (h : NoEsc 2 c) (hc : ¬ c.toNat = 62) : NoEsc 3 c := ⟨fun _ => h.1 (by omega), fun _ => h.2.1 (by omega), fun _ => hc, by omega⟩
theorem NoEsc.next3 {c : UInt8} (h : NoEsc 3 c) (hc : ¬ c.toNat = 34) : NoEsc 4 c := ⟨fun _ => h.1 (by omega), fun _ => h.2.1 (by omega), fun _ => h.2.2.1 (by omega), fun _ => hc⟩
theorem NoEsc.self {c : UInt8} (h : NoEsc 4 c) : escB c = [c] := by
  rcases escB_of c with ⟨e, _⟩ | ⟨e, _⟩ | ⟨e, _⟩ | ⟨e, _⟩ | ⟨_, _, _, _, e⟩
  · exact absurd e (h.1 (by omega))
  · exact absurd e (h.2.1 (by omega))
  · exact absurd e (h.2.2.1 (by omega))
  · exact absurd e (h.2.2.2 (by omega))
  · exact e
theorem esc_index0 (w : World) : (Instr.index 95 (.agg #[.int .u8 38, .string ⟨#[38, 97, 109, 112, 59]⟩, .int .u8 60, .string ⟨#[38, 108, 116, 59]⟩, .int .u8 62, .string ⟨#[38, 103, 116, 59]⟩, .int .u8 34, .string ⟨#[38, 113, 117, 111, 116, 59]⟩]) (.int .i64 0)).run Tryd.prog w = .ok (.agg #[.int .u8 38, .string ⟨#[38, 97, 109, 112, 59]⟩]) w := by kernel_rfl
theorem esc_index1 (w : World) : (Instr.index 95 (.agg #[.int .u8 38, .string ⟨#[38, 97, 109, 112, 59]⟩, .int .u8 60, .string ⟨#[38, 108, 116, 59]⟩, .int .u8 62, .string ⟨#[38, 103, 116, 59]⟩, .int .u8 34, .string ⟨#[38, 113, 117, 111, 116, 59]⟩]) (.int .i64 1)).run Tryd.prog w = .ok (.agg #[.int .u8 60, .string ⟨#[38, 108, 116, 59]⟩]) w := by kernel_rfl
theorem esc_index2 (w : World) : (Instr.index 95 (.agg #[.int .u8 38, .string ⟨#[38, 97, 109, 112, 59]⟩, .int .u8 60, .string ⟨#[38, 108, 116, 59]⟩, .int .u8 62, .string ⟨#[38, 103, 116, 59]⟩, .int .u8 34, .string ⟨#[38, 113, 117, 111, 116, 59]⟩]) (.int .i64 2)).run Tryd.prog w = .ok (.agg #[.int .u8 62, .string ⟨#[38, 103, 116, 59]⟩]) w := by kernel_rfl
theorem esc_index3 (w : World) : (Instr.index 95 (.agg #[.int .u8 38, .string ⟨#[38, 97, 109, 112, 59]⟩, .int .u8 60, .string ⟨#[38, 108, 116, 59]⟩, .int .u8 62, .string ⟨#[38, 103, 116, 59]⟩, .int .u8 34, .string ⟨#[38, 113, 117, 111, 116, 59]⟩]) (.int .i64 3)).run Tryd.prog w = .ok (.agg #[.int .u8 34, .string ⟨#[38, 113, 117, 111, 116, 59]⟩]) w := by kernel_rfl

set_option maxHeartbeats 2000000 in
theorem impl_escapedByte (c : UInt8) (w : World) (h : EscAt w) :
    Calls Tryd.prog 85 #[.int .u8 (c.toNat : Int)] w fun e w' => e = .returned (.string ⟨(escB c).toArray⟩) ∧ Below w.heap.size w w' := by
  have e0 : w.cell? ⟨0, 0, none⟩ = some (.int .u8 38) := h 0 _ rfl
  have e1 : w.cell? ⟨0, 1, none⟩ = some (.string ⟨#[38, 97, 109, 112, 59]⟩) := h 1 _ rfl
  have e2 : w.cell? ⟨0, 2, none⟩ = some (.int .u8 60) := h 2 _ rfl
  have e3 : w.cell? ⟨0, 3, none⟩ = some (.string ⟨#[38, 108, 116, 59]⟩) := h 3 _ rfl
  have e4 : w.cell? ⟨0, 4, none⟩ = some (.int .u8 62) := h 4 _ rfl
  have e5 : w.cell? ⟨0, 5, none⟩ = some (.string ⟨#[38, 103, 116, 59]⟩) := h 5 _ rfl
  have e6 : w.cell? ⟨0, 6, none⟩ = some (.int .u8 34) := h 6 _ rfl
  have e7 : w.cell? ⟨0, 7, none⟩ = some (.string ⟨#[38, 113, 117, 111, 116, 59]⟩) := h 7 _ rfl
  have i0 := esc_index0
  have i1 := esc_index1
  have i2 := esc_index2
  have i3 := esc_index3
  clear h
  go_enter Tryd.func85, Tryd.ntmps85
  go_wp2
  go_loopw [6] (fun i wr => ∃ k : Nat, i = .int .i64 k ∧ k ≤ 4 ∧ Hid (NoEsc k c) ∧ Below w.heap.size w wr) (fun i _ => 4 - (intOf i).toNat)
  case atStart => exact ⟨0, rfl, by omega, NoEsc.zero c, Below.refl _ _⟩
  case round =>
    obtain ⟨k, rfl, hk, ho, hbr⟩ := hrel
    clear e0 e1 e2 e3 e4 e5 e6 e7
    have hk5 : k = 0 ∨ k = 1 ∨ k = 2 ∨ k = 3 ∨ k = 4 := by omega
    rcases hk5 with rfl | rfl | rfl | rfl | rfl
    · have hbw := hbr.alloc hbr.size (.cells #[.int .u8 38, .string ⟨#[38, 97, 109, 112, 59]⟩] 94)
      by_cases hc : c.toNat = 38
      · have hb : ((38 : Int) == (c.toNat : Int)) = true := by rw [beq_iff_eq]; omega
        have E := Lib.hid (escB_at0 hc)
        clear hc
        go_wp2
        go_ret
        exact ⟨ret_str E.out.symm, hbw⟩
      · have hb : ((38 : Int) == (c.toNat : Int)) = false := by rw [beq_eq_false_iff_ne]; omega
        have HO := Lib.hid (ho.out.next0 hc)
        clear hc
        go_wp2
        go_roundw
        case rel => exact ⟨1, rfl, by omega, HO.out, hbw⟩
        case measure => simp [intOf]
    · have hbw := hbr.alloc hbr.size (.cells #[.int .u8 60, .string ⟨#[38, 108, 116, 59]⟩] 94)
      by_cases hc : c.toNat = 60
      · have hb : ((60 : Int) == (c.toNat : Int)) = true := by rw [beq_iff_eq]; omega
        have E := Lib.hid (escB_at1 hc)
        clear hc
        go_wp2
        go_ret
        exact ⟨ret_str E.out.symm, hbw⟩
      · have hb : ((60 : Int) == (c.toNat : Int)) = false := by rw [beq_eq_false_iff_ne]; omega
        have HO := Lib.hid (ho.out.next1 hc)
        clear hc
        go_wp2
        go_roundw
        case rel => exact ⟨2, rfl, by omega, HO.out, hbw⟩
        case measure => simp [intOf]
    · have hbw := hbr.alloc hbr.size (.cells #[.int .u8 62, .string ⟨#[38, 103, 116, 59]⟩] 94)
      by_cases hc : c.toNat = 62
      · have hb : ((62 : Int) == (c.toNat : Int)) = true := by rw [beq_iff_eq]; omega
        have E := Lib.hid (escB_at2 hc)
        clear hc
        go_wp2
        go_ret
        exact ⟨ret_str E.out.symm, hbw⟩
      · have hb : ((62 : Int) == (c.toNat : Int)) = false := by rw [beq_eq_false_iff_ne]; omega
        have HO := Lib.hid (ho.out.next2 hc)
        clear hc
        go_wp2
        go_roundw
        case rel => exact ⟨3, rfl, by omega, HO.out, hbw⟩
        case measure => simp [intOf]
    · have hbw := hbr.alloc hbr.size (.cells #[.int .u8 34, .string ⟨#[38, 113, 117, 111, 116, 59]⟩] 94)
      by_cases hc : c.toNat = 34
      · have hb : ((34 : Int) == (c.toNat : Int)) = true := by rw [beq_iff_eq]; omega
        have E := Lib.hid (escB_at3 hc)
        clear hc
        go_wp2
        go_ret
        exact ⟨ret_str E.out.symm, hbw⟩
      · have hb : ((34 : Int) == (c.toNat : Int)) = false := by rw [beq_eq_false_iff_ne]; omega
        have HO := Lib.hid (ho.out.next3 hc)
        clear hc
        go_wp2
        go_roundw
        case rel => exact ⟨4, rfl, by omega, HO.out, hbw⟩
        case measure => simp [intOf]
    · have E := Lib.hid (ho.out.self)
      have hcv := conv1
      go_wp2
      go_ret
      exact ⟨ret_str (E.out.trans (by simp)).symm, hbr.alloc hbr.size _⟩
end Go.Proofs.YtldllhfadihmeaaDoor
