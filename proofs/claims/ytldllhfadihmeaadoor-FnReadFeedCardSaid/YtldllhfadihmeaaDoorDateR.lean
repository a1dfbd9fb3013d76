/- The walk of the reference's ReadDate. -/
import Derived.Test.YtldllhfadihmeaaDoorDateS
import Derived.BigRegion
namespace Go.Proofs.YtldllhfadihmeaaDoor
open Go.RowKit

def PsTo (s : ByteArray) (k i : Nat) (x y z : Int) : Prop := parseP (s.data.toList.take k) = some (i, x, y, z)
theorem PsTo.bd {s : ByteArray} {k i : Nat} {x y z : Int} (h : PsTo s k i x y z) (hk : k ≤ s.size) (h10 : k ≤ 10) : i ≤ 2 ∧ (0 ≤ x ∧ x ≤ 9999999999) ∧ (0 ≤ y ∧ y ≤ 9999999999) ∧ (0 ≤ z ∧ z ≤ 9999999999) := by
  have hb := parse_bd k _ _ (by rw [List.length_take, size_toList]; omega) h
  have h2 : (10 : Int) ^ k ≤ 10 ^ 10 := by
    have h3 : (10 : Nat) ^ k ≤ 10 ^ 10 := Nat.pow_le_pow_right (by omega) h10
    exact_mod_cast h3
  simp only at hb
  omega
theorem PsTo.step {s : ByteArray} {k i : Nat} {x y z : Int} (h : PsTo s k i x y z) (hk : k < s.size) : parseP (s.data.toList.take (k + 1)) = stepP (i, x, y, z) s[k] := by
  rw [take_snoc s k hk, parse_snoc, h]; rfl
theorem blk_set {w : World} {b i : Nat} {t : TypeId} {cs : Array Value} {v : Value} (h : w.heap[b]? = some (.cells cs t (0, 0))) : (w.setCell ⟨b, i, none⟩ v).heap[b]? = some (.cells (cs.setIfInBounds i v) t (0, 0)) := by
  simp [World.setCell, Array.getElem?_modify, h]
theorem blk_cell {w : World} {b : Nat} {t : TypeId} {cs : Array Value} (h : w.heap[b]? = some (.cells cs t (0, 0))) (i : Nat) : w.cell? ⟨b, i, none⟩ = cs[i]? := cell_of_row _ _ _ _ _ _ h
theorem blk_free {w : World} {b : Nat} {t : TypeId} {cs : Array Value} (h : w.heap[b]? = some (.cells cs t (0, 0))) (i : Nat) : w.frozen? ⟨b, i, none⟩ = false := by simp [World.frozen?, h]

set_option maxHeartbeats 2000000 in
theorem spec_readDate (s : ByteArray) (w : World) (hs : s.size ≤ maxLen) :
    Calls Tryd.prog 64 #[.string s] w fun e w' => e = .returned (.int .i64 (readD s.data.toList)) ∧ Below w.heap.size w w' := by
  unfold maxLen at hs
  by_cases hl : s.size = 10
  · have hlb : ((s.size : Int) != 10) = false := by rw [bne_eq_false_iff_eq]; omega
    have hl1 : 10 ≤ s.size := by omega
    have hl2 : s.size ≤ 10 := by omega
    clear hl
    go_enter Tryd.func64, Tryd.ntmps64
    go_wp2
    go_loopw [4, 5] (fun a b wr => ∃ (k i : Nat) (x y z : Int), k ≤ 10 ∧ a = .int .i64 i ∧ b = .int .i64 k ∧ PsTo s k i x y z ∧ wr.heap[w.heap.size]? = some (.cells #[.int .i64 x, .int .i64 y, .int .i64 z] 3 (0, 0)) ∧ Below w.heap.size w wr ∧ w.heap.size < wr.heap.size) (fun _ b _ => 10 - (intOf b).toNat)
    case atStart => exact ⟨0, 0, 0, 0, 0, by omega, rfl, rfl, rfl, heap_alloc_new _ _, (Below.refl _ _).alloc (Nat.le_refl _) _, by simp⟩
    case round =>
      obtain ⟨k, i, x, y, z, hk, rfl, rfl, hp, hblk, hbr, hlt⟩ := hrel
      obtain ⟨i2, ⟨x0, x1⟩, ⟨y0, y1⟩, ⟨z0, z1⟩⟩ := hp.bd (by omega) (by omega)
      by_cases hk10 : k < 10
      · have hks : k < s.size := by omega
        have hst := hp.step hks
        have hc0 : (s[k].toNat : Int) ≤ 255 := by have := s[k].toNat_lt; omega
        have HB := Lib.hid hblk
        clear hp hblk
        by_cases hd : s[k].toNat = 46 ∧ i < 2
        · obtain ⟨hd1, hd2⟩ := hd
          have hb : ((s[k].toNat : Int) == 46) = true := by rw [beq_iff_eq]; omega
          have HP : Hid (PsTo s (k + 1) (i + 1) x y z) := by
            show parseP _ = _
            rw [hst]
            have : s[k] = 46 := by rw [← UInt8.ofNat_toNat (x := s[k]), hd1]; rfl
            rw [this]; exact step_point x y z hd2
          clear hst hd1
          go_wp2
          go_roundw
          case rel => exact ⟨k + 1, i + 1, x, y, z, by omega, by go_num, by go_num, HP.out, HB.out, hbr, hlt⟩
          case measure => simp [intOf]; omega
        · by_cases hg : 48 ≤ (s[k].toNat : Int) ∧ (s[k].toNat : Int) ≤ 57
          · obtain ⟨g1, g2⟩ := hg
            have hb : ((s[k].toNat : Int) == 46) = false := by rw [beq_eq_false_iff_ne]; omega
            rw [step_dig x y z (by omega)] at hst
            have e2 : IntKind.u8.wrap ((s[k].toNat : Int) - 48) = (s[k].toNat : Int) - 48 := IntWalk.u8_in _ (by omega)
            have e3 : IntKind.i64.wrap ((s[k].toNat : Int) - 48) = (s[k].toNat : Int) - 48 := IntWalk.i64_in _ (by omega)
            have HS := Lib.hid hst
            clear hst hd
            have hblk := HB.out
            have hi : i = 0 ∨ i = 1 ∨ i = 2 := by omega
            rcases hi with rfl | rfl | rfl
            · have hcell := blk_cell hblk 0
              have hfree := blk_free hblk 0
              have HN := Lib.hid (blk_set (i := 0) (v := .int .i64 (10 * x + ((s[k].toNat : Int) - 48))) hblk)
              have e1 : IntKind.i64.wrap (10 * x) = 10 * x := IntWalk.i64_in _ (by omega)
              have e4 : IntKind.i64.wrap (10 * x + ((s[k].toNat : Int) - 48)) = 10 * x + ((s[k].toNat : Int) - 48) := IntWalk.i64_in _ (by omega)
              simp at hcell
              clear hblk
              go_wp2
              go_region
              all_goals
                go_wp2
                go_roundw
                case rel => exact ⟨k + 1, 0, _, y, z, by omega, rfl, by go_num, HS.out, HN.out, (hbr.setCell (by simp) _).drew, by simpa [World.setCell] using hlt⟩
                case measure => simp [intOf]; omega
            · have hcell := blk_cell hblk 1
              have hfree := blk_free hblk 1
              have HN := Lib.hid (blk_set (i := 1) (v := .int .i64 (10 * y + ((s[k].toNat : Int) - 48))) hblk)
              have e1 : IntKind.i64.wrap (10 * y) = 10 * y := IntWalk.i64_in _ (by omega)
              have e4 : IntKind.i64.wrap (10 * y + ((s[k].toNat : Int) - 48)) = 10 * y + ((s[k].toNat : Int) - 48) := IntWalk.i64_in _ (by omega)
              simp at hcell
              clear hblk
              go_wp2
              go_region
              all_goals
                go_wp2
                go_roundw
                case rel => exact ⟨k + 1, 1, x, _, z, by omega, rfl, by go_num, HS.out, HN.out, (hbr.setCell (by simp) _).drew, by simpa [World.setCell] using hlt⟩
                case measure => simp [intOf]; omega
            · have hcell := blk_cell hblk 2
              have hfree := blk_free hblk 2
              have HN := Lib.hid (blk_set (i := 2) (v := .int .i64 (10 * z + ((s[k].toNat : Int) - 48))) hblk)
              have e1 : IntKind.i64.wrap (10 * z) = 10 * z := IntWalk.i64_in _ (by omega)
              have e4 : IntKind.i64.wrap (10 * z + ((s[k].toNat : Int) - 48)) = 10 * z + ((s[k].toNat : Int) - 48) := IntWalk.i64_in _ (by omega)
              simp at hcell
              clear hblk
              go_wp2
              go_region
              all_goals
                go_wp2
                go_roundw
                case rel => exact ⟨k + 1, 2, x, y, _, by omega, rfl, by go_num, HS.out, HN.out, (hbr.setCell (by simp) _).drew, by simpa [World.setCell] using hlt⟩
                case measure => simp [intOf]; omega
          · have E := Lib.hid (spec_date_none (l := s.data.toList) (k := k + 1) (by rw [hst]; exact step_none x y z hd (by omega)))
            clear hst
            by_cases h46 : s[k].toNat = 46
            · have hb : ((s[k].toNat : Int) == 46) = true := by rw [beq_iff_eq]; omega
              have hi2 : decide ((i : Int) < 2) = false := decide_eq_false (by omega)
              have hlow : (s[k].toNat : Int) < 48 := by omega
              clear h46 hd hg
              go_wp2
              go_ret
              exact ⟨ret_int E.out.symm, hbr⟩
            · have hb : ((s[k].toNat : Int) == 46) = false := by rw [beq_eq_false_iff_ne]; omega
              have hm : (s[k].toNat : Int) < 48 ∨ 57 < (s[k].toNat : Int) := by omega
              clear h46 hd hg
              rcases hm with hm | hm
              · go_wp2
                go_ret
                exact ⟨ret_int E.out.symm, hbr⟩
              · have hx : decide ((s[k].toNat : Int) ≤ 57) = false := decide_eq_false (by omega)
                go_wp2
                go_ret
                exact ⟨ret_int E.out.symm, hbr⟩
      · have hp' : parseP s.data.toList = some (i, x, y, z) := by
          rw [← hp, List.take_of_length_le (by rw [size_toList]; omega)]
        have c0 := blk_cell hblk 0
        have c1 := blk_cell hblk 1
        have c2 := blk_cell hblk 2
        simp at c0 c1 c2
        have cD := Lib.hid (fun w => spec_dayNumber x y z w)
        have HNo := Lib.hid (fun h => spec_date_no hp' h)
        have hnb := dnum_bd x y z
        clear hp hp' hblk
        generalize dnum x y z = n at *
        have HC : Hid (n < 0 ∨ (0 ≤ n ∧ dateT n = s.data.toList) ∨ (0 ≤ n ∧ dateT n ≠ s.data.toList)) := by
          show _ ∨ _
          by_cases h1 : n < 0
          · exact .inl h1
          · by_cases h2 : dateT n = s.data.toList
            · exact .inr (.inl ⟨by omega, h2⟩)
            · exact .inr (.inr ⟨by omega, h2⟩)
        go_wp2
        go_region_with (go_at_call 73; refine (cD.out _).mono ?_; rintro e w2 ⟨rfl, hb2⟩)
        all_goals
          have hbz : Below w.heap.size w w2 := hbr.trans ((Below.mono ⟨hb2.os, hb2.tape, hb2.output, hb2.size, hb2.block⟩ hbr.size : Below w.heap.size wr w2))
          rcases HC.out with hn | ⟨hn, he⟩ | ⟨hn, he⟩
          · go_wp2
            go_ret
            exact ⟨ret_int (HNo.out (.inl hn)).symm, hbz⟩
          · have cT := Lib.hid (fun w => spec_dateText n w)
            rw [he, show (⟨s.data.toList.toArray⟩ : ByteArray) = s from rfl] at cT
            have HE := Lib.hid he
            clear he
            go_wp2_with fail
            refine (cT.out _).mono ?_
            rintro e w3 ⟨rfl, hb3⟩
            go_wp2
            go_ret
            exact ⟨ret_int (spec_date_yes hn hnb.2 HE.out).symm, hbz.trans (hb3.mono hbz.size)⟩
          · have HE := Lib.hid he
            have hq : (dateT n == s.toList) = false := by rw [beq_eq_false_iff_ne, ByteArray.toList_eq]; exact he
            clear he
            go_wp2_with fail
            refine (spec_dateText n _).mono ?_
            rintro e w3 ⟨rfl, hb3⟩
            go_wp2
            go_ret
            exact ⟨ret_int (HNo.out (.inr HE.out)).symm, hbz.trans (hb3.mono hbz.size)⟩
  · have hlb : ((s.size : Int) != 10) = true := by rw [bne_iff_ne]; omega
    have E := Lib.hid (readD_len (l := s.data.toList) (by rw [size_toList]; exact hl))
    clear hl
    go_enter Tryd.func64, Tryd.ntmps64
    go_wp2
    go_ret
    exact ⟨ret_int E.out.symm, Below.refl _ _⟩

end Go.Proofs.YtldllhfadihmeaaDoor
