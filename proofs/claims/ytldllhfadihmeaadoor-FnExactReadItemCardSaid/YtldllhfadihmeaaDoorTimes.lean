/- timesNamed of the program: cntE. -/
import Derived.Test.YtldllhfadihmeaaDoorElText
import Derived.Test.YtldllhfadihmeaaDoorItem
namespace Go.Proofs.YtldllhfadihmeaaDoor
open Go.RowKit

/-- What a round keeps. -/
def CnTo (l : List El) (n : ByteArray) (k : Nat) (c : Nat) : Prop := c = (l.take k).countP (fun e => eqS e.1 n)
theorem CnTo.zero (l : List El) (n : ByteArray) : CnTo l n 0 0 := by simp [CnTo]
theorem CnTo.yes {l : List El} {n : ByteArray} {k c : Nat} (h : CnTo l n k c) (hk : k < l.length) (he : eqS l[k].1 n = true) : CnTo l n (k + 1) (c + 1) := by
  unfold CnTo at *
  rw [List.take_succ_eq_append_getElem hk, List.countP_append, ← h]; simp [he]
theorem CnTo.no {l : List El} {n : ByteArray} {k c : Nat} (h : CnTo l n k c) (hk : k < l.length) (he : eqS l[k].1 n = false) : CnTo l n (k + 1) c := by
  unfold CnTo at *
  rw [List.take_succ_eq_append_getElem hk, List.countP_append, ← h]; simp [he]
theorem CnTo.done {l : List El} {n : ByteArray} {k c : Nat} (h : CnTo l n k c) (hk : l.length ≤ k) : cntE l n = c := by
  unfold CnTo at h
  rw [List.take_of_length_le hk] at h
  exact h.symm
theorem CnTo.le {l : List El} {n : ByteArray} {k c : Nat} (h : CnTo l n k c) : c ≤ k := by
  rw [show c = _ from h]
  exact Nat.le_trans List.countP_le_length (List.length_take_le _ _)

set_option maxHeartbeats 1000000 in
theorem impl_timesNamed (a : Option Addr) (n cap : Nat) (l : List El) (s : ByteArray) (w : World) (h : ElAt w a l) (hn : l.length = n) (hm : n ≤ maxLen) :
    Calls Tryd.prog 59 #[.slice a n cap, .string s] w fun e w' => e = .returned (.int .i64 (cntE l s : Nat)) ∧ Below w.heap.size w w' := by
  unfold maxLen at hm
  have HN := Lib.hid hn
  have HE := Lib.hid h
  clear hn h
  go_enter Tryd.func59, Tryd.ntmps59
  go_wp2
  go_loopw [5, 10] (fun c i wr => ∃ j k : Nat, c = .int .i64 j ∧ i = .int .i64 k ∧ k ≤ n ∧ j ≤ k ∧ Hid (CnTo l s k j) ∧ Below w.heap.size w wr) (fun _ i _ => n - (intOf i).toNat)
  case atStart => exact ⟨0, 0, rfl, rfl, by omega, by omega, CnTo.zero _ _, Below.refl _ _⟩
  case round =>
    obtain ⟨j, k, rfl, rfl, hk, hjk, ho, hbr⟩ := hrel
    by_cases hlt : k < n
    · have hkl : k < l.length := by rw [HN.out]; exact hlt
      obtain ⟨b, off, ha, h1, h2⟩ := HE.out.old hbr k hkl
      have HY := Lib.hid (ho.out.yes hkl)
      have HZ := Lib.hid (ho.out.no hkl)
      have hbx := hbr.alloc hbr.size (.cells #[.string l[k].1, .string l[k].2] 67)
      generalize l[k] = x at *
      subst ha
      clear ho
      cases hq : eqS x.1 s
      · have E := Lib.hid (HZ.out hq)
        have hq : (x.1.toList == s.toList) = false := hq
        go_wp2
        go_roundw
        case rel => exact ⟨j, k + 1, rfl, by go_num, by omega, by omega, E.out, hbx⟩
        case measure => simp [intOf]; omega
      · have E := Lib.hid (HY.out hq)
        have hq : (x.1.toList == s.toList) = true := hq
        go_wp2
        go_roundw
        case rel => exact ⟨j + 1, k + 1, by go_num, by go_num, by omega, by omega, E.out, hbx⟩
        case measure => simp [intOf]; omega
    · have E := Lib.hid (ho.out.done (by rw [HN.out]; omega))
      go_wp2
      go_ret
      exact ⟨by rw [E.out]; rfl, hbr⟩
end Go.Proofs.YtldllhfadihmeaaDoor
