/- strings.HasPrefix, by its contract. No condition. -/
import Derived.Test.YtldllhfadihmeaaDoorBytes
namespace Go.Proofs.YtldllhfadihmeaaDoor
open Go.RowKit

def hasP (s p : ByteArray) : Bool := p.data.toList.isPrefixOf s.data.toList
theorem hasP_iff (s p : ByteArray) : hasP s p = true ↔ p.data.toList <+: s.data.toList := by unfold hasP; rw [List.isPrefixOf_iff_prefix]
theorem hasP_short {s p : ByteArray} (h : s.size < p.size) : hasP s p = false := by
  rw [← Bool.not_eq_true, hasP_iff]
  intro h2
  have := h2.length_le
  rw [size_toList, size_toList] at this
  omega
theorem hasP_long (s p : ByteArray) : hasP s p = ((s.extract 0 p.size).toList == p.toList) := by
  rw [Bool.eq_iff_iff, hasP_iff, ByteArray.toList_eq, ByteArray.toList_eq, beq_iff_eq, Lib.extract_data, List.drop_zero, Nat.sub_zero, List.prefix_iff_eq_take, size_toList]
  exact eq_comm

set_option maxHeartbeats 400000 in
theorem hasPrefix_any (s p : ByteArray) (w : World) (_hs : s.size ≤ maxLen) (_hp : p.size ≤ maxLen) :
    Calls Tryd.prog 90 #[.string s, .string p] w fun e w' => e = .returned (.bool (hasP s p)) ∧ w = w' := by
  unfold maxLen at _hs _hp
  by_cases h : p.size ≤ s.size
  · have E := Lib.hid (hasP_long s p)
    go_enter Tryd.func90, Tryd.ntmps90
    go_wp2
    go_ret
    exact ⟨(ret_bool E.out).symm, rfl⟩
  · have E := Lib.hid (hasP_short (s := s) (p := p) (by omega))
    go_enter Tryd.func90, Tryd.ntmps90
    go_wp2
    go_ret
    exact ⟨(ret_bool E.out).symm, rfl⟩
end Go.Proofs.YtldllhfadihmeaaDoor
