/- Small facts on strings as values. No condition. -/
import Derived.Test.YtjkdjemefkignaaText
import Derived.Lib.SmallJoins
import Derived.Lib.Strings
namespace Go.Proofs.Ytjkdjemefkignaa
open Go.RowKit

theorem ba_eq {s : ByteArray} {l : List UInt8} (h : s.data.toList = l) : s = ⟨l.toArray⟩ := by
  cases s; subst h; rfl
theorem ba_app (a b : ByteArray) : (a ++ b).data.toList = a.data.toList ++ b.data.toList := by simp [ByteArray.data_append]
theorem ret_str {s : ByteArray} {l : List UInt8} (h : s.data.toList = l) : Ending.returned (.string s) = .returned (.string ⟨l.toArray⟩) := by rw [ba_eq h]
/-- The length of the string in a slot: a loop's measure. -/
def strLen : Value → Nat | .string s => s.size | _ => 0
theorem take_part {s : ByteArray} {a b : List UInt8} (h : s.data.toList = a ++ b) : (s.extract 0 a.length).data.toList = a := by
  rw [Lib.extract_data, h, List.drop_zero, Nat.sub_zero, List.take_left]
theorem drop_part {s : ByteArray} {a b : List UInt8} (h : s.data.toList = a ++ b) : (s.extract a.length s.size).data.toList = b := by
  rw [Lib.extract_data, h, List.drop_left]
  have : s.size = a.length + b.length := by rw [← size_toList, h, List.length_append]
  exact List.take_of_length_le (by omega)
end Go.Proofs.Ytjkdjemefkignaa
