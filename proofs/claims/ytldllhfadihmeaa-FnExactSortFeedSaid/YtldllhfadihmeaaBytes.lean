/- Small facts on strings as values. No condition. -/
import Derived.Test.YtldllhfadihmeaaText
import Derived.Lib.SmallJoins
import Derived.Lib.Strings
import Derived.Deep.Draws
namespace Go.Proofs.Ytldllhfadihmeaa
open Go.RowKit

theorem ba_eq {s : ByteArray} {l : List UInt8} (h : s.data.toList = l) : s = ⟨l.toArray⟩ := by
  cases s; subst h; rfl
theorem ba_app (a b : ByteArray) : (a ++ b).data.toList = a.data.toList ++ b.data.toList := by simp [ByteArray.data_append]
theorem ret_str {s : ByteArray} {l : List UInt8} (h : s.data.toList = l) : Ending.returned (.string s) = .returned (.string ⟨l.toArray⟩) := by rw [ba_eq h]
/-- The length of the string in a slot: a loop's measure. -/
def strLen : Value → Nat | .string s => s.size | _ => 0
theorem take_part {s : ByteArray} {a b : List UInt8} (h : s.data.toList = a ++ b) : (s.extract 0 a.length).data.toList = a := by
  rw [Lib.extract_data, h, List.drop_zero, Nat.sub_zero, List.take_left]
theorem drop_part {s : ByteArray} {a b : List UInt8} (h : s.data.toList = a ++ b) : (s.extract a.length s.size).data.toList = b := by
  rw [Lib.extract_data, h, List.drop_left]
  have : s.size = a.length + b.length := by rw [← size_toList, h, List.length_append]
  exact List.take_of_length_le (by omega)
theorem drop_at (s : ByteArray) (k : Nat) (h : k < s.size) : s.data.toList.drop k = s[k] :: s.data.toList.drop (k + 1) := by
  rw [List.drop_eq_getElem_cons (by rw [size_toList]; exact h)]; rfl
theorem one_byte (s : ByteArray) (k : Nat) (hk : k < s.size) : (s.extract k (k + 1)).data.toList = [s[k]] := by
  rw [Lib.extract_data, drop_at s k hk, show k + 1 - k = 1 from by omega]; rfl
theorem size_of_list (l : List UInt8) : (⟨l.toArray⟩ : ByteArray).size = l.length := by simp [ByteArray.size]
/-- A text and true, or no text and false. -/
def strOpt : Option ByteArray → Value
  | some t => .tuple #[.string t, .bool true]
  | none => .tuple #[.string ⟨#[]⟩, .bool false]
theorem ret_opt {o : Option ByteArray} {t : ByteArray} (h : o = some t) : Ending.returned (.tuple #[.string t, .bool true]) = .returned (strOpt o) := by rw [h]; rfl
theorem ret_non {o : Option ByteArray} (h : o = none) : Ending.returned (.tuple #[.string ⟨#[]⟩, .bool false]) = .returned (strOpt o) := by rw [h]; rfl
theorem opt_same (o : Option ByteArray) : (∃ t, strOpt o = .tuple #[.string t, .bool true]) ∨ strOpt o = .tuple #[.string ⟨#[]⟩, .bool false] := by
  cases o with
  | none => exact .inr rfl
  | some t => exact .inl ⟨t, rfl⟩
theorem below_grown {w w' : World} (h : Below w.heap.size w w') : w.grownBy w' none := ⟨h.os, h.tape, h.output, h.size, fun k hk _ => h.block k hk⟩
theorem below_drewN' {B : Nat} {a w : World} (h : Below B a w) (n : Nat) : Below B a (w.drewN n) := ⟨h.os, h.tape, h.output, h.size, h.block⟩
end Go.Proofs.Ytldllhfadihmeaa
