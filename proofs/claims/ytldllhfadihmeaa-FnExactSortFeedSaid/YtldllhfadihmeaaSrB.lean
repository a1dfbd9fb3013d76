/- SortFeed of the reference: l6Before. -/
import Derived.Test.YtldllhfadihmeaaSort
import Derived.Test.YtldllhfadihmeaaNewS
import Derived.Sort.Walk0
namespace Go.Proofs.Ytldllhfadihmeaa
open Go.RowKit

set_option maxHeartbeats 400000 in
theorem before_any (x y : It) (w : World) :
    Calls Try.prog 47 #[.agg #[.string x.key, .string x.title, .string x.body, .int .i64 x.day], .agg #[.string y.key, .string y.title, .string y.body, .int .i64 y.day]] w fun e w' => e = .returned (.bool (befI x y)) ∧ Below w.heap.size w w' := by
  by_cases h1 : y.day < x.day
  · have hb : befI x y = true := by rw [befI_iff]; exact .inl h1
    rw [hb]
    go_enter Try.func47, Try.ntmps47
    go_wp2
    go_ret
    exact ⟨rfl, ((Below.refl _ _).alloc (Nat.le_refl _) _).alloc (by simp) _⟩
  · by_cases h2 : x.day = y.day
    · have hb : befI x y = Op.bytesLess x.key.toList y.key.toList := by rw [bytesLess_eq, Lib.toList_data, Lib.toList_data]; simp only [befI, h2, Int.lt_irrefl, decide_false, decide_true, Bool.false_or, Bool.true_and]
      rw [hb]
      go_enter Try.func47, Try.ntmps47
      go_wp2
      go_ret
      exact ⟨rfl, ((Below.refl _ _).alloc (Nat.le_refl _) _).alloc (by simp) _⟩
    · have hb : befI x y = false := by simp [befI, h1, h2]
      rw [hb]
      go_enter Try.func47, Try.ntmps47
      go_wp2
      go_ret
      exact ⟨rfl, ((Below.refl _ _).alloc (Nat.le_refl _) _).alloc (by simp) _⟩
end Go.Proofs.Ytldllhfadihmeaa
