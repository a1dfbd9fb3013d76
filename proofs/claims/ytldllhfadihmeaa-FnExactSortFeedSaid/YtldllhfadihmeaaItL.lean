/- What the laws do to items: szItem, toItem, eqItem and their rows. -/
import Derived.Test.YtldllhfadihmeaaItArg
import Derived.Test.YtldllhfadihmeaaEqS
import Derived.Deep.OwnRows
import Derived.Deep.RegionWith
namespace Go.Proofs.Ytldllhfadihmeaa
open Go.RowKit

set_option maxHeartbeats 400000 in
theorem szItem_any (i : It) (left : Int) (w : World) (hx : i.key.size ≤ maxLen) (hy : i.title.size ≤ maxLen) (hz : i.body.size ≤ maxLen) (h0 : 0 ≤ left) (h1 : left ≤ 1048576) :
    Calls Try.prog 22 #[.agg #[.string i.key, .string i.title, .string i.body, .int .i64 i.day], .int .i64 left] w fun e w' => (∃ r : Int, e = .returned (.int .i64 r) ∧ r ≤ left ∧ (0 ≤ r → (i.key.size : Int) ≤ left ∧ (i.title.size : Int) ≤ left ∧ (i.body.size : Int) ≤ left)) ∧ Below w.heap.size w w' := by
  unfold maxLen at hx hy hz
  go_enter Try.func22, Try.ntmps22
  go_wp2
  all_goals
    go_ret
    exact ⟨⟨_, rfl, by omega, by omega⟩, (Below.refl _ _).alloc (Nat.le_refl _) _⟩

set_option maxHeartbeats 400000 in
theorem toItem_any (i : It) (w : World) :
    Calls Try.prog 24 #[.agg #[.string i.key, .string i.title, .string i.body, .int .i64 i.day]] w fun e w' => e = .returned (.agg #[.string i.key, .string i.title, .string i.body, .int .i64 i.day]) ∧ Below w.heap.size w w' := by
  go_enter Try.func24, Try.ntmps24
  go_wp2
  refine bodyPost_ret (v := .agg #[.string i.key, .string i.title, .string i.body, .int .i64 i.day]) ?_ rfl ⟨rfl, (((Below.refl _ _).alloc (Nat.le_refl _) _).alloc (by simp) _).alloc (by simp; omega) _⟩
  have hres : Try.f24.results = #[.cell 2 34] := by kernel_rfl
  simp only [results, hres]
  go_simp
end Go.Proofs.Ytldllhfadihmeaa
