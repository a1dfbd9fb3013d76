/- ItemWith of the program: withI. -/
import Derived.Test.YtldllhfadihmeaaDoorFvW
import Derived.Test.YtldllhfadihmeaaDoorItR
namespace Go.Proofs.YtldllhfadihmeaaDoor
open Go.RowKit

def dI (o : Option It) : It := o.getD ⟨⟨#[]⟩, ⟨#[]⟩, ⟨#[]⟩, 0⟩
theorem item_new (w : World) (t : TypeId) (w2 : World) (h : Below (w.heap.size + 1) (w.alloc (.cells #[.string ⟨#[]⟩, .string ⟨#[]⟩, .string ⟨#[]⟩, .int .i64 0] t)) w2) :
    (w2.cell? ⟨w.heap.size, 0, none⟩ = some (.string ⟨#[]⟩) ∧ w2.cell? ⟨w.heap.size, 1, none⟩ = some (.string ⟨#[]⟩) ∧ w2.cell? ⟨w.heap.size, 2, none⟩ = some (.string ⟨#[]⟩) ∧ w2.cell? ⟨w.heap.size, 3, none⟩ = some (.int .i64 0)) ∧
    (w2.frozen? ⟨w.heap.size, 0, none⟩ = false ∧ w2.frozen? ⟨w.heap.size, 1, none⟩ = false ∧ w2.frozen? ⟨w.heap.size, 2, none⟩ = false ∧ w2.frozen? ⟨w.heap.size, 3, none⟩ = false) := by
  refine ⟨⟨?_, ?_, ?_, ?_⟩, ?_, ?_, ?_, ?_⟩
  · exact (h.cell (p := ⟨w.heap.size, 0, none⟩) (by simp)).trans (by go_simp)
  · exact (h.cell (p := ⟨w.heap.size, 1, none⟩) (by simp)).trans (by go_simp)
  · exact (h.cell (p := ⟨w.heap.size, 2, none⟩) (by simp)).trans (by go_simp)
  · exact (h.cell (p := ⟨w.heap.size, 3, none⟩) (by simp)).trans (by go_simp)
  · exact (h.frozen (p := ⟨w.heap.size, 0, none⟩) (by simp)).trans (by go_simp)
  · exact (h.frozen (p := ⟨w.heap.size, 1, none⟩) (by simp)).trans (by go_simp)
  · exact (h.frozen (p := ⟨w.heap.size, 2, none⟩) (by simp)).trans (by go_simp)
  · exact (h.frozen (p := ⟨w.heap.size, 3, none⟩) (by simp)).trans (by go_simp)
theorem set_item {B : Nat} {a w : World} (h : Below B a w) {g : Nat} (hg : B ≤ g) (i : It) (k : Nat) : Below B a (setItem w g k i) := (((h.setCell hg _).setCell hg _).setCell hg _).setCell hg _

end Go.Proofs.YtldllhfadihmeaaDoor
