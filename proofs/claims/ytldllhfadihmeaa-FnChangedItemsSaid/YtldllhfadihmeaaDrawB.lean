/- Rows of numbers and of texts behind a draw. No condition. -/
import Derived.Test.YtldllhfadihmeaaDrawT
import Derived.Test.YtldllhfadihmeaaDrawA
import Derived.ShutString
namespace Go.Proofs.Ytldllhfadihmeaa
open Go.RowKit

/-- A row of numbers that was just laid. -/
def IntRow (cs : Array Value) (lo hi : Int) : Prop := ∀ k, k < cs.size → ∃ v : Int, cs[k]? = some (.int .i64 v) ∧ lo ≤ v ∧ v ≤ hi
theorem intRow_list {lo hi : Int} (l : List Int) (h : ∀ x ∈ l, lo ≤ x ∧ x ≤ hi) : IntRow (l.map (Value.int .i64)).toArray lo hi := by
  intro k hk
  simp at hk
  exact ⟨l[k], by simp [List.getElem?_map, List.getElem?_eq_getElem hk], h _ (List.getElem_mem hk)⟩
theorem row_int {W w2 : World} {j g k : Nat} {t : TypeId} {cs : Array Value} {lo hi : Int} (hg : W.grownBy w2 (some g)) (hj : W.heap[j]? = some (.cells cs t (0, 0))) (hne : j ≠ g) (hr : IntRow cs lo hi) (hk : k < cs.size) :
    ∃ v : Int, w2.cell? ⟨j, k, none⟩ = some (.int .i64 v) ∧ lo ≤ v ∧ v ≤ hi := by
  obtain ⟨v, h1, h2⟩ := hr k hk
  have hlt := (Array.getElem?_eq_some_iff.1 hj).1
  refine ⟨v, ?_, h2⟩
  rw [World.cell?_of_block (w := W) (a := ⟨j, k, none⟩) (hg.block j hlt (fun e => hne (by injection e)))]
  exact (cell_of_row _ _ _ _ _ _ hj).trans h1
theorem two_first (w : World) (A B : Obj) : ((w.alloc A).alloc B).heap[w.heap.size]? = some A := by
  rw [Below.heap_alloc _ _ _ (by simp)]; exact heap_alloc_new _ _
theorem two_second (w : World) (A B : Obj) : ((w.alloc A).alloc B).heap[w.heap.size + 1]? = some B := by
  rw [← show (w.alloc A).heap.size = w.heap.size + 1 from by simp]; exact heap_alloc_new _ _
/-- What a draw of a number out of a code leaves behind. -/
def IntDrawn (w : World) (lo hi : Int) (e : Ending) (w' : World) : Prop :=
  ∃ v : Int, e = .returned (.int .i64 v) ∧ lo ≤ v ∧ v ≤ hi ∧ Below w.heap.size w w'

theorem strRow_list {B : Nat} (l : List ByteArray) (h : ∀ x ∈ l, x.size ≤ B) : StrRow (l.map Value.string).toArray B := by
  intro k hk
  simp at hk
  exact ⟨l[k], by simp [List.getElem?_map, List.getElem?_eq_getElem hk], h _ (List.getElem_mem hk)⟩


end Go.Proofs.Ytldllhfadihmeaa
