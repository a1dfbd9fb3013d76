/- Rows of elements in memory. No program, no condition. -/
import Derived.Test.YtldllhfadihmeaaDoorPlM
import Derived.Test.YtldllhfadihmeaaDoorBytes
import Derived.Deep.Slices
import Derived.WalkSmall
namespace Go.Proofs.YtldllhfadihmeaaDoor
open Go.RowKit

/-- Behind the address a lie the elements l, two cells each. -/
def ElAt (w : World) (a : Option Addr) (l : List El) : Prop :=
  ∀ k (hk : k < l.length), ∃ b off, a = some ⟨b, off, none⟩ ∧ w.cell? ⟨b, off + k * 2, none⟩ = some (.string l[k].1) ∧ w.cell? ⟨b, off + k * 2 + 1, none⟩ = some (.string l[k].2)
theorem ElAt.nil (w : World) (a : Option Addr) : ElAt w a [] := fun k hk => absurd hk (by simp)
theorem ElAt.lt {w : World} {b off : Nat} {l : List El} (h : ElAt w (some ⟨b, off, none⟩) l) (hl : 0 < l.length) : b < w.heap.size := by
  obtain ⟨b', off', e, h1, _⟩ := h 0 hl
  injection e with e; injection e with e1 e2
  subst e1
  exact World.block_lt_of_cell? w _ h1
theorem ElAt.below {w w' : World} {a : Option Addr} {l : List El} (h : ElAt w a l) {B : Nat} (hb : Below B w w') (hB : ∀ x, a = some x → l ≠ [] → x.block < B) : ElAt w' a l := by
  intro k hk
  obtain ⟨b, off, rfl, h1, h2⟩ := h k hk
  have hlt := hB _ rfl (by intro e; rw [e] at hk; simp at hk)
  exact ⟨b, off, rfl, (hb.cell (p := ⟨b, off + k * 2, none⟩) hlt).trans h1, (hb.cell (p := ⟨b, off + k * 2 + 1, none⟩) hlt).trans h2⟩
theorem ElAt.old {w w' : World} {a : Option Addr} {l : List El} (h : ElAt w a l) (hb : Below w.heap.size w w') : ElAt w' a l := by
  intro k hk
  obtain ⟨b, off, rfl, h1, h2⟩ := h k hk
  exact ⟨b, off, rfl, (hb.cell (World.block_lt_of_cell? w _ h1)).trans h1, (hb.cell (World.block_lt_of_cell? w _ h2)).trans h2⟩
theorem ElAt.alloc {w : World} {a : Option Addr} {l : List El} (h : ElAt w a l) (o : Obj) : ElAt (w.alloc o) a l := h.old ((Below.refl _ _).alloc (Nat.le_refl _) o)
end Go.Proofs.YtldllhfadihmeaaDoor
