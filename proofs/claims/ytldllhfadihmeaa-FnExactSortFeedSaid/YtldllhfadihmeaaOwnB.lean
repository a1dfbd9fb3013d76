/- Owned rows and the blocks beside them. -/
import Derived.Test.YtldllhfadihmeaaNewW
import Derived.Test.YtldllhfadihmeaaDraw
namespace Go.Proofs.Ytldllhfadihmeaa
open Go.RowKit

theorem selI_len_newI (a b : List It) : (newI a b).length ≤ 8 := selI_len _ a b
theorem own_blk {w : World} {base t size n cap : Nat} {a : Option Addr} {xs : List Value} (h : w.ownsRow base t size (.slice a n cap) n xs) : ∀ x, a = some x → x.block < w.heap.size := by
  rintro x rfl
  rcases h.2 with ⟨e, _⟩ | ⟨g, c, cur, hv, _⟩
  · injection e with e1; cases e1
  · injection hv with e1 e2 e3
    injection e1 with e1
    subst e1
    exact (h.lt g rfl).2
theorem own_low_blk {w : World} {base t size n cap : Nat} {a : Option Addr} {xs : List Value} (h : w.ownsRow base t size (.slice a n cap) n xs) : ∀ x, a = some x → base ≤ x.block := by
  rintro x rfl
  rcases h.2 with ⟨e, _⟩ | ⟨g, c, cur, hv, _⟩
  · injection e with e1; cases e1
  · injection hv with e1 e2 e3
    injection e1 with e1
    subst e1
    exact (h.lt g rfl).1
theorem own_other {w w' : World} {base t size n cap g : Nat} {a : Option Addr} {xs : List Value} (h : w.ownsRow base t size (.slice a n cap) n xs) (hg : w.grownBy w' (some g)) (hne : ∀ x, a = some x → x.block ≠ g) : w'.ownsRow base t size (.slice a n cap) n xs := by
  refine h.kept hg ?_
  rcases h.2 with ⟨e, _⟩ | ⟨g', c, cur, hv, _⟩
  · injection e with e1; subst e1
    simp [Value.ownBlock]
  · injection hv with e1 e2 e3
    subst e1
    have := hne _ rfl
    simp [Value.ownBlock]
    omega
theorem at_other {w w' : World} {g : Nat} {a : Option Addr} {l : List It} (h : ItAt w a l) (hg : w.grownBy w' (some g)) (hne : ∀ x, a = some x → x.block ≠ g) : ItAt w' a l := fun k hk => by
  obtain ⟨b, off, ha, h1, h2, h3, h4⟩ := h k hk
  subst ha
  have hb : some b ≠ some g := fun e => hne _ rfl (by injection e)
  exact ⟨b, off, rfl, hg.cell h1 hb, hg.cell h2 hb, hg.cell h3 hb, hg.cell h4 hb⟩
theorem own_gg {w : World} {base base' t size n cap : Nat} {a : Option Addr} {xs : List Value} (h : w.ownsRow base t size (.slice a n cap) n xs) (hl : ∀ x, a = some x → base' ≤ x.block) : ∃ g, (∀ x, a = some x → x.block = g) ∧ base' ≤ g := by
  cases a with
  | none => exact ⟨base', (fun x e => by cases e), Nat.le_refl _⟩
  | some x => exact ⟨x.block, (fun y e => by injection e with e; rw [e]), hl x rfl⟩
theorem grown_some {a b c : World} {r : Option Nat} (h : a.grownBy b r) (k : b.grownBy c none) : a.grownBy c r :=
  ⟨k.os.trans h.os, k.tape.trans h.tape, k.output.trans h.output, Nat.le_trans h.size k.size, fun i hi hne => (k.block i (Nat.lt_of_lt_of_le hi h.size) (fun e => by cases e)).trans (h.block i hi hne)⟩

end Go.Proofs.Ytldllhfadihmeaa
