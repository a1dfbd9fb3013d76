/- What NewItems, ChangedItems and GoneKeys compute. Plain facts, no program. No condition. -/
import Derived.Test.YtldllhfadihmeaaFeed
namespace Go.Proofs.Ytldllhfadihmeaa

/-- The items of two valid feeds that a test keeps. -/
def selI (p : List It → It → Bool) (a b : List It) : List It := if feedV a = true ∧ feedV b = true then b.filter (p a) else []
theorem selI_bad {p : List It → It → Bool} {a b : List It} (h : feedV a = false ∨ feedV b = false) : selI p a b = [] := by
  unfold selI
  rw [if_neg]
  rintro ⟨h1, h2⟩
  rcases h with h | h
  · rw [h] at h1; cases h1
  · rw [h] at h2; cases h2
theorem selI_ok {p : List It → It → Bool} {a b : List It} (h1 : feedV a = true) (h2 : feedV b = true) : selI p a b = b.filter (p a) := by unfold selI; rw [if_pos ⟨h1, h2⟩]
theorem selI_len (p : List It → It → Bool) (a b : List It) : (selI p a b).length ≤ 8 := by
  unfold selI
  split
  · rename_i h
    have := ((feedV_iff b).1 h.2).1
    exact Nat.le_trans (List.length_filter_le _ _) this
  · simp
/-- What a round keeps. -/
def SelTo (q : It → Bool) (b : List It) (k : Nat) (l : List It) : Prop := l = (b.take k).filter q
theorem SelTo.zero (q : It → Bool) (b : List It) : SelTo q b 0 [] := by simp [SelTo]
theorem SelTo.yes {q : It → Bool} {b l : List It} {k : Nat} (h : SelTo q b k l) (hk : k < b.length) (hq : q b[k] = true) : SelTo q b (k + 1) (l ++ [b[k]]) := by
  unfold SelTo at *
  rw [take_snocI b k hk, List.filter_append, ← h]; simp [hq]
theorem SelTo.no {q : It → Bool} {b l : List It} {k : Nat} (h : SelTo q b k l) (hk : k < b.length) (hq : q b[k] = false) : SelTo q b (k + 1) l := by
  unfold SelTo at *
  rw [take_snocI b k hk, List.filter_append, ← h]; simp [hq]
theorem SelTo.done {q : It → Bool} {b l : List It} {k : Nat} (h : SelTo q b k l) (hk : b.length ≤ k) : l = b.filter q := by
  unfold SelTo at h
  rwa [List.take_of_length_le hk] at h
theorem SelTo.len {q : It → Bool} {b l : List It} {k : Nat} (h : SelTo q b k l) : l.length ≤ k := by
  rw [show l = _ from h]
  exact Nat.le_trans (List.length_filter_le _ _) (by rw [List.length_take]; omega)
def newP (a : List It) (i : It) : Bool := !hasK a i.key
def newI : List It → List It → List It := selI newP
end Go.Proofs.Ytldllhfadihmeaa
