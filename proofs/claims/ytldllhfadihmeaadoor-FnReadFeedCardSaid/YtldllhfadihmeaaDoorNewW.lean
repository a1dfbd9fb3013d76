/- NewItems of the program: newI. -/
import Derived.Test.YtldllhfadihmeaaDoorIwW
import Derived.Test.YtldllhfadihmeaaDoorPlM
import Derived.Deep.AppendLies
namespace Go.Proofs.YtldllhfadihmeaaDoor
open Go.RowKit

/-- What a function that gives items leaves behind. -/
def ItsGiven (l : List It) (w : World) (e : Ending) (w' : World) : Prop :=
  (∃ (a : Option Addr) (n cap : Nat), e = .returned (.slice a n cap) ∧ w'.ownsRow w.heap.size 41 4 (.slice a n cap) n (flatI l) ∧ l.length = n ∧ n ≤ cap ∧ cap ≤ maxLen) ∧ Below w.heap.size w w'
theorem own_cap {w : World} {base t size n cap : Nat} {a : Option Addr} {xs : List Value} (h : w.ownsRow base t size (.slice a n cap) n xs) : n ≤ cap ∧ cap ≤ maxLen := by
  rcases h.2 with ⟨e, h0⟩ | ⟨g, c, cur, e, _, _, h1, h2, _⟩
  · injection e with _ _ e3
    subst e3; subst h0
    exact ⟨Nat.le_refl _, by unfold maxLen; omega⟩
  · injection e with _ _ e3
    subst e3
    exact ⟨h1, h2⟩
theorem own_low' {w w' : World} {base t size n cap : Nat} {xs : List Value} {a : Option Addr} (h : w.ownsRow base t size (.slice a n cap) n xs) (hb : Below w.heap.size w w') : w'.ownsRow base t size (.slice a n cap) n xs :=
  h.kept (below_grown hb) (by cases (Value.slice a n cap).ownBlock <;> simp)
theorem item_kept (W : World) (t : TypeId) (x : It) (w2 : World) (h : Below (W.heap.size + 1) (W.alloc (.cells #[.string x.key, .string x.title, .string x.body, .int .i64 x.day] t)) w2) :
    w2.cell? ⟨W.heap.size, 0, none⟩ = some (.string x.key) ∧ w2.cell? ⟨W.heap.size, 1, none⟩ = some (.string x.title) ∧ w2.cell? ⟨W.heap.size, 2, none⟩ = some (.string x.body) ∧ w2.cell? ⟨W.heap.size, 3, none⟩ = some (.int .i64 x.day) :=
  ⟨(h.cell (p := ⟨W.heap.size, 0, none⟩) (by simp)).trans (by go_simp), (h.cell (p := ⟨W.heap.size, 1, none⟩) (by simp)).trans (by go_simp), (h.cell (p := ⟨W.heap.size, 2, none⟩) (by simp)).trans (by go_simp), (h.cell (p := ⟨W.heap.size, 3, none⟩) (by simp)).trans (by go_simp)⟩
theorem its_given {l l' : List It} {w w' : World} (h : l' = l) (a : Option Addr) (n cap : Nat) (ho : w'.ownsRow w.heap.size 41 4 (.slice a n cap) n (flatI l)) (hl : l.length = n) (hb : Below w.heap.size w w') : ItsGiven l' w (.returned (.slice a n cap)) w' := by
  subst h
  exact ⟨⟨a, n, cap, rfl, ho, hl, own_cap ho⟩, hb⟩
theorem cell_four_new (W : World) (a b c d : Value) (t : TypeId) : ∀ j u, [a, b, c, d][j]? = some u → (W.alloc (.cells #[a, b, c, d] t)).cell? ((⟨W.heap.size, 0, none⟩ : Addr).add j) = some u := by
  intro j u h
  match j with
  | 0 => simp at h; subst h; simp [Addr.add]
  | 1 => simp at h; subst h; simp [Addr.add]
  | 2 => simp at h; subst h; simp [Addr.add]
  | 3 => simp at h; subst h; simp [Addr.add]
  | j + 4 => simp at h
theorem newP_num {a : List It} {i : It} {v : Int} (h : v = numI a i.key) : newP a i = decide (v < 0) := by
  unfold newP
  subst h
  cases hh : hasK a i.key
  · rw [decide_eq_true ((numI_neg a i.key).2 hh)]; rfl
  · rw [decide_eq_false (fun e => by rw [(numI_neg a i.key).1 e] at hh; cases hh)]; rfl

theorem its_cap {l : List It} {x : It} (h : ∀ i ∈ l, i.key.size ≤ maxLen ∧ i.title.size ≤ maxLen ∧ i.body.size ≤ maxLen) (hx : x.key.size ≤ maxLen ∧ x.title.size ≤ maxLen ∧ x.body.size ≤ maxLen) : ∀ i ∈ l ++ [x], i.key.size ≤ maxLen ∧ i.title.size ≤ maxLen ∧ i.body.size ≤ maxLen := by
  intro i hi
  rw [List.mem_append, List.mem_singleton] at hi
  rcases hi with hi | rfl
  · exact h i hi
  · exact hx

end Go.Proofs.YtldllhfadihmeaaDoor
