/- Small facts for a region by its invariant (the same stand in RfS; never import both). -/
import Derived.Test.YtldllhfadihmeaaNewS
import Derived.Test.YtldllhfadihmeaaRegInv
import Derived.Test.YtldllhfadihmeaaOwnB
import Derived.Deep.QuietTactic
import Derived.BigQuiet
import Derived.Laws.AppendOwn
namespace Go.Proofs.Ytldllhfadihmeaa
open Go.RowKit

theorem heap_cells4 {w : World} {b : Nat} {c0 c1 c2 c3 : Value} {t : TypeId} (h : w.heap[b]? = some (.cells #[c0, c1, c2, c3] t (0, 0))) :
    w.cell? ⟨b, 0, none⟩ = some c0 ∧ w.cell? ⟨b, 1, none⟩ = some c1 ∧ w.cell? ⟨b, 2, none⟩ = some c2 ∧ w.cell? ⟨b, 3, none⟩ = some c3 ∧
    w.frozen? ⟨b, 0, none⟩ = false ∧ w.frozen? ⟨b, 1, none⟩ = false ∧ w.frozen? ⟨b, 2, none⟩ = false ∧ w.frozen? ⟨b, 3, none⟩ = false := by
  refine ⟨?_, ?_, ?_, ?_, ?_, ?_, ?_, ?_⟩ <;> simp [World.cell?, World.frozen?, h]
theorem ready_ltG {md : Region.Mode} {ops : Array Oper} {L : Array Bool} {i : Nat} (h : i ∈ Region.ready md ops L) : i < ops.size := by
  obtain ⟨_, o, ho, _⟩ := mem_ready.1 h
  exact (Array.getElem?_eq_some_iff.1 ho).1
theorem ready_depG {md : Region.Mode} {ops : Array Oper} {L : Array Bool} {i : Nat} {o : Oper} (h : i ∈ Region.ready md ops L) (ho : ops[i]? = some o) : ∀ e ∈ o.after, Region.binds md e = true → L.getD e.on false = true := by
  obtain ⟨_, o', ho', hd⟩ := mem_ready.1 h
  rw [ho] at ho'
  injection ho' with e
  subst e
  exact hd
theorem own_any0 {w w' : World} {B n : Nat} {v : Value} {t : TypeId} {xs : List Value} (h : w.ownsRow B t 4 v n xs) (hg : w.grownBy w' none) : w'.ownsRow B t 4 v n xs :=
  h.kept hg (by cases v.ownBlock <;> simp)
theorem heap_kept0 {w w' : World} {b : Nat} {o : Obj} (hg : w.grownBy w' none) (h : w.heap[b]? = some o) : w'.heap[b]? = some o :=
  (hg.block _ (Array.getElem?_eq_some_iff.1 h).1 (fun e => by cases e)).trans h
theorem grown_own0 {w a b : World} {row : Option Nat} (h : w.grownBy a none) (k : a.grownBy b row) (hr : ∀ j, row = some j → w.heap.size ≤ j) : w.grownBy b none :=
  ⟨k.os.trans h.os, k.tape.trans h.tape, k.output.trans h.output, Nat.le_trans h.size k.size, fun i hi hne => (k.block i (Nat.lt_of_lt_of_le hi h.size) (fun e => by have := hr i e.symm; omega)).trans (h.block i hi hne)⟩
theorem heap_kept1 {w w' : World} {j b : Nat} {o : Obj} (hg : w.grownBy w' (some j)) (h : w.heap[b]? = some o) (hne : ¬ b = j) : w'.heap[b]? = some o :=
  (hg.block _ (Array.getElem?_eq_some_iff.1 h).1 (fun e => by injection e with e; exact hne e)).trans h
theorem getD_notG {L : Array Bool} {i : Nat} (hsz : i < L.size) (h : L.getD i true = false) : L.getD i false = false := by
  simp [hsz] at h ⊢
  exact h
theorem getD_set_hereG {L : Array Bool} {i : Nat} (h : i < L.size) : (L.setIfInBounds i true).getD i false = true := by simp [h]
theorem getD_set_noG {L : Array Bool} {i k : Nat} (h : (L.setIfInBounds i true).getD k false = false) : L.getD k false = false := by
  cases hk : L.getD k false
  · rfl
  · rw [getD_set_true hk] at h; cases h
theorem set_selfG (t : Array Value) (i : Nat) : t.setIfInBounds i (t.getD i undef) = t := by
  apply Array.ext_getElem?
  intro j
  by_cases h : i = j
  · subst h
    by_cases hi : i < t.size
    · simp [hi]
    · simp [hi]
  · rw [Array.getElem?_setIfInBounds_ne h]
theorem own_new4G (w : World) (B : Nat) (h : B ≤ w.heap.size) : (w.alloc (.cells #[] 34)).ownsRow B 34 4 (.slice (some ⟨w.heap.size, 0, none⟩) 0 0) 0 [] := by
  have := World.ownsRow_made (e := 34) (size := 4) w #[] 0 (Nat.le_refl _) (by unfold maxLen; omega) rfl
  obtain ⟨h1, h2⟩ := this
  refine ⟨h1, ?_⟩
  rcases h2 with h2 | ⟨g, cap, cur, hv, hg, r⟩
  · exact .inl h2
  · exact .inr ⟨g, cap, cur, hv, Nat.le_trans h hg, r⟩
theorem items_rowG {b : Nat} {w : World} {x : It} (h : w.heap[b]? = some (.cells #[.string x.key, .string x.title, .string x.body, .int .i64 x.day] 34 (0, 0))) : ∀ j u, (flatI [x])[j]? = some u → w.cell? ((⟨b, 0, none⟩ : Addr).add j) = some u := by
  obtain ⟨p0, p1, p2, p3, _⟩ := heap_cells4 h
  intro j u hj
  match j with
  | 0 => simp [flatI] at hj; subst hj; simpa [Addr.add] using p0
  | 1 => simp [flatI] at hj; subst hj; simpa [Addr.add] using p1
  | 2 => simp [flatI] at hj; subst hj; simpa [Addr.add] using p2
  | 3 => simp [flatI] at hj; subst hj; simpa [Addr.add] using p3
  | j + 4 => simp [flatI] at hj
end Go.Proofs.Ytldllhfadihmeaa
