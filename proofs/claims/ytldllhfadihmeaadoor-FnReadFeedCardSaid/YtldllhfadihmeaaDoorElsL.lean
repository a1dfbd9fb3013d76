/- The laws' helpers on elements: szElementS, toElementS, eqElementS. -/
import Derived.Test.YtldllhfadihmeaaDoorElAt
import Derived.Deep.OwnRows
import Derived.Deep.RegionWith
namespace Go.Proofs.YtldllhfadihmeaaDoor
open Go.RowKit

theorem Tryd.infoE : (Tryd.prog.info? 67).map (fun i => (i.zero, i.size, i.bytes)) = some (some (.agg #[.string ⟨#[]⟩, .string ⟨#[]⟩]), 2, 32) := by kernel_rfl

/-- The cells of elements. -/
def flatE (l : List El) : List Value := l.flatMap fun e => [.string e.1, .string e.2]
theorem flatE_len (l : List El) : (flatE l).length = l.length * 2 := by
  induction l with
  | nil => rfl
  | cons e l ih => simp [flatE, List.flatMap_cons] at ih ⊢; omega
theorem flatE_app (a b : List El) : flatE (a ++ b) = flatE a ++ flatE b := by simp [flatE]
theorem flatE_at (l : List El) (k : Nat) (hk : k < l.length) : (flatE l)[k * 2]? = some (.string l[k].1) ∧ (flatE l)[k * 2 + 1]? = some (.string l[k].2) := by
  induction l generalizing k with
  | nil => simp at hk
  | cons e l ih =>
    cases k with
    | zero => exact ⟨rfl, rfl⟩
    | succ k =>
      have := ih k (by simpa using hk)
      rw [show (k + 1) * 2 = k * 2 + 1 + 1 from by omega]
      simpa [flatE, List.flatMap_cons] using this
theorem ElAt.own {w : World} {base t g n cap : Nat} {l : List El} (h : w.ownsRow base t 2 (.slice (some ⟨g, 0, none⟩) n cap) n (flatE l)) (hn : l.length = n) : ElAt w (some ⟨g, 0, none⟩) l := by
  intro k hk
  have e1 := h.cellAt (k * 2) (by omega)
  have e2 := h.cellAt (k * 2 + 1) (by omega)
  obtain ⟨f1, f2⟩ := flatE_at l k hk
  exact ⟨g, 0, rfl, by rw [Nat.zero_add]; exact e1.trans f1, by rw [Nat.zero_add]; exact e2.trans f2⟩




theorem grown_thruE {a b c : World} {row : Option Nat} (h : a.grownBy b row) (k : b.grownBy c row) : a.grownBy c row :=
  ⟨k.os.trans h.os, k.tape.trans h.tape, k.output.trans h.output, Nat.le_trans h.size k.size, fun i hi hne => (k.block i (Nat.lt_of_lt_of_le hi h.size) hne).trans (h.block i hi hne)⟩
/-- A row that is being filled: its first k elements are l's. -/
def FillToE (w : World) (base g n k : Nat) (l : List El) : Prop :=
  ∃ xs : List Value, w.ownsRow base 67 2 (.slice (some ⟨g, 0, none⟩) n n) n xs ∧ xs.take (k * 2) = flatE (l.take k)
theorem FillToE.start {w : World} {base g n : Nat} {xs : List Value} (l : List El) (h : w.ownsRow base 67 2 (.slice (some ⟨g, 0, none⟩) n n) n xs) : FillToE w base g n 0 l := ⟨xs, h, by simp [flatE]⟩
theorem FillToE.kept {w w' : World} {base g n k : Nat} {l : List El} (h : FillToE w base g n k l) (hg : w.grownBy w' none) : FillToE w' base g n k l := by
  obtain ⟨xs, h1, h2⟩ := h
  exact ⟨xs, h1.kept hg (.inr (by simp [Value.ownBlock])), h2⟩
theorem FillToE.cells {w : World} {base g n k : Nat} {l : List El} (h : FillToE w base g n k l) (hk : k < n) : (∃ u, w.cell? ⟨g, k * 2, none⟩ = some u) ∧ (∃ u, w.cell? ⟨g, k * 2 + 1, none⟩ = some u) ∧ w.frozen? ⟨g, k * 2, none⟩ = false ∧ w.frozen? ⟨g, k * 2 + 1, none⟩ = false ∧ base ≤ g ∧ g < w.heap.size := by
  obtain ⟨xs, h1, h2⟩ := h
  have hl := h1.lt g rfl
  refine ⟨⟨xs[k * 2]'(by rw [h1.1]; omega), ?_⟩, ⟨xs[k * 2 + 1]'(by rw [h1.1]; omega), ?_⟩, h1.frozenAt _, h1.frozenAt _, hl.1, hl.2⟩
  · rw [h1.cellAt _ (by omega), List.getElem?_eq_getElem (by rw [h1.1]; omega)]
  · rw [h1.cellAt _ (by omega), List.getElem?_eq_getElem (by rw [h1.1]; omega)]
theorem FillToE.done {w : World} {base g n : Nat} {l : List El} (h : FillToE w base g n n l) (hn : l.length = n) : w.ownsRow base 67 2 (.slice (some ⟨g, 0, none⟩) n n) n (flatE l) := by
  obtain ⟨xs, h1, h2⟩ := h
  rw [List.take_of_length_le (by rw [h1.1]; omega), List.take_of_length_le (by omega)] at h2
  rwa [h2] at h1
theorem take_set2 {xs : List Value} {k : Nat} {ys : List Value} (hy : xs.take (k * 2) = ys) (hk : k * 2 + 1 < xs.length) (u v : Value) : ((xs.set (k * 2) u).set (k * 2 + 1) v).take ((k + 1) * 2) = ys ++ [u, v] := by
  have hl : ys.length = k * 2 := by rw [← hy, List.length_take]; omega
  apply List.ext_getElem?
  intro j
  rw [List.getElem?_take]
  by_cases h1 : j < k * 2
  · rw [if_pos (by omega), List.getElem?_set_ne (by omega), List.getElem?_set_ne (by omega), List.getElem?_append_left (by omega), ← hy, List.getElem?_take, if_pos h1]
  · rw [List.getElem?_append_right (by omega), hl]
    by_cases h2 : j = k * 2
    · subst h2
      rw [if_pos (by omega), List.getElem?_set_ne (by omega), List.getElem?_set_self (by omega)]
      simp
    · by_cases h3 : j = k * 2 + 1
      · subst h3
        rw [if_pos (by omega), List.getElem?_set_self (by simp; omega)]
        simp [show k * 2 + 1 - k * 2 = 1 from by omega]
      · rw [if_neg (by omega)]
        rw [List.getElem?_eq_none (by simp; omega)]
theorem FillToE.next {w : World} {base g n k : Nat} {l : List El} (h : FillToE w base g n k l) (hk : k < n) (hn : l.length = n) (hkl : k < l.length) :
    FillToE ((w.setCell ⟨g, k * 2, none⟩ (.string l[k].1)).setCell ⟨g, k * 2 + 1, none⟩ (.string l[k].2)) base g n (k + 1) l ∧ w.grownBy ((w.setCell ⟨g, k * 2, none⟩ (.string l[k].1)).setCell ⟨g, k * 2 + 1, none⟩ (.string l[k].2)) (some g) := by
  obtain ⟨xs, h1, h2⟩ := h
  have s1 := h1.stored (k * 2) (.string l[k].1)
  have s2 := s1.1.stored (k * 2 + 1) (.string l[k].2)
  refine ⟨⟨_, s2.1, ?_⟩, grown_thruE s1.2 s2.2⟩
  rw [take_set2 h2 (by rw [h1.1]; omega), List.take_succ_eq_append_getElem hkl, flatE_app]
  rfl


theorem eqEl_iff (x y : El) : (eqS x.1 y.1 && eqS x.2 y.2) = decide (x = y) := by
  rw [Bool.eq_iff_iff, Bool.and_eq_true, eqS_iff, eqS_iff, decide_eq_true_iff]
  constructor
  · rintro ⟨h1, h2⟩; exact Prod.ext h1 h2
  · rintro rfl; exact ⟨rfl, rfl⟩

theorem take_eq_stepE {l l' : List El} {k : Nat} (h : l.take k = l'.take k) (h1 : k < l.length) (h2 : k < l'.length) (he : l[k] = l'[k]) : l.take (k + 1) = l'.take (k + 1) := by
  rw [List.take_succ_eq_append_getElem h1, List.take_succ_eq_append_getElem h2, h, he]
theorem ne_atE {l l' : List El} {k : Nat} (h1 : k < l.length) (h2 : k < l'.length) (he : l[k] ≠ l'[k]) : l ≠ l' := by
  rintro rfl; exact he rfl

end Go.Proofs.YtldllhfadihmeaaDoor
