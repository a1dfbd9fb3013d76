/- A region that draws its order, by an invariant: whatever the order, each operation that comes up keeps the invariant. No program. No condition. -/
import Derived.Orders
import Derived.WalkKit
namespace Go.Proofs.Ytldllhfadihmeaa
open Go.RowKit

/-- How many operations are not listed yet. -/
def unlisted (n : Nat) (L : Array Bool) : Nat := (List.range n).countP (fun i => !L.getD i true)
theorem countP_less {α : Type} {p q : α → Bool} : ∀ (l : List α), (∀ x ∈ l, q x = true → p x = true) → (∃ x ∈ l, p x = true ∧ q x = false) → l.countP q < l.countP p
  | [], _, h => by obtain ⟨x, hx, _⟩ := h; simp at hx
  | y :: l, h1, h2 => by
    have hle : l.countP q ≤ l.countP p := List.countP_mono_left (fun x hx => h1 x (List.mem_cons_of_mem _ hx))
    rw [List.countP_cons, List.countP_cons]
    obtain ⟨x, hx, px, qx⟩ := h2
    rcases List.mem_cons.1 hx with rfl | hx
    · rw [px, qx]; simp; omega
    · have := countP_less l (fun x hx => h1 x (List.mem_cons_of_mem _ hx)) ⟨x, hx, px, qx⟩
      have hy := h1 y (List.mem_cons_self ..)
      cases hq : q y
      · simp; omega
      · rw [hy hq]; simp; omega
theorem unlisted_set {n i : Nat} {L : Array Bool} (hi : i < n) (h : L.getD i true = false) : unlisted n (L.setIfInBounds i true) < unlisted n L := by
  refine countP_less _ (fun x _ hx => ?_) ⟨i, List.mem_range.2 hi, by rw [h]; rfl, ?_⟩
  · by_cases e : i = x
    · subst e; rw [h]; rfl
    · rwa [getD_set_ne true e] at hx
  · have hlt : i < L.size := by
      rcases Nat.lt_or_ge i L.size with h' | h'
      · exact h'
      · simp [Array.getElem?_eq_none h'] at h
    simp [hlt]
/-- THE LAW: an invariant that each operation keeps, in whatever order. -/
theorem wpAny_inv {P : Program} {md : Region.Mode} {ops : Array Oper} {Q : Exit → Act → World → Prop} (Inv : Array Bool → Act → World → Prop)
    (hstep : ∀ L a w i, Inv L a w → i ∈ Region.ready md ops L → ∀ K : Act → World → Prop, (∀ a' w', Inv (L.setIfInBounds i true) a' w' → K a' w') → wpOp P ops Q i K a w)
    (hend : ∀ L a w, Inv L a w → Region.ready md ops L = [] → Q .normal a w) :
    ∀ (fuel : Nat) (L : Array Bool) (a : Act) (w : World), Inv L a w → unlisted ops.size L ≤ fuel → wpAny P md ops Q fuel L a w := by
  intro fuel
  induction fuel with
  | zero =>
    intro L a w hI hu
    have hr : Region.ready md ops L = [] := by
      rw [List.eq_nil_iff_forall_not_mem]
      intro i hi
      rw [mem_ready] at hi
      obtain ⟨h0, o, ho, _⟩ := hi
      have hlt : i < ops.size := (Array.getElem?_eq_some_iff.1 ho).1
      have := unlisted_set hlt h0
      omega
    exact ⟨hr, hend L a w hI hr⟩
  | succ n ih =>
    intro L a w hI hu
    refine ⟨fun hr => hend L a w hI hr, fun i hi => ?_⟩
    refine hstep L a w i hI hi _ (fun a' w' hI' => ih _ _ _ hI' ?_)
    rw [mem_ready] at hi
    obtain ⟨h0, o, ho, _⟩ := hi
    have hlt : i < ops.size := (Array.getElem?_eq_some_iff.1 ho).1
    have := unlisted_set hlt h0
    omega
/-- Where every edge goes from an earlier operation to a later one, nothing is left unlisted at the end. -/
theorem ready_nil {md : Region.Mode} {ops : Array Oper} {L : Array Bool} (hfwd : ∀ (i : Nat) (o : Oper), ops[i]? = some o → ∀ e ∈ o.after, e.on < i) (hsz : L.size = ops.size) (hr : Region.ready md ops L = []) : ∀ i, i < ops.size → L.getD i false = true := by
  intro i
  induction i using Nat.strongRecOn with
  | ind i ih =>
    intro hi
    cases h : L.getD i false
    · exfalso
      have : i ∈ Region.ready md ops L := by
        rw [mem_ready]
        refine ⟨?_, ops[i], Array.getElem?_eq_getElem hi, fun e he _ => ?_⟩
        · have hl : i < L.size := by omega
          simp [hl] at h ⊢
          exact h
        · have := hfwd i ops[i] (Array.getElem?_eq_getElem hi) e he
          exact ih e.on this (by omega)
      rw [hr] at this
      cases this
    · rfl
theorem wp_region_inv {P : Program} {id : Nat} {ops : Array Oper} {Q : Exit → Act → World → Prop} {a : Act} {w : World} (hm : P.follows .mixedOrders = true) (Inv : Array Bool → Act → World → Prop)
    (h0 : Inv (Array.replicate ops.size false) a w.drew)
    (hstep : ∀ L a w i, Inv L a w → i ∈ Region.ready .any ops L → ∀ K : Act → World → Prop, (∀ a' w', Inv (L.setIfInBounds i true) a' w' → K a' w') → wpOp P ops Q i K a w)
    (hend : ∀ L a w, Inv L a w → Region.ready .any ops L = [] → Q .normal a w) : (Code.region id ops true).wp P Q a w :=
  wp_region_any hm (wpAny_inv Inv hstep hend _ _ _ _ h0 (by
    unfold unlisted
    exact Nat.le_trans List.countP_le_length (by simp)))
theorem wpOp_of {P : Program} {ops : Array Oper} {Q : Exit → Act → World → Prop} {i : Nat} {o : Oper} {K : Act → World → Prop} {a : Act} {w : World} (ho : ops[i]? = some o) (hg : o.guard = none) (h : o.wp P a w K Q) : wpOp P ops Q i K a w := by
  unfold wpOp
  rw [ho]
  have : Region.wanted o (yielded ops a.tmps) = true := by
    unfold Region.wanted
    rw [hg]
  simp only [this, if_true]
  exact .inl h
end Go.Proofs.Ytldllhfadihmeaa
