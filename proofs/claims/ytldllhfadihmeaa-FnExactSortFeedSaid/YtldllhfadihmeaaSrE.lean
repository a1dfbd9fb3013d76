/- Small facts for the walk of the reference's SortFeed. -/
import Derived.Test.YtldllhfadihmeaaSrD
namespace Go.Proofs.Ytldllhfadihmeaa
open Go.RowKit

theorem cells_take {w : World} {g : Nat} {q : List It} (h : ∀ j u, (flatI q)[j]? = some u → w.cell? ((⟨g, 0, none⟩ : Addr).add j) = some u) (p : Nat) : ∀ j u, (flatI (q.take p))[j]? = some u → w.cell? ((⟨g, 0, none⟩ : Addr).add j) = some u := by
  intro j u hj
  refine h j u ?_
  have e : flatI q = flatI (q.take p) ++ flatI (q.drop p) := by rw [← flatI_app, List.take_append_drop]
  rw [e, List.getElem?_append_left (List.getElem?_eq_some_iff.1 hj).1]
  exact hj
theorem cells_drop {w : World} {g : Nat} {q : List It} (h : ∀ j u, (flatI q)[j]? = some u → w.cell? ((⟨g, 0, none⟩ : Addr).add j) = some u) (p : Nat) (hp : p ≤ q.length) : ∀ j u, (flatI (q.drop p))[j]? = some u → w.cell? ((⟨g, p * 4, none⟩ : Addr).add j) = some u := by
  intro j u hj
  have hl : (flatI (q.take p)).length = p * 4 := by rw [flatI_len, List.length_take, Nat.min_eq_left hp]
  have e : flatI q = flatI (q.take p) ++ flatI (q.drop p) := by rw [← flatI_app, List.take_append_drop]
  have h1 : (flatI q)[p * 4 + j]? = some u := by
    rw [e, List.getElem?_append_right (by omega), hl, Nat.add_sub_cancel_left]
    exact hj
  have h2 := h _ _ h1
  have e1 : (⟨g, 0, none⟩ : Addr).add (p * 4 + j) = ⟨g, p * 4 + j, none⟩ := by unfold Addr.add; split <;> simp_all
  have e2 : (⟨g, p * 4, none⟩ : Addr).add j = ⟨g, p * 4 + j, none⟩ := by unfold Addr.add; split <;> simp_all
  rw [e2, ← e1]
  exact h2
theorem cells_from {w : World} {g : Nat} {q : List It} (h : ∀ j u, (flatI q)[j]? = some u → w.cell? ((⟨g, 0, none⟩ : Addr).add j) = some u) (p cp : Nat) (hp : p ≤ q.length) (hq : q.length ≤ cp) : ∀ j u, (flatI (q.drop p))[j]? = some u → w.cell? ((⟨g, if cp = p then 0 else p * 4, none⟩ : Addr).add j) = some u := by
  by_cases e : cp = p
  · intro j u hj
    rw [List.drop_of_length_le (by omega)] at hj
    simp [flatI] at hj
  · rw [if_neg e]
    exact cells_drop h p hp
theorem cells4_grown {w w' : World} {b o : Nat} {v0 v1 v2 v3 : Value} (h : w.cell? ⟨b, o, none⟩ = some v0 ∧ w.cell? ⟨b, o + 1, none⟩ = some v1 ∧ w.cell? ⟨b, o + 2, none⟩ = some v2 ∧ w.cell? ⟨b, o + 3, none⟩ = some v3) (hg : w.grownBy w' none) :
    w'.cell? ⟨b, o, none⟩ = some v0 ∧ w'.cell? ⟨b, o + 1, none⟩ = some v1 ∧ w'.cell? ⟨b, o + 2, none⟩ = some v2 ∧ w'.cell? ⟨b, o + 3, none⟩ = some v3 :=
  ⟨hg.cell h.1 (fun e => by cases e), hg.cell h.2.1 (fun e => by cases e), hg.cell h.2.2.1 (fun e => by cases e), hg.cell h.2.2.2 (fun e => by cases e)⟩
theorem own_base0 {w : World} {base base' t size n : Nat} {v : Value} {xs : List Value} (h : w.ownsRow base t size v n xs) (hb : base' ≤ base) : w.ownsRow base' t size v n xs := by
  obtain ⟨h1, h2⟩ := h
  refine ⟨h1, ?_⟩
  rcases h2 with h2 | ⟨g, cap, cur, hv, hg, r⟩
  · exact .inl h2
  · exact .inr ⟨g, cap, cur, hv, Nat.le_trans hb hg, r⟩
theorem DsOf.any {c : SdP} {L : Array Bool} {j : Nat} {v : Value} {w : World} (h : DsOf c L j v w) : DsOf c (L.setIfInBounds 15 true) j v w := h.kept (World.grownBy.refl w none)
/-- The last operation: the store into 'out'. -/
theorem SdInv.store {c : SdP} {t : Array Value} {s : Nat} {w0 : World} {L : Array Bool} {u : Nat → Value} {w' : World} (hsz : L.size = 16) (hG : w0.grownBy w' none) (hall : ∀ j, j < 15 → L.getD j false = true)
    (hF : ∀ j, L.getD j false = true → DsOf c L j (u j) w') : SdInv c t s w0 (L.setIfInBounds 15 true) (frmS t s u (u 14)) w' := by
  have h15 : (L.setIfInBounds 15 true).getD 15 false = true := getD_set_hereG (by omega)
  refine ⟨u, u 14, rfl, by simpa using hsz, hG, fun _ => getD_set_true (hall 4 (by omega)), fun _ => getD_set_true (hall 10 (by omega)), fun _ j hj => getD_set_true (hall j hj), fun h => ?_, fun _ => rfl, fun j hl => ?_⟩
  · rw [h15] at h; cases h
  · by_cases e : j = 15
    · subst e; trivial
    · rw [getD_set_ne false (Ne.symm e)] at hl
      exact (hF j hl).any
end Go.Proofs.Ytldllhfadihmeaa
