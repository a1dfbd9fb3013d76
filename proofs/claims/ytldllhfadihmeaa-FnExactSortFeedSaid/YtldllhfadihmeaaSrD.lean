/- The region 'out = append(append(append([]Item{}, out[:at]...), list[k]), out[at:]...)': its frame and its invariant. -/
import Derived.Test.YtldllhfadihmeaaSrB
import Derived.Test.YtldllhfadihmeaaSdH
namespace Go.Proofs.Ytldllhfadihmeaa
open Go.RowKit

def frmS (t : Array Value) (s : Nat) (u : Nat → Value) (v3 : Value) : Act :=
  { tmps := (((((((((((((((t.setIfInBounds 3 v3).setIfInBounds s (u 0)).setIfInBounds (s + 1) (u 1)).setIfInBounds (s + 2) (u 2)).setIfInBounds (s + 3) (u 3)).setIfInBounds (s + 4) (u 4)).setIfInBounds (s + 5) (u 5)).setIfInBounds (s + 6) (u 6)).setIfInBounds (s + 7) (u 7)).setIfInBounds (s + 8) (u 8)).setIfInBounds (s + 9) (u 9)).setIfInBounds (s + 10) (u 10)).setIfInBounds (s + 11) (u 11)).setIfInBounds (s + 12) (u 12)).setIfInBounds (s + 13) (u 13)).setIfInBounds (s + 14) (u 14), defers := [] }
structure SdP where
  (B m p gq cp o : Nat) (q : List It) (x : It) (list ki pt : Value)
def SdP.out (c : SdP) : Value := .slice (some ⟨c.gq, 0, none⟩) c.m c.cp
/-- What an operation of the region yields. -/
def DsOf (c : SdP) (L : Array Bool) (j : Nat) (v : Value) (w : World) : Prop :=
  match j with
  | 0 => L.getD 4 false = false → ∃ b, v = .slice (some ⟨b, 0, none⟩) 0 0 ∧ w.heap[b]? = some (.cells #[] 34 (0, 0)) ∧ c.B ≤ b ∧ w.ownsRow c.B 34 4 (.slice (some ⟨b, 0, none⟩) 0 0) 0 []
  | 1 => v = c.out
  | 2 => v = .int .i64 c.p
  | 3 => v = .slice (some ⟨c.gq, 0, none⟩) c.p c.cp
  | 4 => L.getD 10 false = false → w.ownsRow c.B 34 4 v c.p (flatI (c.q.take c.p))
  | 5 => v = c.list
  | 6 => v = c.ki
  | 7 => v = c.pt
  | 8 => v = .agg #[.string c.x.key, .string c.x.title, .string c.x.body, .int .i64 c.x.day]
  | 9 => L.getD 10 false = false → ∃ b, v = .slice (some ⟨b, 0, none⟩) 1 1 ∧ w.heap[b]? = some (.cells #[.string c.x.key, .string c.x.title, .string c.x.body, .int .i64 c.x.day] 34 (0, 0)) ∧ c.B ≤ b
  | 10 => L.getD 14 false = false → w.ownsRow c.B 34 4 v (c.p + 1) (flatI (c.q.take c.p ++ [c.x]))
  | 11 => v = c.out
  | 12 => v = .int .i64 c.p
  | 13 => v = .slice (some ⟨c.gq, c.o, none⟩) (c.m - c.p) (c.cp - c.p)
  | 14 => w.ownsRow c.B 34 4 v (c.m + 1) (flatI (c.q.take c.p ++ [c.x] ++ c.q.drop c.p))
  | _ => True
theorem DsOf.kept {c : SdP} {L : Array Bool} {i j : Nat} {v : Value} {w w' : World} (h : DsOf c L j v w) (hg : w.grownBy w' none) : DsOf c (L.setIfInBounds i true) j v w' := by
  match j with
  | 0 =>
    intro h2
    obtain ⟨b, e1, e2, e3, e4⟩ := h (getD_set_noG h2)
    exact ⟨b, e1, heap_kept0 hg e2, e3, own_any0 e4 hg⟩
  | 1 => exact h
  | 2 => exact h
  | 3 => exact h
  | 4 => intro h2; exact own_any0 (h (getD_set_noG h2)) hg
  | 5 => exact h
  | 6 => exact h
  | 7 => exact h
  | 8 => exact h
  | 9 =>
    intro h2
    obtain ⟨b, e1, e2, e3⟩ := h (getD_set_noG h2)
    exact ⟨b, e1, heap_kept0 hg e2, e3⟩
  | 10 => intro h2; exact own_any0 (h (getD_set_noG h2)) hg
  | 11 => exact h
  | 12 => exact h
  | 13 => exact h
  | 14 => exact own_any0 h hg
  | _ + 15 => trivial
/-- What the region keeps. -/
def SdInv (c : SdP) (t : Array Value) (s : Nat) (w0 : World) (L : Array Bool) (a : Act) (w : World) : Prop :=
  ∃ (u : Nat → Value) (v3 : Value), a = frmS t s u v3 ∧ L.size = 16 ∧ w0.grownBy w none ∧ (L.getD 10 false = true → L.getD 4 false = true) ∧ (L.getD 14 false = true → L.getD 10 false = true) ∧ (L.getD 15 false = true → ∀ j, j < 15 → L.getD j false = true) ∧
    (L.getD 15 false = false → v3 = c.out) ∧ (L.getD 15 false = true → v3 = u 14) ∧ ∀ j, L.getD j false = true → DsOf c L j (u j) w
theorem SdInv.step {c : SdP} {t : Array Value} {s : Nat} {w0 : World} {L : Array Bool} {u : Nat → Value} {v3 : Value} {w' : World} {i : Nat} {v : Value} (hsz : L.size = 16) (hi : i < 15) (hL : L.getD i false = false) (hC1 : L.getD 10 false = true → L.getD 4 false = true) (hC2 : L.getD 14 false = true → L.getD 10 false = true) (hC3 : L.getD 15 false = true → ∀ j, j < 15 → L.getD j false = true)
    (h3 : L.getD 15 false = false → v3 = c.out) (hc10 : i = 10 → L.getD 4 false = true) (hc14 : i = 14 → L.getD 10 false = true)
    (hv : DsOf c (L.setIfInBounds i true) i v w') (hF : ∀ j, j ≠ i → L.getD j false = true → DsOf c (L.setIfInBounds i true) j (u j) w') (hG : w0.grownBy w' none) :
    SdInv c t s w0 (L.setIfInBounds i true) (frmS t s (fun j => if j = i then v else u j) v3) w' := by
  have h15 : L.getD 15 false = false := by
    cases h : L.getD 15 false
    · rfl
    · rw [hC3 h i hi] at hL; cases hL
  have h15' : (L.setIfInBounds i true).getD 15 false = false := by rw [getD_set_ne false (by omega)]; exact h15
  refine ⟨_, _, rfl, by simpa using hsz, hG, fun h => ?_, fun h => ?_, fun h => ?_, fun _ => h3 h15, fun h => ?_, fun j hl => ?_⟩
  · by_cases e : i = 10
    · exact getD_set_true (hc10 e)
    · rw [getD_set_ne false e] at h
      exact getD_set_true (hC1 h)
  · by_cases e : i = 14
    · exact getD_set_true (hc14 e)
    · rw [getD_set_ne false e] at h
      exact getD_set_true (hC2 h)
  · rw [h15'] at h; cases h
  · rw [h15'] at h; cases h
  · show DsOf c _ j (if j = i then v else u j) w'
    by_cases e : j = i
    · rw [if_pos e, e]; exact hv
    · rw [if_neg e]
      rw [getD_set_ne false (Ne.symm e)] at hl
      exact hF j e hl
theorem frmS_self (t : Array Value) (s : Nat) : frmS t s (fun j => t.getD (s + j) undef) (t.getD 3 undef) = { tmps := t, defers := [] } := by
  unfold frmS
  have h0 := set_selfG t (s + 0)
  simp only [Nat.add_zero] at h0
  simp only [Nat.add_zero, h0, set_selfG]
theorem wp_region_sd {P : Program} {id : Nat} {ops : Array Oper} {Q : Exit → Act → World → Prop} {t : Array Value} {w : World} (hm : P.follows .mixedOrders = true) (c : SdP) (s : Nat) (hops : ops.size = 16) (h3 : t.getD 3 undef = c.out)
    (hstep : ∀ L a w' i, SdInv c t s w L a w' → i ∈ Region.ready .any ops L → ∀ K : Act → World → Prop, (∀ a' w'', SdInv c t s w (L.setIfInBounds i true) a' w'' → K a' w'') → wpOp P ops Q i K a w')
    (hend : ∀ L a w', SdInv c t s w L a w' → Region.ready .any ops L = [] → Q .normal a w') : (Code.region id ops true).wp P Q { tmps := t, defers := [] } w :=
  wp_region_inv hm (SdInv c t s w) (by
    rw [hops]
    have hr : ∀ j, (Array.replicate 16 false).getD j false = true → False := fun j h => by
      simp only [Array.getD_eq_getD_getElem?, Array.getElem?_replicate] at h
      split at h <;> simp at h
    exact ⟨_, _, (frmS_self t s).symm, by simp, ⟨rfl, rfl, rfl, Nat.le_refl _, fun _ _ _ => rfl⟩, fun h => (hr _ h).elim, fun h => (hr _ h).elim, fun h => (hr _ h).elim, fun _ => h3, fun h => (hr _ h).elim, fun j h => (hr _ h).elim⟩) hstep hend
end Go.Proofs.Ytldllhfadihmeaa
