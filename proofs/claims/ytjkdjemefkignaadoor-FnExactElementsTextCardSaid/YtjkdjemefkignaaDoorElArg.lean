/- What a law is told of an argument that is a row of elements. -/
import Derived.Test.YtjkdjemefkignaaDoorElAt
import Derived.Deep.SlicePairs
namespace Go.Proofs.YtjkdjemefkignaaDoor
open Go.RowKit Go.Deep

/-- An argument that is a row of elements. -/
def ElArg (w : World) (a : Option Addr) (len : Nat) (l : List El) : Prop :=
  ElAt w a l ∧ l.length = len ∧ len ≤ maxLen ∧ ∀ e ∈ l, e.1.size ≤ maxLen ∧ e.2.size ≤ maxLen
theorem ElArg.old {w w' : World} {a : Option Addr} {len : Nat} {l : List El} (h : ElArg w a len l) (hb : Below w.heap.size w w') : ElArg w' a len l := ⟨h.1.old hb, h.2⟩
theorem el_arg {H : Type} {enc : TypeId × Value → H} {P : Program} {w : World} {spare : Nat → Bool} {held : Bool} {t e : TypeId} {f0 f1 : Field} {fuel : Nat} {a : Option Addr} {len cap : Nat} {x : DataW H × List MemPlace}
    (ht : P.underlying t = some (.slice e)) (he : P.underlying e = some (.struct #[f0, f1])) (ce : P.cellsOf e = 2) (o0 : f0.offset = 0) (o1 : f1.offset = 1) (c0 : P.cellsOf f0.type = 1) (c1 : P.cellsOf f1.type = 1)
    (s0 : P.underlying f0.type = some .string) (s1 : P.underlying f1.type = some .string)
    (h : DataW.trod enc P w 0 spare held fuel t [.slice a len cap] = some x) : ∃ l, ElArg w a len l := by
  rcases open_slice_pairs ht he ce o0 o1 c0 c1 h with ⟨hcs, _⟩ | ⟨x, len', cap', m, n, V0, V1, D0, D1, P0, P1, hcs, _, hl, hcap, hm, _, hf⟩
  · simp at hcs
    obtain ⟨rfl, rfl, rfl⟩ := hcs
    exact ⟨[], ElAt.nil _ _, rfl, by unfold maxLen; omega, fun e he => by simp at he⟩
  · simp at hcs
    obtain ⟨rfl, rfl, rfl⟩ := hcs
    have hlm : len ≤ m := by rw [hm]; split <;> omega
    have each : ∀ i, i < len → ∃ e : El, V0 i = .string e.1 ∧ V1 i = .string e.2 ∧ e.1.size ≤ maxLen ∧ e.2.size ≤ maxLen := by
      intro i hi
      obtain ⟨_, _, t0, t1⟩ := hf i (by omega)
      obtain ⟨y0, e0, _, z0⟩ := DataW.trod_string s0 t0
      obtain ⟨y1, e1, _, z1⟩ := DataW.trod_string s1 t1
      simp at e0 e1
      exact ⟨(y0, y1), e0, e1, z0, z1⟩
    obtain ⟨E, hE⟩ := choose_lt each
    refine ⟨(List.range len).map E, ?_, by simp, by omega, ?_⟩
    · intro k hk
      simp at hk
      obtain ⟨g0, g1, _⟩ := hf k (by omega)
      obtain ⟨hE0, hE1, _⟩ := hE k hk
      obtain ⟨h0, _⟩ := hf 0 (by omega)
      obtain ⟨b, off, spot⟩ := x
      have hspot : spot = none := by simpa [Addr.add] using World.cell?_spot h0
      subst hspot
      refine ⟨b, off, rfl, ?_, ?_⟩
      · rw [← Go.WideShapes.add_plain, g0, hE0]; simp
      · rw [Nat.add_assoc, ← Go.WideShapes.add_plain, g1, hE1]; simp
    · intro e he
      simp at he
      obtain ⟨i, hi, rfl⟩ := he
      exact ⟨(hE i hi).2.2.1, (hE i hi).2.2.2⟩
end Go.Proofs.YtjkdjemefkignaaDoor
