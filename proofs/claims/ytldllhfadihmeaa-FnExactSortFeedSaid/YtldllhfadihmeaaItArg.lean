/- What a law is told of an argument that is an item, or a row of items. -/
import Derived.Test.YtldllhfadihmeaaItW
import Derived.Deep.Slices
import Derived.Lib.SmallJoins
namespace Go.Proofs.Ytldllhfadihmeaa
open Go.RowKit Go.Deep

instance : Inhabited It := ⟨⟨⟨#[]⟩, ⟨#[]⟩, ⟨#[]⟩, 0⟩⟩

/-- An argument that is a row of items. -/
def ItArg (w : World) (a : Option Addr) (len : Nat) (l : List It) : Prop :=
  ItAt w a l ∧ l.length = len ∧ len ≤ maxLen ∧ ∀ i ∈ l, i.key.size ≤ maxLen ∧ i.title.size ≤ maxLen ∧ i.body.size ≤ maxLen
theorem ItArg.old {w w' : World} {a : Option Addr} {len : Nat} {l : List It} (h : ItArg w a len l) (hb : Below w.heap.size w w') : ItArg w' a len l := ⟨h.1.old hb, h.2⟩
theorem it_arg {H : Type} {enc : TypeId × Value → H} {P : Program} {w : World} {spare : Nat → Bool} {held : Bool} {t e : TypeId} {f0 f1 f2 f3 : Field} {fuel : Nat} {a : Option Addr} {len cap : Nat} {x : DataW H × List MemPlace}
    (ht : P.underlying t = some (.slice e)) (he : P.underlying e = some (.struct #[f0, f1, f2, f3])) (ce : P.cellsOf e = 4) (o0 : f0.offset = 0) (o1 : f1.offset = 1) (o2 : f2.offset = 2) (o3 : f3.offset = 3)
    (c0 : P.cellsOf f0.type = 1) (c1 : P.cellsOf f1.type = 1) (c2 : P.cellsOf f2.type = 1) (c3 : P.cellsOf f3.type = 1)
    (s0 : P.underlying f0.type = some .string) (s1 : P.underlying f1.type = some .string) (s2 : P.underlying f2.type = some .string) (s3 : P.underlying f3.type = some (.int .i64))
    (h : DataW.trod enc P w 0 spare held fuel t [.slice a len cap] = some x) : ∃ l, ItArg w a len l := by
  rcases open_slice ht h with ⟨hcs, _⟩ | ⟨x, len', cap', m, n, D, Pl, hcs, _, hl, hcap, hm, _, hf⟩
  · simp at hcs
    obtain ⟨rfl, rfl, rfl⟩ := hcs
    exact ⟨[], ItAt.nil _ _, rfl, by unfold maxLen; omega, fun e he => by simp at he⟩
  · simp at hcs
    obtain ⟨rfl, rfl, rfl⟩ := hcs
    have hlm : len ≤ m := by rw [hm]; split <;> omega
    have each : ∀ i, i < len → ∃ q : It, w.cell? (x.add (i * 4)) = some (.string q.key) ∧ w.cell? (x.add (i * 4 + 1)) = some (.string q.title) ∧ w.cell? (x.add (i * 4 + 2)) = some (.string q.body) ∧ w.cell? (x.add (i * 4 + 3)) = some (.int .i64 q.day) ∧
        q.key.size ≤ maxLen ∧ q.title.size ≤ maxLen ∧ q.body.size ≤ maxLen := by
      intro i hi
      obtain ⟨cs', h1, h2⟩ := hf i (by omega)
      rw [ce] at h1
      obtain ⟨_, hlen, hcell⟩ := World.cells?_some h1
      obtain ⟨y0, y1, y2, y3, n', _, _, g0, g1, g2, g3⟩ := Go.Joins.trod_struct4 he h2
      match cs', hlen with
      | [v0, v1, v2, v3], _ =>
        simp [o0, o1, o2, o3, c0, c1, c2, c3] at g0 g1 g2 g3
        have e0 := hcell 0 (by omega)
        have e1 := hcell 1 (by omega)
        have e2 := hcell 2 (by omega)
        have e3 := hcell 3 (by omega)
        rw [add_add] at e0 e1 e2 e3
        obtain ⟨z0, q0, _, k0⟩ := DataW.trod_string s0 g0
        obtain ⟨z1, q1, _, k1⟩ := DataW.trod_string s1 g1
        obtain ⟨z2, q2, _, k2⟩ := DataW.trod_string s2 g2
        obtain ⟨z3, q3, _⟩ := DataW.trod_int s3 g3
        simp at q0 q1 q2 q3
        subst q0; subst q1; subst q2; subst q3
        exact ⟨⟨z0, z1, z2, z3⟩, by simpa using e0, by simpa using e1, by simpa using e2, by simpa using e3, k0, k1, k2⟩
    obtain ⟨E, hE⟩ := choose_lt each
    refine ⟨(List.range len).map E, ?_, by simp, by omega, ?_⟩
    · intro k hk
      simp at hk
      obtain ⟨g0, g1, g2, g3, _⟩ := hE k hk
      obtain ⟨h0, _⟩ := hE 0 (by omega)
      obtain ⟨b, off, spot⟩ := x
      have hspot : spot = none := by simpa [Addr.add] using World.cell?_spot h0
      subst hspot
      refine ⟨b, off, rfl, ?_, ?_, ?_, ?_⟩
      · rw [← Go.WideShapes.add_plain, g0]; simp
      · rw [Nat.add_assoc, ← Go.WideShapes.add_plain, g1]; simp
      · rw [Nat.add_assoc, ← Go.WideShapes.add_plain, g2]; simp
      · rw [Nat.add_assoc, ← Go.WideShapes.add_plain, g3]; simp
    · intro e he
      simp at he
      obtain ⟨i, hi, rfl⟩ := he
      obtain ⟨_, _, _, _, h5, h6, h7⟩ := hE i hi
      exact ⟨h5, h6, h7⟩
theorem it_val {H : Type} {enc : TypeId × Value → H} {P : Program} {w : World} {spare : Nat → Bool} {held : Bool} {r : Reach} {b0 : Nat} {t : TypeId} {f0 f1 f2 f3 : Field} {v : Value} {d : DataW H} {p : List MemPlace}
    (hs : P.underlying t = some (.struct #[f0, f1, f2, f3])) (hone : Go.Deep.oneCellFields P #[f0, f1, f2, f3] = true) (hC : P.cellsOf t = 4)
    (s0 : P.underlying f0.type = some .string) (s1 : P.underlying f1.type = some .string) (s2 : P.underlying f2.type = some .string) (s3 : P.underlying f3.type = some (.int .i64))
    (hv : Value.okWide P w r b0 t v) (h : DataW.Trod enc P w 0 spare held t v d p) :
    ∃ i : It, v = .agg #[.string i.key, .string i.title, .string i.body, .int .i64 i.day] ∧ i.key.size ≤ maxLen ∧ i.title.size ≤ maxLen ∧ i.body.size ≤ maxLen := by
  obtain ⟨v0, v1, v2, v3, y0, y1, y2, y3, n, rfl, _, _, g0, g1, g2, g3⟩ := Go.Joins.open_agg4 hs hone hC hv h
  obtain ⟨z0, q0, _, k0⟩ := DataW.trod_string s0 g0
  obtain ⟨z1, q1, _, k1⟩ := DataW.trod_string s1 g1
  obtain ⟨z2, q2, _, k2⟩ := DataW.trod_string s2 g2
  obtain ⟨z3, q3, _⟩ := DataW.trod_int s3 g3
  simp at q0 q1 q2 q3
  subst q0; subst q1; subst q2; subst q3
  exact ⟨⟨z0, z1, z2, z3⟩, rfl, k0, k1, k2⟩
end Go.Proofs.Ytldllhfadihmeaa
