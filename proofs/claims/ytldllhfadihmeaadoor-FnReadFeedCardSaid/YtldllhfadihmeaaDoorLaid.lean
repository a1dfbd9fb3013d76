/- The table of names: what the rows' condition on it gives. -/
import Derived.Test.YtldllhfadihmeaaDoorEscW
import Derived.Test.YtldllhfadihmeaaDoorRows
import Derived.ProofKit
import Derived.LaidMore
import Derived.OpenShut
import Derived.ChangeVars
import Derived.Stop.Joined
namespace Go.Proofs.YtldllhfadihmeaaDoor
open Go.ChangeShapes Go.WideShapes Go.ChangeAt Go.WideMaps Go.WideElems Go.RowKit

/-- The variable's name, as the rows have it. -/
def escName : String := Rows.fnExactFeedLinesRow.named.headD ""
def escLaid : List (String × DataW Unit) := [(escName, Rows.laid_loop_example_feedbridge_impl_escapes)]
theorem esc_global : Tryd.prog.globalNamed escName = some 0 := by kernel_rfl
theorem esc_type : (Tryd.prog.globals[0]?).map (·.type) = some 95 := by kernel_rfl
theorem esc_met (os : Os) (args : Array Value) : laidMetH Tryd.prog escLaid ((World.doorLaid Tryd.prog 400 os).forCall (fun _ _ => 0) ⟨#[], args, []⟩).memory :=
  laidMetH_of_parts3 (fuel := 8) (laidMet_of_run' 8 (by kernel_rfl) (by kernel_rfl)) (by kernel_rfl) (by kernel_rfl)
/-- The table read as data. -/
abbrev escH {H : Type} : DataW H := .agg [.agg [.lit (.int .u8 38), .lit (.string [38, 97, 109, 112, 59])], .agg [.lit (.int .u8 60), .lit (.string [38, 108, 116, 59])], .agg [.lit (.int .u8 62), .lit (.string [38, 103, 116, 59])], .agg [.lit (.int .u8 34), .lit (.string [38, 113, 117, 111, 116, 59])]]
theorem reads_esc {H : Type} (enc : TypeId × Value → H) (W : World) (sp : Nat → Bool) : DataW.trod enc Tryd.prog W 0 sp true 4 95 escCells.toList = some (escH, []) := by kernel_rfl
theorem esc_fields : ∃ f0 f1, Tryd.prog.underlying 94 = some (.struct #[f0, f1]) ∧ f0.offset = 0 ∧ f1.offset = 1 ∧ Tryd.prog.cellsOf f0.type = 1 ∧ Tryd.prog.cellsOf f1.type = 1 ∧ Tryd.prog.underlying f0.type = some (.int .u8) ∧ Tryd.prog.underlying f1.type = some .string :=
  ⟨_, _, Tryd.underlying94, rfl, rfl, by kernel_rfl, by kernel_rfl, by kernel_rfl, by kernel_rfl⟩
theorem esc_one {H : Type} {enc : TypeId × Value → H} {W : World} {base : Nat} {sp : Nat → Bool} {held : Bool} {fuel : Nat} {cs : List Value} {x : DataW H × List MemPlace} {n : Int} {l : List UInt8}
    (hl : cs.length = 2) (h : DataW.trod enc Tryd.prog W base sp held fuel 94 cs = some x) (hx : x.1 = .agg [.lit (.int .u8 n), .lit (.string l)]) : cs = [.int .u8 n, .string ⟨l.toArray⟩] := by
  obtain ⟨f0, f1, hs, o0, o1, c0, c1, u0, u1⟩ := esc_fields
  obtain ⟨y0, y1, m, rfl, _, h0, h1⟩ := trod_struct2 hs h
  rw [o0, c0] at h0
  rw [o1, c1] at h1
  match cs, hl with
  | [a, b], _ =>
    obtain ⟨k, e1, e2, _⟩ := DataW.trod_int u0 h0
    obtain ⟨s, e3, e4, _⟩ := DataW.trod_string u1 h1
    simp at e1 e3
    subst e1; subst e3
    rw [e2, e4] at hx
    simp at hx
    obtain ⟨rfl, rfl⟩ := hx
    rfl
theorem esc_cells_of {W : World} (h : laidMetH Tryd.prog escLaid W) : W.var? Tryd.prog escName = some escCells := by
  rw [MakeChecks.laidMetH_plain _ _ _ (by kernel_rfl)] at h
  obtain ⟨ps, ⟨g, t, cs, f, p, q, hg, ht, hv, hd, _, _⟩, _⟩ := h
  obtain rfl := Option.some.inj (esc_global.symm.trans hg)
  obtain rfl := Option.some.inj (esc_type.symm.trans ht)
  rw [hv]
  congr 1
  obtain ⟨xs, m1, _, hx1, hlen, hn4, hel⟩ := DataW.trod_array Tryd.underlying95 hd
  have ce : Tryd.prog.cellsOf 94 = 2 := by kernel_rfl
  have ca : Tryd.prog.cellsOf 95 = 8 := by kernel_rfl
  rw [ca] at hlen
  have h0 := hel 0 (by decide)
  have h1 := hel 1 (by decide)
  have h2 := hel 2 (by decide)
  have h3 := hel 3 (by decide)
  rw [ce] at h0 h1 h2 h3
  have hx2 := congrArg Prod.fst hx1
  simp only [Rows.laid_loop_example_feedbridge_impl_escapes, DataW.agg.injEq] at hx2
  obtain ⟨l⟩ := cs
  match xs, hn4, l, hlen, hx2, h0, h1, h2, h3 with
  | [x0, x1, x2, x3], _, [a0, a1, a2, a3, a4, a5, a6, a7], _, hx2, h0, h1, h2, h3 =>
    simp only [List.map_cons, List.map_nil, List.cons.injEq, and_true] at hx2
    obtain ⟨y0, y1, y2, y3⟩ := hx2
    simp only [List.getElem?_cons_zero, List.getElem?_cons_succ] at h0 h1 h2 h3
    have g0 := esc_one rfl h0 y0.symm
    have g1 := esc_one rfl h1 y1.symm
    have g2 := esc_one rfl h2 y2.symm
    have g3 := esc_one rfl h3 y3.symm
    simp at g0 g1 g2 g3
    obtain ⟨rfl, rfl⟩ := g0
    obtain ⟨rfl, rfl⟩ := g1
    obtain ⟨rfl, rfl⟩ := g2
    obtain ⟨rfl, rfl⟩ := g3
    rfl
theorem esc_at_of {W : World} (h : W.var? Tryd.prog escName = some escCells) : EscAt W := by
  intro j u hj
  have := World.var?_cell esc_global h j
  rw [this]; exact hj
/-- The variable reads as it did, in every later world. -/
theorem esc_vars {H : Type} (enc : TypeId × Value → H) {W : World} (sp : Nat → Bool) (h : W.var? Tryd.prog escName = some escCells) : DataW.TrodVars enc Tryd.prog W sp [escName] [escH] (MemPlace.row ⟨0, 0, none⟩ 8 ++ []) :=
  trodVars_mk1 esc_global esc_type h (reads_esc enc W sp)
theorem esc_var_old {W W' : World} (h : W.var? Tryd.prog escName = some escCells) (hb : Below W.heap.size W W') : W'.var? Tryd.prog escName = some escCells := by
  have hp := (esc_at_of h).pos
  unfold World.var? at h ⊢
  rw [esc_global] at h ⊢
  simp only [Option.bind_some] at h ⊢
  rw [hb.block _ hp]; exact h
end Go.Proofs.YtldllhfadihmeaaDoor
