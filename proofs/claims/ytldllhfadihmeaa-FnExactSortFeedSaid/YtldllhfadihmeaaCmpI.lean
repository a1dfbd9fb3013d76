/- Comparing two items: '==' and '!=' at the type of items. -/
import Derived.Test.YtldllhfadihmeaaItR
import Derived.Laws.StructEq
namespace Go.Proofs.Ytldllhfadihmeaa
open Go.RowKit

theorem item_under : Try.prog.underlying 34 = some (.struct (Try.prog.fieldsOf 34)) := by kernel_rfl
theorem item_held : Try.prog.stoodInHeld 34 = false := by kernel_rfl
theorem item_guard : Try.prog.eqGuardType Try.prog.depth 34 = false := by kernel_rfl
theorem item_fields4 : (Try.prog.fieldsOf 34).toList.map (fun f => (f.name, f.offset, Try.prog.underlying f.type)) = [("Key", 0, some .string), ("Title", 1, some .string), ("Body", 2, some .string), ("Day", 3, some (.int .i64))] := by kernel_rfl
theorem item_fields : ∃ f0 f1 f2 f3 : Field, (Try.prog.fieldsOf 34).toList = [f0, f1, f2, f3] ∧ f0.name ≠ "_" ∧ f1.name ≠ "_" ∧ f2.name ≠ "_" ∧ f3.name ≠ "_" ∧ f0.offset = 0 ∧ f1.offset = 1 ∧ f2.offset = 2 ∧ f3.offset = 3 ∧
    Try.prog.underlying f0.type = some .string ∧ Try.prog.underlying f1.type = some .string ∧ Try.prog.underlying f2.type = some .string ∧ Try.prog.underlying f3.type = some (.int .i64) := by
  have h := item_fields4
  generalize (Try.prog.fieldsOf 34).toList = fs at h
  have hl : fs.length = 4 := by have := congrArg List.length h; simpa using this
  match fs, hl, h with
  | [f0, f1, f2, f3], _, h =>
    simp only [List.map_cons, List.map_nil, List.cons.injEq, Prod.mk.injEq, and_true] at h
    obtain ⟨⟨n0, o0, u0⟩, ⟨n1, o1, u1⟩, ⟨n2, o2, u2⟩, n3, o3, u3⟩ := h
    exact ⟨f0, f1, f2, f3, rfl, by rw [n0]; decide, by rw [n1]; decide, by rw [n2]; decide, by rw [n3]; decide, o0, o1, o2, o3, u0, u1, u2, u3⟩
theorem run_part_one {P : Program} {e : TypeId} {xs : Array Value} {off : Nat} {v : Value} (w : World) (hu : P.underlying e = some .string ∨ P.underlying e = some (.int .i64)) (hx : xs[off]? = some v) : (part e xs off).run P w = .ok v w := by
  rcases hu with hu | hu <;> simp [part, isAgg, run_underlying hu, hx]
theorem equal_item (x y : It) (d : Nat) (w : World) : (Op.equalIn (d + 2) 34 (.agg #[.string x.key, .string x.title, .string x.body, .int .i64 x.day]) (.agg #[.string y.key, .string y.title, .string y.body, .int .i64 y.day])).run Try.prog w = .ok (decide (x = y)) w := by
  rw [run_equalIn_agg w (d + 1) _ _ _ item_under item_held]
  obtain ⟨f0, f1, f2, f3, hf, n0, n1, n2, n3, o0, o1, o2, o3, u0, u1, u2, u3⟩ := item_fields
  rw [hf, ← eqI_iff]
  simp only [Op.eqFields, if_pos n0, if_pos n1, if_pos n2, if_pos n3, Sem.run_bind, Sem.run_ite, o0, o1, o2, o3]
  rw [run_part_one w (.inl u0) (v := .string x.key) rfl, Result.andThen_ok, run_part_one w (.inl u0) (v := .string y.key) rfl, Result.andThen_ok, run_equalIn_string w d _ _ _ u0, Result.andThen_ok]
  show (if (!eqS x.key y.key) = true then _ else _) = _
  cases eqS x.key y.key
  · rfl
  rw [if_neg (by decide), run_part_one w (.inl u1) (v := .string x.title) rfl, Result.andThen_ok, run_part_one w (.inl u1) (v := .string y.title) rfl, Result.andThen_ok, run_equalIn_string w d _ _ _ u1, Result.andThen_ok]
  show (if (!eqS x.title y.title) = true then _ else _) = _
  cases eqS x.title y.title
  · rfl
  rw [if_neg (by decide), run_part_one w (.inl u2) (v := .string x.body) rfl, Result.andThen_ok, run_part_one w (.inl u2) (v := .string y.body) rfl, Result.andThen_ok, run_equalIn_string w d _ _ _ u2, Result.andThen_ok]
  show (if (!eqS x.body y.body) = true then _ else _) = _
  cases eqS x.body y.body
  · rfl
  rw [if_neg (by decide), run_part_one w (.inr u3) (v := .int .i64 x.day) rfl, Result.andThen_ok, run_part_one w (.inr u3) (v := .int .i64 y.day) rfl, Result.andThen_ok, run_equalIn_int w d _ _ _ _ _ u3, Result.andThen_ok]
  cases x.day == y.day <;> rfl
theorem eql_item (x y : It) (w : World) : (binOp .eql 34 (.agg #[.string x.key, .string x.title, .string x.body, .int .i64 x.day]) (.agg #[.string y.key, .string y.title, .string y.body, .int .i64 y.day])).run Try.prog w = .ok (.bool (decide (x = y))) w := by
  rw [run_eql_struct, equal_item x y 9998 w, Result.andThen_ok]
theorem neq_item (x y : It) (w : World) : (binOp .neq 34 (.agg #[.string x.key, .string x.title, .string x.body, .int .i64 x.day]) (.agg #[.string y.key, .string y.title, .string y.body, .int .i64 y.day])).run Try.prog w = .ok (.bool (!decide (x = y))) w := by
  rw [run_neq_struct, equal_item x y 9998 w, Result.andThen_ok]
theorem guard_item (op : BinOp) (o p : Operand) (xs ys : Array Value) (w : World) : (eqGuard op 34 o p (.agg xs) (.agg ys)).run Try.prog w = .ok () w := run_eqGuard_agg w op _ _ _ xs ys item_guard
end Go.Proofs.Ytldllhfadihmeaa
