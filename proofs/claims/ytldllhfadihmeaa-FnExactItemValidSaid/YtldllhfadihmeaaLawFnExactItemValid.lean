/- The law FnExactItemValid: for every input the call returns true, and the arguments read as before. Condition: none. -/
import Derived.Test.YtldllhfadihmeaaRows
import Derived.Test.YtldllhfadihmeaaHead
import Derived.Test.YtldllhfadihmeaaItL
import Derived.WalkKit
import Derived.WalkSpells
import Derived.WalkLawsBesides
import Derived.ProofKit
import Derived.OpenShut
import Derived.ShutString
import Derived.ChangeOld
import Derived.Below
import Derived.Lib.Hide
namespace Go.Proofs.Ytldllhfadihmeaa
open Go.ChangeShapes Go.WideShapes Go.ChangeAt Go.RowKit
open Go.ChangeMaps (open_string shut_string)
set_option linter.unusedVariables false

set_option maxHeartbeats 400000 in
theorem fnExactItemValid_walk (i : It) (w : World) (h : i.key.size ≤ maxLen ∧ i.title.size ≤ maxLen ∧ i.body.size ≤ maxLen) :
    Calls Try.prog 4 #[.agg #[.string i.key, .string i.title, .string i.body, .int .i64 i.day]] w fun e w' => e = .returned (.bool true) ∧ Below w.heap.size w w' := by
  obtain ⟨h1, h2, h3⟩ := h
  have hb0 : Below w.heap.size w (w.alloc (.cells #[.string i.key, .string i.title, .string i.body, .int .i64 i.day] 31)) := (Below.refl _ _).alloc (Nat.le_refl _) _
  have c0 := Lib.hid (fun w => szItem_any i 1048576 w h1 h2 h3 (by omega) (by omega))
  have c1 := Lib.hid (fun w => spec_itemValid i w h1 h2 h3)
  have c2 := Lib.hid (fun w => impl_itemValid i w h1 h2 h3)
  have c3 := Lib.hid (fun w => toItem_any i w)
  clear h1 h2 h3
  generalize itV i = ok at *
  have hcc : Hid (∀ w1, Below w.heap.size w w1 → Below (w.heap.size + 1) (w.alloc (.cells #[.string i.key, .string i.title, .string i.body, .int .i64 i.day] 31)) w1 → w1.cell? ⟨w.heap.size, 0, none⟩ = some (.string i.key) ∧ w1.cell? ⟨w.heap.size, 1, none⟩ = some (.string i.title) ∧ w1.cell? ⟨w.heap.size, 2, none⟩ = some (.string i.body) ∧ w1.cell? ⟨w.heap.size, 3, none⟩ = some (.int .i64 i.day)) := fun w1 _ h =>
    ⟨(h.cell (p := ⟨w.heap.size, 0, none⟩) (by simp)).trans (by go_simp), (h.cell (p := ⟨w.heap.size, 1, none⟩) (by simp)).trans (by go_simp), (h.cell (p := ⟨w.heap.size, 2, none⟩) (by simp)).trans (by go_simp), (h.cell (p := ⟨w.heap.size, 3, none⟩) (by simp)).trans (by go_simp)⟩
  go_enter Try.func4, Try.ntmps4
  go_wp2_with fail
  refine (c0.out _).mono ?_
  rintro e w1 ⟨⟨r, rfl, r1, r2⟩, hb1⟩
  have hc1 : Below (w.heap.size + 1) (w.alloc (.cells #[.string i.key, .string i.title, .string i.body, .int .i64 i.day] 31)) w1 := hb1.mono (by simp)
  have hz1 := hb0.trans (hc1.mono (by omega))
  by_cases h0 : 0 ≤ r
  · obtain ⟨g0, g1, g2, g3⟩ := hcc.out w1 hz1 hc1
    clear r2
    go_wp2_with fail
    refine (c3.out _).mono ?_
    rintro e w2 ⟨rfl, hb2⟩
    have hc2 := hc1.trans (hb2.mono (by have := hc1.size; simp at this; omega))
    clear g0 g1 g2 g3
    go_wp2_with fail
    refine (c1.out _).mono ?_
    rintro e w3 ⟨rfl, hb3⟩
    have hc3 := hc2.trans (hb3.mono (by have := hc2.size; simp at this; omega))
    have hz3 := hb0.trans (hc3.mono (by omega))
    obtain ⟨g0, g1, g2, g3⟩ := hcc.out w3 hz3 hc3
    go_wp2_with fail
    refine (c3.out _).mono ?_
    rintro e w4 ⟨rfl, hb4⟩
    have hc4 := hc3.trans (hb4.mono (by have := hc3.size; simp at this; omega))
    go_wp2_with fail
    refine (c2.out _).mono ?_
    rintro e w5 ⟨rfl, hb5⟩
    have hc5 := hc4.trans (hb5.mono (by have := hc4.size; simp at this; omega))
    have hz5 := hb0.trans (hc5.mono (by omega))
    cases ok
    all_goals
      go_wp2
      go_ret
      exact ⟨rfl, hz5⟩
  · go_wp2
    go_ret
    exact ⟨rfl, hz1⟩

theorem fnExactItemValid_own : ownKnob Try.prog.godebug = none := by kernel_rfl
theorem fnExactItemValid_laidOut : laidOutB Try.prog = true := by kernel_rfl
set_option maxRecDepth 100000 in
theorem fnExactItemValid_lifted (os : Os) (started : os.Started) (H : Type) (enc : TypeId × Value → H) :
    ReturnsInHanded {} Try.checked os 4 .any (Rows.fnExactItemValidSpec.pre6 enc Try.prog Try.f4 Rows.fnExactItemValidRow.domain false) (Rows.fnExactItemValidSpec.post enc Try.prog Try.f4 false true false false) := by
  refine returnsInHanded_of_change (C := Try.checked) fnExactItemValid_own started (by kernel_rfl) Try.func4
    (ChangeSpec.witness6 (enc := enc) (C := Try.checked) false ⟨#[], #[.agg #[.string ByteArray.empty, .string ByteArray.empty, .string ByteArray.empty, .int .i64 0]], []⟩ 8 (by kernel_rfl) (by kernel_rfl) (by kernel_rfl) (by kernel_rfl)) ?_
  intro W base args ds gs before hval0 hW hcnd _
  have hval : ∀ (j : Nat) t v, Try.f4.params[j]? = some t → args[j]? = some v → Value.okWide Try.prog W .any base t v := hval0
  have hW' := hW
  obtain ⟨p, q, hA0, hV, rfl, hfz, hnd⟩ := hW
  have hA : DataW.TrodAll enc Try.prog W 0 (fun _ => true) true Try.f4.params.toList args.toList ds p := hA0
  rw [Try.params4] at hA hval
  obtain ⟨v0, vs0, d0, ds0, p0, q0, hargs0, rfl, rfl, h0, r0⟩ := trodAll_cons hA
  obtain ⟨rfl, rfl, rfl⟩ := trodAll_nil r0
  obtain rfl : args = #[v0] := by cases args; simp_all
  obtain ⟨rfl, rfl⟩ := trodVars_none hV
  have k0 := h0
  have lt0 : ∀ x ∈ p0, x.block < W.heap.size := by obtain ⟨m, hm⟩ := k0; exact DataW.trod_lt m _ _ _ hm
  obtain ⟨a0, rfl, w0⟩ := it_val Try.underlying31 (by kernel_rfl) (by kernel_rfl) (by kernel_rfl) (by kernel_rfl) (by kernel_rfl) (by kernel_rfl) (hval 0 31 v0 rfl rfl) h0
  clear hA0 hval0
  refine (fnExactItemValid_walk a0 W w0).mono fun e W' ⟨he, bel⟩ => ?_
  subst he
  exact ⟨_, rfl, _, _, _, [], _, [], hW', trodAll_mk1 (shut_bool Try.underlying4 _), (trodAll_cons_mk (Below.trod fnExactItemValid_laidOut (by kernel_rfl) (of_decide_eq_true (by kernel_rfl)) k0 bel lt0) trodAll_mk0), rfl, bel.frame _, fun h => by cases h⟩

theorem fnExactItemValid_closed : joinedFacts Try.pinned.checked.prog 4 Try.f4 Rows.fnExactItemValidSpec Rows.fnExactItemValidRow = true := by
  show joinedFacts Try.prog 4 Try.f4 Rows.fnExactItemValidSpec Rows.fnExactItemValidRow = true
  simp only [joinedFacts, Bool.and_eq_true]
  repeat' apply And.intro
  all_goals first | with_reducible exact head_may | (rw [head_final]; kernel_rfl) | (rw [head_make]; kernel_rfl) | as_aux_lemma => kernel_rfl
theorem fnExactItemValid_over : Rows.fnExactItemValidRow.holds Try.pinned (OpenSpec.ofChange Rows.fnExactItemValidSpec) :=
  OpenClaim.holds_of_wide 4 Try.f4 rfl rfl rfl rfl rfl rfl rfl ⟨rfl, rfl, rfl, rfl, rfl⟩ rfl rfl rfl rfl rfl (by kernel_rfl) Try.func4 fnExactItemValid_closed
    (of_decide_eq_true (by kernel_rfl)) (by unfold Func.isWrapper; first | (rw [if_pos (by decide +kernel)]; kernel_rfl) | (rw [if_neg (by decide +kernel)]; exact ⟨rfl, rfl⟩))
    (fun os started H enc _ => fnExactItemValid_lifted os started H enc)

/-- The statement. -/
theorem fnExactItemValid_holds : Rows.FnExactItemValidSaid := fnExactItemValid_over

end Go.Proofs.Ytldllhfadihmeaa
