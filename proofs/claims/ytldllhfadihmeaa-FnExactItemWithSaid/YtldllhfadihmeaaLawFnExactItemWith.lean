/- The law FnExactItemWith: for every input the call returns true, and the arguments read as before. Condition: none. -/
import Derived.Test.YtldllhfadihmeaaRows
import Derived.Test.YtldllhfadihmeaaHead
import Derived.Test.YtldllhfadihmeaaIwW
import Derived.Test.YtldllhfadihmeaaIwS
import Derived.Test.YtldllhfadihmeaaItR
import Derived.WalkKit
import Derived.WalkSpells
import Derived.WalkLawsBesides
import Derived.ProofKit
import Derived.OpenShut
import Derived.ShutString
import Derived.ChangeOld
import Derived.Below
import Derived.Lib.Hide
namespace Go.Proofs.Ytldllhfadihmeaa
open Go.ChangeShapes Go.WideShapes Go.ChangeAt Go.RowKit
open Go.ChangeMaps (open_string shut_string)
set_option linter.unusedVariables false

theorem item_kept (W : World) (t : TypeId) (x : It) (w2 : World) (h : Below (W.heap.size + 1) (W.alloc (.cells #[.string x.key, .string x.title, .string x.body, .int .i64 x.day] t)) w2) :
    w2.cell? ⟨W.heap.size, 0, none⟩ = some (.string x.key) ∧ w2.cell? ⟨W.heap.size, 1, none⟩ = some (.string x.title) ∧ w2.cell? ⟨W.heap.size, 2, none⟩ = some (.string x.body) ∧ w2.cell? ⟨W.heap.size, 3, none⟩ = some (.int .i64 x.day) :=
  ⟨(h.cell (p := ⟨W.heap.size, 0, none⟩) (by simp)).trans (by go_simp), (h.cell (p := ⟨W.heap.size, 1, none⟩) (by simp)).trans (by go_simp), (h.cell (p := ⟨W.heap.size, 2, none⟩) (by simp)).trans (by go_simp), (h.cell (p := ⟨W.heap.size, 3, none⟩) (by simp)).trans (by go_simp)⟩
set_option maxHeartbeats 1000000 in
theorem fnExactItemWith_walk (a : Option Addr) (len cap : Nat) (l : List It) (key : ByteArray) (hk : key.size ≤ maxLen) (w : World) (h : ItArg w a len l) :
    Calls Try.prog 8 #[.slice a len cap, .string key] w fun e w' => e = .returned (.bool true) ∧ Below w.heap.size w w' := by
  have H := Lib.hid h
  obtain ⟨h1, h2, h3, h4⟩ := h
  have c1 := Lib.hid (szItemS_any a len cap l w h1 h2 h3 h4)
  clear h1 h2 h3 h4
  unfold maxLen at hk
  by_cases hl : 1048576 < key.size
  · go_enter Try.func8, Try.ntmps8
    go_wp2
    go_ret
    exact ⟨rfl, Below.refl _ _⟩
  go_enter Try.func8, Try.ntmps8
  go_wp2_with fail
  refine c1.out.mono ?_
  rintro e w1 ⟨⟨r, rfl, hr⟩, hb1⟩
  by_cases h0 : 0 ≤ r
  · obtain ⟨r1, r2⟩ := hr h0
    have R2 := Lib.hid r2
    clear r2 hr
    have HA := H.out.old hb1
    obtain ⟨x, hx⟩ : ∃ x, x = dI (withI l key) := ⟨_, rfl⟩
    obtain ⟨ok, hok⟩ : ∃ ok, ok = (withI l key).isSome := ⟨_, rfl⟩
    have cs := Lib.hid (fun a w h1 h2 h3 h4 => spec_itemWith a len len l key w h1 h2 h3 h4)
    have ci := Lib.hid (fun a w h1 h2 h3 h4 => impl_itemWith a len len l key w h1 h2 (Nat.le_refl _) h3 h4)
    rw [← hx, ← hok] at cs ci
    clear hx hok
    go_wp2_with fail
    refine (toItemS_any a len cap l _ HA.1 HA.2.1 r1).mono ?_
    rintro e w2 ⟨⟨g2, rfl, ho2⟩, hb2⟩
    have hb12 := hb1.trans (hb2.mono hb1.size)
    have hz : ∀ i ∈ l, i.key.size ≤ maxLen ∧ i.title.size ≤ maxLen ∧ i.body.size ≤ maxLen := HA.2.2.2
    have HZ := Lib.hid hz
    have E2 := Lib.hid (ItAt.own ho2 HA.2.1)
    clear hz ho2
    go_wp2_with fail
    refine (cs.out _ _ E2.out HA.2.1 HA.2.2.1 HZ.out).mono ?_
    rintro e w2b ⟨rfl, hb2b⟩
    have hb12 := hb12.trans (hb2b.mono hb12.size)
    have K6 := Lib.hid (fun w3 h => item_kept w2b 34 x w3 h)
    have hbA := hb12.alloc hb12.size (.cells #[.string x.key, .string x.title, .string x.body, .int .i64 x.day] 34)
    have hc0 : Below (w2b.heap.size + 1) (w2b.alloc (.cells #[.string x.key, .string x.title, .string x.body, .int .i64 x.day] 34)) (w2b.alloc (.cells #[.string x.key, .string x.title, .string x.body, .int .i64 x.day] 34)) := Below.refl _ _
    have HA2 := H.out.old hbA
    go_wp2_with fail
    refine (toItemS_any a len cap l _ HA2.1 HA2.2.1 r1).mono ?_
    rintro e w4 ⟨⟨g4, rfl, ho4⟩, hb4⟩
    have hc4 := hc0.trans (hb4.mono (by simp))
    have hz4 := hbA.trans (hb4.mono hbA.size)
    have E4 := Lib.hid (ItAt.own ho4 HA.2.1)
    clear ho4
    go_wp2_with fail
    refine (ci.out _ _ E4.out HA.2.1 HA.2.2.1 HZ.out).mono ?_
    rintro e w5 ⟨rfl, hb5⟩
    have hc5 := hc4.trans (hb5.mono (by have := hc4.size; simp at this; omega))
    have hz5 := hz4.trans (hb5.mono hz4.size)
    have E5 := Lib.hid (E4.out.old hb5)
    have hbB := hz5.alloc hz5.size (.cells #[.string x.key, .string x.title, .string x.body, .int .i64 x.day] 34)
    have K9 := Lib.hid (fun w3 h => item_kept w5 34 x w3 h)
    obtain ⟨p0, p1, p2, p3⟩ := K6.out _ (hc5.alloc (by have := hc5.size; simp at this; omega) (.cells #[.string x.key, .string x.title, .string x.body, .int .i64 x.day] 34))
    go_wp2_with fail
    refine (eqItem_any x x _).mono ?_
    rintro e w7 ⟨rfl, hb7⟩
    rw [decide_eq_true (rfl : x = x)]
    have hz7 := hbB.trans (hb7.mono hbB.size)
    have E7 := Lib.hid ((E5.out.old ((Below.refl _ _).alloc (Nat.le_refl _) _)).old hb7)
    have HA7 := H.out.old hz7
    clear p0 p1 p2 p3
    cases ok
    all_goals
      go_wp2_with fail
      refine (toItemS_any a len cap l _ HA7.1 HA7.2.1 r1).mono ?_
      rintro e w8 ⟨⟨g8, rfl, ho8⟩, hb8⟩
      have hz8 := hz7.trans (hb8.mono hz7.size)
      have E8 := Lib.hid (ItAt.own ho8 HA.2.1)
      have E78 := Lib.hid (E7.out.old hb8)
      clear ho8
      go_wp2_with fail
      refine (eqItemS_any _ _ len len len len l l _ E78.out HA.2.1 E8.out HA.2.1 HA.2.2.1 HA.2.2.1).mono ?_
      rintro e w9 ⟨rfl, hb9⟩
      have ht : decide (l = l) = true := decide_eq_true rfl
      go_wp2
      go_ret
      exact ⟨rfl, hz8.trans (hb9.mono hz8.size)⟩
  · go_wp2
    go_ret
    exact ⟨rfl, hb1⟩

theorem fnExactItemWith_own : ownKnob Try.prog.godebug = none := by kernel_rfl
theorem fnExactItemWith_laidOut : laidOutB Try.prog = true := by kernel_rfl
set_option maxRecDepth 100000 in
theorem fnExactItemWith_lifted (os : Os) (started : os.Started) (H : Type) (enc : TypeId × Value → H) :
    ReturnsInHanded {} Try.checked os 8 .any (Rows.fnExactItemWithSpec.pre6 enc Try.prog Try.f8 Rows.fnExactItemWithRow.domain false) (Rows.fnExactItemWithSpec.post enc Try.prog Try.f8 false true false false) := by
  refine returnsInHanded_of_change (C := Try.checked) fnExactItemWith_own started (by kernel_rfl) Try.func8
    (ChangeSpec.witness6 (enc := enc) (C := Try.checked) false ⟨#[], #[.slice none 0 0, .string ByteArray.empty], []⟩ 8 (by kernel_rfl) (by kernel_rfl) (by kernel_rfl) (by kernel_rfl)) ?_
  intro W base args ds gs before hval0 hW hcnd _
  have hval : ∀ (j : Nat) t v, Try.f8.params[j]? = some t → args[j]? = some v → Value.okWide Try.prog W .any base t v := hval0
  have hW' := hW
  obtain ⟨p, q, hA0, hV, rfl, hfz, hnd⟩ := hW
  have hA : DataW.TrodAll enc Try.prog W 0 (fun _ => true) true Try.f8.params.toList args.toList ds p := hA0
  rw [Try.params8] at hA hval
  obtain ⟨v0, vs0, d0, ds0, p0, q0, hargs0, rfl, rfl, h0, r0⟩ := trodAll_cons hA
  obtain ⟨v1, vs1, d1, ds1, p1, q1, hargs1, rfl, rfl, h1, r1⟩ := trodAll_cons r0
  obtain ⟨rfl, rfl, rfl⟩ := trodAll_nil r1
  obtain rfl := hargs1
  obtain rfl : args = #[v0, v1] := by cases args; simp_all
  obtain ⟨rfl, rfl⟩ := trodVars_none hV
  have k0 := h0
  have lt0 : ∀ x ∈ p0, x.block < W.heap.size := by obtain ⟨m, hm⟩ := k0; exact DataW.trod_lt m _ _ _ hm
  have k1 := h1
  have lt1 : ∀ x ∈ p1, x.block < W.heap.size := by obtain ⟨m, hm⟩ := k1; exact DataW.trod_lt m _ _ _ hm
  obtain ⟨a0, len0, cap0, rfl⟩ := okWide_slice Try.underlying22 (hval 0 22 v0 rfl rfl)
  obtain ⟨z0, w0⟩ : ∃ zs, ItArg W a0 len0 zs := by
    obtain ⟨fuel, hf⟩ := h0
    exact it_arg Try.underlying22 Try.underlying31 (by kernel_rfl) rfl rfl rfl rfl (by kernel_rfl) (by kernel_rfl) (by kernel_rfl) (by kernel_rfl) (by kernel_rfl) (by kernel_rfl) (by kernel_rfl) (by kernel_rfl) (by simpa [Value.cells] using hf)
  obtain ⟨a1, rfl, rfl, rfl, w1⟩ := open_string Try.underlying9 (hval 1 9 v1 rfl rfl) h1
  clear hA0 hval0
  refine (fnExactItemWith_walk a0 len0 cap0 z0 a1 w1 W w0).mono fun e W' ⟨he, bel⟩ => ?_
  subst he
  exact ⟨_, rfl, _, _, _, [], _, [], hW', trodAll_mk1 (shut_bool Try.underlying4 _), (trodAll_cons_mk (Below.trod fnExactItemWith_laidOut (by kernel_rfl) (of_decide_eq_true (by kernel_rfl)) k0 bel lt0) (trodAll_cons_mk (Below.trod fnExactItemWith_laidOut (by kernel_rfl) (of_decide_eq_true (by kernel_rfl)) k1 bel lt1) trodAll_mk0)), rfl, bel.frame _, fun h => by cases h⟩

theorem fnExactItemWith_closed : joinedFacts Try.pinned.checked.prog 8 Try.f8 Rows.fnExactItemWithSpec Rows.fnExactItemWithRow = true := by
  show joinedFacts Try.prog 8 Try.f8 Rows.fnExactItemWithSpec Rows.fnExactItemWithRow = true
  simp only [joinedFacts, Bool.and_eq_true]
  repeat' apply And.intro
  all_goals first | with_reducible exact head_may | (rw [head_final]; kernel_rfl) | (rw [head_make]; kernel_rfl) | as_aux_lemma => kernel_rfl
theorem fnExactItemWith_over : Rows.fnExactItemWithRow.holds Try.pinned (OpenSpec.ofChange Rows.fnExactItemWithSpec) :=
  OpenClaim.holds_of_wide 8 Try.f8 rfl rfl rfl rfl rfl rfl rfl ⟨rfl, rfl, rfl, rfl, rfl⟩ rfl rfl rfl rfl rfl (by kernel_rfl) Try.func8 fnExactItemWith_closed
    (of_decide_eq_true (by kernel_rfl)) (by unfold Func.isWrapper; first | (rw [if_pos (by decide +kernel)]; kernel_rfl) | (rw [if_neg (by decide +kernel)]; exact ⟨rfl, rfl⟩))
    (fun os started H enc _ => fnExactItemWith_lifted os started H enc)

/-- The statement. -/
theorem fnExactItemWith_holds : Rows.FnExactItemWithSaid := fnExactItemWith_over

end Go.Proofs.Ytldllhfadihmeaa
