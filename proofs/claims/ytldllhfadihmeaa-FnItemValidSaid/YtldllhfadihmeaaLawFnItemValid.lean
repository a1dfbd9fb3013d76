/- The law FnItemValid: for every input the call returns true, and the arguments read as before. Condition: none. -/
import Derived.Test.YtldllhfadihmeaaRows
import Derived.Test.YtldllhfadihmeaaHead
import Derived.Test.YtldllhfadihmeaaDrawX
import Derived.Test.YtldllhfadihmeaaNewW
import Derived.Test.YtldllhfadihmeaaItW
import Derived.WalkKit
import Derived.WalkSpells
import Derived.WalkLawsBesides
import Derived.ProofKit
import Derived.OpenShut
import Derived.ShutString
import Derived.ChangeOld
import Derived.Below
import Derived.Lib.Hide
namespace Go.Proofs.Ytldllhfadihmeaa
open Go.ChangeShapes Go.WideShapes Go.ChangeAt Go.RowKit
open Go.ChangeMaps (open_string shut_string)
set_option linter.unusedVariables false

theorem no_title (i : It) : itV ⟨i.key, ⟨#[]⟩, i.body, i.day⟩ = false := by
  rw [← Bool.not_eq_true, itV_iff]
  rintro ⟨_, _, h, _⟩
  cases h
theorem no_text {i : It} (h : itV i = true) : itV ⟨i.key, i.title, ⟨#[]⟩, i.day⟩ = true := by
  rw [itV_iff] at h ⊢
  obtain ⟨h1, h2, h3, h4, h5⟩ := h
  exact ⟨h1, h2, h3, (by decide : textV [] = true), h5⟩

set_option maxHeartbeats 1000000 in
theorem fnItemValid_walk (a : Option Addr) (len cap : Nat) (zs : List Int) (w : World) (h : IsRow .u8 w a len cap zs) :
    Calls Try.prog 5 #[.slice a len cap] w fun e w' => e = .returned (.bool true) ∧ Below w.heap.size w w' := by
  have H := Lib.hid h
  clear h
  by_cases hl : 1048576 < len
  · go_enter Try.func5, Try.ntmps5
    go_wp2
    go_ret
    exact ⟨rfl, Below.refl _ _⟩
  · go_enter Try.func5, Try.ntmps5
    go_wp2_with fail
    refine (drawItemValid_any a len cap zs _ H.out).mono ?_
    rintro e w1 ⟨⟨x, rfl, hx⟩, hb⟩
    obtain ⟨hx1, hx2, hx3⟩ := okI_sz hx
    have c1 := Lib.hid (fun w => impl_itemValid x w hx1 hx2 hx3)
    have c2 := Lib.hid (fun w => spec_itemValid x w hx1 hx2 hx3)
    have c3 : Hid (∀ w, Calls Try.prog 25 #[.agg #[.string x.key, .string ⟨#[]⟩, .string x.body, .int .i64 x.day]] w fun e w' => e = .returned (.bool false) ∧ Below w.heap.size w w') := fun w => by
      have := impl_itemValid ⟨x.key, ⟨#[]⟩, x.body, x.day⟩ w hx1 (show (⟨#[]⟩ : ByteArray).size ≤ maxLen by decide) hx3
      rwa [no_title] at this
    have c4 : Hid (itV x = true → ∀ w, Calls Try.prog 25 #[.agg #[.string x.key, .string x.title, .string ⟨#[]⟩, .int .i64 x.day]] w fun e w' => e = .returned (.bool true) ∧ Below w.heap.size w w') := fun hv w => by
      have := impl_itemValid ⟨x.key, x.title, ⟨#[]⟩, x.day⟩ w hx1 hx2 (show (⟨#[]⟩ : ByteArray).size ≤ maxLen by decide)
      rwa [no_text hv] at this
    have KI := Lib.hid (fun w2 h => item_kept w1 34 x w2 h)
    have hb1 := hb.alloc hb.size (.cells #[.string x.key, .string x.title, .string x.body, .int .i64 x.day] 34)
    have hc0 : Below (w1.heap.size + 1) (w1.alloc (.cells #[.string x.key, .string x.title, .string x.body, .int .i64 x.day] 34)) (w1.alloc (.cells #[.string x.key, .string x.title, .string x.body, .int .i64 x.day] 34)) := Below.refl _ _
    clear hx hx1 hx2 hx3
    generalize itV x = ok at *
    go_wp2_with fail
    refine (c1.out _).mono ?_
    rintro e w2 ⟨rfl, hb2⟩
    have hc2 := hc0.trans (hb2.mono (by simp))
    obtain ⟨p0, p1, p2, p3⟩ := KI.out _ hc2
    go_wp2_with fail
    refine (c2.out _).mono ?_
    rintro e w3 ⟨rfl, hb3⟩
    have hc3 := hc2.trans (hb3.mono (by have := hc2.size; simp at this; omega))
    clear p0 p1 p2 p3
    obtain ⟨p0, p1, p2, p3⟩ := KI.out _ hc3
    cases ok
    · go_wp2_with fail
      refine (c3.out _).mono ?_
      rintro e w4 ⟨rfl, hb4⟩
      have hc4 := hc3.trans (hb4.mono (by have := hc3.size; simp at this; omega))
      go_wp2_with fail
      refine (alive_any _).mono ?_
      rintro e w' ⟨rfl, rfl⟩
      go_wp2
      go_ret
      exact ⟨rfl, hb1.trans (hc4.mono (by have := hb.size; omega))⟩
    · have c5 := c4.out rfl
      clear c4
      go_wp2_with fail
      refine (c3.out _).mono ?_
      rintro e w4 ⟨rfl, hb4⟩
      have hc4 := hc3.trans (hb4.mono (by have := hc3.size; simp at this; omega))
      clear p0 p1 p2 p3
      obtain ⟨p0, p1, p2, p3⟩ := KI.out _ hc4
      go_wp2_with fail
      refine (c5 _).mono ?_
      rintro e w5 ⟨rfl, hb5⟩
      have hc5 := hc4.trans (hb5.mono (by have := hc4.size; simp at this; omega))
      go_wp2_with fail
      refine (alive_any _).mono ?_
      rintro e w' ⟨rfl, rfl⟩
      go_wp2
      go_ret
      exact ⟨rfl, hb1.trans (hc5.mono (by have := hb.size; omega))⟩

theorem fnItemValid_own : ownKnob Try.prog.godebug = none := by kernel_rfl
theorem fnItemValid_laidOut : laidOutB Try.prog = true := by kernel_rfl
set_option maxRecDepth 100000 in
theorem fnItemValid_lifted (os : Os) (started : os.Started) (H : Type) (enc : TypeId × Value → H) :
    ReturnsInHanded {} Try.checked os 5 .any (Rows.fnItemValidSpec.pre6 enc Try.prog Try.f5 Rows.fnItemValidRow.domain false) (Rows.fnItemValidSpec.post enc Try.prog Try.f5 false true false false) := by
  refine returnsInHanded_of_change (C := Try.checked) fnItemValid_own started (by kernel_rfl) Try.func5
    (ChangeSpec.witness6 (enc := enc) (C := Try.checked) false ⟨#[], #[.slice none 0 0], []⟩ 8 (by kernel_rfl) (by kernel_rfl) (by kernel_rfl) (by kernel_rfl)) ?_
  intro W base args ds gs before hval0 hW hcnd _
  have hval : ∀ (j : Nat) t v, Try.f5.params[j]? = some t → args[j]? = some v → Value.okWide Try.prog W .any base t v := hval0
  have hW' := hW
  obtain ⟨p, q, hA0, hV, rfl, hfz, hnd⟩ := hW
  have hA : DataW.TrodAll enc Try.prog W 0 (fun _ => true) true Try.f5.params.toList args.toList ds p := hA0
  rw [Try.params5] at hA hval
  obtain ⟨v0, vs0, d0, ds0, p0, q0, hargs0, rfl, rfl, h0, r0⟩ := trodAll_cons hA
  obtain ⟨rfl, rfl, rfl⟩ := trodAll_nil r0
  obtain rfl : args = #[v0] := by cases args; simp_all
  obtain ⟨rfl, rfl⟩ := trodVars_none hV
  have k0 := h0
  have lt0 : ∀ x ∈ p0, x.block < W.heap.size := by obtain ⟨m, hm⟩ := k0; exact DataW.trod_lt m _ _ _ hm
  obtain ⟨a0, len0, cap0, rfl⟩ := okWide_slice Try.underlying37 (hval 0 37 v0 rfl rfl)
  obtain ⟨z0, w0⟩ : ∃ zs, IsRow .u8 W a0 len0 cap0 zs := by
    obtain ⟨fuel, hf⟩ := h0
    rcases open_ints Try.underlying37 Try.underlying5 (by kernel_rfl) hf with ⟨hcs, _⟩ | ⟨x, l, c, zs, hcs, _, hl, hm, hz, _, hcell, hwz⟩
    · simp [Value.cells] at hcs
      obtain ⟨rfl, rfl, rfl⟩ := hcs
      exact ⟨[], .inl ⟨rfl, rfl, rfl, rfl⟩⟩
    · simp [Value.cells] at hcs
      obtain ⟨rfl, rfl, rfl⟩ := hcs
      exact ⟨zs, .inr ⟨_, rfl, hl, hm, by simpa using hz, hcell, hwz⟩⟩
  clear hA0 hval0
  refine (fnItemValid_walk a0 len0 cap0 z0 W w0).mono fun e W' ⟨he, bel⟩ => ?_
  subst he
  exact ⟨_, rfl, _, _, _, [], _, [], hW', trodAll_mk1 (shut_bool Try.underlying4 _), (trodAll_cons_mk (Below.trod fnItemValid_laidOut (by kernel_rfl) (of_decide_eq_true (by kernel_rfl)) k0 bel lt0) trodAll_mk0), rfl, bel.frame _, fun h => by cases h⟩

theorem fnItemValid_closed : joinedFacts Try.pinned.checked.prog 5 Try.f5 Rows.fnItemValidSpec Rows.fnItemValidRow = true := by
  show joinedFacts Try.prog 5 Try.f5 Rows.fnItemValidSpec Rows.fnItemValidRow = true
  simp only [joinedFacts, Bool.and_eq_true]
  repeat' apply And.intro
  all_goals first | with_reducible exact head_may | (rw [head_final]; kernel_rfl) | (rw [head_make]; kernel_rfl) | as_aux_lemma => kernel_rfl
theorem fnItemValid_over : Rows.fnItemValidRow.holds Try.pinned (OpenSpec.ofChange Rows.fnItemValidSpec) :=
  OpenClaim.holds_of_wide 5 Try.f5 rfl rfl rfl rfl rfl rfl rfl ⟨rfl, rfl, rfl, rfl, rfl⟩ rfl rfl rfl rfl rfl (by kernel_rfl) Try.func5 fnItemValid_closed
    (of_decide_eq_true (by kernel_rfl)) (by unfold Func.isWrapper; first | (rw [if_pos (by decide +kernel)]; kernel_rfl) | (rw [if_neg (by decide +kernel)]; exact ⟨rfl, rfl⟩))
    (fun os started H enc _ => fnItemValid_lifted os started H enc)

/-- The statement. -/
theorem fnItemValid_holds : Rows.FnItemValidSaid := fnItemValid_over

end Go.Proofs.Ytldllhfadihmeaa
