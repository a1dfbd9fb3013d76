/- The law FnPlainOf: for every input the call returns true, and the arguments read as before. Condition: none. -/
import Derived.Test.YtjkdjemefkignaaRows
import Derived.Test.YtjkdjemefkignaaHead
import Derived.Test.YtjkdjemefkignaaPlainOfW
import Derived.Test.YtjkdjemefkignaaDrawPl
import Derived.WalkKit
import Derived.WalkSpells
import Derived.WalkLawsBesides
import Derived.ProofKit
import Derived.OpenShut
import Derived.ShutString
import Derived.ChangeOld
import Derived.Below
import Derived.Lib.Hide
namespace Go.Proofs.Ytjkdjemefkignaa
open Go.ChangeShapes Go.WideShapes Go.ChangeAt Go.RowKit
open Go.ChangeMaps (open_string shut_string)
set_option linter.unusedVariables false

theorem plain_at {X : ByteArray} {l : List UInt8} (h : X.data.toList = plainT l) (k : Nat) (hk : k < X.size) : ((X[k].toNat : Int) == 60) = false := by
  rw [beq_eq_false_iff_ne]
  intro e
  have hm := mem_at X k hk
  have : X[k] = 60 := by rw [← UInt8.toNat_inj, show X[k].toNat = 60 from by omega]; rfl
  rw [this, h] at hm
  exact plainT_none l hm

set_option maxHeartbeats 400000 in
theorem fnPlainOf_walk (a : Option Addr) (len cap : Nat) (zs : List Int) (w : World) (h : IsRow .u8 w a len cap zs) :
    Calls Try.prog 4 #[.slice a len cap] w fun e w' => e = .returned (.bool true) ∧ Below w.heap.size w w' := by
  have H := Lib.hid h
  clear h
  by_cases hl : 1048576 < len
  · go_enter Try.func4, Try.ntmps4
    go_wp2
    go_ret
    exact ⟨rfl, Below.refl _ _⟩
  · go_enter Try.func4, Try.ntmps4
    go_wp2_with fail
    refine (drawPlainOf_any a len cap zs _ H.out).mono ?_
    rintro e w1 ⟨s, rfl, hs, hb⟩
    have hsz : s.size ≤ maxLen := by unfold maxLen; omega
    obtain ⟨X, hX⟩ : ∃ X : ByteArray, X = ⟨(plainT s.data.toList).toArray⟩ := ⟨_, rfl⟩
    have hl2 : X.data.toList = plainT s.data.toList := by rw [hX]
    have hX1 : X.size ≤ s.size := by rw [← size_toList, hl2, ← size_toList s]; exact plainT_len _
    have c1 := Lib.hid (fun w => impl_plainOf s w hsz)
    have c2 := Lib.hid (fun w => spec_plainOf s w hsz)
    have c3 := Lib.hid (fun w => impl_plainOf X w (by unfold maxLen; omega))
    rw [← hX] at c1 c2
    rw [hl2, plainT_twice, ← hX] at c3
    have HA := Lib.hid (fun k hk => plain_at hl2 k hk)
    clear hX hl2 hsz
    go_wp2_with fail
    refine (c1.out _).mono ?_
    rintro e w' ⟨rfl, rfl⟩
    go_wp2_with fail
    refine (c2.out _).mono ?_
    rintro e w' ⟨rfl, rfl⟩
    go_wp2
    go_loop [5] (fun i => ∃ k : Nat, i = .int .i64 k ∧ k ≤ X.size) (fun i => X.size - (intOf i).toNat)
    case atStart => exact ⟨0, rfl, by omega⟩
    case round =>
      obtain ⟨k, rfl, hk⟩ := hrel
      by_cases hlt : k < X.size
      · have hc := HA.out k hlt
        go_wp2
        go_round
        case rel => exact ⟨k + 1, by go_num, by omega⟩
        case measure => simp [intOf]; omega
      · go_wp2_with fail
        refine (c3.out _).mono ?_
        rintro e w' ⟨rfl, rfl⟩
        go_wp2_with fail
        refine (alive_any _).mono ?_
        rintro e w' ⟨rfl, rfl⟩
        go_wp2
        go_ret
        exact ⟨rfl, hb⟩

theorem fnPlainOf_own : ownKnob Try.prog.godebug = none := by kernel_rfl
theorem fnPlainOf_laidOut : laidOutB Try.prog = true := by kernel_rfl
set_option maxRecDepth 100000 in
theorem fnPlainOf_lifted (os : Os) (started : os.Started) (H : Type) (enc : TypeId × Value → H) :
    ReturnsInHanded {} Try.checked os 4 .any (Rows.fnPlainOfSpec.pre6 enc Try.prog Try.f4 Rows.fnPlainOfRow.domain false) (Rows.fnPlainOfSpec.post enc Try.prog Try.f4 false true false false) := by
  refine returnsInHanded_of_change (C := Try.checked) fnPlainOf_own started (by kernel_rfl) Try.func4
    (ChangeSpec.witness6 (enc := enc) (C := Try.checked) false ⟨#[], #[.slice none 0 0], []⟩ 8 (by kernel_rfl) (by kernel_rfl) (by kernel_rfl) (by kernel_rfl)) ?_
  intro W base args ds gs before hval0 hW hcnd _
  have hval : ∀ (j : Nat) t v, Try.f4.params[j]? = some t → args[j]? = some v → Value.okWide Try.prog W .any base t v := hval0
  have hW' := hW
  obtain ⟨p, q, hA0, hV, rfl, hfz, hnd⟩ := hW
  have hA : DataW.TrodAll enc Try.prog W 0 (fun _ => true) true Try.f4.params.toList args.toList ds p := hA0
  rw [Try.params4] at hA hval
  obtain ⟨v0, vs0, d0, ds0, p0, q0, hargs0, rfl, rfl, h0, r0⟩ := trodAll_cons hA
  obtain ⟨rfl, rfl, rfl⟩ := trodAll_nil r0
  obtain rfl : args = #[v0] := by cases args; simp_all
  obtain ⟨rfl, rfl⟩ := trodVars_none hV
  have k0 := h0
  have lt0 : ∀ x ∈ p0, x.block < W.heap.size := by obtain ⟨m, hm⟩ := k0; exact DataW.trod_lt m _ _ _ hm
  obtain ⟨a0, len0, cap0, rfl⟩ := okWide_slice Try.underlying24 (hval 0 24 v0 rfl rfl)
  obtain ⟨z0, w0⟩ : ∃ zs, IsRow .u8 W a0 len0 cap0 zs := by
    obtain ⟨fuel, hf⟩ := h0
    rcases open_ints Try.underlying24 Try.underlying5 (by kernel_rfl) hf with ⟨hcs, _⟩ | ⟨x, l, c, zs, hcs, _, hl, hm, hz, _, hcell, hwz⟩
    · simp [Value.cells] at hcs
      obtain ⟨rfl, rfl, rfl⟩ := hcs
      exact ⟨[], .inl ⟨rfl, rfl, rfl, rfl⟩⟩
    · simp [Value.cells] at hcs
      obtain ⟨rfl, rfl, rfl⟩ := hcs
      exact ⟨zs, .inr ⟨_, rfl, hl, hm, by simpa using hz, hcell, hwz⟩⟩
  clear hA0 hval0
  refine (fnPlainOf_walk a0 len0 cap0 z0 W w0).mono fun e W' ⟨he, bel⟩ => ?_
  subst he
  exact ⟨_, rfl, _, _, _, [], _, [], hW', trodAll_mk1 (shut_bool Try.underlying4 _), (trodAll_cons_mk (Below.trod fnPlainOf_laidOut (by kernel_rfl) (of_decide_eq_true (by kernel_rfl)) k0 bel lt0) trodAll_mk0), rfl, bel.frame _, fun h => by cases h⟩

theorem fnPlainOf_closed : joinedFacts Try.pinned.checked.prog 4 Try.f4 Rows.fnPlainOfSpec Rows.fnPlainOfRow = true := by
  show joinedFacts Try.prog 4 Try.f4 Rows.fnPlainOfSpec Rows.fnPlainOfRow = true
  simp only [joinedFacts, Bool.and_eq_true]
  repeat' apply And.intro
  all_goals first | with_reducible exact head_may | (rw [head_final]; kernel_rfl) | (rw [head_make]; kernel_rfl) | as_aux_lemma => kernel_rfl
theorem fnPlainOf_over : Rows.fnPlainOfRow.holds Try.pinned (OpenSpec.ofChange Rows.fnPlainOfSpec) :=
  OpenClaim.holds_of_wide 4 Try.f4 rfl rfl rfl rfl rfl rfl rfl ⟨rfl, rfl, rfl, rfl, rfl⟩ rfl rfl rfl rfl rfl (by kernel_rfl) Try.func4 fnPlainOf_closed
    (of_decide_eq_true (by kernel_rfl)) (by unfold Func.isWrapper; first | (rw [if_pos (by decide +kernel)]; kernel_rfl) | (rw [if_neg (by decide +kernel)]; exact ⟨rfl, rfl⟩))
    (fun os started H enc _ => fnPlainOf_lifted os started H enc)

/-- The statement. -/
theorem fnPlainOf_holds : Rows.FnPlainOfSaid := fnPlainOf_over

end Go.Proofs.Ytjkdjemefkignaa
