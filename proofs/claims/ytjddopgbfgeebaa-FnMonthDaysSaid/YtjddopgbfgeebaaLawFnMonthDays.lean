/- The law FnMonthDays: for every input the call returns true, and the arguments read as before. Condition: none. -/
import Derived.Test.YtjddopgbfgeebaaRows
import Derived.Test.YtjddopgbfgeebaaHead
import Derived.Test.YtjddopgbfgeebaaDrawP
import Derived.Test.YtjddopgbfgeebaaDaysW
import Derived.WalkKit
import Derived.WalkSpells
import Derived.WalkLawsBesides
import Derived.ProofKit
import Derived.OpenShut
import Derived.ShutString
import Derived.ChangeOld
import Derived.Below
import Derived.Lib.Hide
namespace Go.Proofs.Ytjddopgbfgeebaa
open Go.ChangeShapes Go.WideShapes Go.ChangeAt Go.RowKit
open Go.ChangeMaps (open_string shut_string)
set_option linter.unusedVariables false

theorem mdays_neg {y m : Int} (hn : ¬ 0 ≤ mdays y m) : mdays y m = -1 := by
  by_cases hx : 1 ≤ y ∧ y ≤ 4000 ∧ 1 ≤ m ∧ m ≤ 12
  · have := mdays_bd hx.1 hx.2.1 hx.2.2.1 hx.2.2.2
    omega
  · exact mdays_none hx
/-- What a round of the law's loop keeps. -/
def SumTo (y : Int) (k : Nat) (v : Int) : Prop := v = cum y (k - 1)
theorem SumTo.next {y : Int} {k : Nat} {v : Int} (h : SumTo y k v) (hk : 1 ≤ k) : SumTo y (k + 1) (v + mdays y k) := by
  unfold SumTo at *
  obtain ⟨j, rfl⟩ : ∃ j, k = j + 1 := ⟨k - 1, by omega⟩
  rw [h, show j + 1 + 1 - 1 = j + 1 from rfl, show j + 1 - 1 = j from rfl, cum_succ]
theorem SumTo.bd {y : Int} {k : Nat} {v : Int} (h : SumTo y k v) (h1 : 1 ≤ y) (h2 : y ≤ 4000) (hk : k ≤ 13) : 0 ≤ v ∧ v ≤ 400 := by
  unfold SumTo at h
  have b := cum_bd h1 h2 (k - 1) (by omega)
  omega
theorem SumTo.yes {y : Int} {v : Int} (h : SumTo y 13 v) (h1 : 1 ≤ y) (h2 : y ≤ 4000) (hl : leapB y = true) : (v == 365) = false ∧ (v == 366) = true := by
  unfold SumTo at h
  rw [show 13 - 1 = 12 from rfl, cum_12 h1 h2] at h
  have : lp y = 1 := by unfold lp; rw [if_pos hl]
  rw [beq_eq_false_iff_ne, beq_iff_eq]; omega
theorem SumTo.no {y : Int} {v : Int} (h : SumTo y 13 v) (h1 : 1 ≤ y) (h2 : y ≤ 4000) (hl : leapB y = false) : (v == 365) = true := by
  unfold SumTo at h
  rw [show 13 - 1 = 12 from rfl, cum_12 h1 h2] at h
  have : lp y = 0 := by unfold lp; rw [hl]; rfl
  rw [beq_iff_eq]; omega

set_option maxHeartbeats 400000 in
theorem fnMonthDays_walk (a : Option Addr) (len cap : Nat) (zs : List Int) (w : World) (h : IsRow .u8 w a len cap zs) :
    Calls Try.prog 14 #[.slice a len cap] w fun e w' => e = .returned (.bool true) ∧ Below w.heap.size w w' := by
  have H := Lib.hid h
  clear h
  by_cases hl : 1048576 < len
  · go_enter Try.func14, Try.ntmps14
    go_wp2
    go_ret
    exact ⟨rfl, Below.refl _ _⟩
  · go_enter Try.func14, Try.ntmps14
    go_wp2_with fail
    refine (drawMonthDays_any a len cap zs _ H.out).mono ?_
    rintro e w1 ⟨y, m, rfl, y0, y1, m0, m1, hb⟩
    have c1 := Lib.hid (fun w => impl_monthDays y m w)
    have c2 := Lib.hid (fun w => spec_monthDays y m w)
    by_cases hn : 0 ≤ mdays y m
    · obtain ⟨h1, h2, h3, h4⟩ := mdays_ok hn
      obtain ⟨hb1, hb2'⟩ := mdays_bd h1 h2 h3 h4
      have c5 := Lib.hid (fun w => impl_leapYear y w)
      generalize mdays y m = n at *
      cases hlp : leapB y
      all_goals
        have HL := Lib.hid hlp
        rw [hlp] at c5
        clear hlp
        go_wp2_with fail
        refine (c1.out _).mono ?_
        rintro e w' ⟨rfl, rfl⟩
        go_wp2_with fail
        refine (c2.out _).mono ?_
        rintro e w2 ⟨rfl, hb2⟩
        have hbb := hb.trans (hb2.mono hb.size)
        go_wp2_with fail
        go_loop [6, 7] (fun s i => ∃ (k : Nat) (v : Int), 1 ≤ k ∧ k ≤ 13 ∧ i = .int .i64 k ∧ s = .int .i64 v ∧ 0 ≤ v ∧ v ≤ 400 ∧ SumTo y k v) (fun _ i => 13 - (intOf i).toNat)
        case atStart => exact ⟨1, 0, by omega, by omega, rfl, rfl, by omega, by omega, rfl⟩
        case round =>
          obtain ⟨k, v, k1, k2, rfl, rfl, v0, v1, hs⟩ := hrel
          by_cases hlt : k ≤ 12
          · have hn := hs.next k1
            have hbd := hn.bd h1 h2 (by omega)
            have hmd := mdays_bd (m := (k : Int)) h1 h2 (by omega) (by omega)
            go_wp2_with fail
            refine (impl_monthDays _ _ _).mono ?_
            rintro e w' ⟨rfl, rfl⟩
            go_wp2
            go_round
            case rel => exact ⟨k + 1, _, by omega, by omega, by go_num, by go_num, hbd.1, hbd.2, hn⟩
            case measure => simp [intOf]; omega
          · obtain rfl : k = 13 := by omega
            first
              | (have hq := hs.no h1 h2 HL.out
                 go_wp2_with fail
                 refine (c5.out _).mono ?_
                 rintro e w' ⟨rfl, rfl⟩
                 go_wp2
                 go_ret
                 exact ⟨rfl, hbb⟩)
              | (obtain ⟨hq1, hq2⟩ := hs.yes h1 h2 HL.out
                 go_wp2_with fail
                 refine (c5.out _).mono ?_
                 rintro e w' ⟨rfl, rfl⟩
                 go_wp2
                 go_ret
                 exact ⟨rfl, hbb⟩)
    · have hv : mdays y m = -1 := mdays_neg hn
      rw [hv] at c1 c2
      clear hn hv
      go_wp2_with fail
      refine (c1.out _).mono ?_
      rintro e w' ⟨rfl, rfl⟩
      go_wp2_with fail
      refine (c2.out _).mono ?_
      rintro e w2 ⟨rfl, hb2⟩
      go_wp2_with fail
      refine (alive_any _).mono ?_
      rintro e w' ⟨rfl, rfl⟩
      go_wp2
      go_ret
      exact ⟨rfl, hb.trans (hb2.mono hb.size)⟩

theorem fnMonthDays_own : ownKnob Try.prog.godebug = none := by kernel_rfl
theorem fnMonthDays_laidOut : laidOutB Try.prog = true := by kernel_rfl
set_option maxRecDepth 100000 in
theorem fnMonthDays_lifted (os : Os) (started : os.Started) (H : Type) (enc : TypeId × Value → H) :
    ReturnsInHanded {} Try.checked os 14 .any (Rows.fnMonthDaysSpec.pre6 enc Try.prog Try.f14 Rows.fnMonthDaysRow.domain false) (Rows.fnMonthDaysSpec.post enc Try.prog Try.f14 false true false false) := by
  refine returnsInHanded_of_change (C := Try.checked) fnMonthDays_own started (by kernel_rfl) Try.func14
    (ChangeSpec.witness6 (enc := enc) (C := Try.checked) false ⟨#[], #[.slice none 0 0], []⟩ 8 (by kernel_rfl) (by kernel_rfl) (by kernel_rfl) (by kernel_rfl)) ?_
  intro W base args ds gs before hval0 hW hcnd _
  have hval : ∀ (j : Nat) t v, Try.f14.params[j]? = some t → args[j]? = some v → Value.okWide Try.prog W .any base t v := hval0
  have hW' := hW
  obtain ⟨p, q, hA0, hV, rfl, hfz, hnd⟩ := hW
  have hA : DataW.TrodAll enc Try.prog W 0 (fun _ => true) true Try.f14.params.toList args.toList ds p := hA0
  rw [Try.params14] at hA hval
  obtain ⟨v0, vs0, d0, ds0, p0, q0, hargs0, rfl, rfl, h0, r0⟩ := trodAll_cons hA
  obtain ⟨rfl, rfl, rfl⟩ := trodAll_nil r0
  obtain rfl : args = #[v0] := by cases args; simp_all
  obtain ⟨rfl, rfl⟩ := trodVars_none hV
  have k0 := h0
  have lt0 : ∀ x ∈ p0, x.block < W.heap.size := by obtain ⟨m, hm⟩ := k0; exact DataW.trod_lt m _ _ _ hm
  obtain ⟨a0, len0, cap0, rfl⟩ := okWide_slice Try.underlying31 (hval 0 31 v0 rfl rfl)
  obtain ⟨z0, w0⟩ : ∃ zs, IsRow .u8 W a0 len0 cap0 zs := by
    obtain ⟨fuel, hf⟩ := h0
    rcases open_ints Try.underlying31 Try.underlying5 (by kernel_rfl) hf with ⟨hcs, _⟩ | ⟨x, l, c, zs, hcs, _, hl, hm, hz, _, hcell, hwz⟩
    · simp [Value.cells] at hcs
      obtain ⟨rfl, rfl, rfl⟩ := hcs
      exact ⟨[], .inl ⟨rfl, rfl, rfl, rfl⟩⟩
    · simp [Value.cells] at hcs
      obtain ⟨rfl, rfl, rfl⟩ := hcs
      exact ⟨zs, .inr ⟨_, rfl, hl, hm, by simpa using hz, hcell, hwz⟩⟩
  clear hA0 hval0
  refine (fnMonthDays_walk a0 len0 cap0 z0 W w0).mono fun e W' ⟨he, bel⟩ => ?_
  subst he
  exact ⟨_, rfl, _, _, _, [], _, [], hW', trodAll_mk1 (shut_bool Try.underlying4 _), (trodAll_cons_mk (Below.trod fnMonthDays_laidOut (by kernel_rfl) (of_decide_eq_true (by kernel_rfl)) k0 bel lt0) trodAll_mk0), rfl, bel.frame _, fun h => by cases h⟩

theorem fnMonthDays_closed : joinedFacts Try.pinned.checked.prog 14 Try.f14 Rows.fnMonthDaysSpec Rows.fnMonthDaysRow = true := by
  show joinedFacts Try.prog 14 Try.f14 Rows.fnMonthDaysSpec Rows.fnMonthDaysRow = true
  simp only [joinedFacts, Bool.and_eq_true]
  repeat' apply And.intro
  all_goals first | with_reducible exact head_may | (rw [head_final]; kernel_rfl) | (rw [head_make]; kernel_rfl) | as_aux_lemma => kernel_rfl
theorem fnMonthDays_over : Rows.fnMonthDaysRow.holds Try.pinned (OpenSpec.ofChange Rows.fnMonthDaysSpec) :=
  OpenClaim.holds_of_wide 14 Try.f14 rfl rfl rfl rfl rfl rfl rfl ⟨rfl, rfl, rfl, rfl, rfl⟩ rfl rfl rfl rfl rfl (by kernel_rfl) Try.func14 fnMonthDays_closed
    (of_decide_eq_true (by kernel_rfl)) (by unfold Func.isWrapper; first | (rw [if_pos (by decide +kernel)]; kernel_rfl) | (rw [if_neg (by decide +kernel)]; exact ⟨rfl, rfl⟩))
    (fun os started H enc _ => fnMonthDays_lifted os started H enc)

/-- The statement. -/
theorem fnMonthDays_holds : Rows.FnMonthDaysSaid := fnMonthDays_over

end Go.Proofs.Ytjddopgbfgeebaa
