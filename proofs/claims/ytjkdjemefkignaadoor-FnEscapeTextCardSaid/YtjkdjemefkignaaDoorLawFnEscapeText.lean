/- The law FnEscapeText: for every input the call returns true, and the arguments read as before. Condition: none. -/
import Derived.Test.YtjkdjemefkignaaDoorRows
import Derived.Test.YtjkdjemefkignaaDoorHead
import Derived.Test.YtjkdjemefkignaaDoorLaid
import Derived.Test.YtjkdjemefkignaaDoorTie
import Derived.Test.YtjkdjemefkignaaDoorCards
import Derived.SevenTiedAt
import Derived.Test.YtjkdjemefkignaaDoorUnescW
import Derived.Test.YtjkdjemefkignaaDoorDrawEs
import Derived.WalkKit
import Derived.WalkSpells
import Derived.WalkLawsBesides
import Derived.ProofKit
import Derived.OpenShut
import Derived.ShutString
import Derived.ChangeOld
import Derived.Below
import Derived.Lib.Hide
namespace Go.Proofs.YtjkdjemefkignaaDoor
open Go.ChangeShapes Go.WideShapes Go.ChangeAt Go.WideMaps Go.WideElems Go.RowKit
open Go.ChangeMaps (open_string shut_string)
set_option linter.unusedVariables false

theorem esc_at {X : ByteArray} {l : List UInt8} (h : X.data.toList = esc l) (k : Nat) (hk : k < X.size) : ((X[k].toNat : Int) == 60) = false ∧ ((X[k].toNat : Int) == 62) = false := by
  have hm := mem_at X k hk
  rw [h] at hm
  constructor
  · rw [beq_eq_false_iff_ne]
    intro e
    have : X[k] = 60 := by rw [← UInt8.toNat_inj, show X[k].toNat = 60 from by omega]; rfl
    rw [this] at hm
    exact esc_no (.inl rfl) hm
  · rw [beq_eq_false_iff_ne]
    intro e
    have : X[k] = 62 := by rw [← UInt8.toNat_inj, show X[k].toNat = 62 from by omega]; rfl
    rw [this] at hm
    exact esc_no (.inr rfl) hm

set_option maxHeartbeats 1000000 in
theorem fnEscapeText_walk (a : Option Addr) (len cap : Nat) (zs : List Int) (w : World) (h : IsRow .u8 w a len cap zs) (hE : EscAt w) :
    Calls Tryd.prog 5 #[.slice a len cap] w fun e w' => e = .returned (.bool true) ∧ Below w.heap.size w w' := by
  have H := Lib.hid h
  have HE := Lib.hid hE
  clear h hE
  by_cases hl : 1048576 < len
  · go_enter Tryd.func5, Tryd.ntmps5
    go_wp2
    go_ret
    exact ⟨rfl, Below.refl _ _⟩
  · go_enter Tryd.func5, Tryd.ntmps5
    go_wp2_with fail
    refine (drawEscapeText_any a len cap zs _ H.out).mono ?_
    rintro e w1 ⟨s, rfl, hs, hb⟩
    have hsz : s.size ≤ maxLen := by unfold maxLen; omega
    have c1 := Lib.hid (fun w h => impl_escapeText s w hsz h)
    have c2 := Lib.hid (fun w => spec_escapeText s w hsz)
    have c3 := Lib.hid (fun w => impl_textValid s w hsz)
    cases hv : textV s.data.toList
    · rw [hv] at c3
      rw [escT_no hv] at c1 c2
      clear hv
      go_wp2_with fail
      refine (c1.out _ (HE.out.old hb)).mono ?_
      rintro e w2 ⟨rfl, hb2⟩
      have hb12 := hb.trans (hb2.mono hb.size)
      go_wp2_with fail
      refine (c2.out _).mono ?_
      rintro e w' ⟨rfl, rfl⟩
      go_wp2_with fail
      refine (c3.out _).mono ?_
      rintro e w' ⟨rfl, rfl⟩
      go_wp2_with fail
      refine (alive_any _).mono ?_
      rintro e w' ⟨rfl, rfl⟩
      go_wp2
      go_ret
      exact ⟨rfl, hb12⟩
    · rw [hv] at c3
      rw [escT_yes hv] at c1 c2
      obtain ⟨X, hX⟩ : ∃ X : ByteArray, X = ⟨(esc s.data.toList).toArray⟩ := ⟨_, rfl⟩
      have hXl : X.data.toList = esc s.data.toList := by rw [hX]
      have hXs : s.size ≤ X.size ∧ X.size ≤ 6 * s.size := by
        rw [← size_toList X, hXl, ← size_toList s]; exact esc_len _
      obtain ⟨hX1, hX2⟩ := hXs
      rw [← hX] at c1 c2
      have hun : unB X.data.toList = some s := by rw [hXl]; exact unB_some (unE_yes hv rfl)
      have c4 := Lib.hid (fun w h => impl_unescapeText X w (by unfold maxLen; omega) h)
      rw [hun] at c4
      have HA := Lib.hid (fun k hk => esc_at hXl k hk)
      clear hv hX hXl hun
      go_wp2_with fail
      refine (c1.out _ (HE.out.old hb)).mono ?_
      rintro e w2 ⟨rfl, hb2⟩
      have hb12 := hb.trans (hb2.mono hb.size)
      have HE2 := Lib.hid (HE.out.old hb12)
      go_wp2_with fail
      refine (c2.out _).mono ?_
      rintro e w' ⟨rfl, rfl⟩
      go_wp2_with fail
      refine (c3.out _).mono ?_
      rintro e w' ⟨rfl, rfl⟩
      go_wp2
      go_loop [5] (fun i => ∃ k : Nat, i = .int .i64 k ∧ k ≤ X.size) (fun i => X.size - (intOf i).toNat)
      case atStart => exact ⟨0, rfl, by omega⟩
      case round =>
        obtain ⟨k, rfl, hk⟩ := hrel
        by_cases hlt : k < X.size
        · obtain ⟨hc1, hc2⟩ := HA.out k hlt
          go_wp2
          go_round
          case rel => exact ⟨k + 1, by go_num, by omega⟩
          case measure => simp [intOf]; omega
        · unfold strOpt at c4
          go_wp2_with fail
          refine (c4.out _ HE2.out).mono ?_
          rintro e w3 ⟨rfl, hb3⟩
          go_wp2
          go_ret
          exact ⟨rfl, hb12.trans (hb3.mono hb12.size)⟩

theorem fnEscapeText_own : ownKnob Tryd.prog.godebug = none := by kernel_rfl
theorem fnEscapeText_laidOut : laidOutB Tryd.prog = true := by kernel_rfl
set_option maxRecDepth 100000 in
theorem fnEscapeText_lifted (os : Os) (started : os.Started) (H : Type) (enc : TypeId × Value → H) :
    ReturnsInHanded {} Tryd.checked os 5 .any (fun w args => (Rows.fnEscapeTextSpec.pre enc Tryd.prog Tryd.f5 [] false w args ∧ laidMetH Tryd.prog escLaid w) ∧ sizedMet enc Tryd.prog Tryd.f5 (OpenSpec.ofChange Rows.fnEscapeTextSpec) false w args)
      (Rows.fnEscapeTextSpec.post enc Tryd.prog Tryd.f5 false true false false) := by
  refine returnsInHanded_of_change_and (C := Tryd.checked) (X := fun w _ => laidMetH Tryd.prog escLaid w) (fun _ _ _ hh h => h.of_heap hh) fnEscapeText_own started (by kernel_rfl) Tryd.func5
    (ChangeSpec.witness_shaped (enc := enc) (C := Tryd.checked) (os := os) (X := fun w _ => laidMetH Tryd.prog escLaid w) false (World.doorLaid Tryd.prog 400 os) #[.slice none 0 0] 8 rfl (World.shaped_of_RefB (by kernel_rfl) (by kernel_rfl)) (by kernel_rfl) (by kernel_rfl) (by kernel_rfl) (esc_met os _)) ?_
  intro W base args ds gs before hval0 hW _ _ hL _
  have hval : ∀ (j : Nat) t v, Tryd.f5.params[j]? = some t → args[j]? = some v → Value.okWide Tryd.prog W .any base t v := hval0
  have hW' := hW
  obtain ⟨p, q, hA0, hV0, rfl, hfz, hnd⟩ := hW
  have hV : DataW.TrodVars enc Tryd.prog W (fun _ => true) [escName] gs q := hV0
  have hA : DataW.TrodAll enc Tryd.prog W 0 (fun _ => true) true Tryd.f5.params.toList args.toList ds p := hA0
  rw [Tryd.params5] at hA hval
  obtain ⟨v0, vs0, d0, ds0, p0, q0, hargs0, rfl, rfl, h0, r0⟩ := trodAll_cons hA
  obtain ⟨rfl, rfl, rfl⟩ := trodAll_nil r0
  obtain rfl : args = #[v0] := by cases args; simp_all
  obtain ⟨g, t, cs, fuel, d, p', rfl, hg, ht, hvar, hd, rfl⟩ := trodVars_one hV
  obtain rfl := Option.some.inj (esc_global.symm.trans hg)
  obtain rfl := Option.some.inj (esc_type.symm.trans ht)
  have hv8 := esc_cells_of hL
  obtain rfl : cs = escCells := Option.some.inj (hvar.symm.trans hv8)
  obtain ⟨rfl, rfl⟩ := DataW.Trod.unique (v := .agg escCells) ⟨fuel, hd⟩ ⟨4, reads_esc enc W _⟩
  have hEA := esc_at_of hv8
  have k0 := h0
  have lt0 : ∀ x ∈ p0, x.block < W.heap.size := by obtain ⟨m, hm⟩ := k0; exact DataW.trod_lt m _ _ _ hm
  obtain ⟨a0, len0, cap0, rfl⟩ := okWide_slice Tryd.underlying26 (hval 0 26 v0 rfl rfl)
  obtain ⟨z0, w0⟩ : ∃ zs, IsRow .u8 W a0 len0 cap0 zs := by
    obtain ⟨fuel, hf⟩ := h0
    rcases open_ints Tryd.underlying26 Tryd.underlying5 (by kernel_rfl) hf with ⟨hcs, _⟩ | ⟨x, l, c, zs, hcs, _, hl, hm, hz, _, hcell, hwz⟩
    · simp [Value.cells] at hcs
      obtain ⟨rfl, rfl, rfl⟩ := hcs
      exact ⟨[], .inl ⟨rfl, rfl, rfl, rfl⟩⟩
    · simp [Value.cells] at hcs
      obtain ⟨rfl, rfl, rfl⟩ := hcs
      exact ⟨zs, .inr ⟨_, rfl, hl, hm, by simpa using hz, hcell, hwz⟩⟩
  clear hA0 hval0
  refine (fnEscapeText_walk a0 len0 cap0 z0 W w0 hEA).mono fun e W' ⟨he, bel⟩ => ?_
  subst he
  exact ⟨_, rfl, _, _, _, [], _, MemPlace.row ⟨0, 0, none⟩ 8 ++ [], hW', trodAll_mk1 (shut_bool Tryd.underlying4 _), (trodAll_cons_mk (Below.trod fnEscapeText_laidOut (by kernel_rfl) (of_decide_eq_true (by kernel_rfl)) k0 bel lt0) trodAll_mk0), esc_vars enc _ (esc_var_old hv8 bel), bel.frame _, fun h => by cases h⟩

theorem fnEscapeText_closed : joinedFacts Tryd.pinned.checked.prog 5 Tryd.f5 Rows.fnEscapeTextSpec Rows.fnEscapeTextRow = true := by
  show joinedFacts Tryd.prog 5 Tryd.f5 Rows.fnEscapeTextSpec Rows.fnEscapeTextRow = true
  simp only [joinedFacts, Bool.and_eq_true]
  repeat' apply And.intro
  all_goals first | with_reducible exact head_may | (rw [head_final]; kernel_rfl) | (rw [head_make]; kernel_rfl) | as_aux_lemma => kernel_rfl
theorem fnEscapeText_over : Rows.fnEscapeTextRow.holds Tryd.pinned (OpenSpec.ofChange Rows.fnEscapeTextSpec) :=
  OpenClaim.holds_of_wide 5 Tryd.f5 rfl rfl rfl rfl rfl rfl rfl ⟨rfl, rfl, rfl, rfl, rfl⟩ rfl rfl rfl rfl rfl (by kernel_rfl) Tryd.func5 fnEscapeText_closed
    (of_decide_eq_true (by kernel_rfl)) (by unfold Func.isWrapper; first | (rw [if_pos (by decide +kernel)]; kernel_rfl) | (rw [if_neg (by decide +kernel)]; exact ⟨rfl, rfl⟩))
    (fun os started H enc _ => fnEscapeText_lifted os started H enc)

/-- The statement. -/
theorem fnEscapeText_holds : Rows.FnEscapeTextCardSaid :=
  Claim7.holds_tied_plain_at .later [] [.data] true Rows.fnEscapeTextCard.stood.harness false
    fnEscapeText_over (fun _ h => by cases h) (by kernel_rfl) (fun _ h => by cases h) fnEscapeText_row_tie rfl ⟨rfl, rfl⟩ (by kernel_rfl) rfl
    (fun f fn hf hfn => by
      obtain rfl : f = 5 := Option.some.inj ((show Tryd.prog.funcNamed Rows.fnEscapeTextRow.func = some 5 by kernel_rfl).symm.trans hf) |>.symm
      obtain rfl : fn = Tryd.f5 := (Option.some.inj (Tryd.func5.symm.trans hfn)).symm
      exact ⟨by kernel_rfl, fun j t ht => by
        rw [Tryd.params5] at ht
        have hm : t ∈ [26] := by simpa using Array.mem_of_getElem? ht
        have hall : ([26].all fun u => !Tryd.prog.wantsStandIn u) = true := by kernel_rfl
        exact (show Tryd.prog.wantsStandIn t = false by simpa using List.all_eq_true.1 hall t hm)⟩)
    (by kernel_rfl)

end Go.Proofs.YtjkdjemefkignaaDoor
