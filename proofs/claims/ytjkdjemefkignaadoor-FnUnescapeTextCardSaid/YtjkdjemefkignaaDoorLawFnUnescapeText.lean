/- The law FnUnescapeText: for every input the call returns true, and the arguments read as before. Condition: none. -/
import Derived.Test.YtjkdjemefkignaaDoorRows
import Derived.Test.YtjkdjemefkignaaDoorHead
import Derived.Test.YtjkdjemefkignaaDoorLaid
import Derived.Test.YtjkdjemefkignaaDoorTie
import Derived.Test.YtjkdjemefkignaaDoorCards
import Derived.SevenTiedAt
import Derived.Test.YtjkdjemefkignaaDoorUnescS
import Derived.Test.YtjkdjemefkignaaDoorDrawEs
import Derived.WalkKit
import Derived.WalkSpells
import Derived.WalkLawsBesides
import Derived.ProofKit
import Derived.OpenShut
import Derived.ShutString
import Derived.ChangeOld
import Derived.Below
import Derived.Lib.Hide
namespace Go.Proofs.YtjkdjemefkignaaDoor
open Go.ChangeShapes Go.WideShapes Go.ChangeAt Go.WideMaps Go.WideElems Go.RowKit
open Go.ChangeMaps (open_string shut_string)
set_option linter.unusedVariables false

theorem un_more {l t : List UInt8} (h : unE l = some t) : unE (l ++ [38]) = none := by
  obtain ⟨_, h2⟩ := unE_some h
  apply unE_no
  intro t' _ e
  rw [← h2] at e
  obtain ⟨c, _, hc⟩ := esc_split e
  cases c with
  | nil => simp [esc] at hc
  | cons d c =>
    rw [esc_cons] at hc
    have hl := congrArg List.length hc
    rw [List.length_append] at hl
    simp at hl
    rcases escB_cases d with ⟨_, e⟩ | ⟨_, e⟩ | ⟨_, e⟩ | ⟨_, e⟩ | ⟨h1, _, _, _, e⟩
    all_goals rw [e] at hc hl
    · simp [ampN] at hl; omega
    · simp [ltN] at hl; omega
    · simp [gtN] at hl; omega
    · simp [quotN] at hl; omega
    · simp at hc; exact h1 hc.1

set_option maxHeartbeats 1000000 in
theorem fnUnescapeText_walk (a : Option Addr) (len cap : Nat) (zs : List Int) (w : World) (h : IsRow .u8 w a len cap zs) (hE : EscAt w) :
    Calls Tryd.prog 6 #[.slice a len cap] w fun e w' => e = .returned (.bool true) ∧ Below w.heap.size w w' := by
  have H := Lib.hid h
  have HE := Lib.hid hE
  clear h hE
  by_cases hl : 1048576 < len
  · go_enter Tryd.func6, Tryd.ntmps6
    go_wp2
    go_ret
    exact ⟨rfl, Below.refl _ _⟩
  · go_enter Tryd.func6, Tryd.ntmps6
    go_wp2_with fail
    refine (drawUnescapeText_any a len cap zs _ H.out).mono ?_
    rintro e w1 ⟨s, rfl, hs, hb⟩
    have hsz : s.size ≤ maxLen := by unfold maxLen; omega
    have c1 := Lib.hid (fun w h => impl_unescapeText s w hsz h)
    have c2 := Lib.hid (fun w => spec_unescapeText s w (by omega))
    cases hU : unE s.data.toList with
    | none =>
      rw [unB_none hU] at c1 c2
      clear hU
      go_wp2_with fail
      refine (c1.out _ (HE.out.old hb)).mono ?_
      rintro e w2 ⟨rfl, hb2⟩
      unfold strOpt
      have hb12 := hb.trans (hb2.mono hb.size)
      go_wp2_with fail
      refine (c2.out _).mono ?_
      rintro e w3 ⟨rfl, hb3⟩
      unfold strOpt
      go_wp2_with fail
      refine (alive_any _).mono ?_
      rintro e w' ⟨rfl, rfl⟩
      go_wp2
      go_ret
      exact ⟨rfl, hb12.trans (hb3.mono hb12.size)⟩
    | some t =>
      obtain ⟨X, hX⟩ : ∃ X : ByteArray, X = ⟨t.toArray⟩ := ⟨_, rfl⟩
      have hXl : X.data.toList = t := by rw [hX]
      rw [unB_some hU, ← hX] at c1 c2
      have hz1 : (⟨#[38]⟩ : ByteArray).size = 1 := rfl
      have hsz2 : (s ++ (⟨#[38]⟩ : ByteArray)).size ≤ maxLen := by rw [ByteArray.size_append]; unfold maxLen; omega
      have c3 := Lib.hid (fun w h => impl_unescapeText (s ++ (⟨#[38]⟩ : ByteArray)) w hsz2 h)
      rw [show unB (s ++ (⟨#[38]⟩ : ByteArray)).data.toList = none from unB_none (by rw [ba_app]; exact un_more hU)] at c3
      have hX80 : X.size ≤ 80 := by rw [← size_toList, hXl]; exact textV_len (unE_some hU).1
      have c4 := Lib.hid (fun w h => impl_escapeText X w (by unfold maxLen; omega) h)
      rw [hXl, esc_un hU, show (⟨s.data.toList.toArray⟩ : ByteArray) = s from rfl] at c4
      clear hU hX hXl hsz hsz2
      go_wp2_with fail
      refine (c1.out _ (HE.out.old hb)).mono ?_
      rintro e w2 ⟨rfl, hb2⟩
      unfold strOpt
      have hb12 := hb.trans (hb2.mono hb.size)
      go_wp2_with fail
      refine (c2.out _).mono ?_
      rintro e w3 ⟨rfl, hb3⟩
      unfold strOpt
      have hb13 := hb12.trans (hb3.mono hb12.size)
      go_wp2_with fail
      refine (c3.out _ (HE.out.old hb13)).mono ?_
      rintro e w4 ⟨rfl, hb4⟩
      unfold strOpt
      have hb14 := hb13.trans (hb4.mono hb13.size)
      go_wp2_with fail
      refine (c4.out _ (HE.out.old hb14)).mono ?_
      rintro e w5 ⟨rfl, hb5⟩
      go_wp2
      go_ret
      exact ⟨rfl, hb14.trans (hb5.mono hb14.size)⟩

theorem fnUnescapeText_own : ownKnob Tryd.prog.godebug = none := by kernel_rfl
theorem fnUnescapeText_laidOut : laidOutB Tryd.prog = true := by kernel_rfl
set_option maxRecDepth 100000 in
theorem fnUnescapeText_lifted (os : Os) (started : os.Started) (H : Type) (enc : TypeId × Value → H) :
    ReturnsInHanded {} Tryd.checked os 6 .any (fun w args => (Rows.fnUnescapeTextSpec.pre enc Tryd.prog Tryd.f6 [] false w args ∧ laidMetH Tryd.prog escLaid w) ∧ sizedMet enc Tryd.prog Tryd.f6 (OpenSpec.ofChange Rows.fnUnescapeTextSpec) false w args)
      (Rows.fnUnescapeTextSpec.post enc Tryd.prog Tryd.f6 false true false false) := by
  refine returnsInHanded_of_change_and (C := Tryd.checked) (X := fun w _ => laidMetH Tryd.prog escLaid w) (fun _ _ _ hh h => h.of_heap hh) fnUnescapeText_own started (by kernel_rfl) Tryd.func6
    (ChangeSpec.witness_shaped (enc := enc) (C := Tryd.checked) (os := os) (X := fun w _ => laidMetH Tryd.prog escLaid w) false (World.doorLaid Tryd.prog 400 os) #[.slice none 0 0] 8 rfl (World.shaped_of_RefB (by kernel_rfl) (by kernel_rfl)) (by kernel_rfl) (by kernel_rfl) (by kernel_rfl) (esc_met os _)) ?_
  intro W base args ds gs before hval0 hW _ _ hL _
  have hval : ∀ (j : Nat) t v, Tryd.f6.params[j]? = some t → args[j]? = some v → Value.okWide Tryd.prog W .any base t v := hval0
  have hW' := hW
  obtain ⟨p, q, hA0, hV0, rfl, hfz, hnd⟩ := hW
  have hV : DataW.TrodVars enc Tryd.prog W (fun _ => true) [escName] gs q := hV0
  have hA : DataW.TrodAll enc Tryd.prog W 0 (fun _ => true) true Tryd.f6.params.toList args.toList ds p := hA0
  rw [Tryd.params6] at hA hval
  obtain ⟨v0, vs0, d0, ds0, p0, q0, hargs0, rfl, rfl, h0, r0⟩ := trodAll_cons hA
  obtain ⟨rfl, rfl, rfl⟩ := trodAll_nil r0
  obtain rfl : args = #[v0] := by cases args; simp_all
  obtain ⟨g, t, cs, fuel, d, p', rfl, hg, ht, hvar, hd, rfl⟩ := trodVars_one hV
  obtain rfl := Option.some.inj (esc_global.symm.trans hg)
  obtain rfl := Option.some.inj (esc_type.symm.trans ht)
  have hv8 := esc_cells_of hL
  obtain rfl : cs = escCells := Option.some.inj (hvar.symm.trans hv8)
  obtain ⟨rfl, rfl⟩ := DataW.Trod.unique (v := .agg escCells) ⟨fuel, hd⟩ ⟨4, reads_esc enc W _⟩
  have hEA := esc_at_of hv8
  have k0 := h0
  have lt0 : ∀ x ∈ p0, x.block < W.heap.size := by obtain ⟨m, hm⟩ := k0; exact DataW.trod_lt m _ _ _ hm
  obtain ⟨a0, len0, cap0, rfl⟩ := okWide_slice Tryd.underlying26 (hval 0 26 v0 rfl rfl)
  obtain ⟨z0, w0⟩ : ∃ zs, IsRow .u8 W a0 len0 cap0 zs := by
    obtain ⟨fuel, hf⟩ := h0
    rcases open_ints Tryd.underlying26 Tryd.underlying5 (by kernel_rfl) hf with ⟨hcs, _⟩ | ⟨x, l, c, zs, hcs, _, hl, hm, hz, _, hcell, hwz⟩
    · simp [Value.cells] at hcs
      obtain ⟨rfl, rfl, rfl⟩ := hcs
      exact ⟨[], .inl ⟨rfl, rfl, rfl, rfl⟩⟩
    · simp [Value.cells] at hcs
      obtain ⟨rfl, rfl, rfl⟩ := hcs
      exact ⟨zs, .inr ⟨_, rfl, hl, hm, by simpa using hz, hcell, hwz⟩⟩
  clear hA0 hval0
  refine (fnUnescapeText_walk a0 len0 cap0 z0 W w0 hEA).mono fun e W' ⟨he, bel⟩ => ?_
  subst he
  exact ⟨_, rfl, _, _, _, [], _, MemPlace.row ⟨0, 0, none⟩ 8 ++ [], hW', trodAll_mk1 (shut_bool Tryd.underlying4 _), (trodAll_cons_mk (Below.trod fnUnescapeText_laidOut (by kernel_rfl) (of_decide_eq_true (by kernel_rfl)) k0 bel lt0) trodAll_mk0), esc_vars enc _ (esc_var_old hv8 bel), bel.frame _, fun h => by cases h⟩

theorem fnUnescapeText_closed : joinedFacts Tryd.pinned.checked.prog 6 Tryd.f6 Rows.fnUnescapeTextSpec Rows.fnUnescapeTextRow = true := by
  show joinedFacts Tryd.prog 6 Tryd.f6 Rows.fnUnescapeTextSpec Rows.fnUnescapeTextRow = true
  simp only [joinedFacts, Bool.and_eq_true]
  repeat' apply And.intro
  all_goals first | with_reducible exact head_may | (rw [head_final]; kernel_rfl) | (rw [head_make]; kernel_rfl) | as_aux_lemma => kernel_rfl
theorem fnUnescapeText_over : Rows.fnUnescapeTextRow.holds Tryd.pinned (OpenSpec.ofChange Rows.fnUnescapeTextSpec) :=
  OpenClaim.holds_of_wide 6 Tryd.f6 rfl rfl rfl rfl rfl rfl rfl ⟨rfl, rfl, rfl, rfl, rfl⟩ rfl rfl rfl rfl rfl (by kernel_rfl) Tryd.func6 fnUnescapeText_closed
    (of_decide_eq_true (by kernel_rfl)) (by unfold Func.isWrapper; first | (rw [if_pos (by decide +kernel)]; kernel_rfl) | (rw [if_neg (by decide +kernel)]; exact ⟨rfl, rfl⟩))
    (fun os started H enc _ => fnUnescapeText_lifted os started H enc)

/-- The statement. -/
theorem fnUnescapeText_holds : Rows.FnUnescapeTextCardSaid :=
  Claim7.holds_tied_plain_at .later [] [.data] true Rows.fnUnescapeTextCard.stood.harness false
    fnUnescapeText_over (fun _ h => by cases h) (by kernel_rfl) (fun _ h => by cases h) fnUnescapeText_row_tie rfl ⟨rfl, rfl⟩ (by kernel_rfl) rfl
    (fun f fn hf hfn => by
      obtain rfl : f = 6 := Option.some.inj ((show Tryd.prog.funcNamed Rows.fnUnescapeTextRow.func = some 6 by kernel_rfl).symm.trans hf) |>.symm
      obtain rfl : fn = Tryd.f6 := (Option.some.inj (Tryd.func6.symm.trans hfn)).symm
      exact ⟨by kernel_rfl, fun j t ht => by
        rw [Tryd.params6] at ht
        have hm : t ∈ [26] := by simpa using Array.mem_of_getElem? ht
        have hall : ([26].all fun u => !Tryd.prog.wantsStandIn u) = true := by kernel_rfl
        exact (show Tryd.prog.wantsStandIn t = false by simpa using List.all_eq_true.1 hall t hm)⟩)
    (by kernel_rfl)

end Go.Proofs.YtjkdjemefkignaaDoor
