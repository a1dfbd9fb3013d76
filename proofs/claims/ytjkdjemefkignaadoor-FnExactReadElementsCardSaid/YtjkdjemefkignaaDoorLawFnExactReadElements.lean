/- The law FnExactReadElements: for every input the call returns true, and the arguments read as before. Condition: none. -/
import Derived.Test.YtjkdjemefkignaaDoorRows
import Derived.Test.YtjkdjemefkignaaDoorHead
import Derived.Test.YtjkdjemefkignaaDoorLaid
import Derived.Test.YtjkdjemefkignaaDoorTie
import Derived.Test.YtjkdjemefkignaaDoorCards
import Derived.SevenTiedAt
import Derived.Test.YtjkdjemefkignaaDoorReadW
import Derived.Test.YtjkdjemefkignaaDoorReadS
import Derived.Test.YtjkdjemefkignaaDoorMarkE
import Derived.WalkKit
import Derived.WalkSpells
import Derived.WalkLawsBesides
import Derived.ProofKit
import Derived.OpenShut
import Derived.ShutString
import Derived.ChangeOld
import Derived.Below
import Derived.Lib.Hide
namespace Go.Proofs.YtjkdjemefkignaaDoor
open Go.ChangeShapes Go.WideShapes Go.ChangeAt Go.WideMaps Go.WideElems Go.RowKit
open Go.ChangeMaps (open_string shut_string)
set_option linter.unusedVariables false

theorem readE_len {s : List UInt8} : ((readE s).getD []).length ≤ 8 := by
  cases h : readE s with
  | none => simp
  | some l => exact ((elsV_iff l).1 (readE_some h).1).1
theorem own_low {w w' : World} {base t size n cap : Nat} {xs : List Value} {a : Option Addr} (h : w.ownsRow base t size (.slice a n cap) n xs) (hb : Below w.heap.size w w') : w'.ownsRow base t size (.slice a n cap) n xs :=
  h.kept (below_grown hb) (by cases (Value.slice a n cap).ownBlock <;> simp)

set_option maxHeartbeats 1000000 in
theorem fnExactReadElements_walk (s : ByteArray) (hs : s.size ≤ maxLen) (w : World) (hE : EscAt w) :
    Calls Tryd.prog 8 #[.string s] w fun e w' => e = .returned (.bool true) ∧ Below w.heap.size w w' := by
  have HE := Lib.hid hE
  clear hE
  by_cases hl : 1048576 < s.size
  · go_enter Tryd.func8, Tryd.ntmps8
    go_wp2
    go_ret
    exact ⟨rfl, Below.refl _ _⟩
  · have c1 := Lib.hid (fun w => spec_readElements s w (by omega))
    have c2 := Lib.hid (fun w h => impl_readElements s w (by omega) h)
    have h8 := readE_len (s := s.data.toList)
    generalize readE s.data.toList = o at *
    obtain ⟨l, hl0⟩ : ∃ l, l = o.getD [] := ⟨_, rfl⟩
    unfold ElsRead at c1 c2
    rw [← hl0] at c1 c2 h8
    generalize o.isSome = ok at *
    clear hl0
    go_enter Tryd.func8, Tryd.ntmps8
    go_wp2_with fail
    refine (c1.out _).mono ?_
    rintro e w1 ⟨⟨a1, n1, cap1, rfl, own1, hl1⟩, hb1⟩
    go_wp2_with fail
    refine (c2.out _ (HE.out.old hb1)).mono ?_
    rintro e w2 ⟨⟨a2, n2, cap2, rfl, own2, hl2⟩, hb2⟩
    have hb12 := hb1.trans (hb2.mono hb1.size)
    have n12 : n2 = n1 := by omega
    subst n12
    have hn8 : n2 ≤ 8 := by omega
    have HL := Lib.hid hl2
    have E1 := Lib.hid (ElAt.own' own1 hl1)
    have E2 := Lib.hid (ElAt.own' own2 hl2)
    have O2 := Lib.hid own2
    have B2 := Lib.hid hb2
    clear own1 own2 hl1 hl2
    go_wp2_with fail
    refine (eqElementS_any a2 a1 n2 cap2 n2 cap1 l l _ E2.out HL.out (ElAt.old E1.out hb2) HL.out (by unfold maxLen; omega) (by unfold maxLen; omega)).mono ?_
    rintro e w3 ⟨rfl, hb3⟩
    rw [decide_eq_true (rfl : l = l)]
    have B3 := Lib.hid (B2.out.trans (hb3.mono hb2.size))
    have O3 := Lib.hid (own_low O2.out hb3)
    clear hb2 hb3 hb12
    cases ok
    all_goals
      go_wp2_with fail
      refine (markElementS_any a2 n2 cap2 _ w1.heap.size _ O3.out (by omega) B3.out.size).mono ?_
      rintro e w4 ⟨rfl, own4, hb4⟩
      have B4 := Lib.hid (B3.out.trans hb4)
      have E4 := Lib.hid (ElAt.own' own4 (markL_len n2))
      clear own4 hb4
      go_wp2_with fail
      refine (heldElementS_any a2 n2 cap2 _ E4.out (by omega)).mono ?_
      rintro e w5 ⟨rfl, hb5⟩
      have B5 := Lib.hid (B4.out.trans (hb5.mono B4.out.size))
      have E5 := Lib.hid (ElAt.old E4.out hb5)
      clear hb5
      go_wp2_with fail
      refine (c2.out _ (HE.out.old (hb1.trans (B5.out.mono hb1.size)))).mono ?_
      rintro e w6 ⟨⟨a6, n6, cap6, rfl, own6, hl6⟩, hb6⟩
      have n62 : n6 = n2 := by have := HL.out; omega
      subst n62
      have B6 := Lib.hid (B5.out.trans (hb6.mono B5.out.size))
      have E6 := Lib.hid (ElAt.own' own6 hl6)
      have E56 := Lib.hid (ElAt.old E5.out hb6)
      clear own6 hl6 hb6
      go_wp2_with fail
      refine (eqElementS_any a6 a1 n6 cap6 n6 cap1 l l _ E6.out HL.out (ElAt.old E1.out B6.out) HL.out (by unfold maxLen; omega) (by unfold maxLen; omega)).mono ?_
      rintro e w7 ⟨rfl, hb7⟩
      rw [decide_eq_true (rfl : l = l)]
      have B7 := Lib.hid (B6.out.trans (hb7.mono B6.out.size))
      have E7 := Lib.hid (ElAt.old E56.out hb7)
      clear hb7
      go_wp2_with fail
      refine (heldElementS_any a2 n6 cap2 _ E7.out (by omega)).mono ?_
      rintro e w8 ⟨rfl, hb8⟩
      have B8 := Lib.hid (B7.out.trans (hb8.mono B7.out.size))
      go_wp2
      go_ret
      exact ⟨rfl, hb1.trans (B8.out.mono hb1.size)⟩

theorem fnExactReadElements_own : ownKnob Tryd.prog.godebug = none := by kernel_rfl
theorem fnExactReadElements_laidOut : laidOutB Tryd.prog = true := by kernel_rfl
set_option maxRecDepth 100000 in
theorem fnExactReadElements_lifted (os : Os) (started : os.Started) (H : Type) (enc : TypeId × Value → H) :
    ReturnsInHanded {} Tryd.checked os 8 .any (fun w args => (Rows.fnExactReadElementsSpec.pre enc Tryd.prog Tryd.f8 [] false w args ∧ laidMetH Tryd.prog escLaid w) ∧ sizedMet enc Tryd.prog Tryd.f8 (OpenSpec.ofChange Rows.fnExactReadElementsSpec) false w args)
      (Rows.fnExactReadElementsSpec.post enc Tryd.prog Tryd.f8 false true false false) := by
  refine returnsInHanded_of_change_and (C := Tryd.checked) (X := fun w _ => laidMetH Tryd.prog escLaid w) (fun _ _ _ hh h => h.of_heap hh) fnExactReadElements_own started (by kernel_rfl) Tryd.func8
    (ChangeSpec.witness_shaped (enc := enc) (C := Tryd.checked) (os := os) (X := fun w _ => laidMetH Tryd.prog escLaid w) false (World.doorLaid Tryd.prog 400 os) #[.string ByteArray.empty] 8 rfl (World.shaped_of_RefB (by kernel_rfl) (by kernel_rfl)) (by kernel_rfl) (by kernel_rfl) (by kernel_rfl) (esc_met os _)) ?_
  intro W base args ds gs before hval0 hW _ _ hL _
  have hval : ∀ (j : Nat) t v, Tryd.f8.params[j]? = some t → args[j]? = some v → Value.okWide Tryd.prog W .any base t v := hval0
  have hW' := hW
  obtain ⟨p, q, hA0, hV0, rfl, hfz, hnd⟩ := hW
  have hV : DataW.TrodVars enc Tryd.prog W (fun _ => true) [escName] gs q := hV0
  have hA : DataW.TrodAll enc Tryd.prog W 0 (fun _ => true) true Tryd.f8.params.toList args.toList ds p := hA0
  rw [Tryd.params8] at hA hval
  obtain ⟨v0, vs0, d0, ds0, p0, q0, hargs0, rfl, rfl, h0, r0⟩ := trodAll_cons hA
  obtain ⟨rfl, rfl, rfl⟩ := trodAll_nil r0
  obtain rfl : args = #[v0] := by cases args; simp_all
  obtain ⟨g, t, cs, fuel, d, p', rfl, hg, ht, hvar, hd, rfl⟩ := trodVars_one hV
  obtain rfl := Option.some.inj (esc_global.symm.trans hg)
  obtain rfl := Option.some.inj (esc_type.symm.trans ht)
  have hv8 := esc_cells_of hL
  obtain rfl : cs = escCells := Option.some.inj (hvar.symm.trans hv8)
  obtain ⟨rfl, rfl⟩ := DataW.Trod.unique (v := .agg escCells) ⟨fuel, hd⟩ ⟨4, reads_esc enc W _⟩
  have hEA := esc_at_of hv8
  have k0 := h0
  have lt0 : ∀ x ∈ p0, x.block < W.heap.size := by obtain ⟨m, hm⟩ := k0; exact DataW.trod_lt m _ _ _ hm
  obtain ⟨a0, rfl, rfl, rfl, w0⟩ := open_string Tryd.underlying9 (hval 0 9 v0 rfl rfl) h0
  clear hA0 hval0
  refine (fnExactReadElements_walk a0 w0 W hEA).mono fun e W' ⟨he, bel⟩ => ?_
  subst he
  exact ⟨_, rfl, _, _, _, [], _, MemPlace.row ⟨0, 0, none⟩ 8 ++ [], hW', trodAll_mk1 (shut_bool Tryd.underlying4 _), (trodAll_cons_mk (Below.trod fnExactReadElements_laidOut (by kernel_rfl) (of_decide_eq_true (by kernel_rfl)) k0 bel lt0) trodAll_mk0), esc_vars enc _ (esc_var_old hv8 bel), bel.frame _, fun h => by cases h⟩

theorem fnExactReadElements_closed : joinedFacts Tryd.pinned.checked.prog 8 Tryd.f8 Rows.fnExactReadElementsSpec Rows.fnExactReadElementsRow = true := by
  show joinedFacts Tryd.prog 8 Tryd.f8 Rows.fnExactReadElementsSpec Rows.fnExactReadElementsRow = true
  simp only [joinedFacts, Bool.and_eq_true]
  repeat' apply And.intro
  all_goals first | with_reducible exact head_may | (rw [head_final]; kernel_rfl) | (rw [head_make]; kernel_rfl) | as_aux_lemma => kernel_rfl
theorem fnExactReadElements_over : Rows.fnExactReadElementsRow.holds Tryd.pinned (OpenSpec.ofChange Rows.fnExactReadElementsSpec) :=
  OpenClaim.holds_of_wide 8 Tryd.f8 rfl rfl rfl rfl rfl rfl rfl ⟨rfl, rfl, rfl, rfl, rfl⟩ rfl rfl rfl rfl rfl (by kernel_rfl) Tryd.func8 fnExactReadElements_closed
    (of_decide_eq_true (by kernel_rfl)) (by unfold Func.isWrapper; first | (rw [if_pos (by decide +kernel)]; kernel_rfl) | (rw [if_neg (by decide +kernel)]; exact ⟨rfl, rfl⟩))
    (fun os started H enc _ => fnExactReadElements_lifted os started H enc)

/-- The statement. -/
theorem fnExactReadElements_holds : Rows.FnExactReadElementsCardSaid :=
  Claim7.holds_tied_plain_at .later [] [.data] true Rows.fnExactReadElementsCard.stood.harness false
    fnExactReadElements_over (fun _ h => by cases h) (by kernel_rfl) (fun _ h => by cases h) fnExactReadElements_row_tie rfl ⟨rfl, rfl⟩ (by kernel_rfl) rfl
    (fun f fn hf hfn => by
      obtain rfl : f = 8 := Option.some.inj ((show Tryd.prog.funcNamed Rows.fnExactReadElementsRow.func = some 8 by kernel_rfl).symm.trans hf) |>.symm
      obtain rfl : fn = Tryd.f8 := (Option.some.inj (Tryd.func8.symm.trans hfn)).symm
      exact ⟨by kernel_rfl, fun j t ht => by
        rw [Tryd.params8] at ht
        have hm : t ∈ [9] := by simpa using Array.mem_of_getElem? ht
        have hall : ([9].all fun u => !Tryd.prog.wantsStandIn u) = true := by kernel_rfl
        exact (show Tryd.prog.wantsStandIn t = false by simpa using List.all_eq_true.1 hall t hm)⟩)
    (by kernel_rfl)

end Go.Proofs.YtjkdjemefkignaaDoor
