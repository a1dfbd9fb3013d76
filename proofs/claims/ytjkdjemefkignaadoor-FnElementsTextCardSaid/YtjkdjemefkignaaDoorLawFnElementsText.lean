/- The law FnElementsText: for every input the call returns true, and the arguments read as before. Condition: none. -/
import Derived.Test.YtjkdjemefkignaaDoorRows
import Derived.Test.YtjkdjemefkignaaDoorHead
import Derived.Test.YtjkdjemefkignaaDoorLaid
import Derived.Test.YtjkdjemefkignaaDoorTie
import Derived.Test.YtjkdjemefkignaaDoorCards
import Derived.SevenTiedAt
import Derived.Test.YtjkdjemefkignaaDoorReadW
import Derived.Test.YtjkdjemefkignaaDoorReadS
import Derived.Test.YtjkdjemefkignaaDoorMarkE
import Derived.Test.YtjkdjemefkignaaDoorDrawEd
import Derived.Test.YtjkdjemefkignaaDoorElsT
import Derived.Test.YtjkdjemefkignaaDoorDrawA
import Derived.WalkKit
import Derived.WalkSpells
import Derived.WalkLawsBesides
import Derived.ProofKit
import Derived.OpenShut
import Derived.ShutString
import Derived.ChangeOld
import Derived.Below
import Derived.Lib.Hide
namespace Go.Proofs.YtjkdjemefkignaaDoor
open Go.ChangeShapes Go.WideShapes Go.ChangeAt Go.WideMaps Go.WideElems Go.RowKit
open Go.ChangeMaps (open_string shut_string)
set_option linter.unusedVariables false

theorem els_sz {l : List El} (h : elsV l = true) : ∀ e ∈ l, e.1.size ≤ maxLen ∧ e.2.size ≤ maxLen := by
  intro e he
  have hv := (elV_iff e).1 (List.all_eq_true.1 ((elsV_iff l).1 h).2 e he)
  have h1 : e.1.size ≤ 8 := by rw [← size_toList]; exact (wordV_all hv.1).2.1
  have h2 : e.2.size ≤ 80 := by rw [← size_toList]; exact textV_len hv.2
  unfold maxLen
  omega

set_option maxHeartbeats 1000000 in
theorem fnElementsText_walk (a : Option Addr) (len cap : Nat) (zs : List Int) (w : World) (h : IsRow .u8 w a len cap zs) (hE : EscAt w) :
    Calls Tryd.prog 9 #[.slice a len cap] w fun e w' => e = .returned (.bool true) ∧ Below w.heap.size w w' := by
  have H := Lib.hid h
  have HE := Lib.hid hE
  clear h hE
  by_cases hl : 1048576 < len
  · go_enter Tryd.func9, Tryd.ntmps9
    go_wp2
    go_ret
    exact ⟨rfl, Below.refl _ _⟩
  · go_enter Tryd.func9, Tryd.ntmps9
    go_wp2_with fail
    refine (drawElementsText_any a len cap zs _ H.out).mono ?_
    rintro e w1 ⟨⟨q, n, qc, l, rfl, hown, hl, hn, hs⟩, hb⟩
    have hsz : ∀ e ∈ l, e.1.size ≤ maxLen ∧ e.2.size ≤ maxLen := fun e he => by have := hs e he; unfold maxLen; omega
    have HZ := Lib.hid hsz
    have EA := Lib.hid (ElAt.own hown hl)
    have c1 := Lib.hid (fun w h1 h2 => impl_elementsText (some ⟨q, 0, none⟩) n qc l w h1 hl (by unfold maxLen; omega) HZ.out h2)
    have c2 := Lib.hid (fun w h1 => spec_elementsText (some ⟨q, 0, none⟩) n qc l w h1 hl (by unfold maxLen; omega) HZ.out)
    have c3 := Lib.hid (fun w h1 => spec_elementsValid (some ⟨q, 0, none⟩) n qc l w h1 hl (by unfold maxLen; omega) HZ.out)
    obtain ⟨X, hX⟩ : ∃ X : ByteArray, X = ⟨(elsT l).toArray⟩ := ⟨_, rfl⟩
    rw [← hX] at c1 c2
    have HL := Lib.hid hl
    clear hown hs hsz
    cases hv : elsV l
    · rw [hv] at c3
      have hX0 : X = ⟨#[]⟩ := by rw [hX, elsT_no hv]
      clear hv hX
      subst hX0
      clear hl
      go_wp2_with fail
      refine (c1.out _ EA.out (HE.out.old hb)).mono ?_
      rintro e w2 ⟨rfl, hb2⟩
      have hb12 := hb.trans (hb2.mono hb.size)
      have E2 := Lib.hid (ElAt.old EA.out hb2)
      go_wp2_with fail
      refine (c2.out _ E2.out).mono ?_
      rintro e w3 ⟨rfl, hb3⟩
      have hb13 := hb12.trans (hb3.mono hb12.size)
      have E3 := Lib.hid (ElAt.old E2.out hb3)
      go_wp2_with fail
      refine (c3.out _ E3.out).mono ?_
      rintro e w' ⟨rfl, rfl⟩
      go_wp2_with fail
      refine (alive_any _).mono ?_
      rintro e w' ⟨rfl, rfl⟩
      go_wp2
      go_ret
      exact ⟨rfl, hb13⟩
    · rw [hv] at c3
      have hXl : X.data.toList = elsT l := by rw [hX]
      have hXz : X.size ≤ 4008 := by rw [← size_toList, hXl]; exact elsT_len _
      have c4 := Lib.hid (fun w h => impl_readElements X w (by omega) h)
      rw [hXl, read_els hv] at c4
      have c5 := Lib.hid (fun a2 n2 cap2 w (hn2 : l.length = n2) h1 h2 => sameElements_any a2 (some ⟨q, 0, none⟩) n2 cap2 n qc l l w h1 hn2 h2 HL.out (by unfold maxLen; omega) (by unfold maxLen; omega))
      rw [decide_eq_true (rfl : l = l)] at c5
      clear hv hX hXl hl
      go_wp2_with fail
      refine (c1.out _ EA.out (HE.out.old hb)).mono ?_
      rintro e w2 ⟨rfl, hb2⟩
      have hb12 := hb.trans (hb2.mono hb.size)
      have E2 := Lib.hid (ElAt.old EA.out hb2)
      go_wp2_with fail
      refine (c2.out _ E2.out).mono ?_
      rintro e w3 ⟨rfl, hb3⟩
      have hb13 := hb12.trans (hb3.mono hb12.size)
      have E3 := Lib.hid (ElAt.old E2.out hb3)
      go_wp2_with fail
      refine (c3.out _ E3.out).mono ?_
      rintro e w' ⟨rfl, rfl⟩
      go_wp2_with fail
      refine (c4.out _ (HE.out.old hb13)).mono ?_
      rintro e w4 ⟨⟨a2, n2, cap2, rfl, own2, hl2⟩, hb4⟩
      have hb14 := hb13.trans (hb4.mono hb13.size)
      have E4 := Lib.hid (ElAt.old E3.out hb4)
      have EB := Lib.hid (ElAt.own' own2 hl2)
      have hl3 : l.length = n2 := hl2
      have HL3 := Lib.hid hl3
      clear own2 hl2 hl3
      go_wp2_with fail
      refine (c5.out _ _ _ _ HL3.out EB.out E4.out).mono ?_
      rintro e w5 ⟨rfl, hb5⟩
      go_wp2
      go_ret
      exact ⟨rfl, hb14.trans (hb5.mono hb14.size)⟩

theorem fnElementsText_own : ownKnob Tryd.prog.godebug = none := by kernel_rfl
theorem fnElementsText_laidOut : laidOutB Tryd.prog = true := by kernel_rfl
set_option maxRecDepth 100000 in
theorem fnElementsText_lifted (os : Os) (started : os.Started) (H : Type) (enc : TypeId × Value → H) :
    ReturnsInHanded {} Tryd.checked os 9 .any (fun w args => (Rows.fnElementsTextSpec.pre enc Tryd.prog Tryd.f9 [] false w args ∧ laidMetH Tryd.prog escLaid w) ∧ sizedMet enc Tryd.prog Tryd.f9 (OpenSpec.ofChange Rows.fnElementsTextSpec) false w args)
      (Rows.fnElementsTextSpec.post enc Tryd.prog Tryd.f9 false true false false) := by
  refine returnsInHanded_of_change_and (C := Tryd.checked) (X := fun w _ => laidMetH Tryd.prog escLaid w) (fun _ _ _ hh h => h.of_heap hh) fnElementsText_own started (by kernel_rfl) Tryd.func9
    (ChangeSpec.witness_shaped (enc := enc) (C := Tryd.checked) (os := os) (X := fun w _ => laidMetH Tryd.prog escLaid w) false (World.doorLaid Tryd.prog 400 os) #[.slice none 0 0] 8 rfl (World.shaped_of_RefB (by kernel_rfl) (by kernel_rfl)) (by kernel_rfl) (by kernel_rfl) (by kernel_rfl) (esc_met os _)) ?_
  intro W base args ds gs before hval0 hW _ _ hL _
  have hval : ∀ (j : Nat) t v, Tryd.f9.params[j]? = some t → args[j]? = some v → Value.okWide Tryd.prog W .any base t v := hval0
  have hW' := hW
  obtain ⟨p, q, hA0, hV0, rfl, hfz, hnd⟩ := hW
  have hV : DataW.TrodVars enc Tryd.prog W (fun _ => true) [escName] gs q := hV0
  have hA : DataW.TrodAll enc Tryd.prog W 0 (fun _ => true) true Tryd.f9.params.toList args.toList ds p := hA0
  rw [Tryd.params9] at hA hval
  obtain ⟨v0, vs0, d0, ds0, p0, q0, hargs0, rfl, rfl, h0, r0⟩ := trodAll_cons hA
  obtain ⟨rfl, rfl, rfl⟩ := trodAll_nil r0
  obtain rfl : args = #[v0] := by cases args; simp_all
  obtain ⟨g, t, cs, fuel, d, p', rfl, hg, ht, hvar, hd, rfl⟩ := trodVars_one hV
  obtain rfl := Option.some.inj (esc_global.symm.trans hg)
  obtain rfl := Option.some.inj (esc_type.symm.trans ht)
  have hv8 := esc_cells_of hL
  obtain rfl : cs = escCells := Option.some.inj (hvar.symm.trans hv8)
  obtain ⟨rfl, rfl⟩ := DataW.Trod.unique (v := .agg escCells) ⟨fuel, hd⟩ ⟨4, reads_esc enc W _⟩
  have hEA := esc_at_of hv8
  have k0 := h0
  have lt0 : ∀ x ∈ p0, x.block < W.heap.size := by obtain ⟨m, hm⟩ := k0; exact DataW.trod_lt m _ _ _ hm
  obtain ⟨a0, len0, cap0, rfl⟩ := okWide_slice Tryd.underlying26 (hval 0 26 v0 rfl rfl)
  obtain ⟨z0, w0⟩ : ∃ zs, IsRow .u8 W a0 len0 cap0 zs := by
    obtain ⟨fuel, hf⟩ := h0
    rcases open_ints Tryd.underlying26 Tryd.underlying5 (by kernel_rfl) hf with ⟨hcs, _⟩ | ⟨x, l, c, zs, hcs, _, hl, hm, hz, _, hcell, hwz⟩
    · simp [Value.cells] at hcs
      obtain ⟨rfl, rfl, rfl⟩ := hcs
      exact ⟨[], .inl ⟨rfl, rfl, rfl, rfl⟩⟩
    · simp [Value.cells] at hcs
      obtain ⟨rfl, rfl, rfl⟩ := hcs
      exact ⟨zs, .inr ⟨_, rfl, hl, hm, by simpa using hz, hcell, hwz⟩⟩
  clear hA0 hval0
  refine (fnElementsText_walk a0 len0 cap0 z0 W w0 hEA).mono fun e W' ⟨he, bel⟩ => ?_
  subst he
  exact ⟨_, rfl, _, _, _, [], _, MemPlace.row ⟨0, 0, none⟩ 8 ++ [], hW', trodAll_mk1 (shut_bool Tryd.underlying4 _), (trodAll_cons_mk (Below.trod fnElementsText_laidOut (by kernel_rfl) (of_decide_eq_true (by kernel_rfl)) k0 bel lt0) trodAll_mk0), esc_vars enc _ (esc_var_old hv8 bel), bel.frame _, fun h => by cases h⟩

theorem fnElementsText_closed : joinedFacts Tryd.pinned.checked.prog 9 Tryd.f9 Rows.fnElementsTextSpec Rows.fnElementsTextRow = true := by
  show joinedFacts Tryd.prog 9 Tryd.f9 Rows.fnElementsTextSpec Rows.fnElementsTextRow = true
  simp only [joinedFacts, Bool.and_eq_true]
  repeat' apply And.intro
  all_goals first | with_reducible exact head_may | (rw [head_final]; kernel_rfl) | (rw [head_make]; kernel_rfl) | as_aux_lemma => kernel_rfl
theorem fnElementsText_over : Rows.fnElementsTextRow.holds Tryd.pinned (OpenSpec.ofChange Rows.fnElementsTextSpec) :=
  OpenClaim.holds_of_wide 9 Tryd.f9 rfl rfl rfl rfl rfl rfl rfl ⟨rfl, rfl, rfl, rfl, rfl⟩ rfl rfl rfl rfl rfl (by kernel_rfl) Tryd.func9 fnElementsText_closed
    (of_decide_eq_true (by kernel_rfl)) (by unfold Func.isWrapper; first | (rw [if_pos (by decide +kernel)]; kernel_rfl) | (rw [if_neg (by decide +kernel)]; exact ⟨rfl, rfl⟩))
    (fun os started H enc _ => fnElementsText_lifted os started H enc)

/-- The statement. -/
theorem fnElementsText_holds : Rows.FnElementsTextCardSaid :=
  Claim7.holds_tied_plain_at .later [] [.data] true Rows.fnElementsTextCard.stood.harness false
    fnElementsText_over (fun _ h => by cases h) (by kernel_rfl) (fun _ h => by cases h) fnElementsText_row_tie rfl ⟨rfl, rfl⟩ (by kernel_rfl) rfl
    (fun f fn hf hfn => by
      obtain rfl : f = 9 := Option.some.inj ((show Tryd.prog.funcNamed Rows.fnElementsTextRow.func = some 9 by kernel_rfl).symm.trans hf) |>.symm
      obtain rfl : fn = Tryd.f9 := (Option.some.inj (Tryd.func9.symm.trans hfn)).symm
      exact ⟨by kernel_rfl, fun j t ht => by
        rw [Tryd.params9] at ht
        have hm : t ∈ [26] := by simpa using Array.mem_of_getElem? ht
        have hall : ([26].all fun u => !Tryd.prog.wantsStandIn u) = true := by kernel_rfl
        exact (show Tryd.prog.wantsStandIn t = false by simpa using List.all_eq_true.1 hall t hm)⟩)
    (by kernel_rfl)

end Go.Proofs.YtjkdjemefkignaaDoor
