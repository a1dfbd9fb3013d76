/- The law FnItemText: for every input the call returns true, and the arguments read as before. Condition: none. -/
import Derived.Test.YtldllhfadihmeaaDoorRows
import Derived.Test.YtldllhfadihmeaaDoorHead
import Derived.Test.YtldllhfadihmeaaDoorLaid
import Derived.Test.YtldllhfadihmeaaDoorTie
import Derived.Test.YtldllhfadihmeaaDoorCards
import Derived.SevenTiedAt
import Derived.Test.YtldllhfadihmeaaDoorDrawM
import Derived.Test.YtldllhfadihmeaaDoorItT
import Derived.Test.YtldllhfadihmeaaDoorRdM
import Derived.Test.YtldllhfadihmeaaDoorCmpI
import Derived.Test.YtldllhfadihmeaaDoorNewW
import Derived.WalkKit
import Derived.WalkSpells
import Derived.WalkLawsBesides
import Derived.ProofKit
import Derived.OpenShut
import Derived.ShutString
import Derived.ChangeOld
import Derived.Below
import Derived.Lib.Hide
namespace Go.Proofs.YtldllhfadihmeaaDoor
open Go.ChangeShapes Go.WideShapes Go.ChangeAt Go.WideMaps Go.WideElems Go.RowKit
open Go.ChangeMaps (open_string shut_string)
set_option linter.unusedVariables false

theorem esc_old {w w' : World} (h : EscAt w) (hb : Below w.heap.size w w') : EscAt w' := h.old hb

set_option maxRecDepth 100000 in
set_option maxHeartbeats 2000000 in
theorem fnItemText_walk (a : Option Addr) (len cap : Nat) (zs : List Int) (w : World) (h : IsRow .u8 w a len cap zs) (hE : EscAt w) :
    Calls Tryd.prog 7 #[.slice a len cap] w fun e w' => e = .returned (.bool true) ∧ Below w.heap.size w w' := by
  have H := Lib.hid h
  have HE := Lib.hid hE
  clear h hE
  by_cases hl : 1048576 < len
  · go_enter Tryd.func7, Tryd.ntmps7
    go_wp2
    go_ret
    exact ⟨rfl, Below.refl _ _⟩
  · go_enter Tryd.func7, Tryd.ntmps7
    go_wp2_with fail
    refine (drawItemText_any a len cap zs _ H.out).mono ?_
    rintro e w1 ⟨⟨x, rfl, hx⟩, hb⟩
    obtain ⟨hx1, hx2, hx3⟩ := okI_sz hx
    have ct := Lib.hid (fun w h => impl_itemText x w hx1 hx2 hx3 h)
    have cs := Lib.hid (fun w => spec_itemText x w hx1 hx2 hx3)
    have cv := Lib.hid (fun w => spec_itemValid x w hx1 hx2 hx3)
    obtain ⟨s, hs⟩ : ∃ s : ByteArray, s = ⟨(itT x).toArray⟩ := ⟨_, rfl⟩
    have hsz : s.size ≤ 4008 := by rw [hs, size_of_list]; exact itT_len x
    have hol : (⟨#[60, 111, 116, 104, 101, 114, 62, 120, 60, 47, 111, 116, 104, 101, 114, 62]⟩ : ByteArray).size = 16 := rfl
    have cr := Lib.hid (fun w h => impl_readItem s w (by omega) h)
    have cr2 := Lib.hid (fun w h => impl_readItem ((⟨#[60, 111, 116, 104, 101, 114, 62, 120, 60, 47, 111, 116, 104, 101, 114, 62]⟩ : ByteArray) ++ s) w (by rw [ByteArray.size_append]; omega) h)
    have hsl : s.data.toList = itT x := by rw [hs]
    have R1 : Hid (itV x = true → readI s.data.toList = some x) := fun hv => by rw [hsl]; exact read_item hv
    have R2 : Hid (itV x = true → readI ((⟨#[60, 111, 116, 104, 101, 114, 62, 120, 60, 47, 111, 116, 104, 101, 114, 62]⟩ : ByteArray) ++ s).data.toList = some x) := fun hv => by
      rw [ba_app, hsl]
      have := read_other hv
      rw [oX_text] at this
      exact this
    have R0 : Hid (itV x = false → s = ⟨#[]⟩) := fun hv => by rw [hs, itT_no hv]
    rw [← hs] at ct cs
    have KI := Lib.hid (fun w2 h => item_kept w1 41 x w2 h)
    have hb1 := hb.alloc hb.size (.cells #[.string x.key, .string x.title, .string x.body, .int .i64 x.day] 41)
    have hc0 : Below (w1.heap.size + 1) (w1.alloc (.cells #[.string x.key, .string x.title, .string x.body, .int .i64 x.day] 41)) (w1.alloc (.cells #[.string x.key, .string x.title, .string x.body, .int .i64 x.day] 41)) := Below.refl _ _
    clear hx hx1 hx2 hx3 hs hsl hol
    generalize itV x = ok at *
    go_wp2_with fail
    refine (ct.out _ (HE.out.old hb1)).mono ?_
    rintro e w2 ⟨rfl, hb2⟩
    have hc2 := hc0.trans (hb2.mono (by simp))
    obtain ⟨p0, p1, p2, p3⟩ := KI.out _ hc2
    go_wp2_with fail
    refine (cs.out _).mono ?_
    rintro e w3 ⟨rfl, hb3⟩
    have hc3 := hc2.trans (hb3.mono (by have := hc2.size; simp at this; omega))
    clear p0 p1 p2 p3
    obtain ⟨p0, p1, p2, p3⟩ := KI.out _ hc3
    go_wp2_with fail
    refine (cv.out _).mono ?_
    rintro e w4 ⟨rfl, hb4⟩
    have hc4 := hc3.trans (hb4.mono (by have := hc3.size; simp at this; omega))
    have hz4 := hb1.trans (hc4.mono (by have := hb.size; omega))
    clear p0 p1 p2 p3
    cases ok
    · have hs0 := R0.out rfl
      subst hs0
      go_wp2_with fail
      refine (alive_any _).mono ?_
      rintro e w' ⟨rfl, rfl⟩
      go_wp2
      go_ret
      exact ⟨rfl, hz4⟩
    · have e1 := R1.out rfl
      have e2 := R2.out rfl
      unfold ItRead at cr cr2
      rw [e1] at cr
      rw [e2] at cr2
      clear e1 e2
      have cr : Hid (∀ w, EscAt w → Calls Tryd.prog 35 #[.string s] w fun e w' => e = .returned (.tuple #[.agg #[.string x.key, .string x.title, .string x.body, .int .i64 x.day], .bool true]) ∧ Below w.heap.size w w') := cr
      have cr2 : Hid (∀ w, EscAt w → Calls Tryd.prog 35 #[.string ((⟨#[60, 111, 116, 104, 101, 114, 62, 120, 60, 47, 111, 116, 104, 101, 114, 62]⟩ : ByteArray) ++ s)] w fun e w' => e = .returned (.tuple #[.agg #[.string x.key, .string x.title, .string x.body, .int .i64 x.day], .bool true]) ∧ Below w.heap.size w w') := cr2
      have hol : (⟨#[60, 111, 116, 104, 101, 114, 62, 120, 60, 47, 111, 116, 104, 101, 114, 62]⟩ : ByteArray).size = 16 := rfl
      have hz4a := hz4.alloc hz4.size (.cells #[.string x.key, .string x.title, .string x.body, .int .i64 x.day] 41)
      go_wp2_with fail
      refine (cr.out _ (HE.out.old hz4)).mono ?_
      rintro e w5 ⟨rfl, hb5⟩
      have hc5 := hc4.trans (hb5.mono (by have := hc4.size; simp at this; omega))
      have hz5 := hz4.trans (hb5.mono hz4.size)
      have hz5a := hz5.alloc hz5.size (.cells #[.string x.key, .string x.title, .string x.body, .int .i64 x.day] 41)
      have K5 := Lib.hid (fun w2 h => item_kept w5 41 x w2 h)
      have hd5 : Below (w5.heap.size + 1) (w5.alloc (.cells #[.string x.key, .string x.title, .string x.body, .int .i64 x.day] 41)) (w5.alloc (.cells #[.string x.key, .string x.title, .string x.body, .int .i64 x.day] 41)) := Below.refl _ _
      go_wp2_with fail
      refine (cr2.out _ (HE.out.old hz5a)).mono ?_
      rintro e w6 ⟨rfl, hb6⟩
      have hc6 := (hc5.alloc (by have := hc5.size; simp at this; omega) (.cells #[.string x.key, .string x.title, .string x.body, .int .i64 x.day] 41)).trans (hb6.mono (by have := hc5.size; simp at this ⊢; omega))
      have hd6 := hd5.trans (hb6.mono (by simp))
      have hz6 := hz5a.trans (hb6.mono hz5a.size)
      have hc6a := hc6.alloc (by have := hc6.size; simp at this; omega) (.cells #[.string x.key, .string x.title, .string x.body, .int .i64 x.day] 41)
      have hd6a := hd6.alloc (by have := hd6.size; simp at this; omega) (.cells #[.string x.key, .string x.title, .string x.body, .int .i64 x.day] 41)
      have hz6a := hz6.alloc hz6.size (.cells #[.string x.key, .string x.title, .string x.body, .int .i64 x.day] 41)
      obtain ⟨p0, p1, p2, p3⟩ := KI.out _ hc6a
      obtain ⟨s0, s1, s2, s3⟩ := K5.out _ hd6a
      have he1 := fun W => eql_item x x W
      simp only [decide_true] at he1
      have he2 := fun W o p => guard_item .eql o p #[.string x.key, .string x.title, .string x.body, .int .i64 x.day] #[.string x.key, .string x.title, .string x.body, .int .i64 x.day] W
      go_wp2
      go_ret
      exact ⟨rfl, hz6a⟩

theorem fnItemText_own : ownKnob Tryd.prog.godebug = none := by kernel_rfl
theorem fnItemText_laidOut : laidOutB Tryd.prog = true := by kernel_rfl
set_option maxRecDepth 100000 in
theorem fnItemText_lifted (os : Os) (started : os.Started) (H : Type) (enc : TypeId × Value → H) :
    ReturnsInHanded {} Tryd.checked os 7 .any (fun w args => (Rows.fnItemTextSpec.pre enc Tryd.prog Tryd.f7 [] false w args ∧ laidMetH Tryd.prog escLaid w) ∧ sizedMet enc Tryd.prog Tryd.f7 (OpenSpec.ofChange Rows.fnItemTextSpec) false w args)
      (Rows.fnItemTextSpec.post enc Tryd.prog Tryd.f7 false true false false) := by
  refine returnsInHanded_of_change_and (C := Tryd.checked) (X := fun w _ => laidMetH Tryd.prog escLaid w) (fun _ _ _ hh h => h.of_heap hh) fnItemText_own started (by kernel_rfl) Tryd.func7
    (ChangeSpec.witness_shaped (enc := enc) (C := Tryd.checked) (os := os) (X := fun w _ => laidMetH Tryd.prog escLaid w) false (World.doorLaid Tryd.prog 400 os) #[.slice none 0 0] 8 rfl (World.shaped_of_RefB (by kernel_rfl) (by kernel_rfl)) (by kernel_rfl) (by kernel_rfl) (by kernel_rfl) (esc_met os _)) ?_
  intro W base args ds gs before hval0 hW _ _ hL _
  have hval : ∀ (j : Nat) t v, Tryd.f7.params[j]? = some t → args[j]? = some v → Value.okWide Tryd.prog W .any base t v := hval0
  have hW' := hW
  obtain ⟨p, q, hA0, hV0, rfl, hfz, hnd⟩ := hW
  have hV : DataW.TrodVars enc Tryd.prog W (fun _ => true) [escName] gs q := hV0
  have hA : DataW.TrodAll enc Tryd.prog W 0 (fun _ => true) true Tryd.f7.params.toList args.toList ds p := hA0
  rw [Tryd.params7] at hA hval
  obtain ⟨v0, vs0, d0, ds0, p0, q0, hargs0, rfl, rfl, h0, r0⟩ := trodAll_cons hA
  obtain ⟨rfl, rfl, rfl⟩ := trodAll_nil r0
  obtain rfl : args = #[v0] := by cases args; simp_all
  obtain ⟨g, t, cs, fuel, d, p', rfl, hg, ht, hvar, hd, rfl⟩ := trodVars_one hV
  obtain rfl := Option.some.inj (esc_global.symm.trans hg)
  obtain rfl := Option.some.inj (esc_type.symm.trans ht)
  have hv8 := esc_cells_of hL
  obtain rfl : cs = escCells := Option.some.inj (hvar.symm.trans hv8)
  obtain ⟨rfl, rfl⟩ := DataW.Trod.unique (v := .agg escCells) ⟨fuel, hd⟩ ⟨4, reads_esc enc W _⟩
  have hEA := esc_at_of hv8
  have k0 := h0
  have lt0 : ∀ x ∈ p0, x.block < W.heap.size := by obtain ⟨m, hm⟩ := k0; exact DataW.trod_lt m _ _ _ hm
  obtain ⟨a0, len0, cap0, rfl⟩ := okWide_slice Tryd.underlying32 (hval 0 32 v0 rfl rfl)
  obtain ⟨z0, w0⟩ : ∃ zs, IsRow .u8 W a0 len0 cap0 zs := by
    obtain ⟨fuel, hf⟩ := h0
    rcases open_ints Tryd.underlying32 Tryd.underlying5 (by kernel_rfl) hf with ⟨hcs, _⟩ | ⟨x, l, c, zs, hcs, _, hl, hm, hz, _, hcell, hwz⟩
    · simp [Value.cells] at hcs
      obtain ⟨rfl, rfl, rfl⟩ := hcs
      exact ⟨[], .inl ⟨rfl, rfl, rfl, rfl⟩⟩
    · simp [Value.cells] at hcs
      obtain ⟨rfl, rfl, rfl⟩ := hcs
      exact ⟨zs, .inr ⟨_, rfl, hl, hm, by simpa using hz, hcell, hwz⟩⟩
  clear hA0 hval0
  refine (fnItemText_walk a0 len0 cap0 z0 W w0 hEA).mono fun e W' ⟨he, bel⟩ => ?_
  subst he
  exact ⟨_, rfl, _, _, _, [], _, MemPlace.row ⟨0, 0, none⟩ 8 ++ [], hW', trodAll_mk1 (shut_bool Tryd.underlying4 _), (trodAll_cons_mk (Below.trod fnItemText_laidOut (by kernel_rfl) (of_decide_eq_true (by kernel_rfl)) k0 bel lt0) trodAll_mk0), esc_vars enc _ (esc_var_old hv8 bel), bel.frame _, fun h => by cases h⟩

theorem fnItemText_closed : joinedFacts Tryd.pinned.checked.prog 7 Tryd.f7 Rows.fnItemTextSpec Rows.fnItemTextRow = true := by
  show joinedFacts Tryd.prog 7 Tryd.f7 Rows.fnItemTextSpec Rows.fnItemTextRow = true
  simp only [joinedFacts, Bool.and_eq_true]
  repeat' apply And.intro
  all_goals first | with_reducible exact head_may | (rw [head_final]; kernel_rfl) | (rw [head_make]; kernel_rfl) | as_aux_lemma => kernel_rfl
theorem fnItemText_over : Rows.fnItemTextRow.holds Tryd.pinned (OpenSpec.ofChange Rows.fnItemTextSpec) :=
  OpenClaim.holds_of_wide 7 Tryd.f7 rfl rfl rfl rfl rfl rfl rfl ⟨rfl, rfl, rfl, rfl, rfl⟩ rfl rfl rfl rfl rfl (by kernel_rfl) Tryd.func7 fnItemText_closed
    (of_decide_eq_true (by kernel_rfl)) (by unfold Func.isWrapper; first | (rw [if_pos (by decide +kernel)]; kernel_rfl) | (rw [if_neg (by decide +kernel)]; exact ⟨rfl, rfl⟩))
    (fun os started H enc _ => fnItemText_lifted os started H enc)

/-- The statement. -/
theorem fnItemText_holds : Rows.FnItemTextCardSaid :=
  Claim7.holds_tied_plain_at .later [] [.data] true Rows.fnItemTextCard.stood.harness false
    fnItemText_over (fun _ h => by cases h) (by kernel_rfl) (fun _ h => by cases h) fnItemText_row_tie rfl ⟨rfl, rfl⟩ (by kernel_rfl) rfl
    (fun f fn hf hfn => by
      obtain rfl : f = 7 := Option.some.inj ((show Tryd.prog.funcNamed Rows.fnItemTextRow.func = some 7 by kernel_rfl).symm.trans hf) |>.symm
      obtain rfl : fn = Tryd.f7 := (Option.some.inj (Tryd.func7.symm.trans hfn)).symm
      exact ⟨by kernel_rfl, fun j t ht => by
        rw [Tryd.params7] at ht
        have hm : t ∈ [32] := by simpa using Array.mem_of_getElem? ht
        have hall : ([32].all fun u => !Tryd.prog.wantsStandIn u) = true := by kernel_rfl
        exact (show Tryd.prog.wantsStandIn t = false by simpa using List.all_eq_true.1 hall t hm)⟩)
    (by kernel_rfl)

end Go.Proofs.YtldllhfadihmeaaDoor
