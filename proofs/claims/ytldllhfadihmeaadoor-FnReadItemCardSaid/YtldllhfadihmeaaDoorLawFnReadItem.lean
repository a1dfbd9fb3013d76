/- The law FnReadItem: for every input the call returns true, and the arguments read as before. Condition: none. -/
import Derived.Test.YtldllhfadihmeaaDoorRows
import Derived.Test.YtldllhfadihmeaaDoorHead
import Derived.Test.YtldllhfadihmeaaDoorLaid
import Derived.Test.YtldllhfadihmeaaDoorTie
import Derived.Test.YtldllhfadihmeaaDoorCards
import Derived.SevenTiedAt
import Derived.Test.YtldllhfadihmeaaDoorDrawRi
import Derived.Test.YtldllhfadihmeaaDoorRfS
import Derived.Test.YtldllhfadihmeaaDoorCmpI
import Derived.WalkKit
import Derived.WalkSpells
import Derived.WalkLawsBesides
import Derived.ProofKit
import Derived.OpenShut
import Derived.ShutString
import Derived.ChangeOld
import Derived.Below
import Derived.Lib.Hide
namespace Go.Proofs.YtldllhfadihmeaaDoor
open Go.ChangeShapes Go.WideShapes Go.ChangeAt Go.WideMaps Go.WideElems Go.RowKit
open Go.ChangeMaps (open_string shut_string)
set_option linter.unusedVariables false

theorem read_more1 {s : ByteArray} {i : It} (h : readI s.data.toList = some i) : readI (s ++ (⟨#[60, 107, 101, 121, 62, 107, 60, 47, 107, 101, 121, 62]⟩ : ByteArray)).data.toList = none := by
  rw [ba_app]
  have := read_second h
  rw [kX_text] at this
  exact this

set_option maxRecDepth 100000 in
set_option maxHeartbeats 4000000 in
theorem fnReadItem_walk (a : Option Addr) (len cap : Nat) (zs : List Int) (w : World) (h : IsRow .u8 w a len cap zs) (hE : EscAt w) :
    Calls Tryd.prog 10 #[.slice a len cap] w fun e w' => e = .returned (.bool true) ∧ Below w.heap.size w w' := by
  have H := Lib.hid h
  have HX := Lib.hid hE
  clear h hE
  by_cases hl : 1048576 < len
  · go_enter Tryd.func10, Tryd.ntmps10
    go_wp2
    go_ret
    exact ⟨rfl, Below.refl _ _⟩
  · go_enter Tryd.func10, Tryd.ntmps10
    go_wp2_with fail
    refine (drawReadItem_any a len cap zs _ H.out).mono ?_
    rintro e w1 ⟨s, rfl, hs, hb⟩
    have c1 := Lib.hid (fun w h => impl_readItem s w (by omega) h)
    have c2 := Lib.hid (fun w => spec_readItem s w (by omega))
    unfold ItRead at c1 c2
    cases hr : readI s.data.toList with
    | none =>
      rw [hr] at c1 c2
      have c1 : Hid (∀ w, EscAt w → Calls Tryd.prog 35 #[.string s] w fun e w' => e = .returned (.tuple #[.agg #[.string ⟨#[]⟩, .string ⟨#[]⟩, .string ⟨#[]⟩, .int .i64 0], .bool false]) ∧ Below w.heap.size w w') := c1
      have c2 : Hid (∀ w, Calls Tryd.prog 36 #[.string s] w fun e w' => e = .returned (.tuple #[.agg #[.string ⟨#[]⟩, .string ⟨#[]⟩, .string ⟨#[]⟩, .int .i64 0], .bool false]) ∧ Below w.heap.size w w') := c2
      clear hr
      go_wp2_with fail
      refine (c1.out _ (HX.out.old hb)).mono ?_
      rintro e w2 ⟨rfl, hb2⟩
      have z2 := hb.trans (hb2.mono hb.size)
      have K2 := Lib.hid (fun w3 h => item_kept w2 41 ⟨⟨#[]⟩, ⟨#[]⟩, ⟨#[]⟩, 0⟩ w3 h)
      have z2a := z2.alloc z2.size (.cells #[.string ⟨#[]⟩, .string ⟨#[]⟩, .string ⟨#[]⟩, .int .i64 0] 41)
      have hc2 : Below (w2.heap.size + 1) (w2.alloc (.cells #[.string ⟨#[]⟩, .string ⟨#[]⟩, .string ⟨#[]⟩, .int .i64 0] 41)) (w2.alloc (.cells #[.string ⟨#[]⟩, .string ⟨#[]⟩, .string ⟨#[]⟩, .int .i64 0] 41)) := Below.refl _ _
      go_wp2_with fail
      refine (c2.out _).mono ?_
      rintro e w3 ⟨rfl, hb3⟩
      have hc3 := (hc2.trans (hb3.mono (by simp)))
      have hc3a := hc3.alloc (by have := hc3.size; simp at this; omega) (.cells #[.string ⟨#[]⟩, .string ⟨#[]⟩, .string ⟨#[]⟩, .int .i64 0] 41)
      have z3 := z2a.trans (hb3.mono z2a.size)
      have z3a := z3.alloc z3.size (.cells #[.string ⟨#[]⟩, .string ⟨#[]⟩, .string ⟨#[]⟩, .int .i64 0] 41)
      obtain ⟨p0, p1, p2, p3⟩ := K2.out _ hc3a
      have hq1 := fun W => neq_item ⟨⟨#[]⟩, ⟨#[]⟩, ⟨#[]⟩, 0⟩ ⟨⟨#[]⟩, ⟨#[]⟩, ⟨#[]⟩, 0⟩ W
      have hq3 := fun W => eql_item ⟨⟨#[]⟩, ⟨#[]⟩, ⟨#[]⟩, 0⟩ ⟨⟨#[]⟩, ⟨#[]⟩, ⟨#[]⟩, 0⟩ W
      simp only [decide_true, Bool.not_true] at hq1 hq3
      go_wp2_with fail
      refine (alive_any _).mono ?_
      rintro e w' ⟨rfl, rfl⟩
      go_wp2
      go_ret
      exact ⟨rfl, z3a⟩
    | some x =>
      have hv := readI_valid hr
      obtain ⟨hx1, hx2, hx3⟩ := it_sz hv
      have ct := Lib.hid (fun w h => impl_itemText x w hx1 hx2 hx3 h)
      have cv := Lib.hid (fun w => impl_itemValid x w hx1 hx2 hx3)
      rw [hv] at cv
      obtain ⟨t, ht⟩ : ∃ t : ByteArray, t = ⟨(itT x).toArray⟩ := ⟨_, rfl⟩
      have htsz : t.size ≤ 4008 := by rw [ht, size_of_list]; exact itT_len x
      have c3 := Lib.hid (fun w h => impl_readItem t w (by omega) h)
      have hm : (⟨#[60, 107, 101, 121, 62, 107, 60, 47, 107, 101, 121, 62]⟩ : ByteArray).size = 12 := rfl
      have c4 := Lib.hid (fun w h => impl_readItem (s ++ (⟨#[60, 107, 101, 121, 62, 107, 60, 47, 107, 101, 121, 62]⟩ : ByteArray)) w (by rw [ByteArray.size_append]; omega) h)
      unfold ItRead at c3 c4
      have htr : readI t.data.toList = some x := by rw [ht]; exact read_item hv
      rw [htr] at c3
      rw [read_more1 hr] at c4
      rw [← ht] at ct
      rw [hr] at c1 c2
      have c1 : Hid (∀ w, EscAt w → Calls Tryd.prog 35 #[.string s] w fun e w' => e = .returned (.tuple #[.agg #[.string x.key, .string x.title, .string x.body, .int .i64 x.day], .bool true]) ∧ Below w.heap.size w w') := c1
      have c2 : Hid (∀ w, Calls Tryd.prog 36 #[.string s] w fun e w' => e = .returned (.tuple #[.agg #[.string x.key, .string x.title, .string x.body, .int .i64 x.day], .bool true]) ∧ Below w.heap.size w w') := c2
      have c3 : Hid (∀ w, EscAt w → Calls Tryd.prog 35 #[.string t] w fun e w' => e = .returned (.tuple #[.agg #[.string x.key, .string x.title, .string x.body, .int .i64 x.day], .bool true]) ∧ Below w.heap.size w w') := c3
      have c4 : Hid (∀ w, EscAt w → Calls Tryd.prog 35 #[.string (s ++ (⟨#[60, 107, 101, 121, 62, 107, 60, 47, 107, 101, 121, 62]⟩ : ByteArray))] w fun e w' => e = .returned (.tuple #[.agg #[.string ⟨#[]⟩, .string ⟨#[]⟩, .string ⟨#[]⟩, .int .i64 0], .bool false]) ∧ Below w.heap.size w w') := c4
      clear hr hv hx1 hx2 hx3 ht htr
      go_wp2_with fail
      refine (c1.out _ (HX.out.old hb)).mono ?_
      rintro e w2 ⟨rfl, hb2⟩
      have z2 := hb.trans (hb2.mono hb.size)
      have K2 := Lib.hid (fun w3 h => item_kept w2 41 x w3 h)
      have z2a := z2.alloc z2.size (.cells #[.string x.key, .string x.title, .string x.body, .int .i64 x.day] 41)
      have hc2 : Below (w2.heap.size + 1) (w2.alloc (.cells #[.string x.key, .string x.title, .string x.body, .int .i64 x.day] 41)) (w2.alloc (.cells #[.string x.key, .string x.title, .string x.body, .int .i64 x.day] 41)) := Below.refl _ _
      have hs2 : ∀ W', Below (w2.heap.size + 1) (w2.alloc (.cells #[.string x.key, .string x.title, .string x.body, .int .i64 x.day] 41)) W' → w2.heap.size + 1 ≤ W'.heap.size := fun W' h => by have := h.size; simpa using this
      have HS2 := Lib.hid hs2
      clear hs2
      go_wp2_with fail
      refine (c2.out _).mono ?_
      rintro e w3 ⟨rfl, hb3⟩
      have hc3 := hc2.trans (hb3.mono (by simp))
      have hc3a := hc3.alloc (HS2.out _ hc3) (.cells #[.string x.key, .string x.title, .string x.body, .int .i64 x.day] 41)
      have z3a := z2a.trans (hc3a.mono (by have := z2.size; omega))
      obtain ⟨p0, p1, p2, p3⟩ := K2.out _ hc3a
      have hq1 := fun W => neq_item x x W
      have hq3 := fun W => eql_item x x W
      simp only [decide_true, Bool.not_true] at hq1 hq3
      go_wp2_with fail
      refine (ct.out _ (HX.out.old z3a)).mono ?_
      rintro e w4 ⟨rfl, hb4⟩
      have hc4 := hc3a.trans (hb4.mono (HS2.out _ hc3a))
      have z4 := z2a.trans (hc4.mono (by have := z2.size; omega))
      clear p0 p1 p2 p3
      go_wp2_with fail
      refine (c3.out _ (HX.out.old z4)).mono ?_
      rintro e w5 ⟨rfl, hb5⟩
      have hc5 := hc4.trans (hb5.mono (HS2.out _ hc4))
      have hc5a := hc5.alloc (HS2.out _ hc5) (.cells #[.string x.key, .string x.title, .string x.body, .int .i64 x.day] 41)
      have z5a := z2a.trans (hc5a.mono (by have := z2.size; omega))
      have K5 := Lib.hid (fun w3 h => item_kept w5 41 x w3 h)
      have hd5 : Below (w5.heap.size + 1) (w5.alloc (.cells #[.string x.key, .string x.title, .string x.body, .int .i64 x.day] 41)) (w5.alloc (.cells #[.string x.key, .string x.title, .string x.body, .int .i64 x.day] 41)) := Below.refl _ _
      go_wp2_with fail
      refine (c4.out _ (HX.out.old z5a)).mono ?_
      rintro e w6 ⟨rfl, hb6⟩
      have hc6 := hc5a.trans (hb6.mono (HS2.out _ hc5a))
      have hc6a := hc6.alloc (HS2.out _ hc6) (.cells #[.string ⟨#[]⟩, .string ⟨#[]⟩, .string ⟨#[]⟩, .int .i64 0] 41)
      have hd6 := hd5.trans (hb6.mono (by simp))
      have hd6a := hd6.alloc (by have := hd6.size; simp at this; omega) (.cells #[.string ⟨#[]⟩, .string ⟨#[]⟩, .string ⟨#[]⟩, .int .i64 0] 41)
      obtain ⟨p0, p1, p2, p3⟩ := K2.out _ hc6a
      go_wp2_with fail
      refine (cv.out _).mono ?_
      rintro e w7 ⟨rfl, hb7⟩
      have hc7 := hc6a.trans (hb7.mono (HS2.out _ hc6a))
      have hd7 := hd6a.trans (hb7.mono (by have := hd6a.size; simp at this ⊢; omega))
      have z7 := z2a.trans (hc7.mono (by have := z2.size; omega))
      clear p0 p1 p2 p3
      obtain ⟨p0, p1, p2, p3⟩ := K2.out _ hc7
      obtain ⟨s0, s1, s2, s3⟩ := K5.out _ hd7
      have he2 := fun W o p => guard_item .eql o p #[.string x.key, .string x.title, .string x.body, .int .i64 x.day] #[.string x.key, .string x.title, .string x.body, .int .i64 x.day] W
      go_wp2
      go_ret
      exact ⟨rfl, z7⟩

theorem fnReadItem_own : ownKnob Tryd.prog.godebug = none := by kernel_rfl
theorem fnReadItem_laidOut : laidOutB Tryd.prog = true := by kernel_rfl
set_option maxRecDepth 100000 in
theorem fnReadItem_lifted (os : Os) (started : os.Started) (H : Type) (enc : TypeId × Value → H) :
    ReturnsInHanded {} Tryd.checked os 10 .any (fun w args => (Rows.fnReadItemSpec.pre enc Tryd.prog Tryd.f10 [] false w args ∧ laidMetH Tryd.prog escLaid w) ∧ sizedMet enc Tryd.prog Tryd.f10 (OpenSpec.ofChange Rows.fnReadItemSpec) false w args)
      (Rows.fnReadItemSpec.post enc Tryd.prog Tryd.f10 false true false false) := by
  refine returnsInHanded_of_change_and (C := Tryd.checked) (X := fun w _ => laidMetH Tryd.prog escLaid w) (fun _ _ _ hh h => h.of_heap hh) fnReadItem_own started (by kernel_rfl) Tryd.func10
    (ChangeSpec.witness_shaped (enc := enc) (C := Tryd.checked) (os := os) (X := fun w _ => laidMetH Tryd.prog escLaid w) false (World.doorLaid Tryd.prog 400 os) #[.slice none 0 0] 8 rfl (World.shaped_of_RefB (by kernel_rfl) (by kernel_rfl)) (by kernel_rfl) (by kernel_rfl) (by kernel_rfl) (esc_met os _)) ?_
  intro W base args ds gs before hval0 hW _ _ hL _
  have hval : ∀ (j : Nat) t v, Tryd.f10.params[j]? = some t → args[j]? = some v → Value.okWide Tryd.prog W .any base t v := hval0
  have hW' := hW
  obtain ⟨p, q, hA0, hV0, rfl, hfz, hnd⟩ := hW
  have hV : DataW.TrodVars enc Tryd.prog W (fun _ => true) [escName] gs q := hV0
  have hA : DataW.TrodAll enc Tryd.prog W 0 (fun _ => true) true Tryd.f10.params.toList args.toList ds p := hA0
  rw [Tryd.params10] at hA hval
  obtain ⟨v0, vs0, d0, ds0, p0, q0, hargs0, rfl, rfl, h0, r0⟩ := trodAll_cons hA
  obtain ⟨rfl, rfl, rfl⟩ := trodAll_nil r0
  obtain rfl : args = #[v0] := by cases args; simp_all
  obtain ⟨g, t, cs, fuel, d, p', rfl, hg, ht, hvar, hd, rfl⟩ := trodVars_one hV
  obtain rfl := Option.some.inj (esc_global.symm.trans hg)
  obtain rfl := Option.some.inj (esc_type.symm.trans ht)
  have hv8 := esc_cells_of hL
  obtain rfl : cs = escCells := Option.some.inj (hvar.symm.trans hv8)
  obtain ⟨rfl, rfl⟩ := DataW.Trod.unique (v := .agg escCells) ⟨fuel, hd⟩ ⟨4, reads_esc enc W _⟩
  have hEA := esc_at_of hv8
  have k0 := h0
  have lt0 : ∀ x ∈ p0, x.block < W.heap.size := by obtain ⟨m, hm⟩ := k0; exact DataW.trod_lt m _ _ _ hm
  obtain ⟨a0, len0, cap0, rfl⟩ := okWide_slice Tryd.underlying32 (hval 0 32 v0 rfl rfl)
  obtain ⟨z0, w0⟩ : ∃ zs, IsRow .u8 W a0 len0 cap0 zs := by
    obtain ⟨fuel, hf⟩ := h0
    rcases open_ints Tryd.underlying32 Tryd.underlying5 (by kernel_rfl) hf with ⟨hcs, _⟩ | ⟨x, l, c, zs, hcs, _, hl, hm, hz, _, hcell, hwz⟩
    · simp [Value.cells] at hcs
      obtain ⟨rfl, rfl, rfl⟩ := hcs
      exact ⟨[], .inl ⟨rfl, rfl, rfl, rfl⟩⟩
    · simp [Value.cells] at hcs
      obtain ⟨rfl, rfl, rfl⟩ := hcs
      exact ⟨zs, .inr ⟨_, rfl, hl, hm, by simpa using hz, hcell, hwz⟩⟩
  clear hA0 hval0
  refine (fnReadItem_walk a0 len0 cap0 z0 W w0 hEA).mono fun e W' ⟨he, bel⟩ => ?_
  subst he
  exact ⟨_, rfl, _, _, _, [], _, MemPlace.row ⟨0, 0, none⟩ 8 ++ [], hW', trodAll_mk1 (shut_bool Tryd.underlying4 _), (trodAll_cons_mk (Below.trod fnReadItem_laidOut (by kernel_rfl) (of_decide_eq_true (by kernel_rfl)) k0 bel lt0) trodAll_mk0), esc_vars enc _ (esc_var_old hv8 bel), bel.frame _, fun h => by cases h⟩

theorem fnReadItem_closed : joinedFacts Tryd.pinned.checked.prog 10 Tryd.f10 Rows.fnReadItemSpec Rows.fnReadItemRow = true := by
  show joinedFacts Tryd.prog 10 Tryd.f10 Rows.fnReadItemSpec Rows.fnReadItemRow = true
  simp only [joinedFacts, Bool.and_eq_true]
  repeat' apply And.intro
  all_goals first | with_reducible exact head_may | (rw [head_final]; kernel_rfl) | (rw [head_make]; kernel_rfl) | as_aux_lemma => kernel_rfl
theorem fnReadItem_over : Rows.fnReadItemRow.holds Tryd.pinned (OpenSpec.ofChange Rows.fnReadItemSpec) :=
  OpenClaim.holds_of_wide 10 Tryd.f10 rfl rfl rfl rfl rfl rfl rfl ⟨rfl, rfl, rfl, rfl, rfl⟩ rfl rfl rfl rfl rfl (by kernel_rfl) Tryd.func10 fnReadItem_closed
    (of_decide_eq_true (by kernel_rfl)) (by unfold Func.isWrapper; first | (rw [if_pos (by decide +kernel)]; kernel_rfl) | (rw [if_neg (by decide +kernel)]; exact ⟨rfl, rfl⟩))
    (fun os started H enc _ => fnReadItem_lifted os started H enc)

/-- The statement. -/
theorem fnReadItem_holds : Rows.FnReadItemCardSaid :=
  Claim7.holds_tied_plain_at .later [] [.data] true Rows.fnReadItemCard.stood.harness false
    fnReadItem_over (fun _ h => by cases h) (by kernel_rfl) (fun _ h => by cases h) fnReadItem_row_tie rfl ⟨rfl, rfl⟩ (by kernel_rfl) rfl
    (fun f fn hf hfn => by
      obtain rfl : f = 10 := Option.some.inj ((show Tryd.prog.funcNamed Rows.fnReadItemRow.func = some 10 by kernel_rfl).symm.trans hf) |>.symm
      obtain rfl : fn = Tryd.f10 := (Option.some.inj (Tryd.func10.symm.trans hfn)).symm
      exact ⟨by kernel_rfl, fun j t ht => by
        rw [Tryd.params10] at ht
        have hm : t ∈ [32] := by simpa using Array.mem_of_getElem? ht
        have hall : ([32].all fun u => !Tryd.prog.wantsStandIn u) = true := by kernel_rfl
        exact (show Tryd.prog.wantsStandIn t = false by simpa using List.all_eq_true.1 hall t hm)⟩)
    (by kernel_rfl)

end Go.Proofs.YtldllhfadihmeaaDoor
