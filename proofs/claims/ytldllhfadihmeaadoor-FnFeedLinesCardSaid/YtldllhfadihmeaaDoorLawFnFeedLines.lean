/- The law FnFeedLines: for every input the call returns true, and the arguments read as before. Condition: none. -/
import Derived.Test.YtldllhfadihmeaaDoorRows
import Derived.Test.YtldllhfadihmeaaDoorHead
import Derived.Test.YtldllhfadihmeaaDoorLaid
import Derived.Test.YtldllhfadihmeaaDoorTie
import Derived.Test.YtldllhfadihmeaaDoorCards
import Derived.SevenTiedAt
import Derived.Test.YtldllhfadihmeaaDoorDrawM
import Derived.Test.YtldllhfadihmeaaDoorLn
import Derived.Test.YtldllhfadihmeaaDoorRfW
import Derived.Test.YtldllhfadihmeaaDoorSameT
import Derived.Test.YtldllhfadihmeaaDoorSame
import Derived.WalkKit
import Derived.WalkSpells
import Derived.WalkLawsBesides
import Derived.ProofKit
import Derived.OpenShut
import Derived.ShutString
import Derived.ChangeOld
import Derived.Below
import Derived.Lib.Hide
namespace Go.Proofs.YtldllhfadihmeaaDoor
open Go.ChangeShapes Go.WideShapes Go.ChangeAt Go.WideMaps Go.WideElems Go.RowKit
open Go.ChangeMaps (open_string shut_string)
set_option linter.unusedVariables false

theorem lines_sz (l : List It) : ∀ s ∈ linesF l, s.size ≤ 1000000000 := by
  intro s hs
  unfold linesF at hs
  split at hs
  · rw [List.mem_map] at hs
    obtain ⟨i, _, rfl⟩ := hs
    have := itT_len i
    have e : (bs (itT i)).size = (itT i).length := by rw [← size_toList, bs_list]
    omega
  · simp at hs

set_option maxRecDepth 100000 in
set_option maxHeartbeats 2000000 in
theorem fnFeedLines_walk (a : Option Addr) (len cap : Nat) (zs : List Int) (w : World) (h : IsRow .u8 w a len cap zs) (hE : EscAt w) :
    Calls Tryd.prog 9 #[.slice a len cap] w fun e w' => e = .returned (.bool true) ∧ Below w.heap.size w w' := by
  have H := Lib.hid h
  have HX := Lib.hid hE
  clear h hE
  by_cases hl : 1048576 < len
  · go_enter Tryd.func9, Tryd.ntmps9
    go_wp2
    go_ret
    exact ⟨rfl, Below.refl _ _⟩
  · go_enter Tryd.func9, Tryd.ntmps9
    go_wp2_with fail
    refine (drawFeedLines_any a len cap zs _ H.out).mono ?_
    rintro e w1 ⟨⟨q, n, qc, l, rfl, hown, hl1, hn, hs⟩, hb⟩
    have hz : ∀ i ∈ l, i.key.size ≤ maxLen ∧ i.title.size ≤ maxLen ∧ i.body.size ≤ maxLen := fun i hi => okI_sz (hs i hi)
    have hc := own_cap hown
    have E1 := Lib.hid (ItAt.own hown hl1)
    have hml : n ≤ maxLen := by unfold maxLen; omega
    have ci := Lib.hid (fun w e1 hx => impl_feedLines (some ⟨q, 0, none⟩) n qc l w e1 hl1 hc.1 hc.2 hz hx)
    have cs := Lib.hid (fun w e1 => spec_feedLines (some ⟨q, 0, none⟩) n qc l w e1 hl1 hml hz)
    have cf := Lib.hid (fun w e1 => spec_feedValid (some ⟨q, 0, none⟩) n qc l w e1 hl1 hml hz)
    have HL1 := Lib.hid hl1
    have h8 := linesF_len l
    have HR : Hid (feedV l = true → rdF [] 0 (linesF l) = some (l, 0)) := fun hv => rdF_lines hv
    have HB : Hid (feedV l = false → linesF l = []) := fun hv => linesF_bad hv
    have HSz := Lib.hid (lines_sz l)
    unfold StsGiven at ci cs
    generalize linesF l = x at *
    clear hown hl1 hs hz
    go_wp2_with fail
    refine (ci.out _ E1.out (HX.out.old hb)).mono ?_
    rintro e w2 ⟨⟨ax, nx, cx, rfl, ox, hlx, _, _⟩, hb2⟩
    have D2 := Lib.hid hb2
    have EX := Lib.hid (StAt.own' ox hlx)
    have HL := Lib.hid hlx
    have n8 : nx ≤ 8 := by omega
    clear ox hlx hb2
    go_wp2_with fail
    refine (cs.out _ (E1.out.old D2.out)).mono ?_
    rintro e w3 ⟨⟨ay, ny, cy, rfl, oy, hly, _, _⟩, hb3⟩
    have D3 := Lib.hid (D2.out.trans (hb3.mono D2.out.size))
    have hyx : ny = nx := by rw [← hly]; exact HL.out
    subst hyx
    have EX3 := Lib.hid (EX.out.old hb3)
    have EY3 := Lib.hid (StAt.own' oy hly)
    clear oy hly hb3
    go_wp2_with fail
    refine (sameTexts_any _ _ ny cx cy x _ EX3.out EY3.out HL.out (by unfold maxLen; omega)).mono ?_
    rintro e w4 ⟨rfl, hb4⟩
    have D4 := Lib.hid (D3.out.trans (hb4.mono D3.out.size))
    have EX4 := Lib.hid (EX3.out.old hb4)
    clear hb4 EY3 EX3
    go_wp2_with fail
    refine (cf.out _ (E1.out.old D4.out)).mono ?_
    rintro e w5 ⟨rfl, hb5⟩
    have D5 := Lib.hid (D4.out.trans (hb5.mono D4.out.size))
    have EX5 := Lib.hid (EX4.out.old hb5)
    cases hv : feedV l
    · have hx0 := HB.out hv
      have hny : ny = 0 := by rw [← HL.out, hx0]; rfl
      subst hny
      go_wp2_with fail
      refine (alive_any _).mono ?_
      rintro e w' ⟨rfl, rfl⟩
      go_wp2
      go_ret
      exact ⟨rfl, hb.trans (D5.out.mono hb.size)⟩
    · have hr := HR.out hv
      have cr := Lib.hid (fun w e1 hx => impl_readFeed ax ny cx x w e1 HL.out (by unfold maxLen; omega) HSz.out hx)
      unfold RfGiven at cr
      rw [hr] at cr
      have cr : Hid (∀ w, StAt w ax x → EscAt w → Calls Tryd.prog 14 #[.slice ax ny cx] w fun e w' => (∃ (a : Option Addr) (n cap : Nat), e = .returned (.tuple #[.slice a n cap, .int .i64 0]) ∧ w'.ownsRow w.heap.size 41 4 (.slice a n cap) n (flatI l) ∧ l.length = n ∧ n ≤ cap ∧ cap ≤ maxLen) ∧ Below w.heap.size w w') := cr
      clear hr hv HR HB
      go_wp2_with fail
      refine (cr.out _ EX5.out (HX.out.old (hb.trans (D5.out.mono hb.size)))).mono ?_
      rintro e w6 ⟨⟨az, nz, cz, rfl, oz, hlz, _, _⟩, hb6⟩
      have D6 := D5.out.trans (hb6.mono D5.out.size)
      have hzn : nz = n := by rw [← hlz]; exact HL1.out
      subst hzn
      have EZ := Lib.hid (ItAt.own' oz hlz)
      clear oz hlz hb6
      go_wp2_with fail
      refine (sameFeed_any _ _ nz cz qc l _ EZ.out (E1.out.old D6) HL1.out hml).mono ?_
      rintro e w7 ⟨rfl, hb7⟩
      have D7 := D6.trans (hb7.mono D6.size)
      go_wp2
      go_ret
      exact ⟨rfl, hb.trans (D7.mono hb.size)⟩

theorem fnFeedLines_own : ownKnob Tryd.prog.godebug = none := by kernel_rfl
theorem fnFeedLines_laidOut : laidOutB Tryd.prog = true := by kernel_rfl
set_option maxRecDepth 100000 in
theorem fnFeedLines_lifted (os : Os) (started : os.Started) (H : Type) (enc : TypeId × Value → H) :
    ReturnsInHanded {} Tryd.checked os 9 .any (fun w args => (Rows.fnFeedLinesSpec.pre enc Tryd.prog Tryd.f9 [] false w args ∧ laidMetH Tryd.prog escLaid w) ∧ sizedMet enc Tryd.prog Tryd.f9 (OpenSpec.ofChange Rows.fnFeedLinesSpec) false w args)
      (Rows.fnFeedLinesSpec.post enc Tryd.prog Tryd.f9 false true false false) := by
  refine returnsInHanded_of_change_and (C := Tryd.checked) (X := fun w _ => laidMetH Tryd.prog escLaid w) (fun _ _ _ hh h => h.of_heap hh) fnFeedLines_own started (by kernel_rfl) Tryd.func9
    (ChangeSpec.witness_shaped (enc := enc) (C := Tryd.checked) (os := os) (X := fun w _ => laidMetH Tryd.prog escLaid w) false (World.doorLaid Tryd.prog 400 os) #[.slice none 0 0] 8 rfl (World.shaped_of_RefB (by kernel_rfl) (by kernel_rfl)) (by kernel_rfl) (by kernel_rfl) (by kernel_rfl) (esc_met os _)) ?_
  intro W base args ds gs before hval0 hW _ _ hL _
  have hval : ∀ (j : Nat) t v, Tryd.f9.params[j]? = some t → args[j]? = some v → Value.okWide Tryd.prog W .any base t v := hval0
  have hW' := hW
  obtain ⟨p, q, hA0, hV0, rfl, hfz, hnd⟩ := hW
  have hV : DataW.TrodVars enc Tryd.prog W (fun _ => true) [escName] gs q := hV0
  have hA : DataW.TrodAll enc Tryd.prog W 0 (fun _ => true) true Tryd.f9.params.toList args.toList ds p := hA0
  rw [Tryd.params9] at hA hval
  obtain ⟨v0, vs0, d0, ds0, p0, q0, hargs0, rfl, rfl, h0, r0⟩ := trodAll_cons hA
  obtain ⟨rfl, rfl, rfl⟩ := trodAll_nil r0
  obtain rfl : args = #[v0] := by cases args; simp_all
  obtain ⟨g, t, cs, fuel, d, p', rfl, hg, ht, hvar, hd, rfl⟩ := trodVars_one hV
  obtain rfl := Option.some.inj (esc_global.symm.trans hg)
  obtain rfl := Option.some.inj (esc_type.symm.trans ht)
  have hv8 := esc_cells_of hL
  obtain rfl : cs = escCells := Option.some.inj (hvar.symm.trans hv8)
  obtain ⟨rfl, rfl⟩ := DataW.Trod.unique (v := .agg escCells) ⟨fuel, hd⟩ ⟨4, reads_esc enc W _⟩
  have hEA := esc_at_of hv8
  have k0 := h0
  have lt0 : ∀ x ∈ p0, x.block < W.heap.size := by obtain ⟨m, hm⟩ := k0; exact DataW.trod_lt m _ _ _ hm
  obtain ⟨a0, len0, cap0, rfl⟩ := okWide_slice Tryd.underlying32 (hval 0 32 v0 rfl rfl)
  obtain ⟨z0, w0⟩ : ∃ zs, IsRow .u8 W a0 len0 cap0 zs := by
    obtain ⟨fuel, hf⟩ := h0
    rcases open_ints Tryd.underlying32 Tryd.underlying5 (by kernel_rfl) hf with ⟨hcs, _⟩ | ⟨x, l, c, zs, hcs, _, hl, hm, hz, _, hcell, hwz⟩
    · simp [Value.cells] at hcs
      obtain ⟨rfl, rfl, rfl⟩ := hcs
      exact ⟨[], .inl ⟨rfl, rfl, rfl, rfl⟩⟩
    · simp [Value.cells] at hcs
      obtain ⟨rfl, rfl, rfl⟩ := hcs
      exact ⟨zs, .inr ⟨_, rfl, hl, hm, by simpa using hz, hcell, hwz⟩⟩
  clear hA0 hval0
  refine (fnFeedLines_walk a0 len0 cap0 z0 W w0 hEA).mono fun e W' ⟨he, bel⟩ => ?_
  subst he
  exact ⟨_, rfl, _, _, _, [], _, MemPlace.row ⟨0, 0, none⟩ 8 ++ [], hW', trodAll_mk1 (shut_bool Tryd.underlying4 _), (trodAll_cons_mk (Below.trod fnFeedLines_laidOut (by kernel_rfl) (of_decide_eq_true (by kernel_rfl)) k0 bel lt0) trodAll_mk0), esc_vars enc _ (esc_var_old hv8 bel), bel.frame _, fun h => by cases h⟩

theorem fnFeedLines_closed : joinedFacts Tryd.pinned.checked.prog 9 Tryd.f9 Rows.fnFeedLinesSpec Rows.fnFeedLinesRow = true := by
  show joinedFacts Tryd.prog 9 Tryd.f9 Rows.fnFeedLinesSpec Rows.fnFeedLinesRow = true
  simp only [joinedFacts, Bool.and_eq_true]
  repeat' apply And.intro
  all_goals first | with_reducible exact head_may | (rw [head_final]; kernel_rfl) | (rw [head_make]; kernel_rfl) | as_aux_lemma => kernel_rfl
theorem fnFeedLines_over : Rows.fnFeedLinesRow.holds Tryd.pinned (OpenSpec.ofChange Rows.fnFeedLinesSpec) :=
  OpenClaim.holds_of_wide 9 Tryd.f9 rfl rfl rfl rfl rfl rfl rfl ⟨rfl, rfl, rfl, rfl, rfl⟩ rfl rfl rfl rfl rfl (by kernel_rfl) Tryd.func9 fnFeedLines_closed
    (of_decide_eq_true (by kernel_rfl)) (by unfold Func.isWrapper; first | (rw [if_pos (by decide +kernel)]; kernel_rfl) | (rw [if_neg (by decide +kernel)]; exact ⟨rfl, rfl⟩))
    (fun os started H enc _ => fnFeedLines_lifted os started H enc)

/-- The statement. -/
theorem fnFeedLines_holds : Rows.FnFeedLinesCardSaid :=
  Claim7.holds_tied_plain_at .later [] [.data] true Rows.fnFeedLinesCard.stood.harness false
    fnFeedLines_over (fun _ h => by cases h) (by kernel_rfl) (fun _ h => by cases h) fnFeedLines_row_tie rfl ⟨rfl, rfl⟩ (by kernel_rfl) rfl
    (fun f fn hf hfn => by
      obtain rfl : f = 9 := Option.some.inj ((show Tryd.prog.funcNamed Rows.fnFeedLinesRow.func = some 9 by kernel_rfl).symm.trans hf) |>.symm
      obtain rfl : fn = Tryd.f9 := (Option.some.inj (Tryd.func9.symm.trans hfn)).symm
      exact ⟨by kernel_rfl, fun j t ht => by
        rw [Tryd.params9] at ht
        have hm : t ∈ [32] := by simpa using Array.mem_of_getElem? ht
        have hall : ([32].all fun u => !Tryd.prog.wantsStandIn u) = true := by kernel_rfl
        exact (show Tryd.prog.wantsStandIn t = false by simpa using List.all_eq_true.1 hall t hm)⟩)
    (by kernel_rfl)

end Go.Proofs.YtldllhfadihmeaaDoor
