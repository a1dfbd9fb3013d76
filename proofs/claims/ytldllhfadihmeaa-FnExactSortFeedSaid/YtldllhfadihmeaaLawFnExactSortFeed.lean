/- The law FnExactSortFeed: for every input the call returns true, and the arguments read as before. Condition: none. -/
import Derived.Test.YtldllhfadihmeaaRows
import Derived.Test.YtldllhfadihmeaaHead
import Derived.Test.YtldllhfadihmeaaItArg
import Derived.Test.YtldllhfadihmeaaItZ
import Derived.Test.YtldllhfadihmeaaMarkI
import Derived.Test.YtldllhfadihmeaaSrR
import Derived.Test.YtldllhfadihmeaaSrS
import Derived.Test.YtldllhfadihmeaaOwnB
import Derived.Test.YtldllhfadihmeaaNewW
import Derived.WalkKit
import Derived.WalkSpells
import Derived.WalkLawsBesides
import Derived.ProofKit
import Derived.OpenShut
import Derived.ShutString
import Derived.ChangeOld
import Derived.Below
import Derived.Lib.Hide
namespace Go.Proofs.Ytldllhfadihmeaa
open Go.ChangeShapes Go.WideShapes Go.ChangeAt Go.RowKit
open Go.ChangeMaps (open_string shut_string)
set_option linter.unusedVariables false

set_option maxHeartbeats 2000000 in
theorem fnExactSortFeed_walk (a : Option Addr) (len cap : Nat) (l : List It) (w : World) (h : ItArg w a len l) :
    Calls Try.prog 3 #[.slice a len cap] w fun e w' => e = .returned (.bool true) ∧ Below w.heap.size w w' := by
  have H := Lib.hid h
  obtain ⟨h1, h2, h3, h4⟩ := h
  have HN := Lib.hid h2
  have c1 := Lib.hid (szItemS_gen a len cap l 1048576 w (by omega) (by omega) h1 h2 h3 h4)
  have ci := Lib.hid (fun b w (e1 : ItAt w b l) => impl_sortFeed b len l w e1 h2 h3 h4)
  have cs := Lib.hid (fun b w (e1 : ItAt w b l) => spec_sortFeed b len len l w e1 h2 h3 h4)
  have h8 := sortF_len l
  unfold ItsGiven at ci cs
  generalize sortF l = x at *
  have H8 := Lib.hid h8
  have HM := Lib.hid h3
  clear h1 h2 h4 h8 h3
  go_enter Try.func3, Try.ntmps3
  go_wp2_with fail
  refine c1.out.mono ?_
  rintro e w2 ⟨⟨r, rfl, r1, r2⟩, hb1⟩
  by_cases h0 : 0 ≤ r
  · have R2 := Lib.hid (r2 h0).1
    clear r2
    have B2 := Lib.hid hb1
    have n1 := R2.out
    go_wp2_with fail
    refine (toItemS_any a len cap l _ (H.out.old B2.out).1 HN.out n1).mono ?_
    rintro e w3 ⟨⟨g3, rfl, o3⟩, hb3⟩
    have B3 := Lib.hid (B2.out.trans (hb3.mono B2.out.size))
    have E3 := Lib.hid (ItAt.own o3 HN.out)
    clear o3 hb3
    go_wp2_with fail
    refine (cs.out _ _ E3.out).mono ?_
    rintro e w5 ⟨⟨aw, nw, cw, rfl, ow, hlw, _, _⟩, hb5⟩
    have B5 := Lib.hid (B3.out.trans (hb5.mono B3.out.size))
    have HW := Lib.hid hlw
    have n8 : nw ≤ 8 := by rw [← hlw]; exact H8.out
    have Ew5 := Lib.hid (ItAt.own' ow hlw)
    have lw := Lib.hid (own_blk ow)
    clear ow hlw hb5
    go_wp2_with fail
    refine (toItemS_any a len cap l _ (H.out.old B5.out).1 HN.out n1).mono ?_
    rintro e w6 ⟨⟨g6, rfl, o6⟩, hb6⟩
    have B6 := Lib.hid (B5.out.trans (hb6.mono B5.out.size))
    have O6 := Lib.hid o6
    have lt6 := Lib.hid (o6.lt g6 rfl)
    have Ew6 := Lib.hid (Ew5.out.old hb6)
    clear o6 hb6
    go_wp2_with fail
    refine (ci.out _ _ (ItAt.own O6.out HN.out)).mono ?_
    rintro e w8 ⟨⟨ag, ng, cg, rfl, og, hlg, _, _⟩, hb8⟩
    have B8 := Lib.hid (B6.out.trans (hb8.mono B6.out.size))
    have hnn : ng = nw := by rw [← hlg]; exact HW.out
    subst hnn
    have O8 := Lib.hid og
    have lg := Lib.hid (own_low_blk og)
    have O68 := Lib.hid (own_low' O6.out hb8)
    have Ew8 := Lib.hid (Ew6.out.old hb8)
    clear og hlg hb8
    go_wp2_with fail
    refine (eqItemS_any _ _ ng cg ng cw x x _ (ItAt.own' O8.out HW.out) HW.out Ew8.out HW.out (by unfold maxLen; omega) (by unfold maxLen; omega)).mono ?_
    rintro e w9 ⟨rfl, hb9⟩
    rw [decide_eq_true (rfl : x = x)]
    have B9 := Lib.hid (B8.out.trans (hb9.mono B8.out.size))
    have O69 := Lib.hid (own_low' O68.out hb9)
    have O89 := Lib.hid (own_low' O8.out hb9)
    have Ew9 := Lib.hid (Ew8.out.old hb9)
    clear hb9
    go_wp2_with fail
    refine (toItemS_any a len cap l _ (H.out.old B9.out).1 HN.out n1).mono ?_
    rintro e w10 ⟨⟨g10, rfl, o10⟩, hb10⟩
    have B10 := Lib.hid (B9.out.trans (hb10.mono B9.out.size))
    have O610 := Lib.hid (own_low' O69.out hb10)
    have O810 := Lib.hid (own_low' O89.out hb10)
    have Ew10 := Lib.hid (Ew9.out.old hb10)
    have O10 := Lib.hid o10
    clear o10 hb10
    go_wp2_with fail
    refine (eqItemS_any _ _ len len len len l l _ (ItAt.own O610.out HN.out) HN.out (ItAt.own O10.out HN.out) HN.out HM.out HM.out).mono ?_
    rintro e w13 ⟨rfl, hb11⟩
    rw [decide_eq_true (rfl : l = l)]
    have B13 := Lib.hid (B10.out.trans (hb11.mono B10.out.size))
    have O613 := Lib.hid (own_low' O610.out hb11)
    have O813 := Lib.hid (own_low' O810.out hb11)
    have Ew13 := Lib.hid (Ew10.out.old hb11)
    clear hb11
    go_wp2_with fail
    refine (markItemS_row g6 1 _ len len _ _ _ O613.out (by omega) (by omega) (by omega) (fun x e => by injection e with e; rw [← e])).mono ?_
    rintro e w15 ⟨rfl, _, hg14⟩
    have B15 := Lib.hid (grown_below B13.out hg14 B13.out.size (Nat.le_trans B5.out.size lt6.out.1))
    have O815 := Lib.hid (own_other O813.out hg14 (fun x e => by have := lg.out x e; have := lt6.out.2; omega))
    have Ew15 := Lib.hid (at_other Ew13.out hg14 (fun x e => by have := lw.out x e; have := lt6.out.1; omega))
    clear hg14
    go_wp2_with fail
    refine (eqItemS_any _ _ ng cg ng cw x x _ (ItAt.own' O815.out HW.out) HW.out Ew15.out HW.out (by unfold maxLen; omega) (by unfold maxLen; omega)).mono ?_
    rintro e w16 ⟨rfl, hb16⟩
    rw [decide_eq_true (rfl : x = x)]
    have B16 := Lib.hid (B15.out.trans (hb16.mono B15.out.size))
    have O816 := Lib.hid (own_low' O815.out hb16)
    have Ew16 := Lib.hid (Ew15.out.old hb16)
    clear hb16
    obtain ⟨gg, hgg, hgl⟩ := own_gg O816.out lg.out
    go_wp2_with fail
    refine (markItemS_row gg 1 _ ng cg _ _ _ O816.out (by omega) (by omega) (by omega) hgg).mono ?_
    rintro e w17 ⟨rfl, o17, hg17⟩
    have B17 := Lib.hid (grown_below B16.out hg17 B16.out.size (Nat.le_trans B6.out.size hgl))
    have E17 := Lib.hid (ItAt.own' o17 (markI_len 1 ng))
    have Ew17 := Lib.hid (at_other Ew16.out hg17 (fun x e => by have := lw.out x e; have := lt6.out.1; have := lt6.out.2; omega))
    clear hg17 o17
    go_wp2_with fail
    refine (heldItemS_any 1 _ ng cg _ E17.out (by omega) (by omega) (by omega)).mono ?_
    rintro e w18 ⟨rfl, hb18⟩
    have B18 := Lib.hid (B17.out.trans (hb18.mono B17.out.size))
    have E18 := Lib.hid (E17.out.old hb18)
    have Ew18 := Lib.hid (Ew17.out.old hb18)
    clear hb18
    go_wp2_with fail
    refine (toItemS_any a len cap l _ (H.out.old B18.out).1 HN.out n1).mono ?_
    rintro e w20 ⟨⟨g19, rfl, o19⟩, hb19⟩
    have B20 := Lib.hid (B18.out.trans (hb19.mono B18.out.size))
    have E20 := Lib.hid (E18.out.old hb19)
    have Ew20 := Lib.hid (Ew18.out.old hb19)
    have X20 := Lib.hid (ItAt.own o19 HN.out)
    clear o19 hb19
    go_wp2_with fail
    refine (ci.out _ _ X20.out).mono ?_
    rintro e w21 ⟨⟨ah, nh, ch, rfl, oh, hlh, _, _⟩, hb21⟩
    have B21 := Lib.hid (B20.out.trans (hb21.mono B20.out.size))
    have hnh : nh = ng := by rw [← hlh]; exact HW.out
    subst hnh
    have E21 := Lib.hid (E20.out.old hb21)
    have Ew21 := Lib.hid (Ew20.out.old hb21)
    have X21 := Lib.hid (ItAt.own' oh hlh)
    clear oh hlh hb21
    go_wp2_with fail
    refine (eqItemS_any _ _ nh ch nh cw x x _ X21.out HW.out Ew21.out HW.out (by unfold maxLen; omega) (by unfold maxLen; omega)).mono ?_
    rintro e w22 ⟨rfl, hb22⟩
    rw [decide_eq_true (rfl : x = x)]
    have B22 := Lib.hid (B21.out.trans (hb22.mono B21.out.size))
    have E22 := Lib.hid (E21.out.old hb22)
    clear hb22
    go_wp2_with fail
    refine (heldItemS_any 1 _ nh cg _ E22.out (by omega) (by omega) (by omega)).mono ?_
    rintro e w23 ⟨rfl, hb23⟩
    have B23 := Lib.hid (B22.out.trans (hb23.mono B22.out.size))
    go_wp2
    go_ret
    exact ⟨rfl, B23.out⟩
  · go_wp2
    go_ret
    exact ⟨rfl, hb1⟩

theorem fnExactSortFeed_own : ownKnob Try.prog.godebug = none := by kernel_rfl
theorem fnExactSortFeed_laidOut : laidOutB Try.prog = true := by kernel_rfl
set_option maxRecDepth 100000 in
theorem fnExactSortFeed_lifted (os : Os) (started : os.Started) (H : Type) (enc : TypeId × Value → H) :
    ReturnsInHanded {} Try.checked os 3 .any (Rows.fnExactSortFeedSpec.pre6 enc Try.prog Try.f3 Rows.fnExactSortFeedRow.domain false) (Rows.fnExactSortFeedSpec.post enc Try.prog Try.f3 false true false false) := by
  refine returnsInHanded_of_change (C := Try.checked) fnExactSortFeed_own started (by kernel_rfl) Try.func3
    (ChangeSpec.witness6 (enc := enc) (C := Try.checked) false ⟨#[], #[.slice none 0 0], []⟩ 8 (by kernel_rfl) (by kernel_rfl) (by kernel_rfl) (by kernel_rfl)) ?_
  intro W base args ds gs before hval0 hW hcnd _
  have hval : ∀ (j : Nat) t v, Try.f3.params[j]? = some t → args[j]? = some v → Value.okWide Try.prog W .any base t v := hval0
  have hW' := hW
  obtain ⟨p, q, hA0, hV, rfl, hfz, hnd⟩ := hW
  have hA : DataW.TrodAll enc Try.prog W 0 (fun _ => true) true Try.f3.params.toList args.toList ds p := hA0
  rw [Try.params3] at hA hval
  obtain ⟨v0, vs0, d0, ds0, p0, q0, hargs0, rfl, rfl, h0, r0⟩ := trodAll_cons hA
  obtain ⟨rfl, rfl, rfl⟩ := trodAll_nil r0
  obtain rfl : args = #[v0] := by cases args; simp_all
  obtain ⟨rfl, rfl⟩ := trodVars_none hV
  have k0 := h0
  have lt0 : ∀ x ∈ p0, x.block < W.heap.size := by obtain ⟨m, hm⟩ := k0; exact DataW.trod_lt m _ _ _ hm
  obtain ⟨a0, len0, cap0, rfl⟩ := okWide_slice Try.underlying22 (hval 0 22 v0 rfl rfl)
  obtain ⟨z0, w0⟩ : ∃ zs, ItArg W a0 len0 zs := by
    obtain ⟨fuel, hf⟩ := h0
    exact it_arg Try.underlying22 Try.underlying31 (by kernel_rfl) rfl rfl rfl rfl (by kernel_rfl) (by kernel_rfl) (by kernel_rfl) (by kernel_rfl) (by kernel_rfl) (by kernel_rfl) (by kernel_rfl) (by kernel_rfl) (by simpa [Value.cells] using hf)
  clear hA0 hval0
  refine (fnExactSortFeed_walk a0 len0 cap0 z0 W w0).mono fun e W' ⟨he, bel⟩ => ?_
  subst he
  exact ⟨_, rfl, _, _, _, [], _, [], hW', trodAll_mk1 (shut_bool Try.underlying4 _), (trodAll_cons_mk (Below.trod fnExactSortFeed_laidOut (by kernel_rfl) (of_decide_eq_true (by kernel_rfl)) k0 bel lt0) trodAll_mk0), rfl, bel.frame _, fun h => by cases h⟩

theorem fnExactSortFeed_closed : joinedFacts Try.pinned.checked.prog 3 Try.f3 Rows.fnExactSortFeedSpec Rows.fnExactSortFeedRow = true := by
  show joinedFacts Try.prog 3 Try.f3 Rows.fnExactSortFeedSpec Rows.fnExactSortFeedRow = true
  simp only [joinedFacts, Bool.and_eq_true]
  repeat' apply And.intro
  all_goals first | with_reducible exact head_may | (rw [head_final]; kernel_rfl) | (rw [head_make]; kernel_rfl) | as_aux_lemma => kernel_rfl
theorem fnExactSortFeed_over : Rows.fnExactSortFeedRow.holds Try.pinned (OpenSpec.ofChange Rows.fnExactSortFeedSpec) :=
  OpenClaim.holds_of_wide 3 Try.f3 rfl rfl rfl rfl rfl rfl rfl ⟨rfl, rfl, rfl, rfl, rfl⟩ rfl rfl rfl rfl rfl (by kernel_rfl) Try.func3 fnExactSortFeed_closed
    (of_decide_eq_true (by kernel_rfl)) (by unfold Func.isWrapper; first | (rw [if_pos (by decide +kernel)]; kernel_rfl) | (rw [if_neg (by decide +kernel)]; exact ⟨rfl, rfl⟩))
    (fun os started H enc _ => fnExactSortFeed_lifted os started H enc)

/-- The statement. -/
theorem fnExactSortFeed_holds : Rows.FnExactSortFeedSaid := fnExactSortFeed_over

end Go.Proofs.Ytldllhfadihmeaa
