/- The law FnExactGoneKeys: for every input the call returns true, and the arguments read as before. Condition: none. -/
import Derived.Test.YtldllhfadihmeaaRows
import Derived.Test.YtldllhfadihmeaaHead
import Derived.Test.YtldllhfadihmeaaItArg
import Derived.Test.YtldllhfadihmeaaItZ
import Derived.Test.YtldllhfadihmeaaMarkI
import Derived.Test.YtldllhfadihmeaaGoneS
import Derived.WalkKit
import Derived.WalkSpells
import Derived.WalkLawsBesides
import Derived.ProofKit
import Derived.OpenShut
import Derived.ShutString
import Derived.ChangeOld
import Derived.Below
import Derived.Lib.Hide
namespace Go.Proofs.Ytldllhfadihmeaa
open Go.ChangeShapes Go.WideShapes Go.ChangeAt Go.RowKit
open Go.ChangeMaps (open_string shut_string)
set_option linter.unusedVariables false

set_option maxHeartbeats 2000000 in
theorem fnExactGoneKeys_walk (a : Option Addr) (len cap : Nat) (l : List It) (a' : Option Addr) (len' cap' : Nat) (l' : List It) (w : World) (h : ItArg w a len l) (h' : ItArg w a' len' l') :
    Calls Try.prog 13 #[.slice a len cap, .slice a' len' cap'] w fun e w' => e = .returned (.bool true) ∧ Below w.heap.size w w' := by
  have H := Lib.hid h
  have H' := Lib.hid h'
  obtain ⟨h1, h2, h3, h4⟩ := h
  obtain ⟨h1', h2', h3', h4'⟩ := h'
  have HN := Lib.hid h2
  have HN' := Lib.hid h2'
  have c1 := Lib.hid (szItemS_gen a len cap l 1048576 w (by omega) (by omega) h1 h2 h3 h4)
  have c2 := Lib.hid (fun r w l0 l1 h => szItemS_gen a' len' cap' l' r w l0 l1 h h2' h3' h4')
  have ci := Lib.hid (fun b b' w (e1 : ItAt w b l) (e2 : ItAt w b' l') => impl_goneKeys b len len l b' len' len' l' w e1 h2 (Nat.le_refl _) h3 h4 e2 h2' (Nat.le_refl _) h3' h4')
  have cs := Lib.hid (fun b b' w (e1 : ItAt w b l) (e2 : ItAt w b' l') => spec_goneKeys b len len l b' len' len' l' w e1 h2 h3 h4 e2 h2' h3' h4')
  have h8 := gone_len l l'
  unfold StsGiven at ci cs
  generalize goneI l l' = x at *
  have H8 := Lib.hid h8
  have hm1 := h3
  have hm2 := h3'
  have HM := Lib.hid h3
  have HM' := Lib.hid h3'
  clear h1 h2 h4 h1' h2' h4' h8 h3 h3' hm1 hm2
  go_enter Try.func13, Try.ntmps13
  go_wp2_with fail
  refine c1.out.mono ?_
  rintro e w1 ⟨⟨r, rfl, r1, r2⟩, hb1⟩
  by_cases h0 : 0 ≤ r
  · have R2 := Lib.hid (r2 h0).1
    clear r2
    go_wp2_with fail
    refine (c2.out r _ h0 r1 (H'.out.old hb1).1).mono ?_
    rintro e w2 ⟨⟨q, rfl, q1, q2⟩, hb2⟩
    have B2 := Lib.hid (hb1.trans (hb2.mono hb1.size))
    clear hb2
    by_cases hq : 0 ≤ q
    · have Q2 := Lib.hid (q2 hq).1
      clear q2
      have n1 := R2.out
      have n2 := Q2.out
      go_wp2_with fail
      refine (toItemS_any a len cap l _ (H.out.old B2.out).1 HN.out n1).mono ?_
      rintro e w3 ⟨⟨g3, rfl, o3⟩, hb3⟩
      have B3 := Lib.hid (B2.out.trans (hb3.mono B2.out.size))
      have E3 := Lib.hid (ItAt.own o3 HN.out)
      clear o3 hb3
      go_wp2_with fail
      refine (toItemS_any a' len' cap' l' _ (H'.out.old B3.out).1 HN'.out n2).mono ?_
      rintro e w4 ⟨⟨g4, rfl, o4⟩, hb4⟩
      have B4 := Lib.hid (B3.out.trans (hb4.mono B3.out.size))
      have E4 := Lib.hid (ItAt.own o4 HN'.out)
      have E34 := Lib.hid (E3.out.old hb4)
      clear o4 hb4
      go_wp2_with fail
      refine (cs.out _ _ _ E34.out E4.out).mono ?_
      rintro e w5 ⟨⟨aw, nw, cw, rfl, ow, hlw, _, _⟩, hb5⟩
      have B5 := Lib.hid (B4.out.trans (hb5.mono B4.out.size))
      have HW := Lib.hid hlw
      have n8 : nw ≤ 8 := by rw [← hlw]; exact H8.out
      have Ew5 := Lib.hid (StAt.own' ow hlw)
      have lw := Lib.hid (own_blk ow)
      clear ow hlw hb5
      go_wp2_with fail
      refine (toItemS_any a len cap l _ (H.out.old B5.out).1 HN.out n1).mono ?_
      rintro e w6 ⟨⟨g6, rfl, o6⟩, hb6⟩
      have B6 := Lib.hid (B5.out.trans (hb6.mono B5.out.size))
      have O6 := Lib.hid o6
      have lt6 := Lib.hid (o6.lt g6 rfl)
      have Ew6 := Lib.hid (Ew5.out.old hb6)
      clear o6 hb6
      go_wp2_with fail
      refine (toItemS_any a' len' cap' l' _ (H'.out.old B6.out).1 HN'.out n2).mono ?_
      rintro e w7 ⟨⟨g7, rfl, o7⟩, hb7⟩
      have B7 := Lib.hid (B6.out.trans (hb7.mono B6.out.size))
      have O7 := Lib.hid o7
      have lt7 := Lib.hid (o7.lt g7 rfl)
      have O67 := Lib.hid (own_low' O6.out hb7)
      have Ew7 := Lib.hid (Ew6.out.old hb7)
      clear o7 hb7
      go_wp2_with fail
      refine (ci.out _ _ _ (ItAt.own O67.out HN.out) (ItAt.own O7.out HN'.out)).mono ?_
      rintro e w8 ⟨⟨ag, ng, cg, rfl, og, hlg, _, _⟩, hb8⟩
      have B8 := Lib.hid (B7.out.trans (hb8.mono B7.out.size))
      have hnn : ng = nw := by rw [← hlg]; exact HW.out
      subst hnn
      have O8 := Lib.hid og
      have lg := Lib.hid (own_low_blk og)
      have O68 := Lib.hid (own_low' O67.out hb8)
      have O78 := Lib.hid (own_low' O7.out hb8)
      have Ew8 := Lib.hid (Ew7.out.old hb8)
      clear og hlg hb8
      go_wp2_with fail
      refine (eqStringS_any _ _ ng cg ng cw x x _ (StAt.own' O8.out HW.out) HW.out Ew8.out HW.out (by unfold maxLen; omega) (by unfold maxLen; omega)).mono ?_
      rintro e w9 ⟨rfl, hb9⟩
      rw [decide_eq_true (rfl : x = x)]
      have B9 := Lib.hid (B8.out.trans (hb9.mono B8.out.size))
      have O69 := Lib.hid (own_low' O68.out hb9)
      have O79 := Lib.hid (own_low' O78.out hb9)
      have O89 := Lib.hid (own_low' O8.out hb9)
      have Ew9 := Lib.hid (Ew8.out.old hb9)
      clear hb9
      go_wp2_with fail
      refine (toItemS_any a len cap l _ (H.out.old B9.out).1 HN.out n1).mono ?_
      rintro e w10 ⟨⟨g10, rfl, o10⟩, hb10⟩
      have B10 := Lib.hid (B9.out.trans (hb10.mono B9.out.size))
      have O610 := Lib.hid (own_low' O69.out hb10)
      have O710 := Lib.hid (own_low' O79.out hb10)
      have O810 := Lib.hid (own_low' O89.out hb10)
      have Ew10 := Lib.hid (Ew9.out.old hb10)
      have O10 := Lib.hid o10
      clear o10 hb10
      go_wp2_with fail
      refine (eqItemS_any _ _ len len len len l l _ (ItAt.own O610.out HN.out) HN.out (ItAt.own O10.out HN.out) HN.out HM.out HM.out).mono ?_
      rintro e w11 ⟨rfl, hb11⟩
      rw [decide_eq_true (rfl : l = l)]
      have B11 := Lib.hid (B10.out.trans (hb11.mono B10.out.size))
      have O611 := Lib.hid (own_low' O610.out hb11)
      have O711 := Lib.hid (own_low' O710.out hb11)
      have O811 := Lib.hid (own_low' O810.out hb11)
      have Ew11 := Lib.hid (Ew10.out.old hb11)
      clear hb11
      go_wp2_with fail
      refine (toItemS_any a' len' cap' l' _ (H'.out.old B11.out).1 HN'.out n2).mono ?_
      rintro e w12 ⟨⟨g12, rfl, o12⟩, hb12⟩
      have B12 := Lib.hid (B11.out.trans (hb12.mono B11.out.size))
      have O612 := Lib.hid (own_low' O611.out hb12)
      have O712 := Lib.hid (own_low' O711.out hb12)
      have O812 := Lib.hid (own_low' O811.out hb12)
      have Ew12 := Lib.hid (Ew11.out.old hb12)
      have O12 := Lib.hid o12
      clear o12 hb12
      go_wp2_with fail
      refine (eqItemS_any _ _ len' len' len' len' l' l' _ (ItAt.own O712.out HN'.out) HN'.out (ItAt.own O12.out HN'.out) HN'.out HM'.out HM'.out).mono ?_
      rintro e w13 ⟨rfl, hb13⟩
      rw [decide_eq_true (rfl : l' = l')]
      have B13 := Lib.hid (B12.out.trans (hb13.mono B12.out.size))
      have O613 := Lib.hid (own_low' O612.out hb13)
      have O713 := Lib.hid (own_low' O712.out hb13)
      have O813 := Lib.hid (own_low' O812.out hb13)
      have Ew13 := Lib.hid (Ew12.out.old hb13)
      clear hb13
      go_wp2_with fail
      refine (markItemS_row g6 1 _ len len _ _ _ O613.out (by omega) (by omega) (by omega) (fun x e => by injection e with e; rw [← e])).mono ?_
      rintro e w14 ⟨rfl, _, hg14⟩
      have B14 := Lib.hid (grown_below B13.out hg14 B13.out.size (Nat.le_trans B5.out.size lt6.out.1))
      have O714 := Lib.hid (own_other O713.out hg14 (fun x e => by injection e with e; rw [← e]; have := lt6.out.2; have := lt7.out.1; show g7 ≠ g6; omega))
      have O814 := Lib.hid (own_other O813.out hg14 (fun x e => by have := lg.out x e; have := lt6.out.2; have := lt7.out.1; have := lt7.out.2; omega))
      have Ew14 := Lib.hid (st_other Ew13.out hg14 (fun x e => by have := lw.out x e; have := lt6.out.1; omega))
      clear hg14
      have cm : Hid (∀ w base xs, w.ownsRow base 34 4 (.slice (some ⟨g7, 0, none⟩) len' len') len' xs → Calls Try.prog 20 #[.slice (some ⟨g7, 0, none⟩) len' len', .int .i64 (1 + 4 * (len : Int))] w fun e w' => e = .returned (.int .i64 (1 + 4 * (len : Int) + 4 * (len' : Int))) ∧ w.grownBy w' (some g7)) := fun w base xs h => by
        have := (markItemS_row g7 (1 + 4 * len) _ len' len' _ _ w h (by omega) (by omega) (by omega) (fun x e => by injection e with e; rw [← e]))
        rw [show ((1 + 4 * len : Nat) : Int) = 1 + 4 * (len : Int) from by omega] at this
        refine this.mono ?_
        rintro e w' ⟨rfl, _, hg⟩
        exact ⟨by rw [show ((1 + 4 * len + 4 * len' : Nat) : Int) = 1 + 4 * (len : Int) + 4 * (len' : Int) from by omega], hg⟩
      go_wp2_with fail
      refine (cm.out _ _ _ O714.out).mono ?_
      rintro e w15 ⟨rfl, hg15⟩
      have B15 := Lib.hid (grown_below B14.out hg15 B14.out.size (Nat.le_trans B6.out.size lt7.out.1))
      have O815 := Lib.hid (own_other O814.out hg15 (fun x e => by have := lg.out x e; have := lt7.out.2; omega))
      have Ew15 := Lib.hid (st_other Ew14.out hg15 (fun x e => by have := lw.out x e; have := lt6.out.1; have := lt6.out.2; have := lt7.out.1; omega))
      clear hg15
      go_wp2_with fail
      refine (eqStringS_any _ _ ng cg ng cw x x _ (StAt.own' O815.out HW.out) HW.out Ew15.out HW.out (by unfold maxLen; omega) (by unfold maxLen; omega)).mono ?_
      rintro e w16 ⟨rfl, hb16⟩
      rw [decide_eq_true (rfl : x = x)]
      have B16 := Lib.hid (B15.out.trans (hb16.mono B15.out.size))
      have O816 := Lib.hid (own_low' O815.out hb16)
      have Ew16 := Lib.hid (Ew15.out.old hb16)
      clear hb16
      obtain ⟨gg, hgg, hgl⟩ := own_gg O816.out lg.out
      go_wp2_with fail
      refine (markStringS_row gg 1 _ ng cg _ _ _ O816.out (by omega) (by omega) (by omega) hgg).mono ?_
      rintro e w17 ⟨rfl, o17, hg17⟩
      have B17 := Lib.hid (grown_below B16.out hg17 B16.out.size (Nat.le_trans B7.out.size hgl))
      have E17 := Lib.hid (StAt.own' o17 (markSt_len 1 ng))
      have Ew17 := Lib.hid (st_other Ew16.out hg17 (fun x e => by have := lw.out x e; have := lt6.out.1; have := lt6.out.2; have := lt7.out.1; have := lt7.out.2; omega))
      clear hg17 o17
      go_wp2_with fail
      refine (heldStringS_any 1 _ ng cg _ E17.out (by omega) (by omega) (by omega)).mono ?_
      rintro e w18 ⟨rfl, hb18⟩
      have B18 := Lib.hid (B17.out.trans (hb18.mono B17.out.size))
      have E18 := Lib.hid (E17.out.old hb18)
      have Ew18 := Lib.hid (Ew17.out.old hb18)
      clear hb18
      go_wp2_with fail
      refine (toItemS_any a len cap l _ (H.out.old B18.out).1 HN.out n1).mono ?_
      rintro e w19 ⟨⟨g19, rfl, o19⟩, hb19⟩
      have B19 := Lib.hid (B18.out.trans (hb19.mono B18.out.size))
      have E19 := Lib.hid (E18.out.old hb19)
      have Ew19 := Lib.hid (Ew18.out.old hb19)
      have X19 := Lib.hid (ItAt.own o19 HN.out)
      clear o19 hb19
      go_wp2_with fail
      refine (toItemS_any a' len' cap' l' _ (H'.out.old B19.out).1 HN'.out n2).mono ?_
      rintro e w20 ⟨⟨g20, rfl, o20⟩, hb20⟩
      have B20 := Lib.hid (B19.out.trans (hb20.mono B19.out.size))
      have E20 := Lib.hid (E19.out.old hb20)
      have Ew20 := Lib.hid (Ew19.out.old hb20)
      have X20 := Lib.hid (X19.out.old hb20)
      have Y20 := Lib.hid (ItAt.own o20 HN'.out)
      clear o20 hb20
      go_wp2_with fail
      refine (ci.out _ _ _ X20.out Y20.out).mono ?_
      rintro e w21 ⟨⟨ah, nh, ch, rfl, oh, hlh, _, _⟩, hb21⟩
      have B21 := Lib.hid (B20.out.trans (hb21.mono B20.out.size))
      have hnh : nh = ng := by rw [← hlh]; exact HW.out
      subst hnh
      have E21 := Lib.hid (E20.out.old hb21)
      have Ew21 := Lib.hid (Ew20.out.old hb21)
      have X21 := Lib.hid (StAt.own' oh hlh)
      clear oh hlh hb21
      go_wp2_with fail
      refine (eqStringS_any _ _ nh ch nh cw x x _ X21.out HW.out Ew21.out HW.out (by unfold maxLen; omega) (by unfold maxLen; omega)).mono ?_
      rintro e w22 ⟨rfl, hb22⟩
      rw [decide_eq_true (rfl : x = x)]
      have B22 := Lib.hid (B21.out.trans (hb22.mono B21.out.size))
      have E22 := Lib.hid (E21.out.old hb22)
      clear hb22
      go_wp2_with fail
      refine (heldStringS_any 1 _ nh cg _ E22.out (by omega) (by omega) (by omega)).mono ?_
      rintro e w23 ⟨rfl, hb23⟩
      have B23 := Lib.hid (B22.out.trans (hb23.mono B22.out.size))
      go_wp2
      go_ret
      exact ⟨rfl, B23.out⟩
    · go_wp2
      go_ret
      exact ⟨rfl, B2.out⟩
  · go_wp2
    go_ret
    exact ⟨rfl, hb1⟩

theorem fnExactGoneKeys_own : ownKnob Try.prog.godebug = none := by kernel_rfl
theorem fnExactGoneKeys_laidOut : laidOutB Try.prog = true := by kernel_rfl
set_option maxRecDepth 100000 in
theorem fnExactGoneKeys_lifted (os : Os) (started : os.Started) (H : Type) (enc : TypeId × Value → H) :
    ReturnsInHanded {} Try.checked os 13 .any (Rows.fnExactGoneKeysSpec.pre6 enc Try.prog Try.f13 Rows.fnExactGoneKeysRow.domain false) (Rows.fnExactGoneKeysSpec.post enc Try.prog Try.f13 false true false false) := by
  refine returnsInHanded_of_change (C := Try.checked) fnExactGoneKeys_own started (by kernel_rfl) Try.func13
    (ChangeSpec.witness6 (enc := enc) (C := Try.checked) false ⟨#[], #[.slice none 0 0, .slice none 0 0], []⟩ 8 (by kernel_rfl) (by kernel_rfl) (by kernel_rfl) (by kernel_rfl)) ?_
  intro W base args ds gs before hval0 hW hcnd _
  have hval : ∀ (j : Nat) t v, Try.f13.params[j]? = some t → args[j]? = some v → Value.okWide Try.prog W .any base t v := hval0
  have hW' := hW
  obtain ⟨p, q, hA0, hV, rfl, hfz, hnd⟩ := hW
  have hA : DataW.TrodAll enc Try.prog W 0 (fun _ => true) true Try.f13.params.toList args.toList ds p := hA0
  rw [Try.params13] at hA hval
  obtain ⟨v0, vs0, d0, ds0, p0, q0, hargs0, rfl, rfl, h0, r0⟩ := trodAll_cons hA
  obtain ⟨v1, vs1, d1, ds1, p1, q1, hargs1, rfl, rfl, h1, r1⟩ := trodAll_cons r0
  obtain ⟨rfl, rfl, rfl⟩ := trodAll_nil r1
  obtain rfl := hargs1
  obtain rfl : args = #[v0, v1] := by cases args; simp_all
  obtain ⟨rfl, rfl⟩ := trodVars_none hV
  have k0 := h0
  have lt0 : ∀ x ∈ p0, x.block < W.heap.size := by obtain ⟨m, hm⟩ := k0; exact DataW.trod_lt m _ _ _ hm
  have k1 := h1
  have lt1 : ∀ x ∈ p1, x.block < W.heap.size := by obtain ⟨m, hm⟩ := k1; exact DataW.trod_lt m _ _ _ hm
  obtain ⟨a0, len0, cap0, rfl⟩ := okWide_slice Try.underlying22 (hval 0 22 v0 rfl rfl)
  obtain ⟨z0, w0⟩ : ∃ zs, ItArg W a0 len0 zs := by
    obtain ⟨fuel, hf⟩ := h0
    exact it_arg Try.underlying22 Try.underlying31 (by kernel_rfl) rfl rfl rfl rfl (by kernel_rfl) (by kernel_rfl) (by kernel_rfl) (by kernel_rfl) (by kernel_rfl) (by kernel_rfl) (by kernel_rfl) (by kernel_rfl) (by simpa [Value.cells] using hf)
  obtain ⟨a1, len1, cap1, rfl⟩ := okWide_slice Try.underlying22 (hval 1 22 v1 rfl rfl)
  obtain ⟨z1, w1⟩ : ∃ zs, ItArg W a1 len1 zs := by
    obtain ⟨fuel, hf⟩ := h1
    exact it_arg Try.underlying22 Try.underlying31 (by kernel_rfl) rfl rfl rfl rfl (by kernel_rfl) (by kernel_rfl) (by kernel_rfl) (by kernel_rfl) (by kernel_rfl) (by kernel_rfl) (by kernel_rfl) (by kernel_rfl) (by simpa [Value.cells] using hf)
  clear hA0 hval0
  refine (fnExactGoneKeys_walk a0 len0 cap0 z0 a1 len1 cap1 z1 W w0 w1).mono fun e W' ⟨he, bel⟩ => ?_
  subst he
  exact ⟨_, rfl, _, _, _, [], _, [], hW', trodAll_mk1 (shut_bool Try.underlying4 _), (trodAll_cons_mk (Below.trod fnExactGoneKeys_laidOut (by kernel_rfl) (of_decide_eq_true (by kernel_rfl)) k0 bel lt0) (trodAll_cons_mk (Below.trod fnExactGoneKeys_laidOut (by kernel_rfl) (of_decide_eq_true (by kernel_rfl)) k1 bel lt1) trodAll_mk0)), rfl, bel.frame _, fun h => by cases h⟩

theorem fnExactGoneKeys_closed : joinedFacts Try.pinned.checked.prog 13 Try.f13 Rows.fnExactGoneKeysSpec Rows.fnExactGoneKeysRow = true := by
  show joinedFacts Try.prog 13 Try.f13 Rows.fnExactGoneKeysSpec Rows.fnExactGoneKeysRow = true
  simp only [joinedFacts, Bool.and_eq_true]
  repeat' apply And.intro
  all_goals first | with_reducible exact head_may | (rw [head_final]; kernel_rfl) | (rw [head_make]; kernel_rfl) | as_aux_lemma => kernel_rfl
theorem fnExactGoneKeys_over : Rows.fnExactGoneKeysRow.holds Try.pinned (OpenSpec.ofChange Rows.fnExactGoneKeysSpec) :=
  OpenClaim.holds_of_wide 13 Try.f13 rfl rfl rfl rfl rfl rfl rfl ⟨rfl, rfl, rfl, rfl, rfl⟩ rfl rfl rfl rfl rfl (by kernel_rfl) Try.func13 fnExactGoneKeys_closed
    (of_decide_eq_true (by kernel_rfl)) (by unfold Func.isWrapper; first | (rw [if_pos (by decide +kernel)]; kernel_rfl) | (rw [if_neg (by decide +kernel)]; exact ⟨rfl, rfl⟩))
    (fun os started H enc _ => fnExactGoneKeys_lifted os started H enc)

/-- The statement. -/
theorem fnExactGoneKeys_holds : Rows.FnExactGoneKeysSaid := fnExactGoneKeys_over

end Go.Proofs.Ytldllhfadihmeaa
