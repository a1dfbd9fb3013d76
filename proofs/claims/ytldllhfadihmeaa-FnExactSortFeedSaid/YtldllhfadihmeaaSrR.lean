/- SortFeed of the reference: the walk (in work). -/
import Derived.Test.YtldllhfadihmeaaSrE
import Derived.Test.YtldllhfadihmeaaFvS
import Derived.Test.YtldllhfadihmeaaRegInv
import Derived.Deep.QuietTactic
import Derived.BigQuiet
import Derived.StillTailTactics
import Derived.Deep.CutBlock
import Derived.Deep.CutRange
import Derived.Deep.LoopGhost
namespace Go.Proofs.Ytldllhfadihmeaa
open Go.RowKit

theorem ItAt.at {w : World} {b off : Nat} {l : List It} (h : ItAt w (some ⟨b, off, none⟩) l) (k : Nat) (hk : k < l.length) : w.cell? ⟨b, off + k * 4, none⟩ = some (.string l[k].key) ∧ w.cell? ⟨b, off + k * 4 + 1, none⟩ = some (.string l[k].title) ∧ w.cell? ⟨b, off + k * 4 + 2, none⟩ = some (.string l[k].body) ∧ w.cell? ⟨b, off + k * 4 + 3, none⟩ = some (.int .i64 l[k].day) := by
  obtain ⟨b', off', hb, h0, h1, h2, h3⟩ := h k hk
  injection hb with hb
  injection hb with e1 e2
  subst e1
  subst e2
  exact ⟨h0, h1, h2, h3⟩
theorem SrTo.zz (l : List It) : Srt (l.take 0) [] := by rw [List.take_zero]; exact Srt.nil

set_option maxRecDepth 100000 in
set_option maxHeartbeats 2000000 in
theorem spec_sortFeed (a : Option Addr) (n cap : Nat) (l : List It) (w : World) (h : ItAt w a l) (hn : l.length = n) (hm : n ≤ maxLen) (hs : ∀ i ∈ l, i.key.size ≤ maxLen ∧ i.title.size ≤ maxLen ∧ i.body.size ≤ maxLen) :
    Calls Try.prog 16 #[.slice a n cap] w (ItsGiven (sortF l) w) := by
  obtain ⟨ti, hti, iz0, iz1, iz2⟩ := info_parts Try.infoI
  have hmo : Try.prog.follows .mixedOrders = true := by kernel_rfl
  have c1 := Lib.hid (fun w h => spec_feedValid a n cap l w h hn hm hs)
  unfold maxLen at hm
  have HN := Lib.hid hn
  have HE := Lib.hid h
  have HB0 : Hid (Below w.heap.size w (w.alloc (.cells #[] 34))) := (Below.refl _ _).alloc (Nat.le_refl _) _
  have OM := Lib.hid (own_made4 w w.heap.size (Nat.le_refl _))
  clear hn h hs
  cases hv : feedV l
  · rw [hv] at c1
    have E := Lib.hid (sortF_bad hv)
    clear hv
    go_enter Try.func16, Try.ntmps16
    go_wp2
    go_loopw [3, 4] (fun o i wr => i = .int .i64 0 ∧ o = .slice (some ⟨w.heap.size, 0, none⟩) 0 0 ∧ wr = w.alloc (.cells #[] 34)) (fun _ _ _ => 0)
    case atStart => exact ⟨rfl, rfl, rfl⟩
    case round =>
      obtain ⟨rfl, rfl, rfl⟩ := hrel
      by_cases h0 : 0 < n
      · go_wp2_with fail
        refine (c1.out _ (HE.out.old HB0.out)).mono ?_
        rintro e w2 ⟨rfl, hb2⟩
        have own2 := own_low' OM.out hb2
        have hz2 := HB0.out.trans (hb2.mono HB0.out.size)
        go_wp2
        go_ret
        exact its_given E.out _ 0 0 own2 rfl hz2
      · go_wp2
        go_ret
        exact its_given E.out _ 0 0 OM.out rfl HB0.out
  · rw [hv] at c1
    have HV := Lib.hid hv
    have h8 : n ≤ 8 := by rw [← HN.out]; exact ((feedV_iff l).1 hv).1
    clear hv
    go_enter Try.func16, Try.ntmps16
    go_wp2
    go_loopw [3, 4] (fun o i wr => ∃ (k cp gq : Nat) (q : List It), i = .int .i64 k ∧ o = .slice (some ⟨gq, 0, none⟩) k cp ∧ k ≤ n ∧ q.length = k ∧ Hid (Srt (l.take k) q) ∧ wr.ownsRow w.heap.size 34 4 (.slice (some ⟨gq, 0, none⟩) k cp) k (flatI q) ∧ Below w.heap.size w wr) (fun _ i _ => n - (intOf i).toNat)
    case atStart => exact ⟨0, 0, w.heap.size, [], rfl, rfl, by omega, rfl, SrTo.zz l, OM.out, HB0.out⟩
    case round =>
      obtain ⟨k, cp, gq, q, rfl, rfl, hk, hq, ho, hown, hbr⟩ := hrel
      have HQ := Lib.hid hq
      clear hq
      by_cases hlt : k < n
      · have hkl : k < l.length := by rw [HN.out]; exact hlt
        have HEr := Lib.hid (HE.out.old hbr)
        have HTk := Lib.hid (take_snocI l k hkl)
        obtain ⟨bk, off, ha, -⟩ := HEr.out k hkl
        subst ha
        have HC := Lib.hid (fun w' hb => ItAt.at (HEr.out.old (w' := w') hb) k hkl)
        generalize l[k] = x at *
        have HO0 := Lib.hid hown
        go_wp2_with fail
        refine (c1.out _ HEr.out).mono ?_
        rintro e w2 ⟨rfl, hb2⟩
        have hz2 := hbr.trans (hb2.mono hbr.size)
        have own2 := own_low' HO0.out hb2
        have HE2 := Lib.hid (HE.out.old hz2)
        clear HEr
        have H2 := Lib.hid own2
        have EQ2 := Lib.hid (ItAt.own own2 HQ.out)
        go_upto_block 2 with (fail)
        go_cut [5] from 7 to 49 (fun t wx => ∃ p : Nat, t = .int .i64 p ∧ p ≤ k ∧ Hid (∀ j (hj : j < q.length), p ≤ j → befI x q[j] = true) ∧ Hid (∀ (_ : 0 < p) (h : p - 1 < q.length), befI x (q[p - 1]'h) = false) ∧ Below w2.heap.size w2 wx)
        case first =>
          go_wp2_with fail
          go_loopg [5] k (fun gn t wx => ∃ p : Nat, t = .int .i64 p ∧ p ≤ k ∧ p ≤ gn ∧ Hid (∀ j (hj : j < q.length), p ≤ j → befI x q[j] = true) ∧ Below w2.heap.size w2 wx)
          case atStart => exact ⟨k, rfl, by omega, by omega, (fun j hj hjk => by have := HQ.out; omega), Below.refl _ _⟩
          case round =>
            obtain ⟨p, rfl, hpk, hpg, hall, hbx⟩ := hrel
            by_cases hp0 : 0 < p
            · obtain ⟨r, rfl⟩ : ∃ r, p = r + 1 := ⟨p - 1, by omega⟩
              have hrk : r < k := by omega
              have hpl : r < q.length := by rw [HQ.out]; omega
              obtain ⟨p0, p1, p2, p3⟩ := HC.out _ (hb2.trans (hbx.mono hb2.size))
              obtain ⟨q0, q1, q2, q3⟩ := (EQ2.out.old hbx).at r hpl
              have HN1 := Lib.hid (fun (e : befI x q[r] = true) j (hj : j < q.length) (hle : r ≤ j) => show befI x q[j] = true from by
                by_cases h : r + 1 ≤ j
                · exact hall.out j hj h
                · obtain rfl : j = r := by omega
                  exact e)
              have HM1 := Lib.hid (fun (e : befI x q[r] = false) (_ : 0 < r + 1) (h : r + 1 - 1 < q.length) => show befI x q[r] = false from e)
              have HAl := Lib.hid hall.out
              have cb := Lib.hid (fun W => before_any x q[r] W)
              generalize q[r] = y at *
              simp only [Nat.zero_add] at q0 q1 q2 q3
              generalize befI x y = bb at *
              have hpi : (0 : Int) < ((r + 1 : Nat) : Int) := by omega
              have hpd : decide ((0 : Int) < (r : Int) + 1) = true := by rw [decide_eq_true_eq]; omega
              have hwr : IntKind.i64.wrap (r : Int) = (r : Int) := IntWalk.i64_in _ (by omega)
              go_wp2_with fail
              go_still_tail 12, (by kernel_rfl)
              change wpList _ _ _ _ _ wr.drew
              have hbd : Below w2.heap.size w2 wr.drew := hbx.drew
              generalize wr.drew = wd at *
              clear p0 p1 p2 p3 q0 q1 q2 q3
              go_wp2_with fail
              refine (cb.out _).mono ?_
              rintro e w4 ⟨rfl, hb4⟩
              have hb24 := hbd.trans (hb4.mono hbd.size)
              cases bb
              · have HM2 := Lib.hid (HM1.out rfl)
                go_wp2
                go_meet
                exact ⟨r + 1, by go_num, hpk, HAl.out, HM2.out, hb24⟩
              · have HN2 := Lib.hid (HN1.out rfl)
                go_wp2
                go_roundg (gk - 1)
                case rel => exact ⟨r, rfl, by omega, by omega, HN2.out, hb24⟩
                case measure => omega
            · have HAl := Lib.hid hall.out
              have hpd : decide ((0 : Int) < (p : Int)) = false := by simpa using hp0
              go_wp2_with fail
              go_quiet (fail)
              go_wp2
              go_meet
              exact ⟨p, rfl, hpk, HAl, (fun h => absurd h hp0), below_drewN' hbx nq⟩
        obtain ⟨p, rfl, hpk, Hall, Hone, hbc⟩ := hcut
        have hzc := hz2.trans (hbc.mono hz2.size)
        have HOc := Lib.hid (own_low' H2.out hbc)
        have HXc := Lib.hid (HC.out _ (hb2.trans (hbc.mono hb2.size)))
        have hcp := own_cap HOc.out
        obtain ⟨hcp1, hcp2⟩ := hcp
        unfold maxLen at hcp2
        have hgq := HOc.out.lt gq rfl
        have hpc : p ≤ cp := by omega
        obtain ⟨oo, hoo⟩ : ∃ oo, oo = if cp = p then 0 else p * 4 := ⟨_, rfl⟩
        have HOo := Lib.hid (fun w' (hG : wc.grownBy w' none) => hoo ▸ cells_from ((own_any0 HOc.out hG).cells (g := gq) rfl) p cp (by rw [HQ.out]; exact hpk) (by rw [HQ.out]; exact hcp1))
        have HO1 := Lib.hid (fun (e : cp = p) => show oo = 0 by rw [hoo, if_pos e])
        have HO2 := Lib.hid (fun (e : ¬ cp = p) => show oo = p * 4 by rw [hoo, if_neg e])
        clear hoo
        have HS1 := Lib.hid (HTk.out ▸ Srt.ins ho.out x p (by rw [HQ.out]; exact hpk) Hall.out (fun h => Hone.out h (by rw [HQ.out]; omega)))
        have hw2 := hzc.size
        clear own2 hown Hall Hone ho
        go_wp2_with fail
        rename_i K0 hK0
        refine wp_region_sd hmo ⟨wc.heap.size, k, p, gq, cp, oo, q, x, .slice (some ⟨bk, off, none⟩) n cap, .int .i64 k, .pointer (some ⟨bk, off + k * 4, none⟩)⟩ 35 rfl rfl ?_ ?_
        · rintro L a w' i ⟨u, v3, rfl, hsz, hG, hC1, hC2, hC3, h3, h3', hF⟩ hi K hK
          have H3 := Lib.hid h3
          clear hK0 h3 h3'
          have hi16 : i < 16 := ready_ltG hi
          have h0f := getD_notG (by omega) (mem_ready.1 hi).1
          have hBs : wc.heap.size ≤ w'.heap.size := hG.size
          have hF2 : ∀ j, L[j]?.getD false = true → DsOf ⟨wc.heap.size, k, p, gq, cp, oo, q, x, .slice (some ⟨bk, off, none⟩) n cap, .int .i64 k, .pointer (some ⟨bk, off + k * 4, none⟩)⟩ L j (u j) w' := fun j h => hF j (by simpa using h)
          have h15 : i < 15 → L.getD 15 false = false := fun h => by
            cases h9 : L.getD 15 false
            · rfl
            · rw [hC3 h9 i h] at h0f; cases h0f
          obtain rfl | rfl | rfl | rfl | rfl | rfl | rfl | rfl | rfl | rfl | rfl | rfl | rfl | rfl | rfl | rfl : i = 0 ∨ i = 1 ∨ i = 2 ∨ i = 3 ∨ i = 4 ∨ i = 5 ∨ i = 6 ∨ i = 7 ∨ i = 8 ∨ i = 9 ∨ i = 10 ∨ i = 11 ∨ i = 12 ∨ i = 13 ∨ i = 14 ∨ i = 15 := by omega
          · have hd := ready_depG hi rfl
            simp [Region.binds] at hd
            refine wpOp_of rfl rfl ?_
            simp only [frmS, List.setIfInBounds_toArray, List.set_cons_succ, List.set_cons_zero]
            go_simp
            have hga := World.grownBy_alloc w' (.cells #[] 34) none
            have hzz := hK _ _ (SdInv.step (t := _) (s := 35) (i := 0) (v := .slice (some ⟨w'.heap.size, 0, none⟩) 0 0) (w' := w'.alloc (.cells #[] 34)) hsz (by omega) h0f hC1 hC2 hC3 H3.out (fun e => by cases e) (fun e => by cases e) (fun _ => ⟨w'.heap.size, rfl, heap_alloc_new _ _, hBs, own_new4G w' _ hBs⟩) (fun j _ hl => (hF j hl).kept hga) (grown_trans hG hga))
            simp only [frmS, List.setIfInBounds_toArray, List.set_cons_succ, List.set_cons_zero, reduceIte, Nat.reduceEqDiff] at hzz
            exact hzz
          · have hd := ready_depG hi rfl
            simp [Region.binds] at hd
            have e3 : v3 = .slice (some ⟨gq, 0, none⟩) k cp := H3.out (h15 (by omega))
            refine wpOp_of rfl rfl ?_
            simp only [frmS, List.setIfInBounds_toArray, List.set_cons_succ, List.set_cons_zero]
            rw [e3]
            go_simp
            have hzz := hK _ _ (SdInv.step (t := _) (s := 35) (i := 1) (v := .slice (some ⟨gq, 0, none⟩) k cp) (w' := w') hsz (by omega) h0f hC1 hC2 hC3 H3.out (fun e => by cases e) (fun e => by cases e) rfl (fun j _ hl => (hF j hl).kept (World.grownBy.refl w' none)) hG)
            simp only [frmS, List.setIfInBounds_toArray, List.set_cons_succ, List.set_cons_zero, reduceIte, Nat.reduceEqDiff, e3] at hzz
            exact hzz
          · have hd := ready_depG hi rfl
            simp [Region.binds] at hd
            refine wpOp_of rfl rfl ?_
            simp only [frmS, List.setIfInBounds_toArray, List.set_cons_succ, List.set_cons_zero]
            go_simp
            have hzz := hK _ _ (SdInv.step (t := _) (s := 35) (i := 2) (v := .int .i64 p) (w' := w') hsz (by omega) h0f hC1 hC2 hC3 H3.out (fun e => by cases e) (fun e => by cases e) rfl (fun j _ hl => (hF j hl).kept (World.grownBy.refl w' none)) hG)
            simp only [frmS, List.setIfInBounds_toArray, List.set_cons_succ, List.set_cons_zero, reduceIte, Nat.reduceEqDiff] at hzz
            exact hzz
          · have hd := ready_depG hi rfl
            simp [Region.binds] at hd
            obtain ⟨hd1, hd2⟩ := hd
            have e1 : u 1 = .slice (some ⟨gq, 0, none⟩) k cp := hF2 1 hd1
            have e2 : u 2 = .int .i64 p := hF2 2 hd2
            refine wpOp_of rfl rfl ?_
            simp only [frmS, List.setIfInBounds_toArray, List.set_cons_succ, List.set_cons_zero]
            rw [e1, e2]
            go_simp
            have hzz := hK _ _ (SdInv.step (t := _) (s := 35) (i := 3) (v := .slice (some ⟨gq, 0, none⟩) p cp) (w' := w') hsz (by omega) h0f hC1 hC2 hC3 H3.out (fun e => by cases e) (fun e => by cases e) rfl (fun j _ hl => (hF j hl).kept (World.grownBy.refl w' none)) hG)
            simp only [frmS, List.setIfInBounds_toArray, List.set_cons_succ, List.set_cons_zero, reduceIte, Nat.reduceEqDiff, e1, e2] at hzz
            exact hzz
          · have hd := ready_depG hi rfl
            simp [Region.binds] at hd
            obtain ⟨hd0, hd3⟩ := hd
            obtain ⟨b1, e0, hb1, hbB, ho1⟩ := hF2 0 hd0 h0f
            have hbB : wc.heap.size ≤ b1 := hbB
            have e3 : u 3 = .slice (some ⟨gq, 0, none⟩) p cp := hF2 3 hd3
            have hlq := cells_take ((own_any0 HOc.out hG).cells (g := gq) rfl) p
            refine wpOp_of rfl rfl ?_
            simp only [frmS, List.setIfInBounds_toArray, List.set_cons_succ, List.set_cons_zero]
            rw [e0, e3]
            refine wp_append_own w' (.tmp 35) (.tmp 38) 24 rfl (wc.heap.size) 34 ti _ 4 56 Try.underlying24 hti iz0 iz1 iz2 rfl (by decide) (.slice (some ⟨b1, 0, none⟩) 0 0) 0 [] (by simp [Act.eval]) ho1 ⟨gq, 0, none⟩ p cp (flatI (q.take p)) (by simp [Act.eval]) (by rw [flatI_len, List.length_take, HQ.out, Nat.min_eq_left hpk]) hlq (flatI_one _) (by unfold maxLen; omega) (by omega) hBs ?_
            intro v' w3 hown3 hgrow3 _
            have hgr1 : w'.grownBy w3 (some b1) := hgrow3
            rw [Nat.zero_add, List.nil_append] at hown3
            go_simp
            have hzz := hK _ _ (SdInv.step (t := _) (s := 35) (i := 4) (v := v') (w' := w3) hsz (by omega) h0f hC1 hC2 hC3 H3.out (fun e => by cases e) (fun e => by cases e) (fun _ => hown3) (fun j hj hl => by
              match j, hj with
              | 0, _ => exact fun h2 => by rw [getD_set_hereG (by omega)] at h2; cases h2
              | 1, _ => exact hF 1 hl
              | 2, _ => exact hF 2 hl
              | 3, _ => exact hF 3 hl
              | 4, hj => exact absurd rfl hj
              | 5, _ => exact hF 5 hl
              | 6, _ => exact hF 6 hl
              | 7, _ => exact hF 7 hl
              | 8, _ => exact hF 8 hl
              | 9, _ =>
                intro h2
                obtain ⟨b, z1, z2, z3⟩ := hF 9 hl (getD_set_noG h2)
                exact ⟨b, z1, heap_kept1 hgr1 z2 (fun e => by rw [e] at z2; have := hb1.symm.trans z2; simp at this), z3⟩
              | 10, _ => exact absurd (hC1 hl) (by rw [h0f]; decide)
              | 11, _ => exact hF 11 hl
              | 12, _ => exact hF 12 hl
              | 13, _ => exact hF 13 hl
              | 14, _ => exact absurd (hC1 (hC2 hl)) (by rw [h0f]; decide)
              | _ + 15, _ => trivial) (grown_own0 hG hgr1 (fun j e => by injection e with e; omega)))
            simp only [frmS, List.setIfInBounds_toArray, List.set_cons_succ, List.set_cons_zero, reduceIte, Nat.reduceEqDiff, e0, e3] at hzz
            exact hzz
          · have hd := ready_depG hi rfl
            simp [Region.binds] at hd
            refine wpOp_of rfl rfl ?_
            simp only [frmS, List.setIfInBounds_toArray, List.set_cons_succ, List.set_cons_zero]
            go_simp
            have hzz := hK _ _ (SdInv.step (t := _) (s := 35) (i := 5) (v := .slice (some ⟨bk, off, none⟩) n cap) (w' := w') hsz (by omega) h0f hC1 hC2 hC3 H3.out (fun e => by cases e) (fun e => by cases e) rfl (fun j _ hl => (hF j hl).kept (World.grownBy.refl w' none)) hG)
            simp only [frmS, List.setIfInBounds_toArray, List.set_cons_succ, List.set_cons_zero, reduceIte, Nat.reduceEqDiff] at hzz
            exact hzz
          · have hd := ready_depG hi rfl
            simp [Region.binds] at hd
            refine wpOp_of rfl rfl ?_
            simp only [frmS, List.setIfInBounds_toArray, List.set_cons_succ, List.set_cons_zero]
            go_simp
            have hzz := hK _ _ (SdInv.step (t := _) (s := 35) (i := 6) (v := .int .i64 k) (w' := w') hsz (by omega) h0f hC1 hC2 hC3 H3.out (fun e => by cases e) (fun e => by cases e) rfl (fun j _ hl => (hF j hl).kept (World.grownBy.refl w' none)) hG)
            simp only [frmS, List.setIfInBounds_toArray, List.set_cons_succ, List.set_cons_zero, reduceIte, Nat.reduceEqDiff] at hzz
            exact hzz
          · have hd := ready_depG hi rfl
            simp [Region.binds] at hd
            obtain ⟨hd5, hd6⟩ := hd
            have e5 : u 5 = .slice (some ⟨bk, off, none⟩) n cap := hF2 5 hd5
            have e6 : u 6 = .int .i64 k := hF2 6 hd6
            refine wpOp_of rfl rfl ?_
            simp only [frmS, List.setIfInBounds_toArray, List.set_cons_succ, List.set_cons_zero]
            rw [e5, e6]
            go_simp
            have hzz := hK _ _ (SdInv.step (t := _) (s := 35) (i := 7) (v := .pointer (some ⟨bk, off + k * 4, none⟩)) (w' := w') hsz (by omega) h0f hC1 hC2 hC3 H3.out (fun e => by cases e) (fun e => by cases e) rfl (fun j _ hl => (hF j hl).kept (World.grownBy.refl w' none)) hG)
            simp only [frmS, List.setIfInBounds_toArray, List.set_cons_succ, List.set_cons_zero, reduceIte, Nat.reduceEqDiff, e5, e6] at hzz
            exact hzz
          · have hd := ready_depG hi rfl
            simp [Region.binds] at hd
            have e7 : u 7 = .pointer (some ⟨bk, off + k * 4, none⟩) := hF2 7 hd
            obtain ⟨p0, p1, p2, p3⟩ := cells4_grown HXc.out hG
            refine wpOp_of rfl rfl ?_
            simp only [frmS, List.setIfInBounds_toArray, List.set_cons_succ, List.set_cons_zero]
            rw [e7]
            go_simp
            have hzz := hK _ _ (SdInv.step (t := _) (s := 35) (i := 8) (v := .agg #[.string x.key, .string x.title, .string x.body, .int .i64 x.day]) (w' := w') hsz (by omega) h0f hC1 hC2 hC3 H3.out (fun e => by cases e) (fun e => by cases e) rfl (fun j _ hl => (hF j hl).kept (World.grownBy.refl w' none)) hG)
            simp only [frmS, List.setIfInBounds_toArray, List.set_cons_succ, List.set_cons_zero, reduceIte, Nat.reduceEqDiff, e7] at hzz
            exact hzz
          · have hd := ready_depG hi rfl
            simp [Region.binds] at hd
            have e8 : u 8 = .agg #[.string x.key, .string x.title, .string x.body, .int .i64 x.day] := hF2 8 hd
            refine wpOp_of rfl rfl ?_
            simp only [frmS, List.setIfInBounds_toArray, List.set_cons_succ, List.set_cons_zero]
            rw [e8]
            go_simp
            have hga := World.grownBy_alloc w' (.cells #[.string x.key, .string x.title, .string x.body, .int .i64 x.day] 34) none
            have hzz := hK _ _ (SdInv.step (t := _) (s := 35) (i := 9) (v := .slice (some ⟨w'.heap.size, 0, none⟩) 1 1) (w' := w'.alloc (.cells #[.string x.key, .string x.title, .string x.body, .int .i64 x.day] 34)) hsz (by omega) h0f hC1 hC2 hC3 H3.out (fun e => by cases e) (fun e => by cases e) (fun _ => ⟨w'.heap.size, rfl, heap_alloc_new _ _, hBs⟩) (fun j _ hl => (hF j hl).kept hga) (grown_trans hG hga))
            simp only [frmS, List.setIfInBounds_toArray, List.set_cons_succ, List.set_cons_zero, reduceIte, Nat.reduceEqDiff, e8] at hzz
            exact hzz
          · have hd := ready_depG hi rfl
            simp [Region.binds] at hd
            obtain ⟨hd4, hd9, _⟩ := hd
            have ho4 : w'.ownsRow wc.heap.size 34 4 (u 4) p (flatI (q.take p)) := hF2 4 hd4 h0f
            obtain ⟨b9, e9, hb9, _⟩ := hF2 9 hd9 h0f
            refine wpOp_of rfl rfl ?_
            simp only [frmS, List.setIfInBounds_toArray, List.set_cons_succ, List.set_cons_zero]
            rw [e9]
            refine wp_append_own w' (.tmp 39) (.tmp 44) 24 rfl (wc.heap.size) 34 ti _ 4 56 Try.underlying24 hti iz0 iz1 iz2 rfl (by decide) (u 4) p (flatI (q.take p)) (by simp [Act.eval]) ho4 ⟨b9, 0, none⟩ 1 1 (flatI [x]) (by simp [Act.eval]) rfl (items_rowG hb9) (flatI_one _) (by unfold maxLen; omega) (by omega) hBs ?_
            intro v' w3 hown3 hgrow3 _
            rw [← flatI_app] at hown3
            have hbk := fun k e => (ho4.lt k e).1
            go_simp
            have hzz := hK _ _ (SdInv.step (t := _) (s := 35) (i := 10) (v := v') (w' := w3) hsz (by omega) h0f hC1 hC2 hC3 H3.out (fun _ => by simpa using hd4) (fun e => by cases e) (fun _ => hown3) (fun j hj hl => by
              have h4t : L.getD 4 false = true := by simpa using hd4
              match j, hj with
              | 0, _ => exact fun h2 => by rw [getD_set_true h4t] at h2; cases h2
              | 1, _ => exact hF 1 hl
              | 2, _ => exact hF 2 hl
              | 3, _ => exact hF 3 hl
              | 4, _ => exact fun h2 => by rw [getD_set_hereG (by omega)] at h2; cases h2
              | 5, _ => exact hF 5 hl
              | 6, _ => exact hF 6 hl
              | 7, _ => exact hF 7 hl
              | 8, _ => exact hF 8 hl
              | 9, _ => exact fun h2 => by rw [getD_set_hereG (by omega)] at h2; cases h2
              | 10, hj => exact absurd rfl hj
              | 11, _ => exact hF 11 hl
              | 12, _ => exact hF 12 hl
              | 13, _ => exact hF 13 hl
              | 14, _ => exact absurd (hC2 hl) (by rw [h0f]; decide)
              | _ + 15, _ => trivial) (grown_own0 hG hgrow3 (fun j e => by have := hbk j e; omega)))
            simp only [frmS, List.setIfInBounds_toArray, List.set_cons_succ, List.set_cons_zero, reduceIte, Nat.reduceEqDiff, e9] at hzz
            exact hzz
          · have hd := ready_depG hi rfl
            simp [Region.binds] at hd
            have e3 : v3 = .slice (some ⟨gq, 0, none⟩) k cp := H3.out (h15 (by omega))
            refine wpOp_of rfl rfl ?_
            simp only [frmS, List.setIfInBounds_toArray, List.set_cons_succ, List.set_cons_zero]
            rw [e3]
            go_simp
            have hzz := hK _ _ (SdInv.step (t := _) (s := 35) (i := 11) (v := .slice (some ⟨gq, 0, none⟩) k cp) (w' := w') hsz (by omega) h0f hC1 hC2 hC3 H3.out (fun e => by cases e) (fun e => by cases e) rfl (fun j _ hl => (hF j hl).kept (World.grownBy.refl w' none)) hG)
            simp only [frmS, List.setIfInBounds_toArray, List.set_cons_succ, List.set_cons_zero, reduceIte, Nat.reduceEqDiff, e3] at hzz
            exact hzz
          · have hd := ready_depG hi rfl
            simp [Region.binds] at hd
            refine wpOp_of rfl rfl ?_
            simp only [frmS, List.setIfInBounds_toArray, List.set_cons_succ, List.set_cons_zero]
            go_simp
            have hzz := hK _ _ (SdInv.step (t := _) (s := 35) (i := 12) (v := .int .i64 p) (w' := w') hsz (by omega) h0f hC1 hC2 hC3 H3.out (fun e => by cases e) (fun e => by cases e) rfl (fun j _ hl => (hF j hl).kept (World.grownBy.refl w' none)) hG)
            simp only [frmS, List.setIfInBounds_toArray, List.set_cons_succ, List.set_cons_zero, reduceIte, Nat.reduceEqDiff] at hzz
            exact hzz
          · have hd := ready_depG hi rfl
            simp [Region.binds] at hd
            obtain ⟨hd11, hd12⟩ := hd
            have e11 : u 11 = .slice (some ⟨gq, 0, none⟩) k cp := hF2 11 hd11
            have e12 : u 12 = .int .i64 p := hF2 12 hd12
            refine wpOp_of rfl rfl ?_
            simp only [frmS, List.setIfInBounds_toArray, List.set_cons_succ, List.set_cons_zero]
            rw [e11, e12]
            have hzz := hK _ _ (SdInv.step (t := _) (s := 35) (i := 13) (v := .slice (some ⟨gq, oo, none⟩) (k - p) (cp - p)) (w' := w') hsz (by omega) h0f hC1 hC2 hC3 H3.out (fun e => by cases e) (fun e => by cases e) rfl (fun j _ hl => (hF j hl).kept (World.grownBy.refl w' none)) hG)
            simp only [frmS, List.setIfInBounds_toArray, List.set_cons_succ, List.set_cons_zero, reduceIte, Nat.reduceEqDiff, e11, e12] at hzz
            by_cases hcpe : cp = p
            · have hoo := HO1.out hcpe
              subst hoo
              subst hcpe
              simp only [Nat.sub_self, show k - cp = 0 by omega] at hzz
              go_simp
              exact hzz
            · have hoo := HO2.out hcpe
              subst hoo
              go_simp
              exact hzz
          · have hd := ready_depG hi rfl
            simp [Region.binds] at hd
            obtain ⟨hd10, hd13, _⟩ := hd
            have ho10 : w'.ownsRow wc.heap.size 34 4 (u 10) (p + 1) (flatI (q.take p ++ [x])) := hF2 10 hd10 h0f
            have e13 : u 13 = .slice (some ⟨gq, oo, none⟩) (k - p) (cp - p) := hF2 13 hd13
            have hlq := HOo.out w' hG
            refine wpOp_of rfl rfl ?_
            simp only [frmS, List.setIfInBounds_toArray, List.set_cons_succ, List.set_cons_zero]
            rw [e13]
            refine wp_append_own w' (.tmp 45) (.tmp 48) 24 rfl (wc.heap.size) 34 ti _ 4 56 Try.underlying24 hti iz0 iz1 iz2 rfl (by decide) (u 10) (p + 1) (flatI (q.take p ++ [x])) (by simp [Act.eval]) ho10 ⟨gq, oo, none⟩ (k - p) (cp - p) (flatI (q.drop p)) (by simp [Act.eval]) (by rw [flatI_len, List.length_drop, HQ.out]) hlq (flatI_one _) (by unfold maxLen; omega) (by omega) hBs ?_
            intro v' w3 hown3 hgrow3 _
            rw [← flatI_app, show p + 1 + (k - p) = k + 1 by omega] at hown3
            have hbk := fun k e => (ho10.lt k e).1
            go_simp
            have hzz := hK _ _ (SdInv.step (t := _) (s := 35) (i := 14) (v := v') (w' := w3) hsz (by omega) h0f hC1 hC2 hC3 H3.out (fun e => by cases e) (fun _ => by simpa using hd10) hown3 (fun j hj hl => by
              have h10t : L.getD 10 false = true := by simpa using hd10
              match j, hj with
              | 0, _ => exact fun h2 => by rw [getD_set_true (hC1 h10t)] at h2; cases h2
              | 1, _ => exact hF 1 hl
              | 2, _ => exact hF 2 hl
              | 3, _ => exact hF 3 hl
              | 4, _ => exact fun h2 => by rw [getD_set_true h10t] at h2; cases h2
              | 5, _ => exact hF 5 hl
              | 6, _ => exact hF 6 hl
              | 7, _ => exact hF 7 hl
              | 8, _ => exact hF 8 hl
              | 9, _ => exact fun h2 => by rw [getD_set_true h10t] at h2; cases h2
              | 10, _ => exact fun h2 => by rw [getD_set_hereG (by omega)] at h2; cases h2
              | 11, _ => exact hF 11 hl
              | 12, _ => exact hF 12 hl
              | 13, _ => exact hF 13 hl
              | 14, hj => exact absurd rfl hj
              | _ + 15, _ => trivial) (grown_own0 hG hgrow3 (fun j e => by have := hbk j e; omega)))
            simp only [frmS, List.setIfInBounds_toArray, List.set_cons_succ, List.set_cons_zero, reduceIte, Nat.reduceEqDiff, e13] at hzz
            exact hzz
          · have hd := ready_depG hi rfl
            simp [Region.binds] at hd
            have hall : ∀ j, j < 15 → L.getD j false = true := fun j hj => by
              obtain rfl | rfl | rfl | rfl | rfl | rfl | rfl | rfl | rfl | rfl | rfl | rfl | rfl | rfl | rfl : j = 0 ∨ j = 1 ∨ j = 2 ∨ j = 3 ∨ j = 4 ∨ j = 5 ∨ j = 6 ∨ j = 7 ∨ j = 8 ∨ j = 9 ∨ j = 10 ∨ j = 11 ∨ j = 12 ∨ j = 13 ∨ j = 14 := by omega
              all_goals (simp only [Array.getD_eq_getD_getElem?]; simp only [hd])
            refine wpOp_of rfl rfl ?_
            simp only [frmS, List.setIfInBounds_toArray, List.set_cons_succ, List.set_cons_zero]
            go_simp
            have hzz := hK _ _ (SdInv.store (t := _) (s := 35) hsz hG hall hF)
            simp only [frmS, List.setIfInBounds_toArray, List.set_cons_succ, List.set_cons_zero] at hzz
            exact hzz
        · rintro L a w6 ⟨u, v3, rfl, hsz6, hG6, _, _, _, _, h36, hF6⟩ hr0
          have hall := ready_nil (by
            intro i o ho
            have hi16 : i < 16 := (Array.getElem?_eq_some_iff.1 ho).1
            obtain rfl | rfl | rfl | rfl | rfl | rfl | rfl | rfl | rfl | rfl | rfl | rfl | rfl | rfl | rfl | rfl : i = 0 ∨ i = 1 ∨ i = 2 ∨ i = 3 ∨ i = 4 ∨ i = 5 ∨ i = 6 ∨ i = 7 ∨ i = 8 ∨ i = 9 ∨ i = 10 ∨ i = 11 ∨ i = 12 ∨ i = 13 ∨ i = 14 ∨ i = 15 := by omega
            all_goals (simp at ho; subst ho; simp)) (by simpa using hsz6) hr0
          have e14 : w6.ownsRow wc.heap.size 34 4 (u 14) (k + 1) (flatI (q.take p ++ [x] ++ q.drop p)) := hF6 14 (hall 14 (by simp))
          have e3 : v3 = u 14 := h36 (hall 15 (by simp))
          clear hall hr0 hF6 hsz6 h36
          have hz6 : Below w.heap.size w w6 := hzc.grown hG6 hzc.size (fun j e => by cases e)
          obtain ⟨g6, cap6, e6, _⟩ := e14.form (by omega)
          rw [e6] at e14
          have own6 := Lib.hid (own_base0 e14 hw2)
          have hlen : Hid ((q.take p ++ [x] ++ q.drop p).length = k + 1) := by
            show _ = _
            have := HQ.out
            simp only [List.length_append, List.length_take, List.length_drop, List.length_singleton]
            omega
          clear e14
          generalize q.take p ++ [x] ++ q.drop p = q6 at *
          show K0 _ _
          refine hK0 _ _ ?_
          clear hK0
          simp only [frmS, List.setIfInBounds_toArray, List.set_cons_succ, List.set_cons_zero, e3, e6]
          clear e3
          go_wp2
          go_roundw
          case rel => exact ⟨k + 1, cap6, g6, q6, by go_num, rfl, by omega, hlen.out, HS1.out, own6.out, hz6⟩
          case measure => simp [intOf]; omega
      · have E := Lib.hid (sortF_ok HV.out (show Srt l q by
          have := ho.out
          rwa [List.take_of_length_le (by rw [HN.out]; omega)] at this))
        go_wp2
        go_ret
        exact its_given E.out _ k cp hown HQ.out hbr
end Go.Proofs.Ytldllhfadihmeaa
