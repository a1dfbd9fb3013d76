/- ChangedItems of the program: chgI. -/
import Derived.Test.YtldllhfadihmeaaChg
import Derived.Test.YtldllhfadihmeaaCmpI
import Derived.Deep.AppendLies
import Derived.Deep.QuietTactic
import Derived.BigQuiet
namespace Go.Proofs.Ytldllhfadihmeaa
open Go.RowKit

theorem own_drewN' {w : World} {base t size n : Nat} {v : Value} {xs : List Value} (h : w.ownsRow base t size v n xs) (q : Nat) : (w.drewN q).ownsRow base t size v n xs := h
set_option maxRecDepth 100000 in
set_option maxHeartbeats 2000000 in
theorem impl_changedItems (a : Option Addr) (n cap : Nat) (l : List It) (a' : Option Addr) (n' cap' : Nat) (l' : List It) (w : World) (h : ItAt w a l) (hn : l.length = n) (hc : n ≤ cap) (hm : cap ≤ maxLen) (hs : ∀ i ∈ l, i.key.size ≤ maxLen ∧ i.title.size ≤ maxLen ∧ i.body.size ≤ maxLen)
    (h' : ItAt w a' l') (hn' : l'.length = n') (hc' : n' ≤ cap') (hm' : cap' ≤ maxLen) (hs' : ∀ i ∈ l', i.key.size ≤ maxLen ∧ i.title.size ≤ maxLen ∧ i.body.size ≤ maxLen) :
    Calls Try.prog 38 #[.slice a n cap, .slice a' n' cap'] w (ItsGiven (chgI l l') w) := by
  obtain ⟨ti, hti, iz0, iz1, iz2⟩ := info_parts Try.infoI
  have c1 := Lib.hid (fun w h => impl_feedValid a n cap l w h hn hc hm hs)
  have c2 := Lib.hid (fun w h => impl_feedValid a' n' cap' l' w h hn' hc' hm' hs')
  have c3 := Lib.hid (fun key w h => impl_itemNumber a n cap l key w h hn (Nat.le_trans hc hm))
  unfold maxLen at hm'
  have HN' := Lib.hid hn'
  have HN := Lib.hid hn
  have HE := Lib.hid h
  have HE' := Lib.hid h'
  have hn'c : n' ≤ 9223372036854775807 := by omega
  clear hn h hs hn' h' hs' hc hm hc' hm'
  cases hv : feedV l
  · rw [hv] at c1
    have E := Lib.hid (show chgI l l' = [] from selI_bad (.inl hv))
    clear hv
    go_enter Try.func38, Try.ntmps38
    go_wp2_with fail
    refine (c1.out _ HE.out).mono ?_
    rintro e w1 ⟨rfl, hb1⟩
    go_wp2
    go_ret
    exact its_given E.out none 0 0 (World.ownsRow_nil _ _ _ _) rfl hb1
  · rw [hv] at c1
    cases hv' : feedV l'
    · rw [hv'] at c2
      have E := Lib.hid (show chgI l l' = [] from selI_bad (.inr hv'))
      clear hv hv'
      go_enter Try.func38, Try.ntmps38
      go_wp2_with fail
      refine (c1.out _ HE.out).mono ?_
      rintro e w1 ⟨rfl, hb1⟩
      go_wp2_with fail
      refine (c2.out _ (HE'.out.old hb1)).mono ?_
      rintro e w2 ⟨rfl, hb2⟩
      go_wp2
      go_ret
      exact its_given E.out none 0 0 (World.ownsRow_nil _ _ _ _) rfl (hb1.trans (hb2.mono hb1.size))
    · rw [hv'] at c2
      have HF := Lib.hid (show chgI l l' = l'.filter (chgP l) from selI_ok hv hv')
      have h8 : n' ≤ 8 := by rw [← HN'.out]; exact ((feedV_iff l').1 hv').1
      clear hv hv'
      go_enter Try.func38, Try.ntmps38
      go_wp2_with fail
      refine (c1.out _ HE.out).mono ?_
      rintro e w1 ⟨rfl, hb1⟩
      go_wp2_with fail
      refine (c2.out _ (HE'.out.old hb1)).mono ?_
      rintro e w2 ⟨rfl, hb2⟩
      have hb12 := hb1.trans (hb2.mono hb1.size)
      go_wp2
      go_loopw [5, 19] (fun o i wr => ∃ (j k cp : Nat) (b : Option Addr) (q : List It), o = .slice b k cp ∧ i = .int .i64 j ∧ j ≤ n' ∧ k ≤ j ∧ q.length = k ∧ Hid (SelTo (chgP l) l' j q) ∧ wr.ownsRow w.heap.size 34 4 (.slice b k cp) k (flatI q) ∧ Below w.heap.size w wr) (fun _ i _ => n' - (intOf i).toNat)
      case atStart => exact ⟨0, 0, 0, none, [], rfl, rfl, by omega, by omega, rfl, SelTo.zero _ _, World.ownsRow_nil _ _ _ _, hb12⟩
      case round =>
        obtain ⟨j, k, cp, b, q, rfl, rfl, hj, hkj, hq, ho, hown, hbr⟩ := hrel
        have HQ := Lib.hid hq
        clear hq
        by_cases hlt : j < n'
        · have hjl : j < l'.length := by rw [HN'.out]; exact hlt
          obtain ⟨b0, off, ha, h1, h2, h3, h4⟩ := HE'.out.old hbr j hjl
          have HY := Lib.hid (fun e => ho.out.yes hjl e)
          have HNo := Lib.hid (fun e => ho.out.no hjl e)
          generalize l'[j] = x at *
          subst ha
          have hbw := hbr.alloc hbr.size (.cells #[.string x.key, .string x.title, .string x.body, .int .i64 x.day] 34)
          obtain ⟨v, hv⟩ : ∃ v, v = numI l x.key := ⟨_, rfl⟩
          have HNeg := Lib.hid (fun h => chgP_neg hv h)
          have HAt := Lib.hid (fun n h => chgP_at (n := n) (hv.symm.trans h))
          have c4 := Lib.hid (fun w h => c3.out x.key w h)
          rw [← hv] at c4
          clear hv ho
          have hsz := hbr.size
          go_wp2_with fail
          refine (c4.out _ (HE.out.old hbw)).mono ?_
          rintro e w4 ⟨rfl, hb4⟩
          have hb4z := hbw.trans (hb4.mono hbw.size)
          have own4 := own_low' (hown.alloc _) hb4
          obtain ⟨g0, g1, g2, g3⟩ := item_kept wr 34 x w4 (hb4.mono (by simp))
          by_cases hv0 : v < 0
          · have HO := Lib.hid (HNo.out (HNeg.out hv0))
            have hv1 : decide (v ≥ 0) = false := decide_eq_false (by omega)
            go_wp2_with fail
            go_quiet (fail)
            go_wp2
            go_roundw
            case rel => exact ⟨j + 1, k, cp, b, q, rfl, by go_num, by omega, by omega, HQ.out, HO.out, own_drewN' own4 _, below_drewN' hb4z _⟩
            case measure => simp [intOf]; omega
          · obtain ⟨v, rfl⟩ := Int.eq_ofNat_of_zero_le (show 0 ≤ v by omega)
            obtain ⟨hvl, hcp⟩ := HAt.out v rfl
            obtain ⟨b1, off1, ha1, p1, p2, p3, p4⟩ := HE.out.old hb4z v hvl
            rw [HN.out] at hvl
            generalize l[v] = y at *
            subst ha1
            have hq1 := fun W => neq_item y x W
            have hq2 := fun W o p => guard_item .neq o p #[.string y.key, .string y.title, .string y.body, .int .i64 y.day] #[.string x.key, .string x.title, .string x.body, .int .i64 x.day] W
            generalize (!decide (y = x)) = bb at *
            go_wp2_with fail
            go_quiet (fail)
            cases bb
            · have HO := Lib.hid (HNo.out hcp)
              go_wp2
              go_roundw
              case rel => exact ⟨j + 1, k, cp, b, q, rfl, by go_num, by omega, by omega, HQ.out, HO.out, own_drewN' own4 _, below_drewN' hb4z _⟩
              case measure => simp [intOf]; omega
            · have HO := Lib.hid (HY.out hcp)
              have hb4q := below_drewN' hb4z nq
              go_wp2_with (at_builtin; refine wpList_append_lies _ rfl _ _ 24 rfl w.heap.size 34 ti _ 4 56 Try.underlying24 hti iz0 iz1 iz2 rfl (by decide) _ k (flatI q) rfl ((own_drewN' own4 nq).alloc _) ⟨w4.heap.size, 0, none⟩ 1 1 [.string x.key, .string x.title, .string x.body, .int .i64 x.day] rfl rfl (cell_four_new _ _ _ _ _ _) (fun x hx => by simp at hx; rcases hx with rfl | rfl | rfl | rfl <;> rfl) (by omega) (by unfold maxLen; omega) (by omega) (by have := hb4z.size; simp; omega) _ rfl ?_; intro q2 cap2 w5 hown5 hgrow5 hat5 hlt5)
              have hb5 := Below.grown (hb4q.alloc hb4z.size _) hgrow5 (by have := hb4z.size; simp; omega) (fun j e => (own4.lt j e).1)
              have HO5 := Lib.hid hown5
              clear hown5 hgrow5 hat5
              go_wp2
              go_roundw
              case rel => exact ⟨j + 1, k + 1, cap2, some ⟨q2, 0, none⟩, q ++ [x], rfl, by go_num, by omega, by omega, by simp [HQ.out], HO.out, by rw [flatI_app]; exact HO5.out, hb5⟩
              case measure => simp [intOf]; omega
        · have E := Lib.hid (HF.out.trans (ho.out.done (by rw [HN'.out]; omega)).symm)
          go_wp2
          go_ret
          exact its_given E.out b k cp hown HQ.out hbr
end Go.Proofs.Ytldllhfadihmeaa
