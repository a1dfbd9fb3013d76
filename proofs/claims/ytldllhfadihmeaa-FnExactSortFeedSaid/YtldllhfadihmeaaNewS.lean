/- NewItems of the reference: newI. -/
import Derived.Test.YtldllhfadihmeaaNewW
import Derived.Test.YtldllhfadihmeaaIwS
namespace Go.Proofs.Ytldllhfadihmeaa
open Go.RowKit

theorem own_made4 (w : World) (base : Nat) (h : base ≤ w.heap.size) : (w.alloc (.cells #[] 34)).ownsRow base 34 4 (.slice (some ⟨w.heap.size, 0, none⟩) 0 0) 0 [] := by
  have := World.ownsRow_made (e := 34) (size := 4) w #[] 0 (Nat.le_refl _) (by unfold maxLen; omega) rfl
  obtain ⟨h1, h2⟩ := this
  refine ⟨h1, ?_⟩
  rcases h2 with h2 | ⟨g, cap, cur, hv, hg, r⟩
  · exact .inl h2
  · exact .inr ⟨g, cap, cur, hv, Nat.le_trans h hg, r⟩
theorem cell_four_newR (W : World) (o : Obj) (a b c d : Value) (t : TypeId) : ∀ j u, [a, b, c, d][j]? = some u → ((W.alloc o).alloc (.cells #[a, b, c, d] t)).cell? ((⟨W.heap.size + 1, 0, none⟩ : Addr).add j) = some u := by
  have := cell_four_new (W.alloc o) a b c d t
  simpa using this
theorem newP_with {a : List It} {i : It} (hv : feedV a = true) : newP a i = !(withI a i.key).isSome := by
  unfold newP
  cases hh : hasK a i.key
  · rw [withI_none hh]; rfl
  · obtain ⟨x, hx, hk⟩ := (hasK_iff a i.key).1 hh
    unfold withI
    rw [if_pos hv]
    cases hf : a.find? (fun j => eqS j.key i.key)
    · rw [List.find?_eq_none] at hf
      exact absurd ((eqS_iff _ _).2 hk) (hf x hx)
    · rfl

set_option maxRecDepth 100000 in
set_option maxHeartbeats 2000000 in
theorem spec_newItems (a : Option Addr) (n cap : Nat) (l : List It) (a' : Option Addr) (n' cap' : Nat) (l' : List It) (w : World) (h : ItAt w a l) (hn : l.length = n) (hm : n ≤ maxLen) (hs : ∀ i ∈ l, i.key.size ≤ maxLen ∧ i.title.size ≤ maxLen ∧ i.body.size ≤ maxLen)
    (h' : ItAt w a' l') (hn' : l'.length = n') (hm' : n' ≤ maxLen) (hs' : ∀ i ∈ l', i.key.size ≤ maxLen ∧ i.title.size ≤ maxLen ∧ i.body.size ≤ maxLen) :
    Calls Try.prog 35 #[.slice a n cap, .slice a' n' cap'] w (ItsGiven (newI l l') w) := by
  obtain ⟨ti, hti, iz0, iz1, iz2⟩ := info_parts Try.infoI
  have c1 := Lib.hid (fun w h => spec_feedValid a n cap l w h hn hm hs)
  have c2 := Lib.hid (fun w h => spec_feedValid a' n' cap' l' w h hn' hm' hs')
  have c3 := Lib.hid (fun key w h => spec_itemWith a n cap l key w h hn hm hs)
  unfold maxLen at hm'
  have HN' := Lib.hid hn'
  have HE := Lib.hid h
  have HE' := Lib.hid h'
  have hb0 : Hid (Below w.heap.size w (w.alloc (.cells #[] 34))) := (Below.refl _ _).alloc (Nat.le_refl _) _
  have hn'c : n' ≤ 9223372036854775807 := by omega
  have OM := Lib.hid (own_made4 w w.heap.size (Nat.le_refl _))
  clear hn h hs hn' h' hs' hm hm'
  cases hv : feedV l && feedV l'
  · have E := Lib.hid (show newI l l' = [] from selI_bad (by
      cases h1 : feedV l
      · exact .inl rfl
      · rw [h1, Bool.true_and] at hv; exact .inr hv))
    have hvv : (feedV l = false) ∨ (feedV l = true ∧ feedV l' = false) := by
      cases h1 : feedV l
      · exact .inl rfl
      · rw [h1, Bool.true_and] at hv; exact .inr ⟨rfl, hv⟩
    clear hv
    go_enter Try.func35, Try.ntmps35
    go_wp2
    go_loopw [5, 6] (fun o i wr => o = .slice (some ⟨w.heap.size, 0, none⟩) 0 0 ∧ i = .int .i64 0 ∧ Hid (wr = w.alloc (.cells #[] 34))) (fun _ _ _ => 0)
    case atStart => exact ⟨rfl, rfl, rfl⟩
    case round =>
      obtain ⟨rfl, rfl, hw⟩ := hrel
      have hw0 := hw.out
      subst hw0
      by_cases h0 : 0 < n'
      · rcases hvv with hv1 | ⟨hv1, hv2⟩
        · rw [hv1] at c1
          clear hv1
          go_wp2_with fail
          refine (c1.out _ (HE.out.old hb0.out)).mono ?_
          rintro e w2 ⟨rfl, hb2⟩
          have own2 := own_low' OM.out hb2
          have hbz := hb0.out.trans (hb2.mono hb0.out.size)
          go_wp2
          go_ret
          exact its_given E.out _ 0 0 own2 rfl hbz
        · rw [hv1] at c1
          rw [hv2] at c2
          clear hv1 hv2
          go_wp2_with fail
          refine (c1.out _ (HE.out.old hb0.out)).mono ?_
          rintro e w2 ⟨rfl, hb2⟩
          have own2 := own_low' OM.out hb2
          have hbz := hb0.out.trans (hb2.mono hb0.out.size)
          go_wp2_with fail
          refine (c2.out _ (HE'.out.old hbz)).mono ?_
          rintro e w3 ⟨rfl, hb3⟩
          have own3 := own_low' own2 hb3
          have hbz3 := hbz.trans (hb3.mono hbz.size)
          go_wp2
          go_ret
          exact its_given E.out _ 0 0 own3 rfl hbz3
      · go_wp2
        go_ret
        exact its_given E.out _ 0 0 OM.out rfl hb0.out
  · rw [Bool.and_eq_true] at hv
    obtain ⟨hv1, hv2⟩ := hv
    rw [hv1] at c1
    rw [hv2] at c2
    have HF := Lib.hid (show newI l l' = l'.filter (newP l) from selI_ok hv1 hv2)
    have HP := Lib.hid (fun i => newP_with (i := i) hv1)
    have h8 : n' ≤ 8 := by rw [← HN'.out]; exact ((feedV_iff l').1 hv2).1
    clear hv1 hv2
    go_enter Try.func35, Try.ntmps35
    go_wp2
    go_loopw [5, 6] (fun o i wr => ∃ (j k cp : Nat) (b : Option Addr) (q : List It), o = .slice b k cp ∧ i = .int .i64 j ∧ j ≤ n' ∧ k ≤ j ∧ q.length = k ∧ Hid (SelTo (newP l) l' j q) ∧ wr.ownsRow w.heap.size 34 4 (.slice b k cp) k (flatI q) ∧ Below w.heap.size w wr) (fun _ i _ => n' - (intOf i).toNat)
    case atStart => exact ⟨0, 0, 0, some ⟨w.heap.size, 0, none⟩, [], rfl, rfl, by omega, by omega, rfl, SelTo.zero _ _, OM.out, hb0.out⟩
    case round =>
      obtain ⟨j, k, cp, b, q, rfl, rfl, hj, hkj, hq, ho, hown, hbr⟩ := hrel
      have HQ := Lib.hid hq
      clear hq
      by_cases hlt : j < n'
      · have hjl : j < l'.length := by rw [HN'.out]; exact hlt
        obtain ⟨b0, off, ha, h1, h2, h3, h4⟩ := HE'.out.old hbr j hjl
        have HY := Lib.hid (fun e => ho.out.yes hjl e)
        have HNo := Lib.hid (fun e => ho.out.no hjl e)
        have hlo := cell_lt' h1
        generalize l'[j] = x at *
        subst ha
        have hp := HP.out x
        obtain ⟨o, hoo⟩ : ∃ o, o = withI l x.key := ⟨_, rfl⟩
        have c4 := Lib.hid (fun w h => c3.out x.key w h)
        rw [← hoo] at c4 hp
        clear hoo ho
        go_wp2_with fail
        refine (c1.out _ (HE.out.old hbr)).mono ?_
        rintro e w2 ⟨rfl, hb2⟩
        have hz2 := hbr.trans (hb2.mono hbr.size)
        have own2 := own_low' hown hb2
        go_wp2_with fail
        refine (c2.out _ (HE'.out.old hz2)).mono ?_
        rintro e w3 ⟨rfl, hb3⟩
        have hz3 := hz2.trans (hb3.mono hz2.size)
        have own3 := own_low' own2 hb3
        have hb23 := hb2.trans (hb3.mono hb2.size)
        have p1 := (hb23.cell (p := ⟨b0, off + j * 4, none⟩) hlo).trans h1
        go_wp2_with fail
        refine (c4.out _ (HE.out.old hz3)).mono ?_
        rintro e w4 ⟨rfl, hb4⟩
        have hz4 := hz3.trans (hb4.mono hz3.size)
        have own4 := own_low' own3 hb4
        have hb24 := hb23.trans (hb4.mono hb23.size)
        have k1 := (hb24.cell (p := ⟨b0, off + j * 4, none⟩) hlo).trans h1
        have k2 := (hb24.cell (p := ⟨b0, off + j * 4 + 1, none⟩) hlo).trans h2
        have k3 := (hb24.cell (p := ⟨b0, off + j * 4 + 2, none⟩) hlo).trans h3
        have k4 := (hb24.cell (p := ⟨b0, off + j * 4 + 3, none⟩) hlo).trans h4
        clear h1 h2 h3 h4 p1
        generalize dI o = y at *
        have hb4z := hz4.alloc hz4.size (.cells #[.string y.key, .string y.title, .string y.body, .int .i64 y.day] 34)
        have hlo4 : b0 < w4.heap.size := cell_lt' k1
        have hY := (Below.refl w4.heap.size w4).alloc (Nat.le_refl _) (.cells #[.string y.key, .string y.title, .string y.body, .int .i64 y.day] 34)
        have m1 := (hY.cell (p := ⟨b0, off + j * 4, none⟩) hlo4).trans k1
        have m2 := (hY.cell (p := ⟨b0, off + j * 4 + 1, none⟩) hlo4).trans k2
        have m3 := (hY.cell (p := ⟨b0, off + j * 4 + 2, none⟩) hlo4).trans k3
        have m4 := (hY.cell (p := ⟨b0, off + j * 4 + 3, none⟩) hlo4).trans k4
        clear k1 k2 k3 k4 hY
        generalize o.isSome = ok at *
        cases ok
        · have HO := Lib.hid (HY.out hp)
          clear hp
          go_wp2_with (at_builtin; refine wpList_append_lies _ rfl _ _ 24 rfl w.heap.size 34 ti _ 4 56 Try.underlying24 hti iz0 iz1 iz2 rfl (by decide) _ k (flatI q) rfl ((own4.alloc _).alloc _) ⟨w4.heap.size + 1, 0, none⟩ 1 1 [.string x.key, .string x.title, .string x.body, .int .i64 x.day] rfl rfl (cell_four_newR _ _ _ _ _ _ _) (fun x hx => by simp at hx; rcases hx with rfl | rfl | rfl | rfl <;> rfl) (by omega) (by unfold maxLen; omega) (by omega) (by have := hz4.size; simp; omega) _ rfl ?_; intro q2 cap2 w5 hown5 hgrow5 hat5 hlt5)
          have hb5 := Below.grown (hb4z.alloc hb4z.size _) hgrow5 (by have := hz4.size; simp; omega) (fun j e => (own4.lt j e).1)
          have HO5 := Lib.hid hown5
          clear hown5 hgrow5 hat5
          go_wp2
          go_roundw
          case rel => exact ⟨j + 1, k + 1, cap2, some ⟨q2, 0, none⟩, q ++ [x], rfl, by go_num, by omega, by omega, by simp [HQ.out], HO.out, by rw [flatI_app]; exact HO5.out, hb5⟩
          case measure => simp [intOf]; omega
        · have HO := Lib.hid (HNo.out hp)
          clear hp
          go_wp2
          go_roundw
          case rel => exact ⟨j + 1, k, cp, b, q, rfl, by go_num, by omega, by omega, HQ.out, HO.out, own4.alloc _, hb4z⟩
          case measure => simp [intOf]; omega
      · have E := Lib.hid (HF.out.trans (ho.out.done (by rw [HN'.out]; omega)).symm)
        go_wp2
        go_ret
        exact its_given E.out b k cp hown HQ.out hbr
end Go.Proofs.Ytldllhfadihmeaa
