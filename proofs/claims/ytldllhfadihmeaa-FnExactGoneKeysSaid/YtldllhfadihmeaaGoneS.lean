/- GoneKeys of the program and of the reference: goneI. -/
import Derived.Test.YtldllhfadihmeaaNewS
import Derived.Test.YtldllhfadihmeaaStrs
import Derived.Deep.AppendLies
namespace Go.Proofs.Ytldllhfadihmeaa
open Go.RowKit

theorem Try.infoS : (Try.prog.info? 9).map (fun i => (i.zero, i.size, i.bytes)) = some (some (.string ⟨#[]⟩), 1, 16) := by kernel_rfl
/-- The keys of the first feed that the second one does not have. -/
def goneI (a b : List It) : List ByteArray := (newI b a).map (·.key)
theorem gone_bad {a b : List It} (h : feedV a = false ∨ feedV b = false) : goneI a b = [] := by
  unfold goneI newI
  rw [selI_bad (h.symm)]; rfl
theorem gone_ok {a b : List It} (h1 : feedV a = true) (h2 : feedV b = true) : goneI a b = (a.filter (newP b)).map (·.key) := by
  unfold goneI newI
  rw [selI_ok h2 h1]
theorem gone_len (a b : List It) : (goneI a b).length ≤ 8 := by
  unfold goneI
  rw [List.length_map]; exact selI_len _ _ _
/-- What a function that gives texts leaves behind. -/
def StsGiven (l : List ByteArray) (w : World) (e : Ending) (w' : World) : Prop :=
  (∃ (a : Option Addr) (n cap : Nat), e = .returned (.slice a n cap) ∧ w'.ownsRow w.heap.size 9 1 (.slice a n cap) n (flatS l) ∧ l.length = n ∧ n ≤ cap ∧ cap ≤ maxLen) ∧ Below w.heap.size w w'
theorem sts_given {l l' : List ByteArray} {w w' : World} (h : l' = l) (a : Option Addr) (n cap : Nat) (ho : w'.ownsRow w.heap.size 9 1 (.slice a n cap) n (flatS l)) (hl : l.length = n) (hb : Below w.heap.size w w') : StsGiven l' w (.returned (.slice a n cap)) w' := by
  subst h
  exact ⟨⟨a, n, cap, rfl, ho, hl, own_cap ho⟩, hb⟩
theorem cell_one_new (W : World) (a : Value) (t : TypeId) : ∀ j u, [a][j]? = some u → (W.alloc (.cells #[a] t)).cell? ((⟨W.heap.size, 0, none⟩ : Addr).add j) = some u := by
  intro j u h
  match j with
  | 0 => simp at h; subst h; simp [Addr.add]
  | j + 1 => simp at h
/-- What a round keeps. -/
def GnTo (q : It → Bool) (b : List It) (k : Nat) (l : List ByteArray) : Prop := l = ((b.take k).filter q).map (·.key)
theorem GnTo.zero (q : It → Bool) (b : List It) : GnTo q b 0 [] := by simp [GnTo]
theorem GnTo.yes {q : It → Bool} {b : List It} {l : List ByteArray} {k : Nat} (h : GnTo q b k l) (hk : k < b.length) (hq : q b[k] = true) : GnTo q b (k + 1) (l ++ [b[k].key]) := by
  unfold GnTo at *
  rw [take_snocI b k hk, List.filter_append, List.map_append, ← h]; simp [hq]
theorem GnTo.no {q : It → Bool} {b : List It} {l : List ByteArray} {k : Nat} (h : GnTo q b k l) (hk : k < b.length) (hq : q b[k] = false) : GnTo q b (k + 1) l := by
  unfold GnTo at *
  rw [take_snocI b k hk, List.filter_append, List.map_append, ← h]; simp [hq]
theorem GnTo.done {q : It → Bool} {b : List It} {l : List ByteArray} {k : Nat} (h : GnTo q b k l) (hk : b.length ≤ k) : l = (b.filter q).map (·.key) := by
  unfold GnTo at h
  rwa [List.take_of_length_le hk] at h

set_option maxRecDepth 100000 in
set_option maxHeartbeats 2000000 in
theorem impl_goneKeys (a : Option Addr) (n cap : Nat) (l : List It) (a' : Option Addr) (n' cap' : Nat) (l' : List It) (w : World) (h : ItAt w a l) (hn : l.length = n) (hc : n ≤ cap) (hm : cap ≤ maxLen) (hs : ∀ i ∈ l, i.key.size ≤ maxLen ∧ i.title.size ≤ maxLen ∧ i.body.size ≤ maxLen)
    (h' : ItAt w a' l') (hn' : l'.length = n') (hc' : n' ≤ cap') (hm' : cap' ≤ maxLen) (hs' : ∀ i ∈ l', i.key.size ≤ maxLen ∧ i.title.size ≤ maxLen ∧ i.body.size ≤ maxLen) :
    Calls Try.prog 42 #[.slice a n cap, .slice a' n' cap'] w (StsGiven (goneI l l') w) := by
  obtain ⟨ti, hti, iz0, iz1, iz2⟩ := info_parts Try.infoS
  have c1 := Lib.hid (fun w h => impl_feedValid a n cap l w h hn hc hm hs)
  have c2 := Lib.hid (fun w h => impl_feedValid a' n' cap' l' w h hn' hc' hm' hs')
  have c3 := Lib.hid (fun key w h => impl_itemNumber a' n' cap' l' key w h hn' (Nat.le_trans hc' hm'))
  have hmm := hm
  unfold maxLen at hmm
  have HN := Lib.hid hn
  have HE := Lib.hid h
  have HE' := Lib.hid h'
  have hn'c : n ≤ 9223372036854775807 := by omega
  clear hn h hs hn' h' hs' hc hm hc' hm' hmm
  cases hv : feedV l
  · rw [hv] at c1
    have E := Lib.hid (show goneI l l' = [] from gone_bad (.inl hv))
    clear hv
    go_enter Try.func42, Try.ntmps42
    go_wp2_with fail
    refine (c1.out _ HE.out).mono ?_
    rintro e w1 ⟨rfl, hb1⟩
    go_wp2
    go_ret
    exact sts_given E.out none 0 0 (World.ownsRow_nil _ _ _ _) rfl hb1
  · rw [hv] at c1
    cases hv' : feedV l'
    · rw [hv'] at c2
      have E := Lib.hid (show goneI l l' = [] from gone_bad (.inr hv'))
      clear hv hv'
      go_enter Try.func42, Try.ntmps42
      go_wp2_with fail
      refine (c1.out _ HE.out).mono ?_
      rintro e w1 ⟨rfl, hb1⟩
      go_wp2_with fail
      refine (c2.out _ (HE'.out.old hb1)).mono ?_
      rintro e w2 ⟨rfl, hb2⟩
      go_wp2
      go_ret
      exact sts_given E.out none 0 0 (World.ownsRow_nil _ _ _ _) rfl (hb1.trans (hb2.mono hb1.size))
    · rw [hv'] at c2
      have HF := Lib.hid (show goneI l l' = (l.filter (newP l')).map (·.key) from gone_ok hv hv')
      have h8 : n ≤ 8 := by rw [← HN.out]; exact ((feedV_iff l).1 hv).1
      clear hv hv'
      go_enter Try.func42, Try.ntmps42
      go_wp2_with fail
      refine (c1.out _ HE.out).mono ?_
      rintro e w1 ⟨rfl, hb1⟩
      go_wp2_with fail
      refine (c2.out _ (HE'.out.old hb1)).mono ?_
      rintro e w2 ⟨rfl, hb2⟩
      have hb12 := hb1.trans (hb2.mono hb1.size)
      go_wp2
      go_loopw [5, 18] (fun o i wr => ∃ (j k cp : Nat) (b : Option Addr) (q : List ByteArray), o = .slice b k cp ∧ i = .int .i64 j ∧ j ≤ n ∧ k ≤ j ∧ q.length = k ∧ Hid (GnTo (newP l') l j q) ∧ wr.ownsRow w.heap.size 9 1 (.slice b k cp) k (flatS q) ∧ Below w.heap.size w wr) (fun _ i _ => n - (intOf i).toNat)
      case atStart => exact ⟨0, 0, 0, none, [], rfl, rfl, by omega, by omega, rfl, GnTo.zero _ _, World.ownsRow_nil _ _ _ _, hb12⟩
      case round =>
        obtain ⟨j, k, cp, b, q, rfl, rfl, hj, hkj, hq, ho, hown, hbr⟩ := hrel
        have HQ := Lib.hid hq
        clear hq
        by_cases hlt : j < n
        · have hjl : j < l.length := by rw [HN.out]; exact hlt
          obtain ⟨b0, off, ha, h1, h2, h3, h4⟩ := HE.out.old hbr j hjl
          have HY := Lib.hid (fun e => ho.out.yes hjl e)
          have HNo := Lib.hid (fun e => ho.out.no hjl e)
          generalize l[j] = x at *
          subst ha
          have hbw := hbr.alloc hbr.size (.cells #[.string x.key, .string x.title, .string x.body, .int .i64 x.day] 34)
          obtain ⟨v, hv⟩ : ∃ v, v = numI l' x.key := ⟨_, rfl⟩
          have hp := newP_num hv
          have c4 := Lib.hid (fun w h => c3.out x.key w h)
          rw [← hv] at c4
          clear hv ho
          have hsz := hbr.size
          go_wp2_with fail
          refine (c4.out _ (HE'.out.old hbw)).mono ?_
          rintro e w4 ⟨rfl, hb4⟩
          have hb4z := hbw.trans (hb4.mono hbw.size)
          have own4 := own_low' (hown.alloc _) hb4
          obtain ⟨g0, g1, g2, g3⟩ := item_kept wr 34 x w4 (hb4.mono (by simp))
          by_cases hv0 : v < 0
          · rw [decide_eq_true hv0] at hp
            have HO := Lib.hid (HY.out hp)
            clear hp
            go_wp2_with (at_builtin; refine wpList_append_lies _ rfl _ _ 53 rfl w.heap.size 9 ti _ 1 16 Try.underlying53 hti iz0 iz1 iz2 rfl (by decide) _ k (flatS q) rfl (own4.alloc _) ⟨w4.heap.size, 0, none⟩ 1 1 [.string x.key] rfl rfl (cell_one_new _ _ _) (fun x hx => by simp at hx; rw [hx]; rfl) (by omega) (by unfold maxLen; omega) (by omega) (by have := hb4z.size; simp; omega) _ rfl ?_; intro q2 cap2 w5 hown5 hgrow5 hat5 hlt5)
            have hb5 := Below.grown (hb4z.alloc hb4z.size _) hgrow5 (by have := hb4z.size; simp; omega) (fun j e => (own4.lt j e).1)
            have HO5 := Lib.hid hown5
            clear hown5 hgrow5 hat5
            go_wp2
            go_roundw
            case rel => exact ⟨j + 1, k + 1, cap2, some ⟨q2, 0, none⟩, q ++ [x.key], rfl, by go_num, by omega, by omega, by simp [HQ.out], HO.out, by rw [flatS_app]; exact HO5.out, hb5⟩
            case measure => simp [intOf]; omega
          · rw [decide_eq_false hv0] at hp
            have HO := Lib.hid (HNo.out hp)
            clear hp
            go_wp2
            go_roundw
            case rel => exact ⟨j + 1, k, cp, b, q, rfl, by go_num, by omega, by omega, HQ.out, HO.out, own4, hb4z⟩
            case measure => simp [intOf]; omega
        · have E := Lib.hid (HF.out.trans (ho.out.done (by rw [HN.out]; omega)).symm)
          go_wp2
          go_ret
          exact sts_given E.out b k cp hown HQ.out hbr


theorem own_made1 (w : World) (base : Nat) (h : base ≤ w.heap.size) : (w.alloc (.cells #[] 9)).ownsRow base 9 1 (.slice (some ⟨w.heap.size, 0, none⟩) 0 0) 0 [] := by
  have := World.ownsRow_made (e := 9) (size := 1) w #[] 0 (Nat.le_refl _) (by unfold maxLen; omega) rfl
  obtain ⟨h1, h2⟩ := this
  refine ⟨h1, ?_⟩
  rcases h2 with h2 | ⟨g, cap, cur, hv, hg, r⟩
  · exact .inl h2
  · exact .inr ⟨g, cap, cur, hv, Nat.le_trans h hg, r⟩
/-- What a round of the reference keeps. -/
def KyTo (r : List It) (k : Nat) (l : List ByteArray) : Prop := l = (r.take k).map (·.key)
theorem KyTo.next {r : List It} {l : List ByteArray} {k : Nat} (h : KyTo r k l) (hk : k < r.length) : KyTo r (k + 1) (l ++ [r[k].key]) := by
  unfold KyTo at *
  rw [take_snocI r k hk, List.map_append, ← h]; rfl
theorem KyTo.done {r : List It} {l : List ByteArray} {k : Nat} (h : KyTo r k l) (hk : r.length ≤ k) : l = r.map (·.key) := by
  unfold KyTo at h
  rwa [List.take_of_length_le hk] at h

theorem KyTo.zero (r : List It) : KyTo r 0 [] := by simp [KyTo]
theorem at_row {w w' : World} {row : Option Nat} {a : Option Addr} {l : List It} (h : ItAt w a l) (hg : w.grownBy w' row) (hne : ∀ x, a = some x → some x.block ≠ row) : ItAt w' a l := fun k hk => by
  obtain ⟨b, off, ha, h1, h2, h3, h4⟩ := h k hk
  subst ha
  have hb := hne _ rfl
  exact ⟨b, off, rfl, hg.cell h1 hb, hg.cell h2 hb, hg.cell h3 hb, hg.cell h4 hb⟩
theorem own_block {b : Option Addr} {n cap g : Nat} (h : some g = (Value.slice b n cap).ownBlock) : ∃ x, b = some x ∧ x.block = g := by
  cases b with
  | none => simp [Value.ownBlock] at h
  | some x => simp [Value.ownBlock] at h; exact ⟨x, rfl, h.symm⟩

set_option maxRecDepth 100000 in
set_option maxHeartbeats 2000000 in
theorem spec_goneKeys (a : Option Addr) (n cap : Nat) (l : List It) (a' : Option Addr) (n' cap' : Nat) (l' : List It) (w : World) (h : ItAt w a l) (hn : l.length = n) (hm : n ≤ maxLen) (hs : ∀ i ∈ l, i.key.size ≤ maxLen ∧ i.title.size ≤ maxLen ∧ i.body.size ≤ maxLen)
    (h' : ItAt w a' l') (hn' : l'.length = n') (hm' : n' ≤ maxLen) (hs' : ∀ i ∈ l', i.key.size ≤ maxLen ∧ i.title.size ≤ maxLen ∧ i.body.size ≤ maxLen) :
    Calls Try.prog 41 #[.slice a n cap, .slice a' n' cap'] w (StsGiven (goneI l l') w) := by
  obtain ⟨ti, hti, iz0, iz1, iz2⟩ := info_parts Try.infoS
  have c1 := Lib.hid (fun w h' h => spec_newItems a' n' cap' l' a n cap l w h' hn' hm' hs' h hn hm hs)
  have HE := Lib.hid h
  have HE' := Lib.hid h'
  have hb0 : Hid (Below w.heap.size w (w.alloc (.cells #[] 9))) := (Below.refl _ _).alloc (Nat.le_refl _) _
  have OM := Lib.hid (own_made1 w w.heap.size (Nat.le_refl _))
  have H8 := Lib.hid (selI_len newP l' l)
  obtain ⟨r, hr⟩ : ∃ r, r = newI l' l := ⟨_, rfl⟩
  have HG : Hid (goneI l l' = r.map (·.key)) := by rw [hr]; rfl
  have H8' : r.length ≤ 8 := by rw [hr]; exact H8.out
  unfold ItsGiven at c1
  rw [← hr] at c1
  clear h hn hs h' hn' hm' hm hs' H8 hr
  go_enter Try.func41, Try.ntmps41
  go_wp2_with fail
  refine (c1.out _ (HE'.out.old hb0.out) (HE.out.old hb0.out)).mono ?_
  rintro e w1 ⟨⟨ar, nr, cr, rfl, own1, hl1, _, _⟩, hb1⟩
  have own0 := own_low' OM.out hb1
  have hbz := hb0.out.trans (hb1.mono hb0.out.size)
  have ER := Lib.hid (ItAt.own' own1 hl1)
  have n8 : nr ≤ 8 := by rw [← hl1]; exact H8'
  have HL := Lib.hid hl1
  have RB := Lib.hid (fun x (e : ar = some x) => (⟨own_low_blk own1 x e, own_blk own1 x e⟩ : _ ∧ _))
  clear own1 hl1 hb1 H8'
  go_wp2
  go_loopw [5, 7] (fun o i wr => ∃ (k cp : Nat) (b : Option Addr) (q : List ByteArray), o = .slice b k cp ∧ i = .int .i64 k ∧ k ≤ nr ∧ q.length = k ∧ Hid (KyTo r k q) ∧ wr.ownsRow w.heap.size 9 1 (.slice b k cp) k (flatS q) ∧ ItAt wr ar r ∧ w1.heap.size ≤ wr.heap.size ∧ (∀ x, b = some x → x.block = w.heap.size ∨ w1.heap.size ≤ x.block) ∧ Below w.heap.size w wr) (fun _ i _ => nr - (intOf i).toNat)
  case atStart => exact ⟨0, 0, some ⟨w.heap.size, 0, none⟩, [], rfl, rfl, by omega, rfl, KyTo.zero r, own0, ER.out, Nat.le_refl _, (fun x e => by injection e with e; left; rw [← e]), hbz⟩
  case round =>
    obtain ⟨k, cp, b, q, rfl, rfl, hk, hq, ho, hown, her, hsz, hOB, hbr⟩ := hrel
    have HQ := Lib.hid hq
    clear hq
    by_cases hlt : k < nr
    · have hjl : k < r.length := by rw [HL.out]; exact hlt
      obtain ⟨b0, off, ha, h1, h2, h3, h4⟩ := her k hjl
      have HY := Lib.hid (ho.out.next hjl)
      have hlo := cell_lt' h1
      have HR := Lib.hid her
      have HO := Lib.hid hOB
      generalize r[k] = x at *
      subst ha
      clear h2 h3 h4 her ho hOB
      go_wp2_with (at_builtin; refine wpList_append_lies _ rfl _ _ 53 rfl w.heap.size 9 ti _ 1 16 Try.underlying53 hti iz0 iz1 iz2 rfl (by decide) _ k (flatS q) rfl (hown.alloc _) ⟨wr.heap.size, 0, none⟩ 1 1 [.string x.key] rfl rfl (cell_one_new _ _ _) (fun x hx => by simp at hx; rw [hx]; rfl) (by omega) (by unfold maxLen; omega) (by omega) (by have := hbr.size; simp; omega) _ rfl ?_; intro q2 cap2 w5 hown5 hgrow5 hat5 hlt5)
      have hb5 := (hbr.alloc hbr.size (.cells #[.string x.key] 9)).grown hgrow5 (by have := hbr.size; simp; omega) (fun j e => (hown.lt j e).1)
      have H5 := Lib.hid hown5
      have A5 := Lib.hid (at_row (HR.out.old ((Below.refl _ _).alloc (Nat.le_refl _) _)) hgrow5 (fun y hy e => by
        obtain ⟨z, hz, hzb⟩ := own_block e
        have r1 := RB.out y hy
        have r2 := HO.out z hz
        simp at r1
        omega))
      have O5 : Hid (∀ z, some (⟨q2, 0, none⟩ : Addr) = some z → z.block = w.heap.size ∨ w1.heap.size ≤ z.block) := fun z hz => by
        injection hz with hz
        subst hz
        rcases hat5 with e | e
        · obtain ⟨z, hz, hzb⟩ := own_block e.symm
          have r2 := HO.out z hz
          show q2 = w.heap.size ∨ w1.heap.size ≤ q2
          omega
        · right
          show w1.heap.size ≤ q2
          simp at e
          omega
      have S5 : w1.heap.size ≤ w5.heap.size := by have := hgrow5.size; simp at this; omega
      clear hown5 hgrow5 hat5
      go_wp2
      go_roundw
      case rel => exact ⟨k + 1, cap2, some ⟨q2, 0, none⟩, q ++ [x.key], rfl, by go_num, by omega, by simp [HQ.out], HY.out, by rw [flatS_app]; exact H5.out, A5.out, S5, O5.out, hb5⟩
      case measure => simp [intOf]; omega
    · have E := Lib.hid (HG.out.trans (ho.out.done (by rw [HL.out]; omega)).symm)
      go_wp2
      go_ret
      exact sts_given E.out b k cp hown HQ.out hbr
end Go.Proofs.Ytldllhfadihmeaa
