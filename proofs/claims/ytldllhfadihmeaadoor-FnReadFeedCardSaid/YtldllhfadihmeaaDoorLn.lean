/- FeedLines of the program and of the reference: linesF. -/
import Derived.Test.YtldllhfadihmeaaDoorItT
import Derived.Test.YtldllhfadihmeaaDoorPlM
import Derived.Test.YtldllhfadihmeaaDoorFvS
import Derived.Test.YtldllhfadihmeaaDoorStrs
import Derived.Deep.AppendLies
namespace Go.Proofs.YtldllhfadihmeaaDoor
open Go.RowKit

theorem Tryd.infoS : (Tryd.prog.info? 9).map (fun i => (i.zero, i.size, i.bytes)) = some (some (.string ⟨#[]⟩), 1, 16) := by kernel_rfl
/-- What a function that gives texts leaves behind. -/
def StsGiven (l : List ByteArray) (w : World) (e : Ending) (w' : World) : Prop :=
  (∃ (a : Option Addr) (n cap : Nat), e = .returned (.slice a n cap) ∧ w'.ownsRow w.heap.size 9 1 (.slice a n cap) n (flatS l) ∧ l.length = n ∧ n ≤ cap ∧ cap ≤ maxLen) ∧ Below w.heap.size w w'
theorem sts_given {l l' : List ByteArray} {w w' : World} (h : l' = l) (a : Option Addr) (n cap : Nat) (ho : w'.ownsRow w.heap.size 9 1 (.slice a n cap) n (flatS l)) (hl : l.length = n) (hb : Below w.heap.size w w') : StsGiven l' w (.returned (.slice a n cap)) w' := by
  subst h
  exact ⟨⟨a, n, cap, rfl, ho, hl, own_cap ho⟩, hb⟩
theorem cell_one_new (W : World) (a : Value) (t : TypeId) : ∀ j u, [a][j]? = some u → (W.alloc (.cells #[a] t)).cell? ((⟨W.heap.size, 0, none⟩ : Addr).add j) = some u := by
  intro j u h
  match j with
  | 0 => simp at h; subst h; simp [Addr.add]
  | j + 1 => simp at h
theorem own_made1 (w : World) (base : Nat) (h : base ≤ w.heap.size) : (w.alloc (.cells #[] 9)).ownsRow base 9 1 (.slice (some ⟨w.heap.size, 0, none⟩) 0 0) 0 [] := by
  have := World.ownsRow_made (e := 9) (size := 1) w #[] 0 (Nat.le_refl _) (by unfold maxLen; omega) rfl
  obtain ⟨h1, h2⟩ := this
  refine ⟨h1, ?_⟩
  rcases h2 with h2 | ⟨g, cap, cur, hv, hg, r⟩
  · exact .inl h2
  · exact .inr ⟨g, cap, cur, hv, Nat.le_trans h hg, r⟩

set_option maxRecDepth 100000 in
set_option maxHeartbeats 2000000 in
theorem impl_feedLines (a : Option Addr) (n cap : Nat) (l : List It) (w : World) (h : ItAt w a l) (hn : l.length = n) (hc : n ≤ cap) (hm : cap ≤ maxLen) (hs : ∀ i ∈ l, i.key.size ≤ maxLen ∧ i.title.size ≤ maxLen ∧ i.body.size ≤ maxLen) (hE : EscAt w) :
    Calls Tryd.prog 31 #[.slice a n cap] w (StsGiven (linesF l) w) := by
  obtain ⟨ti, hti, iz0, iz1, iz2⟩ := info_parts Tryd.infoS
  have c1 := Lib.hid (fun w h => impl_feedValid a n cap l w h hn hc hm hs)
  unfold maxLen at hm
  have HN := Lib.hid hn
  have HE := Lib.hid h
  have HX := Lib.hid hE
  have HS := Lib.hid hs
  clear hn h hs hE
  cases hv : feedV l
  · rw [hv] at c1
    have E := Lib.hid (linesF_bad hv)
    clear hv
    go_enter Tryd.func31, Tryd.ntmps31
    go_wp2_with fail
    refine (c1.out _ HE.out).mono ?_
    rintro e w1 ⟨rfl, hb1⟩
    go_wp2
    go_ret
    exact sts_given E.out none 0 0 (World.ownsRow_nil _ _ _ _) rfl hb1
  · rw [hv] at c1
    have HF := Lib.hid (linesF_ok hv)
    have h8 : n ≤ 8 := by rw [← HN.out]; exact ((feedV_iff l).1 hv).1
    clear hv
    go_enter Tryd.func31, Tryd.ntmps31
    go_wp2_with fail
    refine (c1.out _ HE.out).mono ?_
    rintro e w1 ⟨rfl, hb1⟩
    go_wp2
    go_loopw [3, 11] (fun o i wr => ∃ (k cp : Nat) (b : Option Addr) (q : List ByteArray), o = .slice b k cp ∧ i = .int .i64 k ∧ k ≤ n ∧ q.length = k ∧ Hid (LnTo l k q) ∧ wr.ownsRow w.heap.size 9 1 (.slice b k cp) k (flatS q) ∧ Below w.heap.size w wr) (fun _ i _ => n - (intOf i).toNat)
    case atStart => exact ⟨0, 0, none, [], rfl, rfl, by omega, rfl, LnTo.zero _, World.ownsRow_nil _ _ _ _, hb1⟩
    case round =>
      obtain ⟨k, cp, b, q, rfl, rfl, hk, hq, ho, hown, hbr⟩ := hrel
      have HQ := Lib.hid hq
      clear hq
      by_cases hlt : k < n
      · have hjl : k < l.length := by rw [HN.out]; exact hlt
        obtain ⟨b0, off, ha, h1, h2, h3, h4⟩ := HE.out.old hbr k hjl
        have HY := Lib.hid (ho.out.next hjl)
        obtain ⟨z1, z2, z3⟩ := HS.out _ (List.getElem_mem hjl)
        have ct := Lib.hid (fun w h => impl_itemText l[k] w z1 z2 z3 h)
        generalize l[k] = x at *
        subst ha
        clear ho z1 z2 z3
        have hbw := hbr.alloc hbr.size (.cells #[.string x.key, .string x.title, .string x.body, .int .i64 x.day] 41)
        obtain ⟨t, ht⟩ : ∃ t, t = bs (itT x) := ⟨_, rfl⟩
        rw [← ht] at HY
        rw [show (⟨(itT x).toArray⟩ : ByteArray) = t from by rw [ht]; rfl] at ct
        clear ht
        go_wp2_with fail
        refine (ct.out _ (HX.out.old hbw)).mono ?_
        rintro e w4 ⟨rfl, hb4⟩
        have hb4z := hbw.trans (hb4.mono hbw.size)
        have own4 := own_low' (hown.alloc _) hb4
        go_wp2_with (at_builtin; refine wpList_append_lies _ rfl _ _ 22 rfl w.heap.size 9 ti _ 1 16 Tryd.underlying22 hti iz0 iz1 iz2 rfl (by decide) _ k (flatS q) rfl (own4.alloc _) ⟨w4.heap.size, 0, none⟩ 1 1 [.string t] rfl rfl (cell_one_new _ _ _) (fun x hx => by simp at hx; rw [hx]; rfl) (by omega) (by unfold maxLen; omega) (by omega) (by have := hb4z.size; simp; omega) _ rfl ?_; intro q2 cap2 w5 hown5 hgrow5 hat5 hlt5)
        have hb5 := Below.grown (hb4z.alloc hb4z.size _) hgrow5 (by have := hb4z.size; simp; omega) (fun j e => (own4.lt j e).1)
        have HO5 := Lib.hid hown5
        clear hown5 hgrow5 hat5
        go_wp2
        go_roundw
        case rel => exact ⟨k + 1, cap2, some ⟨q2, 0, none⟩, q ++ [t], rfl, by go_num, by omega, by simp [HQ.out], HY.out, by rw [flatS_app]; exact HO5.out, hb5⟩
        case measure => simp [intOf]; omega
      · have E := Lib.hid (HF.out.trans (ho.out.done (by rw [HN.out]; omega)).symm)
        go_wp2
        go_ret
        exact sts_given E.out b k cp hown HQ.out hbr

set_option maxRecDepth 100000 in
set_option maxHeartbeats 2000000 in
theorem spec_feedLines (a : Option Addr) (n cap : Nat) (l : List It) (w : World) (h : ItAt w a l) (hn : l.length = n) (hm : n ≤ maxLen) (hs : ∀ i ∈ l, i.key.size ≤ maxLen ∧ i.title.size ≤ maxLen ∧ i.body.size ≤ maxLen) :
    Calls Tryd.prog 29 #[.slice a n cap] w (StsGiven (linesF l) w) := by
  obtain ⟨ti, hti, iz0, iz1, iz2⟩ := info_parts Tryd.infoS
  have c1 := Lib.hid (fun w h => spec_feedValid a n cap l w h hn hm hs)
  unfold maxLen at hm
  have HN := Lib.hid hn
  have HE := Lib.hid h
  have HS := Lib.hid hs
  have hb0 : Hid (Below w.heap.size w (w.alloc (.cells #[] 9))) := (Below.refl _ _).alloc (Nat.le_refl _) _
  have OM := Lib.hid (own_made1 w w.heap.size (Nat.le_refl _))
  clear hn h hs
  cases hv : feedV l
  · rw [hv] at c1
    have E := Lib.hid (linesF_bad hv)
    clear hv
    go_enter Tryd.func29, Tryd.ntmps29
    go_wp2
    go_loopw [3, 4] (fun o i wr => o = .slice (some ⟨w.heap.size, 0, none⟩) 0 0 ∧ i = .int .i64 0 ∧ Hid (wr = w.alloc (.cells #[] 9))) (fun _ _ _ => 0)
    case atStart => exact ⟨rfl, rfl, rfl⟩
    case round =>
      obtain ⟨rfl, rfl, hw⟩ := hrel
      have hw0 := hw.out
      subst hw0
      by_cases h0 : 0 < n
      · go_wp2_with fail
        refine (c1.out _ (HE.out.old hb0.out)).mono ?_
        rintro e w2 ⟨rfl, hb2⟩
        have own2 := own_low' OM.out hb2
        have hbz := hb0.out.trans (hb2.mono hb0.out.size)
        go_wp2
        go_ret
        exact sts_given E.out _ 0 0 own2 rfl hbz
      · go_wp2
        go_ret
        exact sts_given E.out _ 0 0 OM.out rfl hb0.out
  · rw [hv] at c1
    have HF := Lib.hid (linesF_ok hv)
    have h8 : n ≤ 8 := by rw [← HN.out]; exact ((feedV_iff l).1 hv).1
    clear hv
    go_enter Tryd.func29, Tryd.ntmps29
    go_wp2
    go_loopw [3, 4] (fun o i wr => ∃ (k cp : Nat) (b : Option Addr) (q : List ByteArray), o = .slice b k cp ∧ i = .int .i64 k ∧ k ≤ n ∧ q.length = k ∧ Hid (LnTo l k q) ∧ wr.ownsRow w.heap.size 9 1 (.slice b k cp) k (flatS q) ∧ Below w.heap.size w wr) (fun _ i _ => n - (intOf i).toNat)
    case atStart => exact ⟨0, 0, some ⟨w.heap.size, 0, none⟩, [], rfl, rfl, by omega, rfl, LnTo.zero _, OM.out, hb0.out⟩
    case round =>
      obtain ⟨k, cp, b, q, rfl, rfl, hk, hq, ho, hown, hbr⟩ := hrel
      have HQ := Lib.hid hq
      clear hq
      by_cases hlt : k < n
      · have hjl : k < l.length := by rw [HN.out]; exact hlt
        go_wp2_with fail
        refine (c1.out _ (HE.out.old hbr)).mono ?_
        rintro e w2 ⟨rfl, hb2⟩
        have hz2 := hbr.trans (hb2.mono hbr.size)
        have own2 := own_low' hown hb2
        obtain ⟨b0, off, ha, h1, h2, h3, h4⟩ := HE.out.old hz2 k hjl
        have HY := Lib.hid (ho.out.next hjl)
        obtain ⟨z1, z2, z3⟩ := HS.out _ (List.getElem_mem hjl)
        have ct := Lib.hid (fun w => spec_itemText l[k] w z1 z2 z3)
        generalize l[k] = x at *
        subst ha
        clear ho z1 z2 z3
        obtain ⟨t, ht⟩ : ∃ t, t = bs (itT x) := ⟨_, rfl⟩
        rw [← ht] at HY
        rw [show (⟨(itT x).toArray⟩ : ByteArray) = t from by rw [ht]; rfl] at ct
        clear ht
        go_wp2_with fail
        refine (ct.out _).mono ?_
        rintro e w4 ⟨rfl, hb4⟩
        have hb4z := hz2.trans (hb4.mono hz2.size)
        have own4 := own_low' own2 hb4
        clear h1 h2 h3 h4
        go_wp2_with (at_builtin; refine wpList_append_lies _ rfl _ _ 22 rfl w.heap.size 9 ti _ 1 16 Tryd.underlying22 hti iz0 iz1 iz2 rfl (by decide) _ k (flatS q) rfl (own4.alloc _) ⟨w4.heap.size, 0, none⟩ 1 1 [.string t] rfl rfl (cell_one_new _ _ _) (fun x hx => by simp at hx; rw [hx]; rfl) (by omega) (by unfold maxLen; omega) (by omega) (by have := hb4z.size; simp; omega) _ rfl ?_; intro q2 cap2 w5 hown5 hgrow5 hat5 hlt5)
        have hb5 := Below.grown (hb4z.alloc hb4z.size _) hgrow5 (by have := hb4z.size; simp; omega) (fun j e => (own4.lt j e).1)
        have HO5 := Lib.hid hown5
        clear hown5 hgrow5 hat5
        go_wp2
        go_roundw
        case rel => exact ⟨k + 1, cap2, some ⟨q2, 0, none⟩, q ++ [t], rfl, by go_num, by omega, by simp [HQ.out], HY.out, by rw [flatS_app]; exact HO5.out, hb5⟩
        case measure => simp [intOf]; omega
      · have E := Lib.hid (HF.out.trans (ho.out.done (by rw [HN.out]; omega)).symm)
        go_wp2
        go_ret
        exact sts_given E.out b k cp hown HQ.out hbr
end Go.Proofs.YtldllhfadihmeaaDoor
