/- The draw of lines for ReadFeed. -/
import Derived.Test.YtldllhfadihmeaaDoorDrawM
import Derived.Test.YtldllhfadihmeaaDoorLn
import Derived.Test.YtldllhfadihmeaaDoorDaysW
namespace Go.Proofs.YtldllhfadihmeaaDoor
open Go.RowKit

set_option maxHeartbeats 400000 in
theorem spec_mark8 (k : Nat) (hk : k ≤ 8) (w : World) :
    Calls Tryd.prog 50 #[.int .i64 k] w fun e w' => (∃ s : ByteArray, e = .returned (.string s) ∧ s.size ≤ 40) ∧ w = w' := by
  have hb : inB (k : Int) 0 1000000000 = true := inB_true (by omega) (by omega)
  go_enter Tryd.func50, Tryd.ntmps50
  go_wp2_with (go_at_call 69; refine (spec_in _ _ _ _).mono ?_; rintro e w' ⟨rfl, rfl⟩)
  go_loop [0, 4] (fun n t => ∃ u : ByteArray, n = .int .i64 k ∧ t = .string u ∧ u.size ≤ 40) (fun _ _ => 0)
  case atStart => exact ⟨_, rfl, rfl, by rw [ByteArray.size_extract]; exact Nat.le_trans (Nat.sub_le _ _) (Nat.le_trans (Nat.min_le_right _ _) (by decide))⟩
  case round =>
    obtain ⟨u, rfl, rfl, hu⟩ := hrel
    go_wp2
    go_ret
    exact ⟨⟨u, rfl, hu⟩, rfl⟩
/-- What the draw of lines leaves behind. -/
def LinesDrawn (w : World) (e : Ending) (w' : World) : Prop :=
  (∃ (a : Option Addr) (n cap : Nat) (l : List ByteArray), e = .returned (.slice a n cap) ∧ w'.ownsRow w.heap.size 9 1 (.slice a n cap) n (flatS l) ∧ l.length = n ∧ n ≤ 19 ∧ ∀ s ∈ l, s.size ≤ 5000) ∧ Below w.heap.size w w'
theorem own_s {w w' : World} {g B n : Nat} {v : Value} {t : TypeId} {xs : List Value} (h : w.ownsRow B t 1 v n xs) (hg : w.grownBy w' (some g)) (hB : g < B) : w'.ownsRow B t 1 v n xs :=
  h.kept hg (.inr (fun e => by have := (h.lt g e).1; omega))
theorem lines_more {l : List ByteArray} {s : ByteArray} (h : ∀ s ∈ l, s.size ≤ 5000) (hs : s.size ≤ 5000) : ∀ x ∈ l ++ [s], x.size ≤ 5000 := by
  intro x hx
  rw [List.mem_append, List.mem_singleton] at hx
  rcases hx with hx | rfl
  · exact h x hx
  · exact hs
theorem lines_sz5 (l : List It) : ∀ s ∈ linesF l, s.size ≤ 5000 := by
  intro s hs
  unfold linesF at hs
  split at hs
  · rw [List.mem_map] at hs
    obtain ⟨i, _, rfl⟩ := hs
    have := itT_len i
    have e : (bs (itT i)).size = (itT i).length := by rw [← size_toList, bs_list]
    omega
  · simp at hs

set_option maxRecDepth 100000 in
set_option maxHeartbeats 4000000 in
theorem drawReadFeed_any (a : Option Addr) (len cap : Nat) (zs : List Int) (w : World) (h : IsRow .u8 w a len cap zs) :
    Calls Tryd.prog 20 #[.slice a len cap] w (LinesDrawn w) := by
  obtain ⟨ti, hti, iz0, iz1, iz2⟩ := info_parts Tryd.infoS
  have H := Lib.hid h
  clear h
  go_enter Tryd.func20, Tryd.ntmps20
  go_wp2_with fail
  refine (open_any a len cap zs _ H.out).mono ?_
  rintro e w1 ⟨g, rfl, hg, hr, hb⟩
  go_wp2_with fail
  refine (feed_any g 0 _ _ hr (by omega) (by omega)).mono ?_
  rintro e w2 ⟨⟨q, n, qc, l, rfl, hown, hl, hn, hs⟩, hr2, hg2⟩
  have hb2 := grown_below hb hg2 hb.size hg
  have hlt2 := hr2.lt
  have hcq := own_cap hown
  have cl := Lib.hid (spec_feedLines (some ⟨q, 0, none⟩) n qc l w2 (ItAt.own hown hl) hl (by unfold maxLen; omega) (fun i hi => okI_sz (hs i hi)))
  have hsz := lines_sz5 l
  have h8 := linesF_len l
  unfold StsGiven at cl
  generalize linesF l = x at *
  clear hown hl hs
  go_wp2_with fail
  refine cl.out.mono ?_
  rintro e w3 ⟨⟨ax, nx, cx, rfl, ox, hlx, _, _⟩, hb3⟩
  have hb13 := hb2.trans (hb3.mono hb2.size)
  have hr3 := hr2.kept (below_grown hb3) (fun j e => by cases e)
  have hs23 := hb3.size
  have hs12 := hb2.size
  clear cl
  go_wp2_with fail
  refine (pick_any g 100 _ _ hr3 (by omega)).mono ?_
  rintro e w4 ⟨c, rfl, c0, c1, hr4, hg4⟩
  have c2 := c1 (by omega)
  clear c1
  obtain ⟨c, rfl⟩ := Int.eq_ofNat_of_zero_le c0
  have own4 := own_s ox hg4 hlt2
  have hb4 := grown_below hb13 hg4 hb13.size hg
  clear ox
  go_wp2
  go_loopw [4, 5] (fun o i wr => ∃ (j m cp : Nat) (b : Option Addr) (y : List ByteArray), o = .slice b m cp ∧ i = .int .i64 j ∧ j ≤ 2 ∧ m + j ≤ 10 ∧ y.length = m ∧ Hid (∀ s ∈ y, s.size ≤ 5000) ∧ wr.ownsRow w2.heap.size 9 1 (.slice b m cp) m (flatS y) ∧ Rd wr g (130 - 13 * j) ∧ w2.heap.size ≤ wr.heap.size ∧ Below w.heap.size w wr) (fun _ i _ => (intOf i).toNat)
  case atStart => exact ⟨c, nx, cx, ax, x, rfl, rfl, by omega, by omega, hlx, hsz, own4, hr4.mono (by omega), by have := hg4.size; omega, hb4⟩
  case round =>
    clear hsz own4 hr4 hb4 hg4 hr3 hb13
    obtain ⟨j, m, cp, b, y, rfl, rfl, hj2, hmj, hym, hys, hown, hrr, hsw, hbr⟩ := hrel
    have HY := Lib.hid hym
    clear hym
    have hlt := hrr.lt
    by_cases hj : 0 < j
    · go_wp2_with fail
      refine (item_any g (130 - 13 * j) _ _ hrr (by omega) (by omega)).mono ?_
      rintro e w6 ⟨⟨i, rfl, hi⟩, hr6, hg6⟩
      obtain ⟨hi1, hi2, hi3⟩ := okI_sz hi
      have own6 := own_s hown hg6 (by omega)
      have hb6 := grown_below hbr hg6 hbr.size hg
      have ct := Lib.hid (fun w => spec_itemText i w hi1 hi2 hi3)
      obtain ⟨t, ht, htsz⟩ : ∃ t : ByteArray, t = ⟨(itT i).toArray⟩ ∧ t.size ≤ 4008 := ⟨_, rfl, by rw [size_of_list]; exact itT_len _⟩
      rw [← ht] at ct
      clear ht hi1 hi2 hi3 hi
      go_wp2_with fail
      refine (ct.out _).mono ?_
      rintro e w7 ⟨rfl, hb7⟩
      have own7 := own_low' own6 hb7
      have hr7 := hr6.kept (below_grown hb7) (fun j e => by cases e)
      have hbz7 := hb6.trans (hb7.mono hb6.size)
      have hlt7 := hr7.lt
      go_wp2_with fail
      refine (pick_any g (130 - 13 * j + 12) _ _ (hr7.alloc _) (by omega)).mono ?_
      rintro e w8 ⟨k, rfl, k0, k1, hr8, hg8⟩
      have k2 := k1 (by omega)
      clear k1
      obtain ⟨k, rfl⟩ := Int.eq_ofNat_of_zero_le k0
      obtain ⟨v, hv, hvsz⟩ := row_str (B := 5000) hg8 hlt7 (by
        intro j hj
        match j, hj with
        | 0, _ => exact ⟨_, rfl, by decide⟩
        | 1, _ => exact ⟨_, rfl, by decide⟩
        | 2, _ => exact ⟨_, rfl, by omega⟩) k (by simp; omega)
      have hg78 := grown_trans (World.grownBy_alloc w7 _ (some g)) hg8
      have own8 := own_s own7 hg78 (by omega)
      have hb8 := grown_below hbz7 hg78 hbz7.size hg
      have hw8 : w2.heap.size ≤ w8.heap.size := by
        have e1 := hg6.size
        have e2 := hb7.size
        have e3 := hg78.size
        omega
      go_wp2_with (at_builtin; refine wpList_append_lies _ rfl _ _ 22 rfl w2.heap.size 9 ti _ 1 16 Tryd.underlying22 hti iz0 iz1 iz2 rfl (by decide) _ m (flatS y) rfl (own8.alloc _) ⟨w8.heap.size, 0, none⟩ 1 1 [.string v] rfl rfl (cell_one_new _ _ _) (fun x hx => by simp at hx; rw [hx]; rfl) (by omega) (by unfold maxLen; omega) (by omega) (by simp; omega) _ rfl ?_; intro q2 cap2 w9 hown9 hgrow9 hat9 hlt9)
      have hb9 := Below.grown (hb8.alloc hb8.size _) hgrow9 (by have := hb8.size; simp; omega) (fun j e => by have := (own8.lt j e).1; omega)
      have hr9 := Lib.hid ((hr8.alloc _).kept hgrow9 (fun j e => by have := (own8.lt j e).1; omega))
      have HO9 := Lib.hid hown9
      have HS9 : Hid (w2.heap.size ≤ w9.heap.size) := by have := hgrow9.size; simp at this; show w2.heap.size ≤ _; omega
      clear hown9 hgrow9 hat9
      go_wp2
      go_roundw
      case rel => exact ⟨j - 1, m + 1, cap2, some ⟨q2, 0, none⟩, y ++ [v], rfl, by rw [show ((j - 1 : Nat) : Int) = (j : Int) - 1 from by omega], by omega, by omega, by simp [HY.out], lines_more hys.out hvsz, by rw [flatS_app]; exact HO9.out, hr9.out.mono (by omega), HS9.out, hb9⟩
      case measure => simp [intOf]; omega
    · go_wp2_with fail
      refine (odd_any g (130 - 13 * j) _ _ hrr (by omega) (by omega)).mono ?_
      rintro e w6 ⟨bb, rfl, hr6, hg6⟩
      have own6 := own_s hown hg6 (by omega)
      have hb6 := grown_below hbr hg6 hbr.size hg
      have hs6 : w2.heap.size ≤ w6.heap.size := by have := hg6.size; omega
      have hs1 : w.heap.size ≤ w2.heap.size := by omega
      cases bb
      · go_wp2
        go_ret
        exact ⟨⟨b, m, cp, y, rfl, own_base4 own6 hs1, HY.out, by omega, hys.out⟩, hb6⟩
      · clear hrr hr6 hg6 hbr hown
        go_wp2
        go_loopw [4, 6] (fun o i wx => ∃ (k m cp : Nat) (b : Option Addr) (y : List ByteArray), o = .slice b m cp ∧ i = .int .i64 k ∧ k ≤ 9 ∧ m ≤ 10 + k ∧ y.length = m ∧ Hid (∀ s ∈ y, s.size ≤ 5000) ∧ wx.ownsRow w2.heap.size 9 1 (.slice b m cp) m (flatS y) ∧ w2.heap.size ≤ wx.heap.size ∧ Below w.heap.size w wx) (fun _ i _ => 9 - (intOf i).toNat)
        case atStart => exact ⟨0, m, cp, b, y, rfl, rfl, by omega, by omega, HY.out, hys, own6, hs6, hb6⟩
        case round =>
          clear own6 hs6 hb6 hys HY
          obtain ⟨k, m, cp, b, y, rfl, rfl, hk9, hmk, hym, hys, hown, hsw, hbr⟩ := hrel
          have HY := Lib.hid hym
          clear hym
          by_cases hk8 : k ≤ 8
          · have z1 : (⟨#[109]⟩ : ByteArray).size = 1 := rfl
            go_wp2_with fail
            refine (spec_mark8 k hk8 _).mono ?_
            rintro e w' ⟨⟨s, rfl, hssz⟩, rfl⟩
            have ct := Lib.hid (fun w => spec_itemText ⟨(⟨#[109]⟩ : ByteArray) ++ s, ⟨#[116]⟩, ⟨#[]⟩, 0⟩ w (by show ((⟨#[109]⟩ : ByteArray) ++ s).size ≤ maxLen; rw [ByteArray.size_append]; unfold maxLen; omega) (by show (⟨#[116]⟩ : ByteArray).size ≤ maxLen; decide) (by show (⟨#[]⟩ : ByteArray).size ≤ maxLen; decide))
            obtain ⟨t, ht, htsz⟩ : ∃ t : ByteArray, t = ⟨(itT ⟨(⟨#[109]⟩ : ByteArray) ++ s, ⟨#[116]⟩, ⟨#[]⟩, 0⟩).toArray⟩ ∧ t.size ≤ 4008 := ⟨_, rfl, by rw [size_of_list]; exact itT_len _⟩
            rw [← ht] at ct
            clear ht
            go_wp2_with fail
            refine (ct.out _).mono ?_
            rintro e w7 ⟨rfl, hb7⟩
            have own7 := own_low' hown hb7
            have hbz7 := hbr.trans (hb7.mono hbr.size)
            have hs7 : w2.heap.size ≤ w7.heap.size := by have := hb7.size; omega
            go_wp2_with (at_builtin; refine wpList_append_lies _ rfl _ _ 22 rfl w2.heap.size 9 ti _ 1 16 Tryd.underlying22 hti iz0 iz1 iz2 rfl (by decide) _ m (flatS y) rfl (own7.alloc _) ⟨w7.heap.size, 0, none⟩ 1 1 [.string t] rfl rfl (cell_one_new _ _ _) (fun x hx => by simp at hx; rw [hx]; rfl) (by omega) (by unfold maxLen; omega) (by omega) (by simp; omega) _ rfl ?_; intro q2 cap2 w9 hown9 hgrow9 hat9 hlt9)
            have hb9 := Below.grown (hbz7.alloc hbz7.size _) hgrow9 (by have := hbz7.size; simp; omega) (fun j e => by have := (own7.lt j e).1; omega)
            have HO9 := Lib.hid hown9
            have HS9 : Hid (w2.heap.size ≤ w9.heap.size) := by have := hgrow9.size; simp at this; show w2.heap.size ≤ _; omega
            clear hown9 hgrow9 hat9
            go_wp2
            go_roundw
            case rel => exact ⟨k + 1, m + 1, cap2, some ⟨q2, 0, none⟩, y ++ [t], rfl, by go_num, by omega, by omega, by simp [HY.out], lines_more hys.out (by omega), by rw [flatS_app]; exact HO9.out, HS9.out, hb9⟩
            case measure => simp [intOf]; omega
          · go_wp2
            go_ret
            exact ⟨⟨b, m, cp, y, rfl, own_base4 hown hs1, HY.out, by omega, hys.out⟩, hbr⟩
end Go.Proofs.YtldllhfadihmeaaDoor
