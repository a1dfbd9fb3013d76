/- The draw of two feeds. -/
import Derived.Test.YtldllhfadihmeaaDrawX
namespace Go.Proofs.Ytldllhfadihmeaa
open Go.RowKit

theorem set_title {w : World} {b : Nat} {c0 c1 c2 c3 : Value} {t : TypeId} (h : w.heap[b]? = some (.cells #[c0, c1, c2, c3] t (0, 0))) (v : Value) : (w.setCell ⟨b, 1, none⟩ v).heap[b]? = some (.cells #[c0, v, c2, c3] t (0, 0)) := by simp [World.setCell, Array.getElem?_modify, h]
theorem set_key {w : World} {b : Nat} {c0 c1 c2 c3 : Value} {t : TypeId} (h : w.heap[b]? = some (.cells #[c0, c1, c2, c3] t (0, 0))) (v : Value) : (w.setCell ⟨b, 0, none⟩ v).heap[b]? = some (.cells #[v, c1, c2, c3] t (0, 0)) := by simp [World.setCell, Array.getElem?_modify, h]
/-- What the draw of two feeds leaves behind. -/
def BothPost (w : World) (g P : Nat) (e : Ending) (w' : World) : Prop :=
  (∃ (q n cap : Nat) (l : List It) (q' n' cap' : Nat) (l' : List It), e = .returned (.tuple #[.slice (some ⟨q, 0, none⟩) n cap, .slice (some ⟨q', 0, none⟩) n' cap']) ∧
    (w'.ownsRow w.heap.size 34 4 (.slice (some ⟨q, 0, none⟩) n cap) n (flatI l) ∧ l.length = n ∧ n ≤ 9 ∧ ∀ i ∈ l, okI i) ∧
    (w'.ownsRow w.heap.size 34 4 (.slice (some ⟨q', 0, none⟩) n' cap') n' (flatI l') ∧ l'.length = n' ∧ n' ≤ 9 ∧ ∀ i ∈ l', okI i)) ∧ Rd w' g P ∧ w.grownBy w' (some g)
theorem ok_title {x : It} (h : okI x) : okI ⟨x.key, ⟨#[111, 116, 104, 101, 114]⟩, x.body, x.day⟩ := ⟨h.1, (by decide : (⟨#[111, 116, 104, 101, 114]⟩ : ByteArray).size ≤ 100), h.2.2⟩

set_option maxRecDepth 100000 in
set_option maxHeartbeats 4000000 in
theorem both_any (g P : Nat) (n : Int) (w : World) (hr : Rd w g P) (hP : P ≤ 600000) (hn : n ≤ 1000000) :
    Calls Try.prog 65 #[.pointer (some ⟨g, 0, none⟩), .int .i64 n] w (BothPost w g (P + 300)) := by
  obtain ⟨ti, hti, iz0, iz1, iz2⟩ := info_parts Try.infoI
  have hlt0 := hr.lt
  have hm : Try.prog.follows .mixedOrders = true := by kernel_rfl
  go_enter Try.func65, Try.ntmps65
  go_wp2_with fail
  refine (feed_any g P _ _ hr (by omega) hn).mono ?_
  rintro e w2 ⟨⟨qa, na, ca, la, rfl, owna, hla, hna, hsa⟩, hr2, hg2⟩
  have HSA := Lib.hid hsa
  have hla2 := Lib.hid hla
  have hqa := (owna.lt qa rfl).2
  have hcpa := own_cap owna
  have hs2 := hg2.size
  have hlt2 := hr2.lt
  have ownb := own_new4 w2 w2.heap.size (Nat.le_refl _)
  have owna1 := owna.alloc (.cells #[] 34)
  have hr21 := hr2.alloc (.cells #[] 34)
  have hg21 : w.grownBy (w2.alloc (.cells #[] 34)) (some g) := grown_trans hg2 (World.grownBy_alloc _ _ _)
  clear hsa hla
  go_wp2
  go_loopw [7, 8] (fun o i wr => ∃ (jj q m cap : Nat) (v : Int) (l : List It), o = .slice (some ⟨q, 0, none⟩) m cap ∧ i = .int .i64 v ∧ v = (jj : Int) - 1 ∧ jj ≤ na ∧ m + jj ≤ na ∧ l.length = m ∧ Hid (∀ i ∈ l, okI i) ∧ wr.ownsRow w2.heap.size 34 4 (.slice (some ⟨q, 0, none⟩) m cap) m (flatI l) ∧ wr.ownsRow w.heap.size 34 4 (.slice (some ⟨qa, 0, none⟩) na ca) na (flatI la) ∧ Rd wr g (P + 114 - 2 * jj) ∧ w.grownBy wr (some g)) (fun _ i _ => (intOf i + 1).toNat)
  case atStart => exact ⟨na, w2.heap.size, 0, 0, _, [], rfl, rfl, rfl, by omega, by omega, rfl, fun e he => by simp at he, ownb, owna1, hr21.mono (by omega), hg21⟩
  case round =>
    obtain ⟨jj, q, m, cap, v, l, rfl, rfl, hv, hjj, hmj, hlm, hok, hown, hoa, hrr, hgr⟩ := hrel
    have hlt := hrr.lt
    have hqb := hown.lt q rfl
    by_cases hj : 0 < jj
    · obtain ⟨k, rfl⟩ : ∃ k, jj = k + 1 := ⟨jj - 1, by omega⟩
      obtain rfl : v = (k : Int) := by omega
      clear hv
      have hkl : k < la.length := by rw [hla2.out]; omega
      obtain ⟨b0, off0, ha0, h1, h2, h3, h4⟩ := ItAt.own hoa hla2.out k hkl
      have hx : okI la[k] := HSA.out _ (List.getElem_mem hkl)
      generalize la[k] = x at *
      injection ha0 with ha0
      injection ha0 with ha1 ha2
      subst ha1
      subst ha2
      simp only [Nat.zero_add] at h1 h2 h3 h4
      have hkn : k < na := by omega
      have hrs := hgr.size
      have A1 := heap_alloc_new wr (.cells #[.string x.key, .string x.title, .string x.body, .int .i64 x.day] 34)
      go_wp2_with fail
      refine (pick_any g (P + 114 - 2 * (k + 1)) _ _ (hrr.alloc _) (by omega)).mono ?_
      rintro e w4 ⟨c, rfl, c0, c1, hr4, hg4⟩
      have hgw4 : wr.grownBy w4 (some g) := grown_trans (World.grownBy_alloc _ _ _) hg4
      have own4 := own_ka hown hgw4 (by omega)
      have oa4 := own_ka hoa hgw4 hlt0
      have G4 := grown_trans hgr hgw4
      have A4 := heap_kept hg4 A1 (by omega)
      have hr4' := hr4
      obtain ⟨p0, p1, p2, p3, f0, f1, f2, f3⟩ := cells4 A4
      clear h1 h2 h3 h4 c1
      by_cases hc0 : c = 0
      · subst hc0
        have hgs := grown_set w4 wr.heap.size 1 (.string ⟨#[111, 116, 104, 101, 114]⟩)
        have own5 := own_other own4 hgs (fun y e => by injection e with e; rw [← e]; show q ≠ _; omega)
        have oa5 := own_other oa4 hgs (fun y e => by injection e with e; rw [← e]; show qa ≠ _; omega)
        have G5 := grown_ownI G4 hgs (fun j e => by injection e with e; omega)
        have A5 := set_title A4 (.string ⟨#[111, 116, 104, 101, 114]⟩)
        have hr5 := hr4.kept hgs (fun j e => by injection e with e; omega)
        go_wp2_with fail
        refine (pick_any g (P + 114 - 2 * (k + 1) + 1) _ _ hr5 (by omega)).mono ?_
        rintro e w6 ⟨d, rfl, d0, d1, hr6, hg6⟩
        have own6 := own_ka own5 hg6 (by omega)
        have oa6 := own_ka oa5 hg6 hlt0
        have G6 := grown_trans G5 hg6
        have A6 := heap_kept hg6 A5 (by omega)
        have hx6 := ok_title hx
        clear p0 p1 p2 p3 f0 f1 f2 f3 own4 own5 oa4 oa5 A4 A5 d1
        obtain ⟨y, hy⟩ : ∃ y : It, y = ⟨x.key, ⟨#[111, 116, 104, 101, 114]⟩, x.body, x.day⟩ := ⟨_, rfl⟩
        have A7 : w6.heap[wr.heap.size]? = some (.cells #[.string y.key, .string y.title, .string y.body, .int .i64 y.day] 34 (0, 0)) := by rw [hy]; exact A6
        rw [← hy] at hx6
        clear hy A6
        obtain ⟨p0, p1, p2, p3, _⟩ := cells4 A7
        by_cases hd : 0 < d
        · go_wp2_with (at_builtin; refine wpList_append_lies _ rfl _ _ 24 rfl w2.heap.size 34 ti _ 4 56 Try.underlying24 hti iz0 iz1 iz2 rfl (by decide) _ m (flatI l) rfl (own6.alloc _) ⟨w6.heap.size, 0, none⟩ 1 1 [.string y.key, .string y.title, .string y.body, .int .i64 y.day] rfl rfl (cell_four_new _ _ _ _ _ _) (fun x hx => by simp at hx; rcases hx with rfl | rfl | rfl | rfl <;> rfl) (by omega) (by unfold maxLen; omega) (by omega) (by have := (own6.lt q rfl).1; have := (own6.lt q rfl).2; simp; omega) _ rfl ?_; intro q2 cap2 w9 hown9 hgrow9 hat9 hlt9)
          have hq8 := own6.lt q rfl
          have hqa8 := oa6.lt qa rfl
          have hgrow9 : (w6.alloc (.cells #[.string y.key, .string y.title, .string y.body, .int .i64 y.day] 34)).grownBy w9 (some q) := hgrow9
          have oa9 := own_other (oa6.alloc (.cells #[.string y.key, .string y.title, .string y.body, .int .i64 y.day] 34)) hgrow9 (fun z e => by injection e with e; rw [← e]; show qa ≠ q; omega)
          have HG9 := Lib.hid (grown_ownI (grown_alloc G6 _) hgrow9 (fun j e => by injection e with e; omega))
          have HR9 := Lib.hid ((hr6.alloc _).kept hgrow9 (fun j e => by injection e with e; omega))
          have HO9 := Lib.hid hown9
          clear hown9 hgrow9 hat9
          go_wp2
          go_roundw
          case rel => exact ⟨k, q2, m + 1, cap2, _, l ++ [y], rfl, rfl, rfl, by omega, by omega, by simp [hlm], oks_more hok.out hx6, by rw [flatI_app]; exact HO9.out, oa9, HR9.out.mono (by omega), HG9.out⟩
          case measure => simp [intOf]
        · go_wp2
          go_roundw
          case rel => exact ⟨k, q, m, cap, _, l, rfl, rfl, rfl, by omega, by omega, hlm, hok, own6, oa6, hr6.mono (by omega), G6⟩
          case measure => simp [intOf]
      · have hcn : ¬ (c : Int) = 0 := hc0
        have hcb : (c == 0) = false := by rw [beq_eq_false_iff_ne]; exact hc0
        go_wp2_with fail
        refine (pick_any g (P + 114 - 2 * (k + 1) + 1) _ _ hr4 (by omega)).mono ?_
        rintro e w6 ⟨d, rfl, d0, d1, hr6, hg6⟩
        have own6 := own_ka own4 hg6 (by omega)
        have oa6 := own_ka oa4 hg6 hlt0
        have G6 := grown_trans G4 hg6
        have A7 := heap_kept hg6 A4 (by omega)
        have hx6 := hx
        clear p0 p1 p2 p3 f0 f1 f2 f3 own4 oa4 A4 d1
        obtain ⟨y, hy⟩ : ∃ y : It, y = x := ⟨_, rfl⟩
        rw [← hy] at A7 hx6
        clear hy
        obtain ⟨p0, p1, p2, p3, _⟩ := cells4 A7
        by_cases hd : 0 < d
        · go_wp2_with (at_builtin; refine wpList_append_lies _ rfl _ _ 24 rfl w2.heap.size 34 ti _ 4 56 Try.underlying24 hti iz0 iz1 iz2 rfl (by decide) _ m (flatI l) rfl (own6.alloc _) ⟨w6.heap.size, 0, none⟩ 1 1 [.string y.key, .string y.title, .string y.body, .int .i64 y.day] rfl rfl (cell_four_new _ _ _ _ _ _) (fun x hx => by simp at hx; rcases hx with rfl | rfl | rfl | rfl <;> rfl) (by omega) (by unfold maxLen; omega) (by omega) (by have := (own6.lt q rfl).1; have := (own6.lt q rfl).2; simp; omega) _ rfl ?_; intro q2 cap2 w9 hown9 hgrow9 hat9 hlt9)
          have hq8 := own6.lt q rfl
          have hqa8 := oa6.lt qa rfl
          have hgrow9 : (w6.alloc (.cells #[.string y.key, .string y.title, .string y.body, .int .i64 y.day] 34)).grownBy w9 (some q) := hgrow9
          have oa9 := own_other (oa6.alloc (.cells #[.string y.key, .string y.title, .string y.body, .int .i64 y.day] 34)) hgrow9 (fun z e => by injection e with e; rw [← e]; show qa ≠ q; omega)
          have HG9 := Lib.hid (grown_ownI (grown_alloc G6 _) hgrow9 (fun j e => by injection e with e; omega))
          have HR9 := Lib.hid ((hr6.alloc _).kept hgrow9 (fun j e => by injection e with e; omega))
          have HO9 := Lib.hid hown9
          clear hown9 hgrow9 hat9
          go_wp2
          go_roundw
          case rel => exact ⟨k, q2, m + 1, cap2, _, l ++ [y], rfl, rfl, rfl, by omega, by omega, by simp [hlm], oks_more hok.out hx6, by rw [flatI_app]; exact HO9.out, oa9, HR9.out.mono (by omega), HG9.out⟩
          case measure => simp [intOf]
        · go_wp2
          go_roundw
          case rel => exact ⟨k, q, m, cap, _, l, rfl, rfl, rfl, by omega, by omega, hlm, hok, own6, oa6, hr6.mono (by omega), G6⟩
          case measure => simp [intOf]
    · obtain rfl : jj = 0 := by omega
      have hvn : ¬ v ≥ 0 := by omega
      clear hv
      go_wp2_with fail
      refine (pick_any g (P + 114) _ _ hrr (by omega)).mono ?_
      rintro e w3 ⟨c, rfl, c0, c1, hr3, hg3⟩
      have c2 := c1 (by omega)
      clear c1
      obtain ⟨c, rfl⟩ := Int.eq_ofNat_of_zero_le c0
      have own3 := own_ka hown hg3 (by omega)
      have oa3 := own_ka hoa hg3 hlt0
      have G3 := grown_trans hgr hg3
      clear hown hoa hrr hgr
      go_wp2
      go_loopw [7, 10] (fun o i wr => ∃ (j q m cap : Nat) (l : List It), o = .slice (some ⟨q, 0, none⟩) m cap ∧ i = .int .i64 j ∧ j ≤ 2 ∧ m + j ≤ 9 ∧ l.length = m ∧ Hid (∀ i ∈ l, okI i) ∧ wr.ownsRow w2.heap.size 34 4 (.slice (some ⟨q, 0, none⟩) m cap) m (flatI l) ∧ wr.ownsRow w.heap.size 34 4 (.slice (some ⟨qa, 0, none⟩) na ca) na (flatI la) ∧ Rd wr g (P + 142 - 13 * j) ∧ w.grownBy wr (some g)) (fun _ i _ => (intOf i).toNat)
      case atStart => exact ⟨c, q, m, cap, l, rfl, rfl, by omega, by omega, hlm, hok, own3, oa3, hr3.mono (by omega), G3⟩
      case round =>
        clear hok own3 oa3 hr3 hg3 G3
        obtain ⟨j, q, m, cap, l, rfl, rfl, j6, mj, hlm, hsz, hown, hoa, hrr, hgr⟩ := hrel
        have hlt := hrr.lt
        have hqb := hown.lt q rfl
        have hcap : m ≤ cap ∧ cap ≤ maxLen := own_cap hown
        by_cases hj : 0 < j
        · go_wp2_with fail
          refine (item_any g (P + 142 - 13 * j) _ _ hrr (by omega) (by omega)).mono ?_
          rintro e w4 ⟨⟨x, rfl, hx⟩, hr4, hg4⟩
          have hlt4 := hr4.lt
          have G4 := grown_trans hgr hg4
          have hs4 := G4.size
          have own4 := own_ka hown hg4 (by omega)
          have oa4 := own_ka hoa hg4 hlt0
          have A4 := heap_alloc_new w4 (.cells #[.string x.key, .string x.title, .string x.body, .int .i64 x.day] 34)
          have hw24 : w2.heap.size ≤ w4.heap.size := by have := (own4.lt q rfl).2; have := (own4.lt q rfl).1; omega
          go_wp2_with fail
          refine (pick_any g (P + 142 - 13 * j + 12) _ _ ((hr4.alloc _).alloc _) (by omega)).mono ?_
          rintro e w6 ⟨kk, rfl, kk0, kk1, hr6, hg6⟩
          have kk2 := kk1 (by omega)
          clear kk1
          obtain ⟨kk, rfl⟩ := Int.eq_ofNat_of_zero_le kk0
          have hlt5 : g < (w4.alloc (.cells #[.string x.key, .string x.title, .string x.body, .int .i64 x.day] 34)).heap.size := by simp; omega
          obtain ⟨s, hs, hssz⟩ := row_str hg6 hlt5 (strRow_list (B := 100) [⟨#[110, 49]⟩, ⟨#[110, 50]⟩, ⟨#[110, 51]⟩] (by simp; decide)) kk (by simp; omega)
          have hs : w6.cell? ⟨w4.heap.size + 1, kk, none⟩ = some (.string s) := by simpa using hs
          have hg46 : w4.grownBy w6 (some g) := grown_trans (grown_trans (World.grownBy_alloc _ _ _) (World.grownBy_alloc _ _ _)) hg6
          have A6 := heap_kept hg6 (heap_kept (World.grownBy_alloc _ _ (some g)) A4 (by omega)) (by omega)
          have own6 := own_ka own4 hg46 (by omega)
          have oa6 := own_ka oa4 hg46 hlt0
          have G6 := grown_trans G4 hg46
          have hgs := grown_set w6 w4.heap.size 0 (.string s)
          obtain ⟨p0, p1, p2, p3, f0, f1, f2, f3⟩ := cells4 A6
          have hq4 := (own4.lt q rfl).2
          have hqa4 := (oa4.lt qa rfl).2
          have own7 := own_other own6 hgs (fun y e => by injection e with e; rw [← e]; show q ≠ _; omega)
          have oa7 := own_other oa6 hgs (fun y e => by injection e with e; rw [← e]; show qa ≠ _; omega)
          have G7 := grown_ownI G6 hgs (fun j e => by injection e with e; omega)
          have A7 := set_key A6 (.string s)
          have hr7 := hr6.kept hgs (fun j e => by injection e with e; omega)
          have hw67 : w4.heap.size < (w6.setCell ⟨w4.heap.size, 0, none⟩ (.string s)).heap.size := (Array.getElem?_eq_some_iff.1 A7).1
          obtain ⟨y, hy⟩ : ∃ y : It, y = ⟨s, x.title, x.body, x.day⟩ := ⟨_, rfl⟩
          have hyo : okI y := by rw [hy]; exact ⟨by show s.size ≤ 100; omega, hx.2.1, hx.2.2⟩
          have A8 : (w6.setCell ⟨w4.heap.size, 0, none⟩ (.string s)).heap[w4.heap.size]? = some (.cells #[.string y.key, .string y.title, .string y.body, .int .i64 y.day] 34 (0, 0)) := by rw [hy]; exact A7
          have hokx := oks_more hsz.out hyo
          have own5 := Lib.hid own7
          have G5 := G7
          have hRg : Rd (w6.setCell ⟨w4.heap.size, 0, none⟩ (.string s)) g (P + 155 - 13 * j) := hr7.mono (by omega)
          clear hy A7 A6 own6 oa6 own7 hg6 own4 oa4
          go_wp2_with fail
          rename_i K0 hK0
          generalize w6.setCell ⟨w4.heap.size, 0, none⟩ (.string s) = w5 at *
          have HX := A8
          have hBw : w5.heap.size ≤ w5.heap.size := Nat.le_refl _
          have hgB : g < w5.heap.size := by omega
          have hltX : g < w4.heap.size := hlt4
          have hg0 : g < w2.heap.size := by omega
          refine wp_region_fv hm g (P + 155 - 13 * j) (w5.heap.size) m (.slice (some ⟨q, 0, none⟩) m cap) l y 52 rfl hRg ?_ ?_
          · rintro L a w' i ⟨u, rfl, hsz, hG, hR, hC, hF⟩ hi K hK
            clear hK0
            have hi7 : i < 7 := ready_lt hi
            have h0f := getD_not (by omega) (mem_ready.1 hi).1
            have hBs : w5.heap.size ≤ w'.heap.size := Nat.le_trans hBw hG.size
            have hF2 : ∀ j, L[j]?.getD false = true → DfOf (w5.heap.size) m (.slice (some ⟨q, 0, none⟩) m cap) l y L j (u j) w' := fun j h => hF j (by simpa using h)
            obtain rfl | rfl | rfl | rfl | rfl | rfl | rfl : i = 0 ∨ i = 1 ∨ i = 2 ∨ i = 3 ∨ i = 4 ∨ i = 5 ∨ i = 6 := by omega
            · have hd := ready_dep hi rfl
              simp [Region.binds] at hd
              refine wpOp_of rfl rfl ?_
              simp only [frmF, List.setIfInBounds_toArray, List.set_cons_succ, List.set_cons_zero]
              go_simp
              have hga := World.grownBy_alloc w' (.cells #[] 34) (some g)
              have hzz := hK _ _ (FvInv.step (t := _) (s := 52) (i := 0) (v := .slice (some ⟨w'.heap.size, 0, none⟩) 0 0) (w' := w'.alloc (.cells #[] 34)) hsz hC (fun e => by cases e) (fun _ => ⟨w'.heap.size, rfl, heap_alloc_new _ _, hBs, own_new4 w' _ hBs⟩) (fun j _ hl => (hF j hl).kept hga hgB) (grown_trans hG hga) (hR.alloc _))
              simp only [frmF, List.setIfInBounds_toArray, List.set_cons_succ, List.set_cons_zero, reduceIte, Nat.reduceEqDiff] at hzz
              exact hzz
            · have hd := ready_dep hi rfl
              simp [Region.binds] at hd
              refine wpOp_of rfl rfl ?_
              simp only [frmF, List.setIfInBounds_toArray, List.set_cons_succ, List.set_cons_zero]
              go_simp
              have hzz := hK _ _ (FvInv.step (t := _) (s := 52) (i := 1) (v := .slice (some ⟨q, 0, none⟩) m cap) (w' := w') hsz hC (fun e => by cases e) rfl (fun j _ hl => (hF j hl).kept (World.grownBy.refl w' (some g)) hgB) hG hR)
              simp only [frmF, List.setIfInBounds_toArray, List.set_cons_succ, List.set_cons_zero, reduceIte, Nat.reduceEqDiff] at hzz
              exact hzz
            · have hd := ready_dep hi rfl
              simp [Region.binds] at hd
              obtain ⟨hd0, hd1⟩ := hd
              obtain ⟨b1, e0, hb1, hbB, ho1⟩ := hF2 0 hd0 h0f
              have e1 : u 1 = _ := hF2 1 hd1
              have hlq := (own_ka own5.out hG hg0).cells (g := q) rfl
              refine wpOp_of rfl rfl ?_
              simp only [frmF, List.setIfInBounds_toArray, List.set_cons_succ, List.set_cons_zero]
              rw [e0, e1]
              refine wp_append_own w' (.tmp 52) (.tmp 53) 24 rfl (w5.heap.size) 34 ti _ 4 56 Try.underlying24 hti iz0 iz1 iz2 rfl (by decide) (.slice (some ⟨b1, 0, none⟩) 0 0) 0 [] (by simp [Act.eval]) ho1 ⟨q, 0, none⟩ m cap (flatI l) (by simp [Act.eval]) (by rw [flatI_len, hlm]) hlq (flatI_one _) (by unfold maxLen; omega) (by omega) hBs ?_
              intro v' w2 hown2 hgrow2 _
              have hgr1 : w'.grownBy w2 (some b1) := hgrow2
              rw [Nat.zero_add, List.nil_append] at hown2
              go_simp
              have hzz := hK _ _ (FvInv.step (t := _) (s := 52) (i := 2) (v := v') (w' := w2) hsz hC (fun e => by cases e) (fun _ => hown2) (fun j hj hl => by
                match j, hj with
                | 0, _ => exact fun h2 => by rw [getD_set_here (by omega)] at h2; cases h2
                | 1, _ => exact hF 1 hl
                | 2, hj => exact absurd rfl hj
                | 3, _ => exact hF 3 hl
                | 4, _ =>
                  intro h2
                  obtain ⟨b, z1, z2, z3⟩ := hF 4 hl (getD_set_no h2)
                  exact ⟨b, z1, heap_kept' hgr1 z2 (fun e => by rw [e] at z2; have := hb1.symm.trans z2; simp at this), z3⟩
                | 5, _ => exact absurd (hC hl) (by rw [h0f]; decide)
                | 6, _ => exact hF 6 hl
                | _ + 7, _ => trivial) (grown_ownI hG hgr1 (fun j e => by injection e with e; omega)) (hR.kept hgr1 (fun k e => by injection e with e; omega)))
              simp only [frmF, List.setIfInBounds_toArray, List.set_cons_succ, List.set_cons_zero, reduceIte, Nat.reduceEqDiff, e0, e1] at hzz
              exact hzz
            · have hd := ready_dep hi rfl
              simp [Region.binds] at hd
              obtain ⟨p0, p1, p2, p3, _⟩ := cells4 (heap_kept hG HX hltX)
              refine wpOp_of rfl rfl ?_
              simp only [frmF, List.setIfInBounds_toArray, List.set_cons_succ, List.set_cons_zero]
              go_simp
              have hzz := hK _ _ (FvInv.step (t := _) (s := 52) (i := 3) (v := .agg #[.string y.key, .string y.title, .string y.body, .int .i64 y.day]) (w' := w') hsz hC (fun e => by cases e) rfl (fun j _ hl => (hF j hl).kept (World.grownBy.refl w' (some g)) hgB) hG hR)
              simp only [frmF, List.setIfInBounds_toArray, List.set_cons_succ, List.set_cons_zero, reduceIte, Nat.reduceEqDiff] at hzz
              exact hzz
            · have hd := ready_dep hi rfl
              simp [Region.binds] at hd
              have e3 : u 3 = _ := hF2 3 hd
              refine wpOp_of rfl rfl ?_
              simp only [frmF, List.setIfInBounds_toArray, List.set_cons_succ, List.set_cons_zero]
              rw [e3]
              go_simp
              have hga := World.grownBy_alloc w' (.cells #[.string y.key, .string y.title, .string y.body, .int .i64 y.day] 34) (some g)
              have hzz := hK _ _ (FvInv.step (t := _) (s := 52) (i := 4) (v := .slice (some ⟨w'.heap.size, 0, none⟩) 1 1) (w' := w'.alloc (.cells #[.string y.key, .string y.title, .string y.body, .int .i64 y.day] 34)) hsz hC (fun e => by cases e) (fun _ => ⟨w'.heap.size, rfl, heap_alloc_new _ _, hBs⟩) (fun j _ hl => (hF j hl).kept hga hgB) (grown_trans hG hga) (hR.alloc _))
              simp only [frmF, List.setIfInBounds_toArray, List.set_cons_succ, List.set_cons_zero, reduceIte, Nat.reduceEqDiff, e3] at hzz
              exact hzz
            · have hd := ready_dep hi rfl
              simp [Region.binds] at hd
              have ho2 := hF2 2 hd.1 h0f
              obtain ⟨b4, e4, hb4, hb4B⟩ := hF2 4 hd.2.1 h0f
              refine wpOp_of rfl rfl ?_
              simp only [frmF, List.setIfInBounds_toArray, List.set_cons_succ, List.set_cons_zero]
              rw [e4]
              refine wp_append_own w' (.tmp 54) (.tmp 56) 24 rfl (w5.heap.size) 34 ti _ 4 56 Try.underlying24 hti iz0 iz1 iz2 rfl (by decide) (u 2) m (flatI l) (by simp [Act.eval]) ho2 ⟨b4, 0, none⟩ 1 1 (flatI [y]) (by simp [Act.eval]) rfl (items_row hb4) (flatI_one _) (by unfold maxLen; omega) (by omega) hBs ?_
              intro v' w2 hown2 hgrow2 _
              rw [← flatI_app] at hown2
              have hbk := fun k e => (ho2.lt k e).1
              go_simp
              have hzz := hK _ _ (FvInv.step (t := _) (s := 52) (i := 5) (v := v') (w' := w2) hsz hC (fun _ => by simpa using hd.1) hown2 (fun j hj hl => by
                have h2t : L.getD 2 false = true := by simpa using hd.1
                match j, hj with
                | 0, _ => exact fun h2 => by rw [getD_set_true h2t] at h2; cases h2
                | 1, _ => exact hF 1 hl
                | 2, _ => exact fun h2 => by rw [getD_set_here (by omega)] at h2; cases h2
                | 3, _ => exact hF 3 hl
                | 4, _ => exact fun h2 => by rw [getD_set_here (by omega)] at h2; cases h2
                | 5, hj => exact absurd rfl hj
                | 6, _ => exact hF 6 hl
                | _ + 7, _ => trivial) (grown_ownI hG hgrow2 (fun j e => by have := hbk j e; omega)) (hR.kept hgrow2 (fun k e => by have := hbk k e; omega)))
              simp only [frmF, List.setIfInBounds_toArray, List.set_cons_succ, List.set_cons_zero, reduceIte, Nat.reduceEqDiff, e4] at hzz
              exact hzz
            · have hd := ready_dep hi rfl
              simp [Region.binds] at hd
              have ho5 : w'.ownsRow _ _ 4 (u 5) _ _ := hF2 5 hd
              obtain ⟨g5, cap5, e5, _⟩ := ho5.form (by omega)
              rw [e5] at ho5
              refine wpOp_of rfl rfl ?_
              simp only [frmF, List.setIfInBounds_toArray, List.set_cons_succ, List.set_cons_zero]
              rw [e5]
              go_simp
              refine (spec_feedValid (some ⟨g5, 0, none⟩) (m + 1) cap5 (l ++ [y]) w' (ItAt.own ho5 (by simp [hlm])) (by simp [hlm]) (by unfold maxLen; omega) (fun i hi => okI_sz (hokx i hi))).mono ?_
              rintro e w2 ⟨rfl, hb2⟩
              have hg2 : w'.grownBy w2 (some g) := grown_some (World.grownBy.refl w' _) (below_grown hb2)
              have hzz := hK _ _ (FvInv.step (t := _) (s := 52) (i := 6) (v := .bool (feedV (l ++ [y]))) (w' := w2) hsz hC (fun e => by cases e) rfl (fun j _ hl => (hF j hl).kept hg2 hgB) (grown_trans hG hg2) (hR.kept (below_grown hb2) (fun k e => by cases e)))
              simp only [frmF, List.setIfInBounds_toArray, List.set_cons_succ, List.set_cons_zero, reduceIte, Nat.reduceEqDiff, e5] at hzz
              exact hzz
          · rintro L a w8 ⟨u, rfl, hsz6, hG8, hR8, _, hF6⟩ hr0
            have hall := ready_nil (by
              intro i o ho
              have hi7 : i < 7 := (Array.getElem?_eq_some_iff.1 ho).1
              obtain rfl | rfl | rfl | rfl | rfl | rfl | rfl : i = 0 ∨ i = 1 ∨ i = 2 ∨ i = 3 ∨ i = 4 ∨ i = 5 ∨ i = 6 := by omega
              all_goals (simp at ho; subst ho; simp)) (by simpa using hsz6) hr0
            have e6 : u 6 = _ := hF6 6 (hall 6 (by simp))
            clear hall hr0 hF6 hsz6
            have own8 := own_ka own5.out hG8 hg0
            have oa8 := own_ka oa7 hG8 hlt0
            have G8 := grown_trans G5 hG8
            obtain ⟨p0, p1, p2, p3, _⟩ := cells4 (heap_kept hG8 HX hltX)
            show K0 _ _
            refine hK0 _ _ ?_
            clear hK0
            simp only [frmF, List.setIfInBounds_toArray, List.set_cons_succ, List.set_cons_zero, e6]
            generalize feedV (l ++ [y]) = ok
            cases ok
            · go_wp2
              go_roundw
              case rel => exact ⟨j - 1, q, m, cap, l, rfl, by rw [show ((j - 1 : Nat) : Int) = (j : Int) - 1 from by omega], by omega, by omega, hlm, hsz, own8, oa8, hR8.mono (by omega), G8⟩
              case measure => simp [intOf]; omega
            · go_wp2_with (at_builtin; refine wpList_append_lies _ rfl _ _ 24 rfl w2.heap.size 34 ti _ 4 56 Try.underlying24 hti iz0 iz1 iz2 rfl (by decide) _ m (flatI l) rfl (own8.alloc _) ⟨w8.heap.size, 0, none⟩ 1 1 [.string y.key, .string y.title, .string y.body, .int .i64 y.day] rfl rfl (cell_four_new _ _ _ _ _ _) (fun x hx => by simp at hx; rcases hx with rfl | rfl | rfl | rfl <;> rfl) (by omega) (by unfold maxLen; omega) (by omega) (by have := (own8.lt q rfl).1; have := (own8.lt q rfl).2; simp; omega) _ rfl ?_; intro q2 cap2 w9 hown9 hgrow9 hat9 hlt9)
              have hq8 := own8.lt q rfl
              have hqa8 := oa8.lt qa rfl
              have hgrow9 : (w8.alloc (.cells #[.string y.key, .string y.title, .string y.body, .int .i64 y.day] 34)).grownBy w9 (some q) := hgrow9
              have oa9 := own_other (oa8.alloc (.cells #[.string y.key, .string y.title, .string y.body, .int .i64 y.day] 34)) hgrow9 (fun z e => by injection e with e; rw [← e]; show qa ≠ q; omega)
              have HG9 := Lib.hid (grown_ownI (grown_alloc G8 _) hgrow9 (fun j e => by injection e with e; omega))
              have HR9 := Lib.hid ((hR8.alloc _).kept hgrow9 (fun j e => by injection e with e; omega))
              have HO9 := Lib.hid hown9
              clear hown9 hgrow9 hat9
              go_wp2
              go_roundw
              case rel => exact ⟨j - 1, q2, m + 1, cap2, l ++ [y], rfl, by rw [show ((j - 1 : Nat) : Int) = (j : Int) - 1 from by omega], by omega, by omega, by simp [hlm], hokx, by rw [flatI_app]; exact HO9.out, oa9, HR9.out.mono (by omega), HG9.out⟩
              case measure => simp [intOf]; omega
        · go_wp2
          go_ret2
          exact ⟨⟨qa, na, ca, la, q, m, cap, l, rfl, ⟨hoa, hla2.out, by omega, HSA.out⟩, ⟨own_base4 hown hs2, hlm, by omega, hsz.out⟩⟩, hrr.mono (by omega), hgr⟩
end Go.Proofs.Ytldllhfadihmeaa
