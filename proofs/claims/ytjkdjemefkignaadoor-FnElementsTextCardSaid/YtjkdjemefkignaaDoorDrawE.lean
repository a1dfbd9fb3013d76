/- The draws of elements. -/
import Derived.Test.YtjkdjemefkignaaDoorDrawB
import Derived.Test.YtjkdjemefkignaaDoorElsL
import Derived.Deep.AppendLies
import Derived.Deep.RegionLaw
namespace Go.Proofs.YtjkdjemefkignaaDoor
open Go.RowKit

theorem names4 : StrRow #[.string ⟨#[107, 101, 121]⟩, .string ⟨#[116, 105, 116, 108, 101]⟩, .string ⟨#[98, 111, 100, 121]⟩, .string ⟨#[111, 116, 104, 101, 114]⟩] 5 := by
  intro k hk
  match k, hk with
  | 0, _ => exact ⟨_, rfl, by decide⟩
  | 1, _ => exact ⟨_, rfl, by decide⟩
  | 2, _ => exact ⟨_, rfl, by decide⟩
  | 3, _ => exact ⟨_, rfl, by decide⟩
theorem grown_own {w a b : World} {g : Nat} {row : Option Nat} (h : w.grownBy a (some g)) (k : a.grownBy b row) (hr : ∀ j, row = some j → w.heap.size ≤ j) : w.grownBy b (some g) :=
  ⟨k.os.trans h.os, k.tape.trans h.tape, k.output.trans h.output, Nat.le_trans h.size k.size, fun i hi hne => (k.block i (Nat.lt_of_lt_of_le hi h.size) (fun e => by have := hr i e.symm; omega)).trans (h.block i hi hne)⟩
theorem own_kept {w w' : World} {base t g n cap q : Nat} {xs : List Value} (h : w.ownsRow base t 2 (.slice (some ⟨q, 0, none⟩) n cap) n xs) (hg : w.grownBy w' (some g)) (hne : g < base) : w'.ownsRow base t 2 (.slice (some ⟨q, 0, none⟩) n cap) n xs :=
  h.kept hg (.inr (by simp [Value.ownBlock]; have := (h.lt q rfl).1; omega))
/-- The length of the slice in a slot: a loop's measure. -/
def lenOf : Value → Nat | .slice _ n _ => n | _ => 0
theorem els_more {l : List El} {x y : ByteArray} (h : ∀ e ∈ l, e.1.size ≤ 100 ∧ e.2.size ≤ 100) (hx : x.size ≤ 100) (hy : y.size ≤ 100) : ∀ e ∈ l ++ [(x, y)], e.1.size ≤ 100 ∧ e.2.size ≤ 100 := by
  intro e he
  rw [List.mem_append, List.mem_singleton] at he
  rcases he with he | rfl
  · exact h e he
  · exact ⟨hx, hy⟩
/-- What a draw of elements leaves behind. -/
theorem cell_two_new1 (W : World) (o : Obj) (a b : Value) (t : TypeId) : ∀ j u, [a, b][j]? = some u → ((W.alloc o).alloc (.cells #[a, b] t)).cell? ((⟨W.heap.size + 1, 0, none⟩ : Addr).add j) = some u := by
  have := cell_two_new (W.alloc o) a b t
  rwa [show (W.alloc o).heap.size = W.heap.size + 1 from by simp] at this
theorem rowk {W w2 : World} {g k : Nat} {t : TypeId} {cs : Array Value} {u : Value} (hg : (W.alloc (.cells cs t)).grownBy w2 (some g)) (hlt : g < W.heap.size) (h : cs[k]? = some u) : w2.cell? ⟨W.heap.size, k, none⟩ = some u := (row_kept hg hlt k).trans h
theorem rowk_all {k : Nat} {t : TypeId} {cs : Array Value} {u : Value} (h : cs[k]? = some u) : ∀ W : World, (W.alloc (.cells cs t)).cell? ⟨W.heap.size, k, none⟩ = some u := fun W => (cell_of_row _ _ _ _ _ _ (heap_alloc_new W _)).trans h
theorem cellk {W w2 : World} {g b k : Nat} {u : Value} (hg : W.grownBy w2 (some g)) (hne : b ≠ g) (h : W.cell? ⟨b, k, none⟩ = some u) : w2.cell? ⟨b, k, none⟩ = some u := hg.cell h (fun e => hne (by injection e))
def ElsPost (w : World) (g P : Nat) (e : Ending) (w' : World) : Prop :=
  (∃ (q n cap : Nat) (l : List El), e = .returned (.slice (some ⟨q, 0, none⟩) n cap) ∧ w'.ownsRow w.heap.size 54 2 (.slice (some ⟨q, 0, none⟩) n cap) n (flatE l) ∧ l.length = n ∧ n ≤ 9 ∧ ∀ e ∈ l, e.1.size ≤ 100 ∧ e.2.size ≤ 100) ∧ Rd w' g P ∧ w.grownBy w' (some g)

set_option maxHeartbeats 2000000 in
theorem elements_any (g P : Nat) (n : Int) (w : World) (hr : Rd w g P) (hP : P ≤ 800000) (hn : n ≤ 1000000) :
    Calls Tryd.prog 47 #[.pointer (some ⟨g, 0, none⟩), .int .i64 n] w (ElsPost w g (P + 17)) := by
  obtain ⟨ti, hti, hz0, hz1, hz2⟩ := info_parts Tryd.infoE
  have hlt0 := hr.lt
  go_enter Tryd.func47, Tryd.ntmps47
  go_wp2_with fail
  refine (pick_any g P _ _ (hr.alloc _) (by omega)).mono ?_
  rintro e w2 ⟨k, rfl, k0, k1, hr2, hg2⟩
  have k2 := k1 (by omega)
  clear k1
  obtain ⟨k, rfl⟩ := Int.eq_ofNat_of_zero_le k0
  have hown0 := own_kept (World.ownsRow_made (e := 54) (size := 2) w #[] 0 (Nat.le_refl _) (by unfold maxLen; omega) rfl) hg2 hlt0
  have hG2 : w.grownBy w2 (some g) := grown_trans (World.grownBy_alloc _ _ _) hg2
  go_wp2_with fail
  go_loopw [5, 6] (fun o i wr => ∃ (j q m cap : Nat) (l : List El), o = .slice (some ⟨q, 0, none⟩) m cap ∧ i = .int .i64 j ∧ j ≤ 4 ∧ m + j ≤ 4 ∧ l.length = m ∧ Hid (∀ e ∈ l, e.1.size ≤ 100 ∧ e.2.size ≤ 100) ∧ wr.ownsRow w.heap.size 54 2 (.slice (some ⟨q, 0, none⟩) m cap) m (flatE l) ∧ Rd wr g (P + 13 - 3 * j) ∧ w.grownBy wr (some g)) (fun _ i _ => (intOf i).toNat)
  case atStart => exact ⟨k, w.heap.size, 0, 0, [], rfl, rfl, by omega, by omega, rfl, fun e he => by simp at he, hown0, hr2.mono (by omega), hG2⟩
  case round =>
    obtain ⟨j, q, m, cap, l, rfl, rfl, j4, mj, hlm, hsz, hown, hrr, hgr⟩ := hrel
    have hlt := hrr.lt
    have hqb := hown.lt q rfl
    by_cases hj : 0 < j
    · go_wp2_with fail
      go_region_law (first
        | (refine step_append_lies _ rfl (.tmp 14) (.tmp 23) 33 rfl w.heap.size 54 ti _ 2 32 Tryd.underlying33 hti hz0 hz1 hz2 rfl (by decide) _ m (flatE l) (by simp [Act.eval]) (own4.alloc _) ⟨w4.heap.size, 0, none⟩ 1 1 [.string s, .string u] (by simp [Act.eval]) rfl (cell_two_new _ _ _ _) (fun x hx => by simp at hx; rcases hx with rfl | rfl <;> rfl) (by omega) (by unfold maxLen; omega) (by omega) (by have := G4.size; simp; omega) _ rfl ?_; intro q2 cap2 w5 hown5 hgrow5 hat5 hlt5; have HG5 := Lib.hid (grown_own (grown_alloc G4 _) hgrow5 (fun j e => by simp [Value.ownBlock] at e; omega)); have HR5 := Lib.hid ((hr4.alloc _).kept hgrow5 (fun j e => by simp [Value.ownBlock] at e; omega)); have HO5 := Lib.hid hown5; clear hown5 hgrow5 hat5)
        | (refine step_append_lies _ rfl (.tmp 14) (.tmp 23) 33 rfl w.heap.size 54 ti _ 2 32 Tryd.underlying33 hti hz0 hz1 hz2 rfl (by decide) _ m (flatE l) (by simp [Act.eval]) ((own4.alloc _).alloc _) ⟨w4.heap.size + 1, 0, none⟩ 1 1 [.string s, .string u] (by simp [Act.eval]) rfl (cell_two_new1 _ _ _ _ _) (fun x hx => by simp at hx; rcases hx with rfl | rfl <;> rfl) (by omega) (by unfold maxLen; omega) (by omega) (by have := G4.size; simp; omega) _ rfl ?_; intro q2 cap2 w5 hown5 hgrow5 hat5 hlt5; have HG5 := Lib.hid (grown_own (grown_alloc (grown_alloc G4 _) _) hgrow5 (fun j e => by simp [Value.ownBlock] at e; omega)); have HR5 := Lib.hid (((hr4.alloc _).alloc _).kept hgrow5 (fun j e => by simp [Value.ownBlock] at e; omega)); have HO5 := Lib.hid hown5; clear hown5 hgrow5 hat5)
        | (go_simp; go_at_call 40; refine (pick_any g (P + 13 - 3 * j) _ _ ?_ (by omega)).mono ?_; (first | exact hrr | exact hrr.alloc _); rintro e w3 ⟨i, rfl, i0, i1, hr3, hg3⟩; have i2 := i1 (by omega); clear i1; obtain ⟨i, rfl⟩ := Int.eq_ofNat_of_zero_le i0; obtain ⟨s, hs, hssz⟩ := names4 i (by show i < 4; omega); have F1 := rowk_all (t := 9) hs; (try have F2 := rowk (un_drew hg3) hlt hs); have hlt3 := hr3.lt; have own3 : w3.ownsRow w.heap.size 54 2 (.slice (some ⟨q, 0, none⟩) m cap) m (flatE l) := (by first | exact own_kept hown (un_drew hg3) (by omega) | exact own_kept (hown.alloc _) (un_drew hg3) (by omega)); have G3 : w.grownBy w3 (some g) := (by first | exact grown_trans hgr (un_drew hg3) | exact grown_trans hgr (grown_trans (World.grownBy_alloc _ _ _) (un_drew hg3))))
        | (go_simp; go_at_call 36; refine (text_any g (P + 13 - 3 * j + 1) _ _ ?_ (by omega) (by omega)).mono ?_; (first | exact hr3 | exact hr3.alloc _); rintro e w4 ⟨u, rfl, husz, hr4, hg4⟩; (try have F3 := cellk hg4 (by omega) F2); (try have F4 := rowk hg4 hlt3 hs); have hlt4 := hr4.lt; have own4 : w4.ownsRow w.heap.size 54 2 (.slice (some ⟨q, 0, none⟩) m cap) m (flatE l) := (by first | exact own_kept own3 hg4 (by omega) | exact own_kept (own3.alloc _) hg4 (by omega)); have G4 : w.grownBy w4 (some g) := (by first | exact grown_trans G3 hg4 | exact grown_trans G3 (grown_trans (World.grownBy_alloc _ _ _) hg4))))
      all_goals
        go_wp2
        go_roundw
        case rel => exact ⟨j - 1, q2, m + 1, cap2, l ++ [(s, u)], rfl, by rw [show ((j - 1 : Nat) : Int) = (j : Int) - 1 from by omega], by omega, by omega, by simp [hlm], els_more hsz.out (by show s.size ≤ 100; omega) husz, by rw [flatE_app]; exact HO5.out, HR5.out.mono (by omega), HG5.out⟩
        case measure => simp [intOf]; omega
    · go_wp2_with fail
      refine (odd_any g (P + 13 - 3 * j) _ _ hrr (by omega) hn).mono ?_
      rintro e w6 ⟨b, rfl, hr6, hg6⟩
      have own6 := own_kept hown hg6 (by omega)
      have G6 := grown_trans hgr hg6
      cases b
      · go_wp2
        go_ret
        exact ⟨⟨q, m, cap, l, rfl, own6, hlm, by omega, hsz.out⟩, hr6.mono (by omega), G6⟩
      · go_wp2_with fail
        refine (pick_any g (P + 13 - 3 * j + 1) _ _ hr6 (by omega)).mono ?_
        rintro e w7 ⟨i, rfl, i0, i1, hr7, hg7⟩
        have i2 := i1 (by omega)
        clear i1
        have own7 := own_kept own6 hg7 (by omega)
        have G7 := grown_trans G6 hg7
        have hi3 : i = 0 ∨ i = 1 ∨ i = 2 := by omega
        clear own6 hown
        rcases hi3 with rfl | rfl | rfl
        · go_wp2_with fail
          refine (word_any g (P + 13 - 3 * j + 2) _ _ hr7 (by omega) (by omega)).mono ?_
          rintro e w8 ⟨u, rfl, husz, hr8, hg8⟩
          have own8 := own_kept own7 hg8 (by omega)
          have G8 := grown_trans G7 hg8
          go_wp2_with (at_builtin; refine wpList_append_lies _ rfl _ _ 33 rfl w.heap.size 54 ti _ 2 32 Tryd.underlying33 hti hz0 hz1 hz2 rfl (by decide) _ m (flatE l) rfl (own8.alloc _) ⟨w8.heap.size, 0, none⟩ 1 1 [.string u, .string ⟨#[]⟩] rfl rfl (cell_two_new _ _ _ _) (fun x hx => by simp at hx; rcases hx with rfl | rfl <;> rfl) (by omega) (by unfold maxLen; omega) (by omega) (by have := G8.size; simp; omega) _ rfl ?_; intro q2 cap2 w5 hown5 hgrow5 hat5 hlt5)
          have HG5 := grown_own (grown_alloc G8 _) hgrow5 (fun j e => (own8.lt j e).1)
          have HR5 := (hr8.alloc _).kept hgrow5 (fun j e => Nat.lt_of_lt_of_le hlt0 (own8.lt j e).1)
          go_wp2
          go_ret
          exact ⟨⟨q2, m + 1, cap2, l ++ [(u, ⟨#[]⟩)], rfl, by rw [flatE_app]; exact hown5, by simp [hlm], by omega, els_more hsz.out (by show u.size ≤ 100; omega) (by show (⟨#[]⟩ : ByteArray).size ≤ 100; decide)⟩, HR5.mono (by omega), HG5⟩
        · go_wp2_with fail
          refine (text_any g (P + 13 - 3 * j + 2) _ _ hr7 (by omega) (by omega)).mono ?_
          rintro e w8 ⟨u, rfl, husz, hr8, hg8⟩
          have own8 := own_kept own7 hg8 (by omega)
          have G8 := grown_trans G7 hg8
          go_wp2_with (at_builtin; refine wpList_append_lies _ rfl _ _ 33 rfl w.heap.size 54 ti _ 2 32 Tryd.underlying33 hti hz0 hz1 hz2 rfl (by decide) _ m (flatE l) rfl (own8.alloc _) ⟨w8.heap.size, 0, none⟩ 1 1 [.string ⟨#[97]⟩, .string u] rfl rfl (cell_two_new _ _ _ _) (fun x hx => by simp at hx; rcases hx with rfl | rfl <;> rfl) (by omega) (by unfold maxLen; omega) (by omega) (by have := G8.size; simp; omega) _ rfl ?_; intro q2 cap2 w5 hown5 hgrow5 hat5 hlt5)
          have HG5 := grown_own (grown_alloc G8 _) hgrow5 (fun j e => (own8.lt j e).1)
          have HR5 := (hr8.alloc _).kept hgrow5 (fun j e => Nat.lt_of_lt_of_le hlt0 (own8.lt j e).1)
          go_wp2
          go_ret
          exact ⟨⟨q2, m + 1, cap2, l ++ [(⟨#[97]⟩, u)], rfl, by rw [flatE_app]; exact hown5, by simp [hlm], by omega, els_more hsz.out (by show (⟨#[97]⟩ : ByteArray).size ≤ 100; decide) husz⟩, HR5.mono (by omega), HG5⟩
        · clear hr6 hg6
          go_wp2
          go_loopw [5] (fun o wx => ∃ (q m cap : Nat) (l : List El), o = .slice (some ⟨q, 0, none⟩) m cap ∧ m ≤ 9 ∧ l.length = m ∧ Hid (∀ e ∈ l, e.1.size ≤ 100 ∧ e.2.size ≤ 100) ∧ wx.ownsRow w.heap.size 54 2 (.slice (some ⟨q, 0, none⟩) m cap) m (flatE l) ∧ Rd wx g (P + 17) ∧ w.grownBy wx (some g)) (fun o _ => 9 - lenOf o)
          case atStart => exact ⟨q, m, cap, l, rfl, by omega, hlm, hsz, own7, hr7.mono (by omega), G7⟩
          case round =>
            obtain ⟨q1, m1, cap1, l1, rfl, hm9, hl1, hs1, own8, hr8, G8⟩ := hrel
            by_cases h8 : m1 ≤ 8
            · go_wp2_with (at_builtin; refine wpList_append_lies _ rfl _ _ 33 rfl w.heap.size 54 ti _ 2 32 Tryd.underlying33 hti hz0 hz1 hz2 rfl (by decide) _ m1 (flatE l1) rfl (own8.alloc _) ⟨wr.heap.size, 0, none⟩ 1 1 [.string ⟨#[97]⟩, .string ⟨#[]⟩] rfl rfl (cell_two_new _ _ _ _) (fun x hx => by simp at hx; rcases hx with rfl | rfl <;> rfl) (by omega) (by unfold maxLen; omega) (by omega) (by have := G8.size; simp; omega) _ rfl ?_; intro q2 cap2 w5 hown5 hgrow5 hat5 hlt5)
              have HG5 := grown_own (grown_alloc G8 _) hgrow5 (fun j e => (own8.lt j e).1)
              have HR5 := (hr8.alloc _).kept hgrow5 (fun j e => Nat.lt_of_lt_of_le hlt0 (own8.lt j e).1)
              go_wp2
              go_roundw
              case rel => exact ⟨q2, m1 + 1, cap2, l1 ++ [(⟨#[97]⟩, ⟨#[]⟩)], rfl, by omega, by simp [hl1], els_more hs1.out (by show (⟨#[97]⟩ : ByteArray).size ≤ 100; decide) (by show (⟨#[]⟩ : ByteArray).size ≤ 100; decide), by rw [flatE_app]; exact hown5, HR5, HG5⟩
              case measure => simp [lenOf]; omega
            · go_wp2
              go_ret
              exact ⟨⟨q1, m1, cap1, l1, rfl, own8, hl1, hm9, hs1.out⟩, hr8, G8⟩

end Go.Proofs.YtjkdjemefkignaaDoor
