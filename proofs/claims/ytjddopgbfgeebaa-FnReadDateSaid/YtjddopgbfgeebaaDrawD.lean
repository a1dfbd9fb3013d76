/- The draws of days and of dates. -/
import Derived.Test.YtjddopgbfgeebaaDrawN
import Derived.Test.YtjddopgbfgeebaaDateS
namespace Go.Proofs.Ytjddopgbfgeebaa
open Go.RowKit

set_option maxHeartbeats 1000000 in
theorem day_any (g P : Nat) (w : World) (hr : Rd w g P) (hP : P ≤ 900000) :
    Calls Try.prog 61 #[.pointer (some ⟨g, 0, none⟩)] w (IntPost w g (P + 4) 0 2000000) := by
  go_enter Try.func61, Try.ntmps61
  go_wp2_with fail
  refine (pick_any g P _ _ hr (by omega)).mono ?_
  rintro e w2 ⟨x, rfl, x0, x1, hr2, hg2⟩
  have x2 := x1 (by omega)
  clear x1
  go_wp2_with fail
  refine (pick_any g (P + 1) _ _ hr2 (by omega)).mono ?_
  rintro e w3 ⟨y, rfl, y0, y1, hr3, hg3⟩
  have y2 := y1 (by omega)
  clear y1
  go_wp2_with fail
  refine (pick_any g (P + 2) _ _ hr3 (by omega)).mono ?_
  rintro e w4 ⟨z, rfl, z0, z1, hr4, hg4⟩
  have z2 := z1 (by omega)
  clear z1
  have hlt := hr4.lt
  go_wp2_with fail
  refine (pick_any g (P + 3) _ _ ((hr4.alloc _).alloc _) (by omega)).mono ?_
  rintro e w5 ⟨k, rfl, k0, k1, hr5, hg5⟩
  have k2 := k1 (by omega)
  clear k1
  obtain ⟨k, rfl⟩ := Int.eq_ofNat_of_zero_le k0
  obtain ⟨i, hi, i0, i1⟩ := row_int (j := w4.heap.size + 1) (k := k) hg5 (two_second _ _ _) (by omega) (intRow_list (lo := 0) (hi := 3) [0, 0, 0, 1, 2, 3] (by simp)) (by simp; omega)
  obtain ⟨i, rfl⟩ := Int.eq_ofNat_of_zero_le i0
  obtain ⟨v, hv, v0, v1⟩ := row_int (j := w4.heap.size) (k := i) hg5 (two_first _ _ _) (by omega) (intRow_list (lo := 0) (hi := 2000000) [738000 + x * 7, y * 5000, 0, 1460969 - z] (by simp; omega)) (by simp; omega)
  go_wp2
  go_ret
  exact ⟨v, rfl, v0, v1, hr5, grown_trans hg2 (grown_trans hg3 (grown_trans hg4 (grown_trans (grown_alloc (World.grownBy_alloc w4 _ _) _) hg5)))⟩

set_option maxHeartbeats 1000000 in
theorem drawDateText_any (a : Option Addr) (len cap : Nat) (zs : List Int) (w : World) (h : IsRow .u8 w a len cap zs) :
    Calls Try.prog 48 #[.slice a len cap] w (IntDrawn w (-1) 2000000) := by
  have H := Lib.hid h
  clear h
  go_enter Try.func48, Try.ntmps48
  go_wp2_with fail
  refine (open_any a len cap zs _ H.out).mono ?_
  rintro e w1 ⟨g, rfl, hg, hr, hb⟩
  go_wp2_with fail
  refine (day_any g 0 _ hr (by omega)).mono ?_
  rintro e w2 ⟨x, rfl, x0, x1, hr2, hg2⟩
  have hlt := hr2.lt
  go_wp2_with fail
  refine (pick_any g 4 _ _ (hr2.alloc _) (by omega)).mono ?_
  rintro e w3 ⟨k, rfl, k0, k1, hr3, hg3⟩
  have k2 := k1 (by omega)
  clear k1
  obtain ⟨k, rfl⟩ := Int.eq_ofNat_of_zero_le k0
  obtain ⟨v, hv, v0, v1⟩ := row_int (j := w2.heap.size) (k := k / 8) hg3 (heap_alloc_new _ _) (by omega) (intRow_list (lo := -1) (hi := 2000000) [x, -1] (by simp; omega)) (by simp; omega)
  go_wp2
  go_ret
  exact ⟨v, rfl, v0, v1, grown_below (grown_below hb hg2 hb.size hg) (grown_trans (World.grownBy_alloc w2 _ _) hg3) (by have := hb.size; have := hg2.size; omega) hg⟩

set_option maxHeartbeats 1000000 in
theorem drawReadDate_any (a : Option Addr) (len cap : Nat) (zs : List Int) (w : World) (h : IsRow .u8 w a len cap zs) :
    Calls Try.prog 49 #[.slice a len cap] w (TextDrawn w 11) := by
  have H := Lib.hid h
  clear h
  go_enter Try.func49, Try.ntmps49
  go_wp2_with fail
  refine (open_any a len cap zs _ H.out).mono ?_
  rintro e w1 ⟨g, rfl, hg, hr, hb⟩
  go_wp2_with fail
  refine (day_any g 0 _ hr (by omega)).mono ?_
  rintro e w2 ⟨x, rfl, x0, x1, hr2, hg2⟩
  have hb2 := grown_below hb hg2 hb.size hg
  have hlt2 := hr2.lt
  go_wp2_with fail
  refine (spec_dateText _ _).mono ?_
  rintro e w3 ⟨rfl, hb3⟩
  have hb4 := hb2.trans (hb3.mono hb2.size)
  have hr3 : Rd w3 g 4 := hr2.kept (row := none) ⟨hb3.os, hb3.tape, hb3.output, hb3.size, fun k hk _ => hb3.block k hk⟩ (fun _ e => by cases e)
  obtain ⟨s, hs, hsz⟩ : ∃ s : ByteArray, s = ⟨(dateT x).toArray⟩ ∧ s.size ≤ 10 := ⟨_, rfl, by rw [size_of_list]; exact date_size _⟩
  rw [← hs]
  clear hs
  go_wp2_with fail
  refine (odd_any g 4 _ _ hr3 (by omega) (by omega)).mono ?_
  rintro e w4 ⟨b, rfl, hr4, hg4⟩
  have hlt := hr4.lt
  have hbb := grown_below hb4 hg4 hb4.size hg
  cases b
  · go_wp2
    go_ret
    exact ⟨s, rfl, by omega, hbb⟩
  · have z1 : (⟨#[48]⟩ : ByteArray).size = 1 := rfl
    go_wp2_with fail
    refine (pick_any g 5 _ _ (hr4.alloc _) (by omega)).mono ?_
    rintro e w5 ⟨k, rfl, k0, k1, hr5, hg5⟩
    have k2 := k1 (by omega)
    clear k1
    obtain ⟨k, rfl⟩ := Int.eq_ofNat_of_zero_le k0
    obtain ⟨u, hu, husz⟩ := row_str hg5 hlt (strRow_list (B := 11) [⟨#[]⟩, ⟨#[50, 48, 48, 48, 46, 50, 46, 50, 57]⟩, ⟨#[50, 48, 48, 49, 46, 48, 50, 46, 50, 57]⟩, ⟨#[50, 48, 48, 48, 45, 48, 50, 45, 50, 57]⟩, ⟨#[48, 48, 48, 48, 46, 48, 49, 46, 48, 49]⟩, ⟨#[52, 48, 48, 49, 46, 48, 49, 46, 48, 49]⟩, ⟨#[50, 48, 48, 48, 46, 48, 48, 46, 49, 48]⟩, ⟨#[50, 48, 48, 48, 46, 48, 50, 46, 50, 97]⟩, ⟨#[50, 48, 48, 48, 46, 48, 50, 46, 46, 57]⟩, s ++ (⟨#[48]⟩ : ByteArray)] (by
      intro x hx
      simp only [List.mem_cons, List.not_mem_nil, or_false] at hx
      rcases hx with rfl | rfl | rfl | rfl | rfl | rfl | rfl | rfl | rfl | rfl
      all_goals first | decide | (rw [ByteArray.size_append]; omega))) k (by simp; omega)
    go_wp2
    go_ret
    exact ⟨u, rfl, husz, hbb.trans ((Below.refl _ _).grown (grown_trans (World.grownBy_alloc w4 _ (some g)) hg5) (by have := hbb.size; omega) (fun k e => by injection e with e; omega))⟩

end Go.Proofs.Ytjddopgbfgeebaa
