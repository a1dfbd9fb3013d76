/- The draw of a text for ReadItem. -/
import Derived.Test.YtldllhfadihmeaaDoorDrawM
import Derived.Test.YtldllhfadihmeaaDoorItT
namespace Go.Proofs.YtldllhfadihmeaaDoor
open Go.RowKit

set_option maxHeartbeats 1000000 in
theorem drawReadItem_any (a : Option Addr) (len cap : Nat) (zs : List Int) (w : World) (h : IsRow .u8 w a len cap zs) :
    Calls Tryd.prog 41 #[.slice a len cap] w (TextDrawn w 5000) := by
  have H := Lib.hid h
  clear h
  go_enter Tryd.func41, Tryd.ntmps41
  go_wp2_with fail
  refine (open_any a len cap zs _ H.out).mono ?_
  rintro e w1 ⟨g, rfl, hg, hr, hb⟩
  go_wp2_with fail
  refine (item_any g 0 _ _ hr (by omega) (by omega)).mono ?_
  rintro e w2 ⟨⟨x, rfl, hx⟩, hr2, hg2⟩
  obtain ⟨hx1, hx2, hx3⟩ := okI_sz hx
  have hb2 := grown_below hb hg2 hb.size hg
  have c1 := Lib.hid (fun w => spec_itemText x w hx1 hx2 hx3)
  go_wp2_with fail
  refine (c1.out _).mono ?_
  rintro e w3 ⟨rfl, hb3⟩
  have hb13 := hb2.trans (hb3.mono hb2.size)
  have hr3 := hr2.kept (below_grown hb3) (fun j e => by cases e)
  obtain ⟨s, hs, hsz⟩ : ∃ s : ByteArray, s = ⟨(itT x).toArray⟩ ∧ s.size ≤ 4008 := ⟨_, rfl, by rw [size_of_list]; exact itT_len _⟩
  rw [← hs]
  clear hs c1
  go_wp2_with fail
  refine (odd_any g 12 _ _ hr3 (by omega) (by omega)).mono ?_
  rintro e w4 ⟨b, rfl, hr4, hg4⟩
  have hlt := hr4.lt
  have hbb := grown_below hb13 hg4 hb13.size hg
  cases b
  · go_wp2
    go_ret
    exact ⟨s, rfl, by omega, hbb⟩
  · have z1 : (⟨#[60, 107, 101, 121, 62, 107, 60, 47, 107, 101, 121, 62]⟩ : ByteArray).size = 12 := rfl
    have z2 : (⟨#[60, 111, 116, 104, 101, 114, 62, 120, 60, 47, 111, 116, 104, 101, 114, 62]⟩ : ByteArray).size = 16 := rfl
    go_wp2_with fail
    refine (pick_any g 13 _ _ (hr4.alloc _) (by omega)).mono ?_
    rintro e w5 ⟨k, rfl, k0, k1, hr5, hg5⟩
    have k2 := k1 (by omega)
    clear k1
    obtain ⟨k, rfl⟩ := Int.eq_ofNat_of_zero_le k0
    obtain ⟨v, hv, hvsz⟩ := row_str (B := 5000) hg5 hlt (by
      intro j hj
      match j, hj with
      | 0, _ => exact ⟨_, rfl, by first | decide | (rw [ByteArray.size_append]; omega)⟩
      | 1, _ => exact ⟨_, rfl, by first | decide | (rw [ByteArray.size_append]; omega)⟩
      | 2, _ => exact ⟨_, rfl, by first | decide | (rw [ByteArray.size_append]; omega)⟩
      | 3, _ => exact ⟨_, rfl, by first | decide | (rw [ByteArray.size_append]; omega)⟩
      | 4, _ => exact ⟨_, rfl, by first | decide | (rw [ByteArray.size_append]; omega)⟩
      | 5, _ => exact ⟨_, rfl, by first | decide | (rw [ByteArray.size_append]; omega)⟩
      | 6, _ => exact ⟨_, rfl, by first | decide | (rw [ByteArray.size_append]; omega)⟩) k (by simp; omega)
    go_wp2
    go_ret
    exact ⟨v, rfl, hvsz, hbb.trans ((Below.refl _ _).grown (grown_trans (World.grownBy_alloc w4 _ (some g)) hg5) (by have := hbb.size; omega) (fun k e => by injection e with e; omega))⟩
end Go.Proofs.YtldllhfadihmeaaDoor
