/- The draws of texts for EscapeText and UnescapeText. -/
import Derived.Test.YtjkdjemefkignaaDoorDrawB
import Derived.Test.YtjkdjemefkignaaDoorEscT
namespace Go.Proofs.YtjkdjemefkignaaDoor
open Go.RowKit

set_option maxHeartbeats 400000 in
theorem drawEscapeText_any (a : Option Addr) (len cap : Nat) (zs : List Int) (w : World) (h : IsRow .u8 w a len cap zs) :
    Calls Tryd.prog 15 #[.slice a len cap] w (TextDrawn w 100) := by
  have H := Lib.hid h
  clear h
  go_enter Tryd.func15, Tryd.ntmps15
  go_wp2_with fail
  refine (open_any a len cap zs _ H.out).mono ?_
  rintro e w1 ⟨g, rfl, hg, hr, hb⟩
  go_wp2_with fail
  refine (text_any g 0 _ _ hr (by omega) (by omega)).mono ?_
  rintro e w2 ⟨s, rfl, hs, hr2, hg2⟩
  go_wp2
  go_ret
  exact ⟨s, rfl, hs, grown_below hb hg2 hb.size hg⟩

set_option maxHeartbeats 1000000 in
theorem drawUnescapeText_any (a : Option Addr) (len cap : Nat) (zs : List Int) (w : World) (h : IsRow .u8 w a len cap zs) :
    Calls Tryd.prog 18 #[.slice a len cap] w (TextDrawn w 500) := by
  have H := Lib.hid h
  clear h
  go_enter Tryd.func18, Tryd.ntmps18
  go_wp2_with fail
  refine (open_any a len cap zs _ H.out).mono ?_
  rintro e w1 ⟨g, rfl, hg, hr, hb⟩
  go_wp2_with fail
  refine (text_any g 0 _ _ hr (by omega) (by omega)).mono ?_
  rintro e w2 ⟨u, rfl, hus, hr2, hg2⟩
  have hb2 := grown_below hb hg2 hb.size hg
  go_wp2_with fail
  refine (spec_escapeText u _ (by unfold maxLen; omega)).mono ?_
  rintro e w' ⟨rfl, rfl⟩
  obtain ⟨s, hs, hsz⟩ : ∃ s : ByteArray, s = ⟨(escT u.data.toList).toArray⟩ ∧ s.size ≤ 480 := ⟨_, rfl, by rw [size_of_list]; exact escT_len _⟩
  rw [← hs]
  clear hs
  go_wp2_with fail
  refine (odd_any g 2 _ _ hr2 (by omega) (by omega)).mono ?_
  rintro e w4 ⟨b, rfl, hr4, hg4⟩
  have hlt := hr4.lt
  have hbb := grown_below hb2 hg4 hb2.size hg
  cases b
  · go_wp2
    go_ret
    exact ⟨s, rfl, by omega, hbb⟩
  · have z1 : (⟨#[38]⟩ : ByteArray).size = 1 := rfl
    have z2 : (⟨#[60]⟩ : ByteArray).size = 1 := rfl
    go_wp2_with fail
    refine (pick_any g 3 _ _ (hr4.alloc _) (by omega)).mono ?_
    rintro e w5 ⟨k, rfl, k0, k1, hr5, hg5⟩
    have k2 := k1 (by omega)
    clear k1
    obtain ⟨k, rfl⟩ := Int.eq_ofNat_of_zero_le k0
    obtain ⟨v, hv, hvsz⟩ := row_str hg5 hlt (strRow_list (B := 500) [⟨#[38]⟩, ⟨#[60]⟩, ⟨#[97, 62]⟩, ⟨#[34]⟩, ⟨#[38, 108, 116]⟩, ⟨#[38, 120, 59]⟩, ⟨#[10]⟩, ⟨#[38, 97, 109, 112, 59, 38]⟩, s ++ (⟨#[38]⟩ : ByteArray), s ++ (⟨#[60]⟩ : ByteArray)] (by
      intro x hx
      simp only [List.mem_cons, List.not_mem_nil, or_false] at hx
      rcases hx with rfl | rfl | rfl | rfl | rfl | rfl | rfl | rfl | rfl | rfl
      all_goals first | decide | (rw [ByteArray.size_append]; omega))) k (by simp; omega)
    go_wp2
    go_ret
    exact ⟨v, rfl, hvsz, hbb.trans ((Below.refl _ _).grown (grown_trans (World.grownBy_alloc w4 _ (some g)) hg5) (by have := hbb.size; omega) (fun k e => by injection e with e; omega))⟩
end Go.Proofs.YtjkdjemefkignaaDoor
