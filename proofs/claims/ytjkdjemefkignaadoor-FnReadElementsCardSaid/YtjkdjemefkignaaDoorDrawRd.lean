/- The draw of a text for ReadElements. -/
import Derived.Test.YtjkdjemefkignaaDoorDrawB
import Derived.Test.YtjkdjemefkignaaDoorDrawEd
import Derived.Test.YtjkdjemefkignaaDoorElsT
namespace Go.Proofs.YtjkdjemefkignaaDoor
open Go.RowKit

set_option maxHeartbeats 1000000 in
theorem drawReadElements_any (a : Option Addr) (len cap : Nat) (zs : List Int) (w : World) (h : IsRow .u8 w a len cap zs) :
    Calls Tryd.prog 31 #[.slice a len cap] w (TextDrawn w 5000) := by
  have H := Lib.hid h
  clear h
  go_enter Tryd.func31, Tryd.ntmps31
  go_wp2_with fail
  refine (open_any a len cap zs _ H.out).mono ?_
  rintro e w1 ⟨g, rfl, hg, hr, hb⟩
  go_wp2_with fail
  refine (elements_any g 0 _ _ hr (by omega) (by omega)).mono ?_
  rintro e w2 ⟨⟨q, n, qc, l, rfl, hown, hl, hn, hs⟩, hr2, hg2⟩
  have hb2 := grown_below hb hg2 hb.size hg
  have EA := Lib.hid (ElAt.own hown hl)
  have c1 := Lib.hid (fun w h => spec_elementsText (some ⟨q, 0, none⟩) n qc l w h hl (by unfold maxLen; omega) (fun e he => by have := hs e he; unfold maxLen; omega))
  clear hown hl hs
  go_wp2_with fail
  refine (c1.out _ EA.out).mono ?_
  rintro e w3 ⟨rfl, hb3⟩
  have hb13 := hb2.trans (hb3.mono hb2.size)
  have hr3 := hr2.kept (below_grown hb3) (fun j e => by cases e)
  obtain ⟨s, hs, hsz⟩ : ∃ s : ByteArray, s = ⟨(elsT l).toArray⟩ ∧ s.size ≤ 4008 := ⟨_, rfl, by rw [size_of_list]; exact elsT_len _⟩
  rw [← hs]
  clear hs
  go_wp2_with fail
  refine (odd_any g 17 _ _ hr3 (by omega) (by omega)).mono ?_
  rintro e w4 ⟨b, rfl, hr4, hg4⟩
  have hlt := hr4.lt
  have hbb := grown_below hb13 hg4 hb13.size hg
  cases b
  · go_wp2
    go_ret
    exact ⟨s, rfl, by omega, hbb⟩
  · have z1 : (⟨#[32]⟩ : ByteArray).size = 1 := rfl
    have z2 : (⟨#[60]⟩ : ByteArray).size = 1 := rfl
    go_wp2_with fail
    refine (pick_any g 18 _ _ (hr4.alloc _) (by omega)).mono ?_
    rintro e w5 ⟨k, rfl, k0, k1, hr5, hg5⟩
    have k2 := k1 (by omega)
    clear k1
    obtain ⟨k, rfl⟩ := Int.eq_ofNat_of_zero_le k0
    obtain ⟨v, hv, hvsz⟩ := row_str hg5 hlt (strRow_list (B := 5000) [⟨#[97]⟩, ⟨#[60, 97, 62]⟩, ⟨#[60, 97, 62, 60, 47, 98, 62]⟩, ⟨#[60, 97, 62, 120, 60, 47, 97]⟩, ⟨#[60, 97, 62, 120, 60, 47, 97, 62, 121]⟩, ⟨#[60, 65, 62, 60, 47, 65, 62]⟩, ⟨#[60, 97, 62, 38, 60, 47, 97, 62]⟩, ⟨#[60, 97, 62, 60, 98, 62, 60, 47, 98, 62, 60, 47, 97, 62]⟩, ⟨#[60, 62, 60, 47, 62]⟩, s ++ (⟨#[60]⟩ : ByteArray), s ++ (⟨#[32]⟩ : ByteArray)] (by
      intro x hx
      simp only [List.mem_cons, List.not_mem_nil, or_false] at hx
      rcases hx with rfl | rfl | rfl | rfl | rfl | rfl | rfl | rfl | rfl | rfl | rfl
      all_goals first | decide | (rw [ByteArray.size_append]; omega))) k (by simp; omega)
    go_wp2
    go_ret
    exact ⟨v, rfl, hvsz, hbb.trans ((Below.refl _ _).grown (grown_trans (World.grownBy_alloc w4 _ (some g)) hg5) (by have := hbb.size; omega) (fun k e => by injection e with e; omega))⟩
end Go.Proofs.YtjkdjemefkignaaDoor
