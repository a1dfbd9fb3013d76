/- The draw of a text for PlainOf. -/
import Derived.Test.YtjkdjemefkignaaDrawB
namespace Go.Proofs.Ytjkdjemefkignaa
open Go.RowKit

theorem bits6 : StrRow #[.string ⟨#[97]⟩, .string ⟨#[60]⟩, .string ⟨#[62]⟩, .string ⟨#[60, 98, 62]⟩, .string ⟨#[60, 47, 98, 62]⟩, .string ⟨#[32]⟩] 4 := by
  intro k hk
  match k, hk with
  | 0, _ => exact ⟨_, rfl, by decide⟩
  | 1, _ => exact ⟨_, rfl, by decide⟩
  | 2, _ => exact ⟨_, rfl, by decide⟩
  | 3, _ => exact ⟨_, rfl, by decide⟩
  | 4, _ => exact ⟨_, rfl, by decide⟩
  | 5, _ => exact ⟨_, rfl, by decide⟩

set_option maxHeartbeats 1000000 in
theorem drawPlainOf_any (a : Option Addr) (len cap : Nat) (zs : List Int) (w : World) (h : IsRow .u8 w a len cap zs) :
    Calls Try.prog 11 #[.slice a len cap] w (TextDrawn w 100) := by
  have H := Lib.hid h
  clear h
  go_enter Try.func11, Try.ntmps11
  go_wp2_with fail
  refine (open_any a len cap zs _ H.out).mono ?_
  rintro e w1 ⟨g, rfl, hg, hr, hb⟩
  go_wp2_with fail
  refine (pick_any g 0 _ _ hr (by omega)).mono ?_
  rintro e w2 ⟨k, rfl, k0, k1, hr2, hg2⟩
  have k2 := k1 (by omega)
  clear k1
  obtain ⟨k, rfl⟩ := Int.eq_ofNat_of_zero_le k0
  have hb2 := grown_below hb hg2 hb.size hg
  go_wp2_with fail
  go_loopw [4, 5] (fun o i wr => ∃ (j : Nat) (u : ByteArray), o = .string u ∧ i = .int .i64 j ∧ j ≤ 8 ∧ u.size + 4 * j ≤ 32 ∧ Rd wr g (9 - j) ∧ w2.grownBy wr (some g)) (fun _ i _ => (intOf i).toNat)
  case atStart => exact ⟨k, ⟨#[]⟩, rfl, rfl, by omega, by have : (⟨#[]⟩ : ByteArray).size = 0 := rfl; omega, hr2.mono (by omega), World.grownBy.refl _ _⟩
  case round =>
    obtain ⟨j, u, rfl, rfl, j8, hu, hrr, hgr⟩ := hrel
    have hlt := hrr.lt
    by_cases hj : 0 < j
    · go_wp2_with fail
      refine (pick_any g (9 - j) _ _ (hrr.alloc _) (by omega)).mono ?_
      rintro e w3 ⟨i, rfl, i0, i1, hr3, hg3⟩
      have i2 := i1 (by omega)
      clear i1
      obtain ⟨i, rfl⟩ := Int.eq_ofNat_of_zero_le i0
      obtain ⟨s, hs, hsz⟩ := row_str hg3 hlt bits6 i (by simp; omega)
      have e : ((j - 1 : Nat) : Int) = (j : Int) - 1 := by omega
      go_wp2
      go_roundw
      case rel => exact ⟨j - 1, _, rfl, by rw [e], by omega, by rw [ByteArray.size_append]; omega, hr3.mono (by omega), grown_trans hgr (grown_trans (World.grownBy_alloc _ _ _) hg3)⟩
      case measure => simp [intOf]; omega
    · have hbr := grown_below hb2 hgr (by have := hb2.size; exact hb2.size) hg
      go_wp2_with fail
      refine (odd_any g (9 - j) _ _ hrr (by omega) (by omega)).mono ?_
      rintro e w4 ⟨b, rfl, hr4, hg4⟩
      have hb4 := grown_below hbr hg4 hbr.size hg
      cases b
      · go_wp2
        go_ret
        exact ⟨u, rfl, by omega, hb4⟩
      · go_wp2_with fail
        refine (text_any g (9 - j + 1) _ _ hr4 (by omega) (by omega)).mono ?_
        rintro e w5 ⟨s, rfl, hs, hr5, hg5⟩
        go_wp2
        go_ret
        exact ⟨s, rfl, hs, grown_below hb4 hg5 hb4.size hg⟩
end Go.Proofs.Ytjkdjemefkignaa
