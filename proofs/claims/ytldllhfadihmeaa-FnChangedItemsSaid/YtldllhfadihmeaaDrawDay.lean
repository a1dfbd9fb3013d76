/- The draw of a day. -/
import Derived.Test.YtldllhfadihmeaaDrawB
namespace Go.Proofs.Ytldllhfadihmeaa
open Go.RowKit

set_option maxHeartbeats 1000000 in
theorem day_any (g P : Nat) (w : World) (hr : Rd w g P) (hP : P ≤ 900000) :
    Calls Try.prog 77 #[.pointer (some ⟨g, 0, none⟩)] w (IntPost w g (P + 4) 0 2000000) := by
  go_enter Try.func77, Try.ntmps77
  go_wp2_with fail
  refine (pick_any g P _ _ hr (by omega)).mono ?_
  rintro e w2 ⟨x, rfl, x0, x1, hr2, hg2⟩
  have x2 := x1 (by omega)
  clear x1
  go_wp2_with fail
  refine (pick_any g (P + 1) _ _ hr2 (by omega)).mono ?_
  rintro e w3 ⟨y, rfl, y0, y1, hr3, hg3⟩
  have y2 := y1 (by omega)
  clear y1
  go_wp2_with fail
  refine (pick_any g (P + 2) _ _ hr3 (by omega)).mono ?_
  rintro e w4 ⟨z, rfl, z0, z1, hr4, hg4⟩
  have z2 := z1 (by omega)
  clear z1
  have hlt := hr4.lt
  go_wp2_with fail
  refine (pick_any g (P + 3) _ _ ((hr4.alloc _).alloc _) (by omega)).mono ?_
  rintro e w5 ⟨k, rfl, k0, k1, hr5, hg5⟩
  have k2 := k1 (by omega)
  clear k1
  obtain ⟨k, rfl⟩ := Int.eq_ofNat_of_zero_le k0
  obtain ⟨i, hi, i0, i1⟩ := row_int (j := w4.heap.size + 1) (k := k) hg5 (two_second _ _ _) (by omega) (intRow_list (lo := 0) (hi := 3) [0, 0, 0, 1, 2, 3] (by simp)) (by simp; omega)
  obtain ⟨i, rfl⟩ := Int.eq_ofNat_of_zero_le i0
  obtain ⟨v, hv, v0, v1⟩ := row_int (j := w4.heap.size) (k := i) hg5 (two_first _ _ _) (by omega) (intRow_list (lo := 0) (hi := 2000000) [738000 + x * 7, y * 5000, 0, 1460969 - z] (by simp; omega)) (by simp; omega)
  go_wp2
  go_ret
  exact ⟨v, rfl, v0, v1, hr5, grown_trans hg2 (grown_trans hg3 (grown_trans hg4 (grown_trans (grown_alloc (World.grownBy_alloc w4 _ _) _) hg5)))⟩

end Go.Proofs.Ytldllhfadihmeaa
