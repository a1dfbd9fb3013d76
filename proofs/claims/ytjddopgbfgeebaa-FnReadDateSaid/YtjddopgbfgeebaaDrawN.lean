/- The draws of numbers. -/
import Derived.Test.YtjddopgbfgeebaaDrawT
import Derived.Test.YtjddopgbfgeebaaMarkW
import Derived.Test.YtjddopgbfgeebaaDrawA
import Derived.ShutString
namespace Go.Proofs.Ytjddopgbfgeebaa
open Go.RowKit

/-- A row of numbers that was just laid. -/
def IntRow (cs : Array Value) (lo hi : Int) : Prop := ∀ k, k < cs.size → ∃ v : Int, cs[k]? = some (.int .i64 v) ∧ lo ≤ v ∧ v ≤ hi
theorem intRow_list {lo hi : Int} (l : List Int) (h : ∀ x ∈ l, lo ≤ x ∧ x ≤ hi) : IntRow (l.map (Value.int .i64)).toArray lo hi := by
  intro k hk
  simp at hk
  exact ⟨l[k], by simp [List.getElem?_map, List.getElem?_eq_getElem hk], h _ (List.getElem_mem hk)⟩
theorem row_int {W w2 : World} {j g k : Nat} {t : TypeId} {cs : Array Value} {lo hi : Int} (hg : W.grownBy w2 (some g)) (hj : W.heap[j]? = some (.cells cs t (0, 0))) (hne : j ≠ g) (hr : IntRow cs lo hi) (hk : k < cs.size) :
    ∃ v : Int, w2.cell? ⟨j, k, none⟩ = some (.int .i64 v) ∧ lo ≤ v ∧ v ≤ hi := by
  obtain ⟨v, h1, h2⟩ := hr k hk
  have hlt := (Array.getElem?_eq_some_iff.1 hj).1
  refine ⟨v, ?_, h2⟩
  rw [World.cell?_of_block (w := W) (a := ⟨j, k, none⟩) (hg.block j hlt (fun e => hne (by injection e)))]
  exact (cell_of_row _ _ _ _ _ _ hj).trans h1
theorem two_first (w : World) (A B : Obj) : ((w.alloc A).alloc B).heap[w.heap.size]? = some A := by
  rw [Below.heap_alloc _ _ _ (by simp)]; exact heap_alloc_new _ _
theorem two_second (w : World) (A B : Obj) : ((w.alloc A).alloc B).heap[w.heap.size + 1]? = some B := by
  rw [← show (w.alloc A).heap.size = w.heap.size + 1 from by simp]; exact heap_alloc_new _ _
/-- What a draw of a number out of a code leaves behind. -/
def IntDrawn (w : World) (lo hi : Int) (e : Ending) (w' : World) : Prop :=
  ∃ v : Int, e = .returned (.int .i64 v) ∧ lo ≤ v ∧ v ≤ hi ∧ Below w.heap.size w w'

set_option maxHeartbeats 1000000 in
theorem drawLeapYear_any (a : Option Addr) (len cap : Nat) (zs : List Int) (w : World) (h : IsRow .u8 w a len cap zs) :
    Calls Try.prog 39 #[.slice a len cap] w (IntDrawn w (-10000) 10000) := by
  have H := Lib.hid h
  clear h
  go_enter Try.func39, Try.ntmps39
  go_wp2_with fail
  refine (open_any a len cap zs _ H.out).mono ?_
  rintro e w1 ⟨g, rfl, hg, hr, hb⟩
  go_wp2_with fail
  refine (pick_any g 0 _ _ hr (by omega)).mono ?_
  rintro e w2 ⟨x, rfl, x0, x1, hr2, hg2⟩
  have x2 := x1 (by omega)
  clear x1
  go_wp2_with fail
  refine (pick_any g 1 _ _ hr2 (by omega)).mono ?_
  rintro e w3 ⟨y, rfl, y0, y1, hr3, hg3⟩
  have y2 := y1 (by omega)
  clear y1
  have hlt := hr3.lt
  go_wp2_with fail
  refine (pick_any g 2 _ _ ((hr3.alloc _).alloc _) (by omega)).mono ?_
  rintro e w4 ⟨k, rfl, k0, k1, hr4, hg4⟩
  have k2 := k1 (by omega)
  clear k1
  obtain ⟨k, rfl⟩ := Int.eq_ofNat_of_zero_le k0
  obtain ⟨i, hi, i0, i1⟩ := row_int (j := w3.heap.size + 1) (k := k) hg4 (two_second _ _ _) (by omega) (intRow_list (lo := 0) (hi := 4) [0, 0, 1, 1, 2, 3, 4] (by simp)) (by simp; omega)
  obtain ⟨i, rfl⟩ := Int.eq_ofNat_of_zero_le i0
  obtain ⟨v, hv, v0, v1⟩ := row_int (j := w3.heap.size) (k := i) hg4 (two_first _ _ _) (by omega) (intRow_list (lo := -10000) (hi := 10000) [1990 + x, 100 * y, 4000, 4004, -4] (by simp; omega)) (by simp; omega)
  go_wp2
  go_ret
  exact ⟨v, rfl, v0, v1, grown_below (grown_below hb hg2 hb.size hg) (grown_trans hg3 (grown_trans (grown_alloc (World.grownBy_alloc w3 _ _) _) hg4)) (by have := hb.size; have := hg2.size; omega) hg⟩

set_option maxHeartbeats 1000000 in
theorem drawMarkText_any (a : Option Addr) (len cap : Nat) (zs : List Int) (w : World) (h : IsRow .u8 w a len cap zs) :
    Calls Try.prog 41 #[.slice a len cap] w (IntDrawn w (-1) 1000000001) := by
  have H := Lib.hid h
  clear h
  go_enter Try.func41, Try.ntmps41
  go_wp2_with fail
  refine (open_any a len cap zs _ H.out).mono ?_
  rintro e w1 ⟨g, rfl, hg, hr, hb⟩
  go_wp2_with fail
  refine (pick_any g 0 _ _ hr (by omega)).mono ?_
  rintro e w2 ⟨x, rfl, x0, x1, hr2, hg2⟩
  have x2 := x1 (by omega)
  clear x1
  go_wp2_with fail
  refine (pick_any g 1 _ _ hr2 (by omega)).mono ?_
  rintro e w3 ⟨y, rfl, y0, y1, hr3, hg3⟩
  have y2 := y1 (by omega)
  clear y1
  go_wp2_with fail
  refine (pick_any g 2 _ _ hr3 (by omega)).mono ?_
  rintro e w4 ⟨z, rfl, z0, z1, hr4, hg4⟩
  have z2 := z1 (by omega)
  clear z1
  have hlt := hr4.lt
  have m0 : 0 ≤ y * z := Int.mul_nonneg y0 z0
  have m1 : y * z ≤ 255 * 255 := Int.mul_le_mul (by omega) (by omega) z0 (by omega)
  go_wp2_with fail
  refine (pick_any g 3 _ _ ((hr4.alloc _).alloc _) (by omega)).mono ?_
  rintro e w5 ⟨k, rfl, k0, k1, hr5, hg5⟩
  have k2 := k1 (by omega)
  clear k1
  obtain ⟨k, rfl⟩ := Int.eq_ofNat_of_zero_le k0
  obtain ⟨i, hi, i0, i1⟩ := row_int (j := w4.heap.size + 1) (k := k) hg5 (two_second _ _ _) (by omega) (intRow_list (lo := 0) (hi := 4) [0, 0, 1, 1, 2, 3, 4] (by simp)) (by simp; omega)
  obtain ⟨i, rfl⟩ := Int.eq_ofNat_of_zero_le i0
  obtain ⟨v, hv, v0, v1⟩ := row_int (j := w4.heap.size) (k := i) hg5 (two_first _ _ _) (by omega) (intRow_list (lo := -1) (hi := 1000000001) [x, y * z * 1000, 1000000000, 1000000001, -1] (by simp; omega)) (by simp; omega)
  go_wp2
  go_ret
  exact ⟨v, rfl, v0, v1, grown_below (grown_below hb hg2 hb.size hg) (grown_trans hg3 (grown_trans hg4 (grown_trans (grown_alloc (World.grownBy_alloc w4 _ _) _) hg5))) (by have := hb.size; have := hg2.size; omega) hg⟩

theorem strRow_list {B : Nat} (l : List ByteArray) (h : ∀ x ∈ l, x.size ≤ B) : StrRow (l.map Value.string).toArray B := by
  intro k hk
  simp at hk
  exact ⟨l[k], by simp [List.getElem?_map, List.getElem?_eq_getElem hk], h _ (List.getElem_mem hk)⟩

set_option maxHeartbeats 1000000 in
theorem drawReadMark_any (a : Option Addr) (len cap : Nat) (zs : List Int) (w : World) (h : IsRow .u8 w a len cap zs) :
    Calls Try.prog 44 #[.slice a len cap] w (TextDrawn w 10) := by
  have H := Lib.hid h
  clear h
  go_enter Try.func44, Try.ntmps44
  go_wp2_with fail
  refine (open_any a len cap zs _ H.out).mono ?_
  rintro e w1 ⟨g, rfl, hg, hr, hb⟩
  go_wp2_with fail
  refine (pick_any g 0 _ _ hr (by omega)).mono ?_
  rintro e w2 ⟨x, rfl, x0, x1, hr2, hg2⟩
  have x2 := x1 (by omega)
  clear x1
  go_wp2_with fail
  refine (pick_any g 1 _ _ hr2 (by omega)).mono ?_
  rintro e w3 ⟨y, rfl, y0, y1, hr3, hg3⟩
  have y2 := y1 (by omega)
  clear y1
  have m0 : 0 ≤ x * y := Int.mul_nonneg x0 y0
  have m1 : x * y ≤ 255 * 255 := Int.mul_le_mul (by omega) (by omega) y0 (by omega)
  go_wp2_with fail
  refine (spec_markText _ _).mono ?_
  rintro e w' ⟨rfl, rfl⟩
  obtain ⟨s, hs, hsz⟩ : ∃ s : ByteArray, s = ⟨(markT (x * y)).toArray⟩ ∧ s.size ≤ 6 := ⟨_, rfl, by rw [size_of_list]; exact markT_len _⟩
  rw [← hs]
  clear hs
  go_wp2_with fail
  refine (odd_any g 2 _ _ hr3 (by omega) (by omega)).mono ?_
  rintro e w4 ⟨b, rfl, hr4, hg4⟩
  have hlt := hr4.lt
  have hbb := grown_below (grown_below hb hg2 hb.size hg) (grown_trans hg3 hg4) (by have := hb.size; have := hg2.size; omega) hg
  cases b
  · go_wp2
    go_ret
    exact ⟨s, rfl, by omega, hbb⟩
  · have z1 : (⟨#[48]⟩ : ByteArray).size = 1 := rfl
    have z2 : (⟨#[32]⟩ : ByteArray).size = 1 := rfl
    go_wp2_with fail
    refine (pick_any g 3 _ _ (hr4.alloc _) (by omega)).mono ?_
    rintro e w5 ⟨k, rfl, k0, k1, hr5, hg5⟩
    have k2 := k1 (by omega)
    clear k1
    obtain ⟨k, rfl⟩ := Int.eq_ofNat_of_zero_le k0
    obtain ⟨u, hu, husz⟩ := row_str hg5 hlt (strRow_list (B := 10) [⟨#[]⟩, ⟨#[48, 48]⟩, ⟨#[65]⟩, ⟨#[45, 49]⟩, ⟨#[103, 106, 100, 103, 120, 116]⟩, ⟨#[122, 122, 122, 122, 122, 122]⟩, ⟨#[122, 122, 122, 122, 122, 122, 122]⟩, ⟨#[49, 48, 48, 48, 48, 48, 48, 48]⟩, (⟨#[48]⟩ : ByteArray) ++ s, s ++ (⟨#[32]⟩ : ByteArray)] (by
      intro x hx
      simp only [List.mem_cons, List.not_mem_nil, or_false] at hx
      rcases hx with rfl | rfl | rfl | rfl | rfl | rfl | rfl | rfl | rfl | rfl
      all_goals first | decide | (rw [ByteArray.size_append]; omega))) k (by simp; omega)
    go_wp2
    go_ret
    exact ⟨u, rfl, husz, hbb.trans ((Below.refl _ _).grown (grown_trans (World.grownBy_alloc w4 _ (some g)) hg5) (by have := hbb.size; omega) (fun k e => by injection e with e; omega))⟩

set_option maxHeartbeats 400000 in
theorem drawTextValid_any (a : Option Addr) (len cap : Nat) (zs : List Int) (w : World) (h : IsRow .u8 w a len cap zs) :
    Calls Try.prog 38 #[.slice a len cap] w (TextDrawn w 100) := by
  have H := Lib.hid h
  clear h
  go_enter Try.func38, Try.ntmps38
  go_wp2_with fail
  refine (open_any a len cap zs _ H.out).mono ?_
  rintro e w1 ⟨g, rfl, hg, hr, hb⟩
  go_wp2_with fail
  refine (text_any g 0 _ _ hr (by omega) (by omega)).mono ?_
  rintro e w2 ⟨s, rfl, hs, hr2, hg2⟩
  go_wp2
  go_ret
  exact ⟨s, rfl, hs, grown_below hb hg2 hb.size hg⟩

end Go.Proofs.Ytjddopgbfgeebaa
