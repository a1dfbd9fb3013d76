/- The draws of a year and a month, and of a day of them. -/
import Derived.Test.YtjddopgbfgeebaaDrawN
namespace Go.Proofs.Ytjddopgbfgeebaa
open Go.RowKit

theorem IsRow.below {k : IntKind} {w w' : World} {a : Option Addr} {len cap : Nat} {zs : List Int} (h : IsRow k w a len cap zs) (hb : Below w.heap.size w w') : IsRow k w' a len cap zs := by
  rcases h with h | ⟨x, rfl, h1, h2, h3, h4, h5⟩
  · exact .inl h
  · refine .inr ⟨x, rfl, h1, h2, h3, fun i hi => ?_, h5⟩
    exact (hb.cell (World.block_lt_of_cell? w _ (h4 i hi))).trans (h4 i hi)
/-- What a draw of two numbers leaves behind. -/
def PairDrawn (w : World) (e : Ending) (w' : World) : Prop :=
  ∃ y m : Int, e = .returned (.tuple #[.int .i64 y, .int .i64 m]) ∧ -1 ≤ y ∧ y ≤ 100000 ∧ -1 ≤ m ∧ m ≤ 100000 ∧ Below w.heap.size w w'
theorem rowk {W w2 : World} {g k : Nat} {t : TypeId} {cs : Array Value} {u : Value} (hg : (W.alloc (.cells cs t)).grownBy w2 (some g)) (hlt : g < W.heap.size) (h : cs[k]? = some u) : w2.cell? ⟨W.heap.size, k, none⟩ = some u := (row_kept hg hlt k).trans h
theorem rowk_all {k : Nat} {t : TypeId} {cs : Array Value} {u : Value} (h : cs[k]? = some u) : ∀ W : World, (W.alloc (.cells cs t)).cell? ⟨W.heap.size, k, none⟩ = some u := fun W => (cell_of_row _ _ _ _ _ _ (heap_alloc_new W _)).trans h
theorem cellk {W w2 : World} {g b k : Nat} {u : Value} (hg : W.grownBy w2 (some g)) (hne : b ≠ g) (h : W.cell? ⟨b, k, none⟩ = some u) : w2.cell? ⟨b, k, none⟩ = some u := hg.cell h (fun e => hne (by injection e))

set_option maxHeartbeats 2000000 in
theorem drawMonthDays_any (a : Option Addr) (len cap : Nat) (zs : List Int) (w : World) (h : IsRow .u8 w a len cap zs) :
    Calls Try.prog 40 #[.slice a len cap] w (PairDrawn w) := by
  have H := Lib.hid h
  clear h
  go_enter Try.func40, Try.ntmps40
  go_wp2_with fail
  refine (open_any a len cap zs _ H.out).mono ?_
  rintro e w1 ⟨g, rfl, hg, hr, hb⟩
  have hlt := hr.lt
  have hbs := hb.size
  go_wp2_with fail
  go_region_with (first | (go_at_call_of 57 (Value.int IntKind.i64 40); refine (pick_any g 0 _ _ ?_ (by omega)).mono ?_; exact hr; rintro e w2 ⟨x, rfl, x0, x1, hr2, hg2⟩; have x2 := x1 (by omega); clear x1; have ex : IntKind.i64.wrap (1990 + x) = 1990 + x := IntWalk.i64_in _ (by omega)) | (go_at_call_of 57 (Value.int IntKind.i64 42); refine (pick_any g 1 _ _ ?_ (by omega)).mono ?_; exact hr2; rintro e w3 ⟨y, rfl, y0, y1, hr3, hg3⟩; have y2 := y1 (by omega); clear y1; have ey : IntKind.i64.wrap (100 * y) = 100 * y := IntWalk.i64_in _ (by omega); have hlt3 := hr3.lt) | (go_at_call_of 57 (Value.int IntKind.i64 2); refine (pick_any g 2 _ _ ?_ (by omega)).mono ?_; (first | exact hr3 | exact hr3.alloc _); rintro e w4 ⟨k, rfl, k0, k1, hr4, hg4⟩; have k2 := k1 (by omega); clear k1; obtain ⟨k, rfl⟩ := Int.eq_ofNat_of_zero_le k0; have hlt4 := hr4.lt; obtain ⟨v, hv0, v0, v1⟩ := intRow_list (lo := -1) (hi := 100000) [1990 + x, 100 * y] (by simp; omega) k (by simp; omega); have hv : (#[Value.int .i64 (1990 + x), Value.int .i64 (100 * y)] : Array Value)[k]? = some (Value.int .i64 v) := hv0; clear hv0; have F1 := rowk_all (t := 3) hv; (try have F3 := rowk hg4 hlt3 hv)) | (go_at_call_of 57 (Value.int IntKind.i64 14); refine (pick_any g 3 _ _ ?_ (by omega)).mono ?_; (first | exact hr4 | exact hr4.alloc _); rintro e w5 ⟨m, rfl, m0, m1, hr5, hg5⟩; have m2 := m1 (by omega); clear m1; (try have F5 := cellk hg5 (by omega) F3); (try have F6 := rowk hg5 hlt4 hv)))
  all_goals
    go_wp2
    go_ret2
    have X4 : w3.grownBy w4 (some g) := by first | exact hg4 | exact grown_trans (World.grownBy_alloc _ _ _) hg4
    have X5 : w4.grownBy w5 (some g) := by first | exact hg5 | exact grown_trans (World.grownBy_alloc _ _ _) hg5
    have B5 : Below w.heap.size w w5 := grown_below hb (grown_trans (un_drew hg2) (grown_trans hg3 (grown_trans X4 X5))) hbs hg
    refine ⟨v, _, rfl, v0, v1, by omega, by omega, ?_⟩
    first
      | exact B5
      | exact B5.alloc B5.size _

theorem blk_new {W w2 : World} {g : Nat} {o : Obj} (hg : (W.alloc o).grownBy w2 (some g)) (hlt : g < W.heap.size) : w2.heap[W.heap.size]? = some o :=
  (hg.block _ (by simp) (fun e => by injection e; omega)).trans (heap_alloc_new _ _)
theorem blk_old {W w2 : World} {g b : Nat} {o : Obj} (hg : W.grownBy w2 (some g)) (hne : b ≠ g) (hb : W.heap[b]? = some o) : w2.heap[b]? = some o :=
  (hg.block _ (Array.getElem?_eq_some_iff.1 hb).1 (fun e => hne (by injection e))).trans hb
theorem alloc_old {W : World} {b : Nat} {o p : Obj} (hb : W.heap[b]? = some o) : (W.alloc p).heap[b]? = some o :=
  (Below.heap_alloc _ _ _ (Array.getElem?_eq_some_iff.1 hb).1).trans hb
theorem blk_fst {W w2 : World} {g : Nat} {o p : Obj} (hg : ((W.alloc o).alloc p).grownBy w2 (some g)) (hlt : g < W.heap.size) : w2.heap[W.heap.size]? = some o :=
  blk_old hg (by omega) (two_first _ _ _)
theorem blk_snd {W w2 : World} {g : Nat} {o p : Obj} (hg : ((W.alloc o).alloc p).grownBy w2 (some g)) (hlt : g < W.heap.size) : w2.heap[W.heap.size + 1]? = some p :=
  blk_old hg (by omega) (two_second _ _ _)
theorem cell_in (w : World) {k : Nat} {t : TypeId} {cs : Array Value} {u : Value} (h : cs[k]? = some u) : ∀ b, w.heap[b]? = some (.cells cs t (0, 0)) → w.cell? ⟨b, k, none⟩ = some u := fun _ hb => (cell_of_row _ _ _ _ _ _ hb).trans h
theorem cell_aft (w : World) {k : Nat} {t : TypeId} {cs : Array Value} {u : Value} (h : cs[k]? = some u) : ∀ b, w.heap[b]? = some (.cells cs t (0, 0)) → ∀ o, (w.alloc o).cell? ⟨b, k, none⟩ = some u := fun _ hb _ => (cell_of_row _ _ _ _ _ _ (alloc_old hb)).trans h
theorem rowk_two {k : Nat} {t : TypeId} {cs ds : Array Value} {u : Value} (h : ds[k]? = some u) : ∀ W : World, ((W.alloc (.cells cs t)).alloc (.cells ds t)).cell? ⟨W.heap.size + 1, k, none⟩ = some u := fun W => (cell_of_row _ _ _ _ _ _ (two_second W _ _)).trans h
theorem rowk_fst {k : Nat} {t : TypeId} {cs ds : Array Value} {u : Value} (h : cs[k]? = some u) : ∀ W : World, ((W.alloc (.cells cs t)).alloc (.cells ds t)).cell? ⟨W.heap.size, k, none⟩ = some u := fun W => (cell_of_row _ _ _ _ _ _ (two_first W _ _)).trans h
theorem day_row5 (k : Nat) (hk : k < 5) : ∃ i : Nat, (#[Value.int .i64 0, Value.int .i64 0, Value.int .i64 1, Value.int .i64 1, Value.int .i64 2] : Array Value)[k]? = some (Value.int .i64 (i : Int)) ∧ i < 3 := by
  match k, hk with
  | 0, _ => exact ⟨0, rfl, by omega⟩
  | 1, _ => exact ⟨0, rfl, by omega⟩
  | 2, _ => exact ⟨1, rfl, by omega⟩
  | 3, _ => exact ⟨1, rfl, by omega⟩
  | 4, _ => exact ⟨2, rfl, by omega⟩
theorem day_row3 (x y : Int) (k : Nat) (hk : k < 3) : ∃ v : Int, (#[Value.int .i64 (1 + x), Value.int .i64 (28 + y), Value.int .i64 0] : Array Value)[k]? = some (Value.int .i64 v) := by
  match k, hk with
  | 0, _ => exact ⟨_, rfl⟩
  | 1, _ => exact ⟨_, rfl⟩
  | 2, _ => exact ⟨_, rfl⟩
/-- What a draw of three numbers leaves behind. -/
def TripleDrawn (w : World) (e : Ending) (w' : World) : Prop :=
  ∃ y m d : Int, e = .returned (.tuple #[.int .i64 y, .int .i64 m, .int .i64 d]) ∧ Below w.heap.size w w'

set_option maxHeartbeats 2000000 in
theorem drawDayNumber_any (a : Option Addr) (len cap : Nat) (zs : List Int) (w : World) (h : IsRow .u8 w a len cap zs) :
    Calls Try.prog 45 #[.slice a len cap] w (TripleDrawn w) := by
  have H := Lib.hid h
  clear h
  go_enter Try.func45, Try.ntmps45
  go_wp2_with fail
  refine (drawMonthDays_any a len cap zs _ H.out).mono ?_
  rintro e w0 ⟨Y, M, rfl, Y0, Y1, M0, M1, hb0⟩
  go_wp2_with fail
  refine (open_any a len cap zs _ (IsRow.below H.out hb0)).mono ?_
  rintro e w1 ⟨g, rfl, hg, hr, hb⟩
  have hlt := hr.lt
  have hbs := hb.size
  have hbs0 := hb0.size
  go_wp2_with fail
  go_region_with (first | (go_at_call_of 57 (Value.int IntKind.i64 31); refine (pick_any g 0 _ _ ?_ (by omega)).mono ?_; (first | exact hr | exact hr.alloc _); rintro e w2 ⟨x, rfl, x0, x1, hr2, hg2⟩; have x2 := x1 (by omega); clear x1; have ex : IntKind.i64.wrap (1 + x) = 1 + x := IntWalk.i64_in _ (by omega); have hlt2 := hr2.lt; (try have Q := Lib.hid (blk_new (un_drew hg2) hlt))) | (go_at_call_of 57 (Value.int IntKind.i64 4); refine (pick_any g 1 _ _ ?_ (by omega)).mono ?_; (first | exact hr2 | exact hr2.alloc _); rintro e w3 ⟨y, rfl, y0, y1, hr3, hg3⟩; have y2 := y1 (by omega); clear y1; have ey : IntKind.i64.wrap (28 + y) = 28 + y := IntWalk.i64_in _ (by omega); have hlt3 := hr3.lt; (first | (have Q := Lib.hid (blk_old hg3 (by omega) Q.out)) | (have Q := Lib.hid (blk_new hg3 hlt2)) | skip)) | (go_at_call_of 57 (Value.int IntKind.i64 5); refine (pick_any g 2 _ _ ?_ (by omega)).mono ?_; (first | exact hr3 | exact hr3.alloc _ | exact (hr3.alloc _).alloc _); rintro e w4 ⟨k, rfl, k0, k1, hr4, hg4⟩; have k2 := k1 (by omega); clear k1; obtain ⟨k, rfl⟩ := Int.eq_ofNat_of_zero_le k0; obtain ⟨i, hi5, i2⟩ := day_row5 k (by omega); obtain ⟨v, hv3⟩ := day_row3 x y i (by omega); have c5 := cell_in (t := 3) w4 hi5; have c3 := cell_in (t := 3) w4 hv3; have d5 := cell_aft (t := 3) w4 hi5; have d3 := cell_aft (t := 3) w4 hv3; have F5 := rowk_all (t := 3) hi5; have F3 := rowk_all (t := 3) hv3; have F53 := rowk_two (t := 3) (cs := #[Value.int .i64 0, Value.int .i64 0, Value.int .i64 1, Value.int .i64 1, Value.int .i64 2]) hv3; have F35 := rowk_two (t := 3) (cs := #[Value.int .i64 (1 + x), Value.int .i64 (28 + y), Value.int .i64 0]) hi5; have F53' := rowk_fst (t := 3) (ds := #[Value.int .i64 (1 + x), Value.int .i64 (28 + y), Value.int .i64 0]) hi5; have F35' := rowk_fst (t := 3) (ds := #[Value.int .i64 0, Value.int .i64 0, Value.int .i64 1, Value.int .i64 1, Value.int .i64 2]) hv3; (first | (have Q := Lib.hid (blk_old hg4 (by omega) Q.out)) | (have Q := Lib.hid (blk_old hg4 (by omega) (alloc_old Q.out))) | skip); (first | (have N1 := Lib.hid (blk_fst hg4 hlt3); have N2 := Lib.hid (blk_snd hg4 hlt3)) | (have N1 := Lib.hid (blk_new hg4 hlt3)) | skip); (try have C1 := c5 _ Q.out); (try have C2 := c5 _ N1.out); (try have C3 := c5 _ N2.out); (try have C4 := c3 _ N1.out); (try have C5 := c3 _ N2.out); (try have D1 := d5 _ Q.out); (try have D2 := d5 _ N1.out); (try have D4 := d3 _ N1.out); clear c5 c3 d5 d3))
  all_goals
    go_wp2
    go_ret3
    have X2 : w1.grownBy w2 (some g) := by first | exact un_drew hg2 | exact grown_trans (World.grownBy_alloc _ _ _) (un_drew hg2)
    have X3 : w2.grownBy w3 (some g) := by first | exact hg3 | exact grown_trans (World.grownBy_alloc _ _ _) hg3
    have X4 : w3.grownBy w4 (some g) := by first | exact hg4 | exact grown_trans (World.grownBy_alloc _ _ _) hg4 | exact grown_trans (grown_alloc (World.grownBy_alloc _ _ _) _) hg4
    have B4 : Below w.heap.size w w4 := grown_below (hb0.trans (hb.mono hbs0)) (grown_trans X2 (grown_trans X3 X4)) (by omega) (by omega)
    refine ⟨Y, M, v, rfl, ?_⟩
    first
      | exact B4
      | exact B4.alloc B4.size _
      | exact (B4.alloc B4.size _).alloc (Nat.le_trans B4.size (by simp)) _

end Go.Proofs.Ytjddopgbfgeebaa
