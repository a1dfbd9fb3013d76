/- The draws of items and of feeds out of a code. -/
import Derived.Test.YtldllhfadihmeaaDrawF
import Derived.Test.YtldllhfadihmeaaDrawA
namespace Go.Proofs.Ytldllhfadihmeaa
open Go.RowKit

/-- What a draw of an item, of a feed, out of a code leaves behind. -/
def ItemDrawn (w : World) (e : Ending) (w' : World) : Prop :=
  (∃ i : It, e = .returned (.agg #[.string i.key, .string i.title, .string i.body, .int .i64 i.day]) ∧ okI i) ∧ Below w.heap.size w w'
def FeedDrawn (w : World) (e : Ending) (w' : World) : Prop :=
  (∃ (q n cap : Nat) (l : List It), e = .returned (.slice (some ⟨q, 0, none⟩) n cap) ∧ w'.ownsRow w.heap.size 34 4 (.slice (some ⟨q, 0, none⟩) n cap) n (flatI l) ∧ l.length = n ∧ n ≤ 7 ∧ ∀ i ∈ l, okI i) ∧ Below w.heap.size w w'
theorem isRow_below {k : IntKind} {w w' : World} {a : Option Addr} {len cap : Nat} {zs : List Int} (h : IsRow k w a len cap zs) (hb : Below w.heap.size w w') : IsRow k w' a len cap zs := by
  rcases h with h | ⟨x, rfl, h1, h2, h3, h4, h5⟩
  · exact .inl h
  · refine .inr ⟨x, rfl, h1, h2, h3, fun i hi => ?_, h5⟩
    exact (hb.cell (World.block_lt_of_cell? w _ (h4 i hi))).trans (h4 i hi)
/-- What a draw of two numbers leaves behind. -/
theorem own_base4 {w : World} {base base' t size n : Nat} {v : Value} {xs : List Value} (h : w.ownsRow base t size v n xs) (hb : base' ≤ base) : w.ownsRow base' t size v n xs := by
  obtain ⟨h1, h2⟩ := h
  refine ⟨h1, ?_⟩
  rcases h2 with h2 | ⟨g, cap, cur, hv, hg, r⟩
  · exact .inl h2
  · exact .inr ⟨g, cap, cur, hv, Nat.le_trans hb hg, r⟩

set_option maxHeartbeats 400000 in
theorem drawItemValid_any (a : Option Addr) (len cap : Nat) (zs : List Int) (w : World) (h : IsRow .u8 w a len cap zs) :
    Calls Try.prog 26 #[.slice a len cap] w (ItemDrawn w) := by
  have hb0 : Below w.heap.size w (w.alloc (.cells #[.string ⟨#[]⟩, .string ⟨#[]⟩, .string ⟨#[]⟩, .int .i64 0] 34)) := (Below.refl _ _).alloc (Nat.le_refl _) _
  have H := Lib.hid (isRow_below h hb0)
  have H0 := heap_alloc_new w (.cells #[.string ⟨#[]⟩, .string ⟨#[]⟩, .string ⟨#[]⟩, .int .i64 0] 34)
  have hres : Try.f26.results = #[.cell 2 34] := by kernel_rfl
  clear h
  go_enter Try.func26, Try.ntmps26
  go_wp2_with fail
  refine (open_any a len cap zs _ H.out).mono ?_
  rintro e w1 ⟨g, rfl, hg, hr, hb⟩
  have H1 := (hb.block w.heap.size (by simp)).trans H0
  simp at hg
  go_wp2_with fail
  refine (item_any g 0 _ _ hr (by omega) (by omega)).mono ?_
  rintro e w2 ⟨⟨i, rfl, hi⟩, hr2, hg2⟩
  have H2 := heap_kept' hg2 H1 (by omega)
  obtain ⟨p0, p1, p2, p3, f0, f1, f2, f3⟩ := cells4 H2
  have st := (stored4 H2 (.string i.key) (.string i.title) (.string i.body) (.int .i64 i.day)).2
  have hz := hb0.trans (hb.mono (by simp))
  go_wp2
  refine bodyPost_ret (v := .agg #[.string i.key, .string i.title, .string i.body, .int .i64 i.day]) ?_ rfl ⟨⟨i, rfl, hi⟩, grown_below (grown_below hz hg2 hz.size (by omega)) st (by have := hz.size; have := hg2.size; omega) (Nat.le_refl _)⟩
  simp only [results, hres]
  go_simp
set_option maxHeartbeats 400000 in
theorem drawFeedValid_any (a : Option Addr) (len cap : Nat) (zs : List Int) (w : World) (h : IsRow .u8 w a len cap zs) :
    Calls Try.prog 30 #[.slice a len cap] w (FeedDrawn w) := by
  have H := Lib.hid h
  clear h
  go_enter Try.func30, Try.ntmps30
  go_wp2_with fail
  refine (open_any a len cap zs _ H.out).mono ?_
  rintro e w1 ⟨g, rfl, hg, hr, hb⟩
  go_wp2_with fail
  refine (feed_any g 0 _ _ hr (by omega) (by omega)).mono ?_
  rintro e w2 ⟨⟨q, n, cap, l, rfl, hown, hl, hn, hs⟩, hr2, hg2⟩
  go_wp2
  go_ret
  exact ⟨⟨q, n, cap, l, rfl, own_base4 hown hb.size, hl, hn, hs⟩, grown_below hb hg2 hb.size hg⟩
theorem keys4 : StrRow #[.string ⟨#[107, 49]⟩, .string ⟨#[107, 50]⟩, .string ⟨#[107, 51]⟩, .string ⟨#[110, 111, 110, 101]⟩] 5 := by
  intro k hk
  match k, hk with
  | 0, _ => exact ⟨_, rfl, by decide⟩
  | 1, _ => exact ⟨_, rfl, by decide⟩
  | 2, _ => exact ⟨_, rfl, by decide⟩
  | 3, _ => exact ⟨_, rfl, by decide⟩
theorem rowk_all4 {k : Nat} {t : TypeId} {cs : Array Value} {u : Value} (h : cs[k]? = some u) : ∀ W : World, (W.alloc (.cells cs t)).cell? ⟨W.heap.size, k, none⟩ = some u := fun W => (cell_of_row _ _ _ _ _ _ (heap_alloc_new W _)).trans h
theorem rowk4 {W w2 : World} {g k : Nat} {t : TypeId} {cs : Array Value} {u : Value} (hg : (W.alloc (.cells cs t)).grownBy w2 (some g)) (hlt : g < W.heap.size) (h : cs[k]? = some u) : w2.cell? ⟨W.heap.size, k, none⟩ = some u := (row_kept hg hlt k).trans h
/-- What the draw of a feed and a key leaves behind. -/
def FeedKeyDrawn (w : World) (e : Ending) (w' : World) : Prop :=
  (∃ (q n cap : Nat) (l : List It) (s : ByteArray), e = .returned (.tuple #[.slice (some ⟨q, 0, none⟩) n cap, .string s]) ∧ s.size ≤ 5 ∧ w'.ownsRow w.heap.size 34 4 (.slice (some ⟨q, 0, none⟩) n cap) n (flatI l) ∧ l.length = n ∧ n ≤ 7 ∧ ∀ i ∈ l, okI i) ∧ Below w.heap.size w w'
set_option maxHeartbeats 1000000 in
theorem drawItemWith_any (a : Option Addr) (len cap : Nat) (zs : List Int) (w : World) (h : IsRow .u8 w a len cap zs) :
    Calls Try.prog 34 #[.slice a len cap] w (FeedKeyDrawn w) := by
  have H := Lib.hid h
  clear h
  go_enter Try.func34, Try.ntmps34
  go_wp2_with fail
  refine (open_any a len cap zs _ H.out).mono ?_
  rintro e w1 ⟨g, rfl, hg, hr, hb⟩
  have hlt1 := hr.lt
  have hbs := hb.size
  go_wp2_with fail
  refine (feed_any g 0 _ _ hr (by omega) (by omega)).mono ?_
  rintro e w2 ⟨⟨q, n, cap, l, rfl, hown, hl, hn, hs⟩, hr2, hg2⟩
  have hlt := hr2.lt
  have hb2 := grown_below hb hg2 hb.size hg
  have HS := Lib.hid hs
  clear hs
  go_wp2_with fail
  go_region_with (go_at_call 64; refine (pick_any g 100 _ _ ?_ (by omega)).mono ?_; (first | exact hr2 | exact hr2.alloc _); rintro e w3 ⟨i, rfl, i0, i1, hr3, hg3⟩; have i2 := i1 (by omega); clear i1; obtain ⟨i, rfl⟩ := Int.eq_ofNat_of_zero_le i0; obtain ⟨s, hs, hssz⟩ := keys4 i (by show i < 4; omega); have F1 := rowk_all4 (t := 9) hs; (try have F2 := rowk4 (un_drew hg3) hlt hs))
  all_goals
    have own3 : w3.ownsRow w1.heap.size 34 4 (.slice (some ⟨q, 0, none⟩) n cap) n (flatI l) := by
      first
        | exact own_ka hown (un_drew hg3) hlt1
        | exact own_ka (hown.alloc _) (un_drew hg3) hlt1
    have B3 : Below w.heap.size w w3 := by
      first
        | exact grown_below hb2 (un_drew hg3) hb2.size hg
        | exact grown_below hb2 (grown_trans (World.grownBy_alloc _ _ _) (un_drew hg3)) hb2.size hg
    go_wp2
    go_ret2
    first
      | exact ⟨⟨q, n, cap, l, s, rfl, hssz, own_base4 own3 hbs, hl, hn, HS.out⟩, B3⟩
      | exact ⟨⟨q, n, cap, l, s, rfl, hssz, own_base4 (own3.alloc _) hbs, hl, hn, HS.out⟩, B3.alloc B3.size _⟩
end Go.Proofs.Ytldllhfadihmeaa
