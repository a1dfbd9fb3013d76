/- The draw of elements and a name. -/
import Derived.Test.YtjkdjemefkignaaDrawEd
namespace Go.Proofs.Ytjkdjemefkignaa
open Go.RowKit

theorem names3 : StrRow #[.string ⟨#[107, 101, 121]⟩, .string ⟨#[116, 105, 116, 108, 101]⟩, .string ⟨#[110, 111, 110, 101]⟩] 5 := by
  intro k hk
  match k, hk with
  | 0, _ => exact ⟨_, rfl, by decide⟩
  | 1, _ => exact ⟨_, rfl, by decide⟩
  | 2, _ => exact ⟨_, rfl, by decide⟩
/-- What the draw leaves behind. -/
def ElsNameDrawn (w : World) (e : Ending) (w' : World) : Prop :=
  (∃ (q n cap : Nat) (l : List El) (s : ByteArray), e = .returned (.tuple #[.slice (some ⟨q, 0, none⟩) n cap, .string s]) ∧ s.size ≤ 5 ∧ w'.ownsRow w.heap.size 37 2 (.slice (some ⟨q, 0, none⟩) n cap) n (flatE l) ∧ l.length = n ∧ n ≤ 9 ∧ ∀ e ∈ l, e.1.size ≤ 100 ∧ e.2.size ≤ 100) ∧ Below w.heap.size w w'

set_option maxHeartbeats 1000000 in
theorem drawElementText_any (a : Option Addr) (len cap : Nat) (zs : List Int) (w : World) (h : IsRow .u8 w a len cap zs) :
    Calls Try.prog 21 #[.slice a len cap] w (ElsNameDrawn w) := by
  have H := Lib.hid h
  clear h
  go_enter Try.func21, Try.ntmps21
  go_wp2_with fail
  refine (open_any a len cap zs _ H.out).mono ?_
  rintro e w1 ⟨g, rfl, hg, hr, hb⟩
  have hlt1 := hr.lt
  have hbs := hb.size
  go_wp2_with fail
  refine (elements_any g 0 _ _ hr (by omega) (by omega)).mono ?_
  rintro e w2 ⟨⟨q, n, cap, l, rfl, hown, hl, hn, hs⟩, hr2, hg2⟩
  have hlt := hr2.lt
  have hb2 := grown_below hb hg2 hb.size hg
  have HS := Lib.hid hs
  clear hs
  go_wp2_with fail
  go_region_with (go_at_call 26; refine (pick_any g 17 _ _ ?_ (by omega)).mono ?_; (first | exact hr2 | exact hr2.alloc _); rintro e w3 ⟨i, rfl, i0, i1, hr3, hg3⟩; have i2 := i1 (by omega); clear i1; obtain ⟨i, rfl⟩ := Int.eq_ofNat_of_zero_le i0; obtain ⟨s, hs, hssz⟩ := names3 i (by show i < 3; omega); have F1 := rowk_all (t := 9) hs; (try have F2 := rowk (un_drew hg3) hlt hs))
  all_goals
    have own3 : w3.ownsRow w1.heap.size 37 2 (.slice (some ⟨q, 0, none⟩) n cap) n (flatE l) := by
      first
        | exact own_kept hown (un_drew hg3) hlt1
        | exact own_kept (hown.alloc _) (un_drew hg3) hlt1
    have B3 : Below w.heap.size w w3 := by
      first
        | exact grown_below hb2 (un_drew hg3) hb2.size hg
        | exact grown_below hb2 (grown_trans (World.grownBy_alloc _ _ _) (un_drew hg3)) hb2.size hg
    go_wp2
    go_ret2
    first
      | exact ⟨⟨q, n, cap, l, s, rfl, hssz, own_base own3 hbs, hl, hn, HS.out⟩, B3⟩
      | exact ⟨⟨q, n, cap, l, s, rfl, hssz, own_base (own3.alloc _) hbs, hl, hn, HS.out⟩, B3.alloc B3.size _⟩
end Go.Proofs.Ytjkdjemefkignaa
