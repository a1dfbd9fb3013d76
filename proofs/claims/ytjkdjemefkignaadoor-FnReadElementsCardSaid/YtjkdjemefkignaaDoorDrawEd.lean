/- The draws of elements out of a code. -/
import Derived.Test.YtjkdjemefkignaaDoorDrawE
namespace Go.Proofs.YtjkdjemefkignaaDoor
open Go.RowKit

theorem own_base {w : World} {base base' t size n : Nat} {v : Value} {xs : List Value} (h : w.ownsRow base t size v n xs) (hb : base' ≤ base) : w.ownsRow base' t size v n xs := by
  obtain ⟨h1, h2⟩ := h
  refine ⟨h1, ?_⟩
  rcases h2 with h2 | ⟨g, cap, cur, hv, hg, r⟩
  · exact .inl h2
  · exact .inr ⟨g, cap, cur, hv, Nat.le_trans hb hg, r⟩
/-- What a draw of elements out of a code leaves behind. -/
def ElsDrawn (w : World) (e : Ending) (w' : World) : Prop :=
  (∃ (q n cap : Nat) (l : List El), e = .returned (.slice (some ⟨q, 0, none⟩) n cap) ∧ w'.ownsRow w.heap.size 54 2 (.slice (some ⟨q, 0, none⟩) n cap) n (flatE l) ∧ l.length = n ∧ n ≤ 9 ∧ ∀ e ∈ l, e.1.size ≤ 100 ∧ e.2.size ≤ 100) ∧ Below w.heap.size w w'


set_option maxHeartbeats 400000 in
theorem drawElementsText_any (a : Option Addr) (len cap : Nat) (zs : List Int) (w : World) (h : IsRow .u8 w a len cap zs) :
    Calls Tryd.prog 28 #[.slice a len cap] w (ElsDrawn w) := by
  have H := Lib.hid h
  clear h
  go_enter Tryd.func28, Tryd.ntmps28
  go_wp2_with fail
  refine (open_any a len cap zs _ H.out).mono ?_
  rintro e w1 ⟨g, rfl, hg, hr, hb⟩
  go_wp2_with fail
  refine (elements_any g 0 _ _ hr (by omega) (by omega)).mono ?_
  rintro e w2 ⟨⟨q, n, cap, l, rfl, hown, hl, hn, hs⟩, hr2, hg2⟩
  go_wp2
  go_ret
  exact ⟨⟨q, n, cap, l, rfl, own_base hown hb.size, hl, hn, hs⟩, grown_below hb hg2 hb.size hg⟩
end Go.Proofs.YtjkdjemefkignaaDoor
