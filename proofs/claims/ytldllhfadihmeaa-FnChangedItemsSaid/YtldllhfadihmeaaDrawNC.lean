/- The draws of two feeds out of a code. -/
import Derived.Test.YtldllhfadihmeaaDrawP2
namespace Go.Proofs.Ytldllhfadihmeaa
open Go.RowKit

/-- What a draw of two feeds out of a code leaves behind. -/
def BothDrawn (w : World) (e : Ending) (w' : World) : Prop :=
  (∃ (q n cap : Nat) (l : List It) (q' n' cap' : Nat) (l' : List It), e = .returned (.tuple #[.slice (some ⟨q, 0, none⟩) n cap, .slice (some ⟨q', 0, none⟩) n' cap']) ∧
    (w'.ownsRow w.heap.size 34 4 (.slice (some ⟨q, 0, none⟩) n cap) n (flatI l) ∧ l.length = n ∧ n ≤ 9 ∧ ∀ i ∈ l, okI i) ∧
    (w'.ownsRow w.heap.size 34 4 (.slice (some ⟨q', 0, none⟩) n' cap') n' (flatI l') ∧ l'.length = n' ∧ n' ≤ 9 ∧ ∀ i ∈ l', okI i)) ∧ Below w.heap.size w w'

set_option maxHeartbeats 400000 in
theorem drawNewItems_any (a : Option Addr) (len cap : Nat) (zs : List Int) (w : World) (h : IsRow .u8 w a len cap zs) :
    Calls Try.prog 39 #[.slice a len cap] w (BothDrawn w) := by
  have H := Lib.hid h
  clear h
  go_enter Try.func39, Try.ntmps39
  go_wp2_with fail
  refine (open_any a len cap zs _ H.out).mono ?_
  rintro e w1 ⟨g, rfl, hg, hr, hb⟩
  go_wp2_with fail
  refine (both_any g 0 _ _ hr (by omega) (by omega)).mono ?_
  rintro e w2 ⟨⟨q, n, cap, l, q', n', cap', l', rfl, ⟨h1, h2, h3, h4⟩, ⟨h1', h2', h3', h4'⟩⟩, hr2, hg2⟩
  go_wp2
  go_ret2
  exact ⟨⟨q, n, cap, l, q', n', cap', l', rfl, ⟨own_base4 h1 hb.size, h2, h3, h4⟩, ⟨own_base4 h1' hb.size, h2', h3', h4'⟩⟩, grown_below hb hg2 hb.size hg⟩

set_option maxHeartbeats 400000 in
theorem drawChangedItems_any (a : Option Addr) (len cap : Nat) (zs : List Int) (w : World) (h : IsRow .u8 w a len cap zs) :
    Calls Try.prog 46 #[.slice a len cap] w (BothDrawn w) := by
  have H := Lib.hid h
  clear h
  go_enter Try.func46, Try.ntmps46
  go_wp2_with fail
  refine (open_any a len cap zs _ H.out).mono ?_
  rintro e w1 ⟨g, rfl, hg, hr, hb⟩
  go_wp2_with fail
  refine (both_any g 0 _ _ hr (by omega) (by omega)).mono ?_
  rintro e w2 ⟨⟨q, n, cap, l, q', n', cap', l', rfl, ⟨h1, h2, h3, h4⟩, ⟨h1', h2', h3', h4'⟩⟩, hr2, hg2⟩
  go_wp2
  go_ret2
  exact ⟨⟨q, n, cap, l, q', n', cap', l', rfl, ⟨own_base4 h1 hb.size, h2, h3, h4⟩, ⟨own_base4 h1' hb.size, h2', h3', h4'⟩⟩, grown_below hb hg2 hb.size hg⟩

end Go.Proofs.Ytldllhfadihmeaa
