/- The draws of single words, and alive. -/
import Derived.Test.YtjddopgbfgeebaaDraw
namespace Go.Proofs.Ytjddopgbfgeebaa
open Go.RowKit

/-- What a draw of a text out of a code leaves behind. -/
def TextDrawn (w : World) (B : Nat) (e : Ending) (w' : World) : Prop :=
  ∃ s : ByteArray, e = .returned (.string s) ∧ s.size ≤ B ∧ Below w.heap.size w w'

set_option maxHeartbeats 400000 in
theorem drawWordValid_any (a : Option Addr) (len cap : Nat) (zs : List Int) (w : World) (h : IsRow .u8 w a len cap zs) :
    Calls Try.prog 36 #[.slice a len cap] w (TextDrawn w 9) := by
  have H := Lib.hid h
  clear h
  go_enter Try.func36, Try.ntmps36
  go_wp2_with fail
  refine (open_any a len cap zs _ H.out).mono ?_
  rintro e w1 ⟨g, rfl, hg, hr, hb⟩
  go_wp2_with fail
  refine (word_any g 0 _ _ hr (by omega) (by omega)).mono ?_
  rintro e w2 ⟨s, rfl, hs, hr2, hg2⟩
  go_wp2
  go_ret
  exact ⟨s, rfl, hs, grown_below hb hg2 hb.size hg⟩

/-- The fixed answers that alive asks for. -/
theorem alive_a1 : wordV [97, 49] = true := by decide
theorem alive_1a : wordV [49, 97] = false := by decide
set_option maxHeartbeats 400000 in
theorem alive_any (w : World) :
    Calls Try.prog 37 #[] w fun e w' => e = .returned (.bool true) ∧ w = w' := by
  have h1 := alive_a1
  have h2 := alive_1a
  go_enter Try.func37, Try.ntmps37
  go_wp2_with (go_at_call 29; refine (impl_wordValid _ _ (by decide)).mono ?_; rintro e w' ⟨rfl, rfl⟩)
  go_ret
  exact ⟨rfl, rfl⟩

end Go.Proofs.Ytjddopgbfgeebaa
