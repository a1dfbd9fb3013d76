/- What a draw of a text leaves behind; alive. -/
import Derived.Test.YtldllhfadihmeaaDraw
namespace Go.Proofs.Ytldllhfadihmeaa
open Go.RowKit

/-- What a draw of a text out of a code leaves behind. -/
def TextDrawn (w : World) (B : Nat) (e : Ending) (w' : World) : Prop :=
  ∃ s : ByteArray, e = .returned (.string s) ∧ s.size ≤ B ∧ Below w.heap.size w w'

/-- The fixed answers that alive asks for. -/
theorem alive_a1 : wordV [97, 49] = true := by decide
theorem alive_1a : wordV [49, 97] = false := by decide
set_option maxHeartbeats 400000 in
theorem alive_any (w : World) :
    Calls Try.prog 27 #[] w fun e w' => e = .returned (.bool true) ∧ w = w' := by
  have h1 := alive_a1
  have h2 := alive_1a
  go_enter Try.func27, Try.ntmps27
  go_wp2_with (go_at_call 57; refine (impl_wordValid _ _ (by decide)).mono ?_; rintro e w' ⟨rfl, rfl⟩)
  go_ret
  exact ⟨rfl, rfl⟩

end Go.Proofs.Ytldllhfadihmeaa
