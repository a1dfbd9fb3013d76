/-
  No cell of these rows narrows 'for every input' (looked for: loops, veiled, ifaces, maps, wideKeys, modest, calm, conditions, laid).
  DERIVED. THE GIVEN ROWS OF THIS SEAT. 6 by the template 'for every input the law returns true; each argument reads behind the call as it read before'; 0 by the template 'total and deterministic' (their statements: YtjkdjemefkignaaTotals.lean).
  GIVEN WITH THE SEED: the statements are not yours to turn. If you find one false, say at which input.
  Laid BY PROGRAM, IN A SANDBOX (cutbox-rows.mjs): the forced cells as the released guide's own fill.sh prints them over the translation 63632b290381fca9… (all of the seat's roots in one cut). By AI agents, Wed Nov 11 2026. No macro, syntax, notation, axiom, sorry.
-/
import Derived.Test.YtjkdjemefkignaaChecked
import GoSem.Claim
import GoSem.ClaimJoined
import GoSem.ClaimMapViews
import Derived.JoinedTies
import Derived.KernelRfl
namespace Go.Proofs.Ytjkdjemefkignaa
/- THE CELL 'sum', in the pinned program and in every row, IS THE sha256 OF THE DUMP (.gsa) THAT YtjkdjemefkignaaProg.lean LOADS. Nothing in Lean hashes anything: it is a label: what it is worth is what the hold of that sum in a sandbox is worth. -/
noncomputable def Try.pinned : Pinned := { name := "ytjkdjemefkignaa", sum := "63632b290381fca9f9b83f177ce4c104bd0d66a1553eb66aca9fb2201553e1ca", checked := Try.checked }
namespace Rows
def none {H : Type} : Left H := { results := [], args := [] }

/-- 'laws.FnExactPlainOf': WHATEVER THE INPUT: true; the input reads as it did. -/
def fnExactPlainOfSpec : ChangeSpec := { name := "fnExactPlainOf", fn := fun _ => fun
  | [d] => { results := [.lit (.bool true)], args := [d] }
  | _ => none }
def fnExactPlainOfRow : OpenClaim := { program := "ytjkdjemefkignaa", sum := "63632b290381fca9f9b83f177ce4c104bd0d66a1553eb66aca9fb2201553e1ca", func := "loop.example/feedbridge/laws.FnExactPlainOf", spec := "fnExactPlainOf", inPlace := ["internal/bytealg.IndexByteString"], apart := false }
def FnExactPlainOfSaid : Prop := fnExactPlainOfRow.holds Try.pinned (OpenSpec.ofChange fnExactPlainOfSpec)

/-- ITS FALSE NEIGHBOUR: 'it returns false'. Refute it at one input. -/
def fnExactPlainOfWrong : ChangeSpec := { name := "fnExactPlainOf", fn := fun _ => fun
  | [d] => { results := [.lit (.bool false)], args := [d] }
  | _ => none }
def FnExactPlainOfWrongFalsely : Prop := fnExactPlainOfRow.holds Try.pinned (OpenSpec.ofChange fnExactPlainOfWrong)

/-- 'laws.FnPlainOf': WHATEVER THE INPUT: true; the input reads as it did. -/
def fnPlainOfSpec : ChangeSpec := { name := "fnPlainOf", fn := fun _ => fun
  | [d] => { results := [.lit (.bool true)], args := [d] }
  | _ => none }
def fnPlainOfRow : OpenClaim := { program := "ytjkdjemefkignaa", sum := "63632b290381fca9f9b83f177ce4c104bd0d66a1553eb66aca9fb2201553e1ca", func := "loop.example/feedbridge/laws.FnPlainOf", spec := "fnPlainOf", inPlace := ["internal/bytealg.IndexByteString"], apart := false }
def FnPlainOfSaid : Prop := fnPlainOfRow.holds Try.pinned (OpenSpec.ofChange fnPlainOfSpec)

/-- ITS FALSE NEIGHBOUR: 'it returns false'. Refute it at one input. -/
def fnPlainOfWrong : ChangeSpec := { name := "fnPlainOf", fn := fun _ => fun
  | [d] => { results := [.lit (.bool false)], args := [d] }
  | _ => none }
def FnPlainOfWrongFalsely : Prop := fnPlainOfRow.holds Try.pinned (OpenSpec.ofChange fnPlainOfWrong)

/-- 'laws.FnExactElementsValid': WHATEVER THE INPUT: true; the input reads as it did. -/
def fnExactElementsValidSpec : ChangeSpec := { name := "fnExactElementsValid", fn := fun _ => fun
  | [d] => { results := [.lit (.bool true)], args := [d] }
  | _ => none }
def fnExactElementsValidRow : OpenClaim := { program := "ytjkdjemefkignaa", sum := "63632b290381fca9f9b83f177ce4c104bd0d66a1553eb66aca9fb2201553e1ca", func := "loop.example/feedbridge/laws.FnExactElementsValid", spec := "fnExactElementsValid", apart := false }
def FnExactElementsValidSaid : Prop := fnExactElementsValidRow.holds Try.pinned (OpenSpec.ofChange fnExactElementsValidSpec)

/-- ITS FALSE NEIGHBOUR: 'it returns false'. Refute it at one input. -/
def fnExactElementsValidWrong : ChangeSpec := { name := "fnExactElementsValid", fn := fun _ => fun
  | [d] => { results := [.lit (.bool false)], args := [d] }
  | _ => none }
def FnExactElementsValidWrongFalsely : Prop := fnExactElementsValidRow.holds Try.pinned (OpenSpec.ofChange fnExactElementsValidWrong)

/-- 'laws.FnElementsValid': WHATEVER THE INPUT: true; the input reads as it did. -/
def fnElementsValidSpec : ChangeSpec := { name := "fnElementsValid", fn := fun _ => fun
  | [d] => { results := [.lit (.bool true)], args := [d] }
  | _ => none }
def fnElementsValidRow : OpenClaim := { program := "ytjkdjemefkignaa", sum := "63632b290381fca9f9b83f177ce4c104bd0d66a1553eb66aca9fb2201553e1ca", func := "loop.example/feedbridge/laws.FnElementsValid", spec := "fnElementsValid", apart := false }
def FnElementsValidSaid : Prop := fnElementsValidRow.holds Try.pinned (OpenSpec.ofChange fnElementsValidSpec)

/-- ITS FALSE NEIGHBOUR: 'it returns false'. Refute it at one input. -/
def fnElementsValidWrong : ChangeSpec := { name := "fnElementsValid", fn := fun _ => fun
  | [d] => { results := [.lit (.bool false)], args := [d] }
  | _ => none }
def FnElementsValidWrongFalsely : Prop := fnElementsValidRow.holds Try.pinned (OpenSpec.ofChange fnElementsValidWrong)

/-- 'laws.FnExactElementText': WHATEVER THE INPUT: true; the input reads as it did. -/
def fnExactElementTextSpec : ChangeSpec := { name := "fnExactElementText", fn := fun _ => fun
  | [d1, d2] => { results := [.lit (.bool true)], args := [d1, d2] }
  | _ => none }
def fnExactElementTextRow : OpenClaim := { program := "ytjkdjemefkignaa", sum := "63632b290381fca9f9b83f177ce4c104bd0d66a1553eb66aca9fb2201553e1ca", func := "loop.example/feedbridge/laws.FnExactElementText", spec := "fnExactElementText", apart := false }
def FnExactElementTextSaid : Prop := fnExactElementTextRow.holds Try.pinned (OpenSpec.ofChange fnExactElementTextSpec)

/-- ITS FALSE NEIGHBOUR: 'it returns false'. Refute it at one input. -/
def fnExactElementTextWrong : ChangeSpec := { name := "fnExactElementText", fn := fun _ => fun
  | [d1, d2] => { results := [.lit (.bool false)], args := [d1, d2] }
  | _ => none }
def FnExactElementTextWrongFalsely : Prop := fnExactElementTextRow.holds Try.pinned (OpenSpec.ofChange fnExactElementTextWrong)

/-- 'laws.FnElementText': WHATEVER THE INPUT: true; the input reads as it did. -/
def fnElementTextSpec : ChangeSpec := { name := "fnElementText", fn := fun _ => fun
  | [d] => { results := [.lit (.bool true)], args := [d] }
  | _ => none }
def fnElementTextRow : OpenClaim := { program := "ytjkdjemefkignaa", sum := "63632b290381fca9f9b83f177ce4c104bd0d66a1553eb66aca9fb2201553e1ca", func := "loop.example/feedbridge/laws.FnElementText", spec := "fnElementText", apart := false }
def FnElementTextSaid : Prop := fnElementTextRow.holds Try.pinned (OpenSpec.ofChange fnElementTextSpec)

/-- ITS FALSE NEIGHBOUR: 'it returns false'. Refute it at one input. -/
def fnElementTextWrong : ChangeSpec := { name := "fnElementText", fn := fun _ => fun
  | [d] => { results := [.lit (.bool false)], args := [d] }
  | _ => none }
def FnElementTextWrongFalsely : Prop := fnElementTextRow.holds Try.pinned (OpenSpec.ofChange fnElementTextWrong)

/- THE SECOND FORM. 'bulk': how many values and letters a reading holds, each counted each time it is reached (what is shared counts as often as it is met; a slice's spare places count too). A statement '..UptoSaid' is the law's where the arguments, and the package variables that the reading takes, are together of bulk at most 1048576: NARROWER than '..Said'. Prove '..Said' where nothing that the law and all that it calls make is longer than what came in: it says more and counts as full. Else prove '..UptoSaid'. A law counts once. -/
mutual
def uptoBulk {H : Type} : DataW H → Nat
  | .lit (.string bytes) => bytes.length + 1
  | .lit _ => 1
  | .nil => 1
  | .ptr d => uptoBulk d + 1
  | .slice elems spare => uptoBulkAll elems + uptoBulkAll spare + 1
  | .agg parts => uptoBulkAll parts + 1
  | .iface _ d => uptoBulk d + 1
  | .map entries => uptoBulkEntries entries + 1
  | .held _ => 1
def uptoBulkAll {H : Type} : List (DataW H) → Nat
  | [] => 0
  | d :: r => uptoBulk d + uptoBulkAll r
def uptoBulkEntries {H : Type} : List (Lit × DataW H) → Nat
  | [] => 0
  | x :: r => uptoBulkEntry x + uptoBulkEntries r
def uptoBulkEntry {H : Type} : Lit × DataW H → Nat
  | (.string bytes, d) => bytes.length + uptoBulk d + 1
  | (_, d) => uptoBulk d + 1
 end
def uptoSmall : (H : Type) → List (DataW H) → Bool := fun _ ds => decide (uptoBulkAll ds ≤ 1048576)
def OpenSpec.upto (s : _root_.Go.ChangeSpec) : _root_.Go.OpenSpec := { _root_.Go.OpenSpec.ofChange s with cond := some uptoSmall }

/-- 'laws.FnExactPlainOf', WHERE WHAT IT READS IS OF BULK AT MOST 1048576: true; the input reads as it did. -/
def fnExactPlainOfUptoRow : OpenClaim := { program := "ytjkdjemefkignaa", sum := "63632b290381fca9f9b83f177ce4c104bd0d66a1553eb66aca9fb2201553e1ca", func := "loop.example/feedbridge/laws.FnExactPlainOf", spec := "fnExactPlainOf", inPlace := ["internal/bytealg.IndexByteString"], apart := false, narrowed := true }
def FnExactPlainOfUptoSaid : Prop := fnExactPlainOfUptoRow.holds Try.pinned (OpenSpec.upto fnExactPlainOfSpec)

/-- 'laws.FnPlainOf', WHERE WHAT IT READS IS OF BULK AT MOST 1048576: true; the input reads as it did. -/
def fnPlainOfUptoRow : OpenClaim := { program := "ytjkdjemefkignaa", sum := "63632b290381fca9f9b83f177ce4c104bd0d66a1553eb66aca9fb2201553e1ca", func := "loop.example/feedbridge/laws.FnPlainOf", spec := "fnPlainOf", inPlace := ["internal/bytealg.IndexByteString"], apart := false, narrowed := true }
def FnPlainOfUptoSaid : Prop := fnPlainOfUptoRow.holds Try.pinned (OpenSpec.upto fnPlainOfSpec)

/-- 'laws.FnExactElementsValid', WHERE WHAT IT READS IS OF BULK AT MOST 1048576: true; the input reads as it did. -/
def fnExactElementsValidUptoRow : OpenClaim := { program := "ytjkdjemefkignaa", sum := "63632b290381fca9f9b83f177ce4c104bd0d66a1553eb66aca9fb2201553e1ca", func := "loop.example/feedbridge/laws.FnExactElementsValid", spec := "fnExactElementsValid", apart := false, narrowed := true }
def FnExactElementsValidUptoSaid : Prop := fnExactElementsValidUptoRow.holds Try.pinned (OpenSpec.upto fnExactElementsValidSpec)

/-- 'laws.FnElementsValid', WHERE WHAT IT READS IS OF BULK AT MOST 1048576: true; the input reads as it did. -/
def fnElementsValidUptoRow : OpenClaim := { program := "ytjkdjemefkignaa", sum := "63632b290381fca9f9b83f177ce4c104bd0d66a1553eb66aca9fb2201553e1ca", func := "loop.example/feedbridge/laws.FnElementsValid", spec := "fnElementsValid", apart := false, narrowed := true }
def FnElementsValidUptoSaid : Prop := fnElementsValidUptoRow.holds Try.pinned (OpenSpec.upto fnElementsValidSpec)

/-- 'laws.FnExactElementText', WHERE WHAT IT READS IS OF BULK AT MOST 1048576: true; the input reads as it did. -/
def fnExactElementTextUptoRow : OpenClaim := { program := "ytjkdjemefkignaa", sum := "63632b290381fca9f9b83f177ce4c104bd0d66a1553eb66aca9fb2201553e1ca", func := "loop.example/feedbridge/laws.FnExactElementText", spec := "fnExactElementText", apart := false, narrowed := true }
def FnExactElementTextUptoSaid : Prop := fnExactElementTextUptoRow.holds Try.pinned (OpenSpec.upto fnExactElementTextSpec)

/-- 'laws.FnElementText', WHERE WHAT IT READS IS OF BULK AT MOST 1048576: true; the input reads as it did. -/
def fnElementTextUptoRow : OpenClaim := { program := "ytjkdjemefkignaa", sum := "63632b290381fca9f9b83f177ce4c104bd0d66a1553eb66aca9fb2201553e1ca", func := "loop.example/feedbridge/laws.FnElementText", spec := "fnElementText", apart := false, narrowed := true }
def FnElementTextUptoSaid : Prop := fnElementTextUptoRow.holds Try.pinned (OpenSpec.upto fnElementTextSpec)

end Rows
end Go.Proofs.Ytjkdjemefkignaa
