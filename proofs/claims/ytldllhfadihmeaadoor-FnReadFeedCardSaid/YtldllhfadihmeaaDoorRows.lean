/-
  NARROWER THAN 'FOR EVERY INPUT', by the rows' own cells (each row's printed sentence says how): FnExactReadFeed: laid · FnReadFeed: laid · FnExactItemText: laid · FnExactFeedLines: laid · FnItemText: laid · FnExactReadItem: laid · FnFeedLines: laid · FnReadItem: laid.
  DERIVED. THE GIVEN ROWS OF THIS SEAT. 8 by the template 'for every input the law returns true; each argument reads behind the call as it read before'; 0 by the template 'total and deterministic' (their statements: YtldllhfadihmeaaDoorTotals.lean).
  GIVEN WITH THE SEED: the statements are not yours to turn. If you find one false, say at which input.
  Laid BY PROGRAM, IN A SANDBOX (cutbox-rows.mjs): the forced cells as the released guide's own fill.sh prints them over the translation 7a3aa3c0627f55f8… (all of the seat's roots in one cut). By AI agents, Wed Nov 11 2026. No macro, syntax, notation, axiom, sorry.
-/
import Derived.Test.YtldllhfadihmeaaDoorChecked
import GoSem.Claim
import GoSem.ClaimJoined
import GoSem.ClaimMapViews
import Derived.JoinedTies
import Derived.KernelRfl
namespace Go.Proofs.YtldllhfadihmeaaDoor
/- THE CELL 'sum', in the pinned program and in every row, IS THE sha256 OF THE DUMP (.gsa) THAT YtldllhfadihmeaaDoorProg.lean LOADS. Nothing in Lean hashes anything: it is a label: what it is worth is what the hold of that sum in a sandbox is worth. -/
noncomputable def Tryd.pinned : Pinned := { name := "ytldllhfadihmeaadoor", sum := "7a3aa3c0627f55f8252a1a126d3d4ec1f68d52644319d4b33c48958e1f1238a3", checked := Tryd.checked }
namespace Rows
def none {H : Type} : Left H := { results := [], args := [] }

/- WHAT THE LISTED PACKAGE-LEVEL VARIABLES READ AS WHEN THE CALL BEGINS. Each datum BY PROGRAM (the guide's laid-datum.mjs) off the statement by which the dump's own 'gosem.cut.vars' lays the variable. In a bare row this is a premise. The card (YtldllhfadihmeaaDoorCards.lean) ties it to the program's text. -/
def laid_loop_example_feedbridge_impl_escapes {H : Type} : DataW H := .agg [.agg [.lit (.int .u8 38), .lit (.string [38, 97, 109, 112, 59])], .agg [.lit (.int .u8 60), .lit (.string [38, 108, 116, 59])], .agg [.lit (.int .u8 62), .lit (.string [38, 103, 116, 59])], .agg [.lit (.int .u8 34), .lit (.string [38, 113, 117, 111, 116, 59])]]

/-- 'laws.FnExactReadFeed': WHATEVER THE INPUT: true; the input reads as it did. -/
def fnExactReadFeedSpec : ChangeSpec := { name := "fnExactReadFeed", vars := ["loop.example/feedbridge/impl.escapes"], fn := fun _ => fun
  | [d, g1] => { results := [.lit (.bool true)], args := [d], vars := [g1] }
  | _ => none }
def fnExactReadFeedRow : OpenClaim := { program := "ytldllhfadihmeaadoor", sum := "7a3aa3c0627f55f8252a1a126d3d4ec1f68d52644319d4b33c48958e1f1238a3", func := "loop.example/feedbridge/laws.FnExactReadFeed", spec := "fnExactReadFeed", inPlace := ["internal/bytealg.IndexByteString"], named := ["loop.example/feedbridge/impl.escapes"], apart := false, laid := [("loop.example/feedbridge/impl.escapes", laid_loop_example_feedbridge_impl_escapes)] }
def FnExactReadFeedSaid : Prop := fnExactReadFeedRow.holds Tryd.pinned (OpenSpec.ofChange fnExactReadFeedSpec)

/-- ITS FALSE NEIGHBOUR: 'it returns false'. Refute it at one input. -/
def fnExactReadFeedWrong : ChangeSpec := { name := "fnExactReadFeed", vars := ["loop.example/feedbridge/impl.escapes"], fn := fun _ => fun
  | [d, g1] => { results := [.lit (.bool false)], args := [d], vars := [g1] }
  | _ => none }
def FnExactReadFeedWrongFalsely : Prop := fnExactReadFeedRow.holds Tryd.pinned (OpenSpec.ofChange fnExactReadFeedWrong)

/-- 'laws.FnReadFeed': WHATEVER THE INPUT: true; the input reads as it did. -/
def fnReadFeedSpec : ChangeSpec := { name := "fnReadFeed", vars := ["loop.example/feedbridge/impl.escapes"], fn := fun _ => fun
  | [d, g1] => { results := [.lit (.bool true)], args := [d], vars := [g1] }
  | _ => none }
def fnReadFeedRow : OpenClaim := { program := "ytldllhfadihmeaadoor", sum := "7a3aa3c0627f55f8252a1a126d3d4ec1f68d52644319d4b33c48958e1f1238a3", func := "loop.example/feedbridge/laws.FnReadFeed", spec := "fnReadFeed", inPlace := ["internal/bytealg.IndexByteString"], named := ["loop.example/feedbridge/impl.escapes"], apart := false, laid := [("loop.example/feedbridge/impl.escapes", laid_loop_example_feedbridge_impl_escapes)] }
def FnReadFeedSaid : Prop := fnReadFeedRow.holds Tryd.pinned (OpenSpec.ofChange fnReadFeedSpec)

/-- ITS FALSE NEIGHBOUR: 'it returns false'. Refute it at one input. -/
def fnReadFeedWrong : ChangeSpec := { name := "fnReadFeed", vars := ["loop.example/feedbridge/impl.escapes"], fn := fun _ => fun
  | [d, g1] => { results := [.lit (.bool false)], args := [d], vars := [g1] }
  | _ => none }
def FnReadFeedWrongFalsely : Prop := fnReadFeedRow.holds Tryd.pinned (OpenSpec.ofChange fnReadFeedWrong)

/-- 'laws.FnExactItemText': WHATEVER THE INPUT: true; the input reads as it did. -/
def fnExactItemTextSpec : ChangeSpec := { name := "fnExactItemText", vars := ["loop.example/feedbridge/impl.escapes"], fn := fun _ => fun
  | [d, g1] => { results := [.lit (.bool true)], args := [d], vars := [g1] }
  | _ => none }
def fnExactItemTextRow : OpenClaim := { program := "ytldllhfadihmeaadoor", sum := "7a3aa3c0627f55f8252a1a126d3d4ec1f68d52644319d4b33c48958e1f1238a3", func := "loop.example/feedbridge/laws.FnExactItemText", spec := "fnExactItemText", named := ["loop.example/feedbridge/impl.escapes"], apart := false, laid := [("loop.example/feedbridge/impl.escapes", laid_loop_example_feedbridge_impl_escapes)] }
def FnExactItemTextSaid : Prop := fnExactItemTextRow.holds Tryd.pinned (OpenSpec.ofChange fnExactItemTextSpec)

/-- ITS FALSE NEIGHBOUR: 'it returns false'. Refute it at one input. -/
def fnExactItemTextWrong : ChangeSpec := { name := "fnExactItemText", vars := ["loop.example/feedbridge/impl.escapes"], fn := fun _ => fun
  | [d, g1] => { results := [.lit (.bool false)], args := [d], vars := [g1] }
  | _ => none }
def FnExactItemTextWrongFalsely : Prop := fnExactItemTextRow.holds Tryd.pinned (OpenSpec.ofChange fnExactItemTextWrong)

/-- 'laws.FnExactFeedLines': WHATEVER THE INPUT: true; the input reads as it did. -/
def fnExactFeedLinesSpec : ChangeSpec := { name := "fnExactFeedLines", vars := ["loop.example/feedbridge/impl.escapes"], fn := fun _ => fun
  | [d, g1] => { results := [.lit (.bool true)], args := [d], vars := [g1] }
  | _ => none }
def fnExactFeedLinesRow : OpenClaim := { program := "ytldllhfadihmeaadoor", sum := "7a3aa3c0627f55f8252a1a126d3d4ec1f68d52644319d4b33c48958e1f1238a3", func := "loop.example/feedbridge/laws.FnExactFeedLines", spec := "fnExactFeedLines", named := ["loop.example/feedbridge/impl.escapes"], apart := false, laid := [("loop.example/feedbridge/impl.escapes", laid_loop_example_feedbridge_impl_escapes)] }
def FnExactFeedLinesSaid : Prop := fnExactFeedLinesRow.holds Tryd.pinned (OpenSpec.ofChange fnExactFeedLinesSpec)

/-- ITS FALSE NEIGHBOUR: 'it returns false'. Refute it at one input. -/
def fnExactFeedLinesWrong : ChangeSpec := { name := "fnExactFeedLines", vars := ["loop.example/feedbridge/impl.escapes"], fn := fun _ => fun
  | [d, g1] => { results := [.lit (.bool false)], args := [d], vars := [g1] }
  | _ => none }
def FnExactFeedLinesWrongFalsely : Prop := fnExactFeedLinesRow.holds Tryd.pinned (OpenSpec.ofChange fnExactFeedLinesWrong)

/-- 'laws.FnItemText': WHATEVER THE INPUT: true; the input reads as it did. -/
def fnItemTextSpec : ChangeSpec := { name := "fnItemText", vars := ["loop.example/feedbridge/impl.escapes"], fn := fun _ => fun
  | [d, g1] => { results := [.lit (.bool true)], args := [d], vars := [g1] }
  | _ => none }
def fnItemTextRow : OpenClaim := { program := "ytldllhfadihmeaadoor", sum := "7a3aa3c0627f55f8252a1a126d3d4ec1f68d52644319d4b33c48958e1f1238a3", func := "loop.example/feedbridge/laws.FnItemText", spec := "fnItemText", inPlace := ["internal/bytealg.IndexByteString"], named := ["loop.example/feedbridge/impl.escapes"], apart := false, laid := [("loop.example/feedbridge/impl.escapes", laid_loop_example_feedbridge_impl_escapes)] }
def FnItemTextSaid : Prop := fnItemTextRow.holds Tryd.pinned (OpenSpec.ofChange fnItemTextSpec)

/-- ITS FALSE NEIGHBOUR: 'it returns false'. Refute it at one input. -/
def fnItemTextWrong : ChangeSpec := { name := "fnItemText", vars := ["loop.example/feedbridge/impl.escapes"], fn := fun _ => fun
  | [d, g1] => { results := [.lit (.bool false)], args := [d], vars := [g1] }
  | _ => none }
def FnItemTextWrongFalsely : Prop := fnItemTextRow.holds Tryd.pinned (OpenSpec.ofChange fnItemTextWrong)

/-- 'laws.FnExactReadItem': WHATEVER THE INPUT: true; the input reads as it did. -/
def fnExactReadItemSpec : ChangeSpec := { name := "fnExactReadItem", vars := ["loop.example/feedbridge/impl.escapes"], fn := fun _ => fun
  | [d, g1] => { results := [.lit (.bool true)], args := [d], vars := [g1] }
  | _ => none }
def fnExactReadItemRow : OpenClaim := { program := "ytldllhfadihmeaadoor", sum := "7a3aa3c0627f55f8252a1a126d3d4ec1f68d52644319d4b33c48958e1f1238a3", func := "loop.example/feedbridge/laws.FnExactReadItem", spec := "fnExactReadItem", inPlace := ["internal/bytealg.IndexByteString"], named := ["loop.example/feedbridge/impl.escapes"], apart := false, laid := [("loop.example/feedbridge/impl.escapes", laid_loop_example_feedbridge_impl_escapes)] }
def FnExactReadItemSaid : Prop := fnExactReadItemRow.holds Tryd.pinned (OpenSpec.ofChange fnExactReadItemSpec)

/-- ITS FALSE NEIGHBOUR: 'it returns false'. Refute it at one input. -/
def fnExactReadItemWrong : ChangeSpec := { name := "fnExactReadItem", vars := ["loop.example/feedbridge/impl.escapes"], fn := fun _ => fun
  | [d, g1] => { results := [.lit (.bool false)], args := [d], vars := [g1] }
  | _ => none }
def FnExactReadItemWrongFalsely : Prop := fnExactReadItemRow.holds Tryd.pinned (OpenSpec.ofChange fnExactReadItemWrong)

/-- 'laws.FnFeedLines': WHATEVER THE INPUT: true; the input reads as it did. -/
def fnFeedLinesSpec : ChangeSpec := { name := "fnFeedLines", vars := ["loop.example/feedbridge/impl.escapes"], fn := fun _ => fun
  | [d, g1] => { results := [.lit (.bool true)], args := [d], vars := [g1] }
  | _ => none }
def fnFeedLinesRow : OpenClaim := { program := "ytldllhfadihmeaadoor", sum := "7a3aa3c0627f55f8252a1a126d3d4ec1f68d52644319d4b33c48958e1f1238a3", func := "loop.example/feedbridge/laws.FnFeedLines", spec := "fnFeedLines", inPlace := ["internal/bytealg.IndexByteString"], named := ["loop.example/feedbridge/impl.escapes"], apart := false, laid := [("loop.example/feedbridge/impl.escapes", laid_loop_example_feedbridge_impl_escapes)] }
def FnFeedLinesSaid : Prop := fnFeedLinesRow.holds Tryd.pinned (OpenSpec.ofChange fnFeedLinesSpec)

/-- ITS FALSE NEIGHBOUR: 'it returns false'. Refute it at one input. -/
def fnFeedLinesWrong : ChangeSpec := { name := "fnFeedLines", vars := ["loop.example/feedbridge/impl.escapes"], fn := fun _ => fun
  | [d, g1] => { results := [.lit (.bool false)], args := [d], vars := [g1] }
  | _ => none }
def FnFeedLinesWrongFalsely : Prop := fnFeedLinesRow.holds Tryd.pinned (OpenSpec.ofChange fnFeedLinesWrong)

/-- 'laws.FnReadItem': WHATEVER THE INPUT: true; the input reads as it did. -/
def fnReadItemSpec : ChangeSpec := { name := "fnReadItem", vars := ["loop.example/feedbridge/impl.escapes"], fn := fun _ => fun
  | [d, g1] => { results := [.lit (.bool true)], args := [d], vars := [g1] }
  | _ => none }
def fnReadItemRow : OpenClaim := { program := "ytldllhfadihmeaadoor", sum := "7a3aa3c0627f55f8252a1a126d3d4ec1f68d52644319d4b33c48958e1f1238a3", func := "loop.example/feedbridge/laws.FnReadItem", spec := "fnReadItem", inPlace := ["internal/bytealg.IndexByteString"], named := ["loop.example/feedbridge/impl.escapes"], apart := false, laid := [("loop.example/feedbridge/impl.escapes", laid_loop_example_feedbridge_impl_escapes)] }
def FnReadItemSaid : Prop := fnReadItemRow.holds Tryd.pinned (OpenSpec.ofChange fnReadItemSpec)

/-- ITS FALSE NEIGHBOUR: 'it returns false'. Refute it at one input. -/
def fnReadItemWrong : ChangeSpec := { name := "fnReadItem", vars := ["loop.example/feedbridge/impl.escapes"], fn := fun _ => fun
  | [d, g1] => { results := [.lit (.bool false)], args := [d], vars := [g1] }
  | _ => none }
def FnReadItemWrongFalsely : Prop := fnReadItemRow.holds Tryd.pinned (OpenSpec.ofChange fnReadItemWrong)

/- THE SECOND FORM. 'bulk': how many values and letters a reading holds, each counted each time it is reached (what is shared counts as often as it is met; a slice's spare places count too). A statement '..UptoSaid' is the law's where the arguments, and the package variables that the reading takes, are together of bulk at most 1048576: NARROWER than '..Said'. Prove '..Said' where nothing that the law and all that it calls make is longer than what came in: it says more and counts as full. Else prove '..UptoSaid'. A law counts once. -/
mutual
def uptoBulk {H : Type} : DataW H → Nat
  | .lit (.string bytes) => bytes.length + 1
  | .lit _ => 1
  | .nil => 1
  | .ptr d => uptoBulk d + 1
  | .slice elems spare => uptoBulkAll elems + uptoBulkAll spare + 1
  | .agg parts => uptoBulkAll parts + 1
  | .iface _ d => uptoBulk d + 1
  | .map entries => uptoBulkEntries entries + 1
  | .held _ => 1
def uptoBulkAll {H : Type} : List (DataW H) → Nat
  | [] => 0
  | d :: r => uptoBulk d + uptoBulkAll r
def uptoBulkEntries {H : Type} : List (Lit × DataW H) → Nat
  | [] => 0
  | x :: r => uptoBulkEntry x + uptoBulkEntries r
def uptoBulkEntry {H : Type} : Lit × DataW H → Nat
  | (.string bytes, d) => bytes.length + uptoBulk d + 1
  | (_, d) => uptoBulk d + 1
 end
def uptoSmall : (H : Type) → List (DataW H) → Bool := fun _ ds => decide (uptoBulkAll ds ≤ 1048576)
def OpenSpec.upto (s : _root_.Go.ChangeSpec) : _root_.Go.OpenSpec := { _root_.Go.OpenSpec.ofChange s with cond := some uptoSmall }

/-- 'laws.FnExactReadFeed', WHERE WHAT IT READS IS OF BULK AT MOST 1048576: true; the input reads as it did. -/
def fnExactReadFeedUptoRow : OpenClaim := { program := "ytldllhfadihmeaadoor", sum := "7a3aa3c0627f55f8252a1a126d3d4ec1f68d52644319d4b33c48958e1f1238a3", func := "loop.example/feedbridge/laws.FnExactReadFeed", spec := "fnExactReadFeed", inPlace := ["internal/bytealg.IndexByteString"], named := ["loop.example/feedbridge/impl.escapes"], apart := false, laid := [("loop.example/feedbridge/impl.escapes", laid_loop_example_feedbridge_impl_escapes)], narrowed := true }
def FnExactReadFeedUptoSaid : Prop := fnExactReadFeedUptoRow.holds Tryd.pinned (OpenSpec.upto fnExactReadFeedSpec)

/-- 'laws.FnReadFeed', WHERE WHAT IT READS IS OF BULK AT MOST 1048576: true; the input reads as it did. -/
def fnReadFeedUptoRow : OpenClaim := { program := "ytldllhfadihmeaadoor", sum := "7a3aa3c0627f55f8252a1a126d3d4ec1f68d52644319d4b33c48958e1f1238a3", func := "loop.example/feedbridge/laws.FnReadFeed", spec := "fnReadFeed", inPlace := ["internal/bytealg.IndexByteString"], named := ["loop.example/feedbridge/impl.escapes"], apart := false, laid := [("loop.example/feedbridge/impl.escapes", laid_loop_example_feedbridge_impl_escapes)], narrowed := true }
def FnReadFeedUptoSaid : Prop := fnReadFeedUptoRow.holds Tryd.pinned (OpenSpec.upto fnReadFeedSpec)

/-- 'laws.FnExactItemText', WHERE WHAT IT READS IS OF BULK AT MOST 1048576: true; the input reads as it did. -/
def fnExactItemTextUptoRow : OpenClaim := { program := "ytldllhfadihmeaadoor", sum := "7a3aa3c0627f55f8252a1a126d3d4ec1f68d52644319d4b33c48958e1f1238a3", func := "loop.example/feedbridge/laws.FnExactItemText", spec := "fnExactItemText", named := ["loop.example/feedbridge/impl.escapes"], apart := false, laid := [("loop.example/feedbridge/impl.escapes", laid_loop_example_feedbridge_impl_escapes)], narrowed := true }
def FnExactItemTextUptoSaid : Prop := fnExactItemTextUptoRow.holds Tryd.pinned (OpenSpec.upto fnExactItemTextSpec)

/-- 'laws.FnExactFeedLines', WHERE WHAT IT READS IS OF BULK AT MOST 1048576: true; the input reads as it did. -/
def fnExactFeedLinesUptoRow : OpenClaim := { program := "ytldllhfadihmeaadoor", sum := "7a3aa3c0627f55f8252a1a126d3d4ec1f68d52644319d4b33c48958e1f1238a3", func := "loop.example/feedbridge/laws.FnExactFeedLines", spec := "fnExactFeedLines", named := ["loop.example/feedbridge/impl.escapes"], apart := false, laid := [("loop.example/feedbridge/impl.escapes", laid_loop_example_feedbridge_impl_escapes)], narrowed := true }
def FnExactFeedLinesUptoSaid : Prop := fnExactFeedLinesUptoRow.holds Tryd.pinned (OpenSpec.upto fnExactFeedLinesSpec)

/-- 'laws.FnItemText', WHERE WHAT IT READS IS OF BULK AT MOST 1048576: true; the input reads as it did. -/
def fnItemTextUptoRow : OpenClaim := { program := "ytldllhfadihmeaadoor", sum := "7a3aa3c0627f55f8252a1a126d3d4ec1f68d52644319d4b33c48958e1f1238a3", func := "loop.example/feedbridge/laws.FnItemText", spec := "fnItemText", inPlace := ["internal/bytealg.IndexByteString"], named := ["loop.example/feedbridge/impl.escapes"], apart := false, laid := [("loop.example/feedbridge/impl.escapes", laid_loop_example_feedbridge_impl_escapes)], narrowed := true }
def FnItemTextUptoSaid : Prop := fnItemTextUptoRow.holds Tryd.pinned (OpenSpec.upto fnItemTextSpec)

/-- 'laws.FnExactReadItem', WHERE WHAT IT READS IS OF BULK AT MOST 1048576: true; the input reads as it did. -/
def fnExactReadItemUptoRow : OpenClaim := { program := "ytldllhfadihmeaadoor", sum := "7a3aa3c0627f55f8252a1a126d3d4ec1f68d52644319d4b33c48958e1f1238a3", func := "loop.example/feedbridge/laws.FnExactReadItem", spec := "fnExactReadItem", inPlace := ["internal/bytealg.IndexByteString"], named := ["loop.example/feedbridge/impl.escapes"], apart := false, laid := [("loop.example/feedbridge/impl.escapes", laid_loop_example_feedbridge_impl_escapes)], narrowed := true }
def FnExactReadItemUptoSaid : Prop := fnExactReadItemUptoRow.holds Tryd.pinned (OpenSpec.upto fnExactReadItemSpec)

/-- 'laws.FnFeedLines', WHERE WHAT IT READS IS OF BULK AT MOST 1048576: true; the input reads as it did. -/
def fnFeedLinesUptoRow : OpenClaim := { program := "ytldllhfadihmeaadoor", sum := "7a3aa3c0627f55f8252a1a126d3d4ec1f68d52644319d4b33c48958e1f1238a3", func := "loop.example/feedbridge/laws.FnFeedLines", spec := "fnFeedLines", inPlace := ["internal/bytealg.IndexByteString"], named := ["loop.example/feedbridge/impl.escapes"], apart := false, laid := [("loop.example/feedbridge/impl.escapes", laid_loop_example_feedbridge_impl_escapes)], narrowed := true }
def FnFeedLinesUptoSaid : Prop := fnFeedLinesUptoRow.holds Tryd.pinned (OpenSpec.upto fnFeedLinesSpec)

/-- 'laws.FnReadItem', WHERE WHAT IT READS IS OF BULK AT MOST 1048576: true; the input reads as it did. -/
def fnReadItemUptoRow : OpenClaim := { program := "ytldllhfadihmeaadoor", sum := "7a3aa3c0627f55f8252a1a126d3d4ec1f68d52644319d4b33c48958e1f1238a3", func := "loop.example/feedbridge/laws.FnReadItem", spec := "fnReadItem", inPlace := ["internal/bytealg.IndexByteString"], named := ["loop.example/feedbridge/impl.escapes"], apart := false, laid := [("loop.example/feedbridge/impl.escapes", laid_loop_example_feedbridge_impl_escapes)], narrowed := true }
def FnReadItemUptoSaid : Prop := fnReadItemUptoRow.holds Tryd.pinned (OpenSpec.upto fnReadItemSpec)

end Rows
end Go.Proofs.YtldllhfadihmeaaDoor
