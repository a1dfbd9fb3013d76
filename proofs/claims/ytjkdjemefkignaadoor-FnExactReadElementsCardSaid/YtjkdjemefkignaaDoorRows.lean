/-
  NARROWER THAN 'FOR EVERY INPUT', by the rows' own cells (each row's printed sentence says how): FnExactEscapeText: laid · FnExactUnescapeText: laid · FnEscapeText: laid · FnUnescapeText: laid · FnExactElementsText: laid · FnExactReadElements: laid · FnElementsText: laid · FnReadElements: laid.
  DERIVED. THE GIVEN ROWS OF THIS SEAT. 8 by the template 'for every input the law returns true; each argument reads behind the call as it read before'; 0 by the template 'total and deterministic' (their statements: YtjkdjemefkignaaDoorTotals.lean).
  GIVEN WITH THE SEED: the statements are not yours to turn. If you find one false, say at which input.
  Laid BY PROGRAM, IN A SANDBOX (cutbox-rows.mjs): the forced cells as the released guide's own fill.sh prints them over the translation 43dc2dc7e4be857d… (all of the seat's roots in one cut). By AI agents, Wed Nov 11 2026. No macro, syntax, notation, axiom, sorry.
-/
import Derived.Test.YtjkdjemefkignaaDoorChecked
import GoSem.Claim
import GoSem.ClaimJoined
import GoSem.ClaimMapViews
import Derived.JoinedTies
import Derived.KernelRfl
namespace Go.Proofs.YtjkdjemefkignaaDoor
/- THE CELL 'sum', in the pinned program and in every row, IS THE sha256 OF THE DUMP (.gsa) THAT YtjkdjemefkignaaDoorProg.lean LOADS. Nothing in Lean hashes anything: it is a label: what it is worth is what the hold of that sum in a sandbox is worth. -/
noncomputable def Tryd.pinned : Pinned := { name := "ytjkdjemefkignaadoor", sum := "43dc2dc7e4be857d13a5c9e16eaafd10d9eafe005506709007441f1da737532a", checked := Tryd.checked }
namespace Rows
def none {H : Type} : Left H := { results := [], args := [] }

/- WHAT THE LISTED PACKAGE-LEVEL VARIABLES READ AS WHEN THE CALL BEGINS. Each datum BY PROGRAM (the guide's laid-datum.mjs) off the statement by which the dump's own 'gosem.cut.vars' lays the variable. In a bare row this is a premise. The card (YtjkdjemefkignaaDoorCards.lean) ties it to the program's text. -/
def laid_loop_example_feedbridge_impl_escapes {H : Type} : DataW H := .agg [.agg [.lit (.int .u8 38), .lit (.string [38, 97, 109, 112, 59])], .agg [.lit (.int .u8 60), .lit (.string [38, 108, 116, 59])], .agg [.lit (.int .u8 62), .lit (.string [38, 103, 116, 59])], .agg [.lit (.int .u8 34), .lit (.string [38, 113, 117, 111, 116, 59])]]

/-- 'laws.FnExactEscapeText': WHATEVER THE INPUT: true; the input reads as it did. -/
def fnExactEscapeTextSpec : ChangeSpec := { name := "fnExactEscapeText", vars := ["loop.example/feedbridge/impl.escapes"], fn := fun _ => fun
  | [d, g1] => { results := [.lit (.bool true)], args := [d], vars := [g1] }
  | _ => none }
def fnExactEscapeTextRow : OpenClaim := { program := "ytjkdjemefkignaadoor", sum := "43dc2dc7e4be857d13a5c9e16eaafd10d9eafe005506709007441f1da737532a", func := "loop.example/feedbridge/laws.FnExactEscapeText", spec := "fnExactEscapeText", named := ["loop.example/feedbridge/impl.escapes"], apart := false, laid := [("loop.example/feedbridge/impl.escapes", laid_loop_example_feedbridge_impl_escapes)] }
def FnExactEscapeTextSaid : Prop := fnExactEscapeTextRow.holds Tryd.pinned (OpenSpec.ofChange fnExactEscapeTextSpec)

/-- ITS FALSE NEIGHBOUR: 'it returns false'. Refute it at one input. -/
def fnExactEscapeTextWrong : ChangeSpec := { name := "fnExactEscapeText", vars := ["loop.example/feedbridge/impl.escapes"], fn := fun _ => fun
  | [d, g1] => { results := [.lit (.bool false)], args := [d], vars := [g1] }
  | _ => none }
def FnExactEscapeTextWrongFalsely : Prop := fnExactEscapeTextRow.holds Tryd.pinned (OpenSpec.ofChange fnExactEscapeTextWrong)

/-- 'laws.FnExactUnescapeText': WHATEVER THE INPUT: true; the input reads as it did. -/
def fnExactUnescapeTextSpec : ChangeSpec := { name := "fnExactUnescapeText", vars := ["loop.example/feedbridge/impl.escapes"], fn := fun _ => fun
  | [d, g1] => { results := [.lit (.bool true)], args := [d], vars := [g1] }
  | _ => none }
def fnExactUnescapeTextRow : OpenClaim := { program := "ytjkdjemefkignaadoor", sum := "43dc2dc7e4be857d13a5c9e16eaafd10d9eafe005506709007441f1da737532a", func := "loop.example/feedbridge/laws.FnExactUnescapeText", spec := "fnExactUnescapeText", named := ["loop.example/feedbridge/impl.escapes"], apart := false, laid := [("loop.example/feedbridge/impl.escapes", laid_loop_example_feedbridge_impl_escapes)] }
def FnExactUnescapeTextSaid : Prop := fnExactUnescapeTextRow.holds Tryd.pinned (OpenSpec.ofChange fnExactUnescapeTextSpec)

/-- ITS FALSE NEIGHBOUR: 'it returns false'. Refute it at one input. -/
def fnExactUnescapeTextWrong : ChangeSpec := { name := "fnExactUnescapeText", vars := ["loop.example/feedbridge/impl.escapes"], fn := fun _ => fun
  | [d, g1] => { results := [.lit (.bool false)], args := [d], vars := [g1] }
  | _ => none }
def FnExactUnescapeTextWrongFalsely : Prop := fnExactUnescapeTextRow.holds Tryd.pinned (OpenSpec.ofChange fnExactUnescapeTextWrong)

/-- 'laws.FnEscapeText': WHATEVER THE INPUT: true; the input reads as it did. -/
def fnEscapeTextSpec : ChangeSpec := { name := "fnEscapeText", vars := ["loop.example/feedbridge/impl.escapes"], fn := fun _ => fun
  | [d, g1] => { results := [.lit (.bool true)], args := [d], vars := [g1] }
  | _ => none }
def fnEscapeTextRow : OpenClaim := { program := "ytjkdjemefkignaadoor", sum := "43dc2dc7e4be857d13a5c9e16eaafd10d9eafe005506709007441f1da737532a", func := "loop.example/feedbridge/laws.FnEscapeText", spec := "fnEscapeText", named := ["loop.example/feedbridge/impl.escapes"], apart := false, laid := [("loop.example/feedbridge/impl.escapes", laid_loop_example_feedbridge_impl_escapes)] }
def FnEscapeTextSaid : Prop := fnEscapeTextRow.holds Tryd.pinned (OpenSpec.ofChange fnEscapeTextSpec)

/-- ITS FALSE NEIGHBOUR: 'it returns false'. Refute it at one input. -/
def fnEscapeTextWrong : ChangeSpec := { name := "fnEscapeText", vars := ["loop.example/feedbridge/impl.escapes"], fn := fun _ => fun
  | [d, g1] => { results := [.lit (.bool false)], args := [d], vars := [g1] }
  | _ => none }
def FnEscapeTextWrongFalsely : Prop := fnEscapeTextRow.holds Tryd.pinned (OpenSpec.ofChange fnEscapeTextWrong)

/-- 'laws.FnUnescapeText': WHATEVER THE INPUT: true; the input reads as it did. -/
def fnUnescapeTextSpec : ChangeSpec := { name := "fnUnescapeText", vars := ["loop.example/feedbridge/impl.escapes"], fn := fun _ => fun
  | [d, g1] => { results := [.lit (.bool true)], args := [d], vars := [g1] }
  | _ => none }
def fnUnescapeTextRow : OpenClaim := { program := "ytjkdjemefkignaadoor", sum := "43dc2dc7e4be857d13a5c9e16eaafd10d9eafe005506709007441f1da737532a", func := "loop.example/feedbridge/laws.FnUnescapeText", spec := "fnUnescapeText", named := ["loop.example/feedbridge/impl.escapes"], apart := false, laid := [("loop.example/feedbridge/impl.escapes", laid_loop_example_feedbridge_impl_escapes)] }
def FnUnescapeTextSaid : Prop := fnUnescapeTextRow.holds Tryd.pinned (OpenSpec.ofChange fnUnescapeTextSpec)

/-- ITS FALSE NEIGHBOUR: 'it returns false'. Refute it at one input. -/
def fnUnescapeTextWrong : ChangeSpec := { name := "fnUnescapeText", vars := ["loop.example/feedbridge/impl.escapes"], fn := fun _ => fun
  | [d, g1] => { results := [.lit (.bool false)], args := [d], vars := [g1] }
  | _ => none }
def FnUnescapeTextWrongFalsely : Prop := fnUnescapeTextRow.holds Tryd.pinned (OpenSpec.ofChange fnUnescapeTextWrong)

/-- 'laws.FnExactElementsText': WHATEVER THE INPUT: true; the input reads as it did. -/
def fnExactElementsTextSpec : ChangeSpec := { name := "fnExactElementsText", vars := ["loop.example/feedbridge/impl.escapes"], fn := fun _ => fun
  | [d, g1] => { results := [.lit (.bool true)], args := [d], vars := [g1] }
  | _ => none }
def fnExactElementsTextRow : OpenClaim := { program := "ytjkdjemefkignaadoor", sum := "43dc2dc7e4be857d13a5c9e16eaafd10d9eafe005506709007441f1da737532a", func := "loop.example/feedbridge/laws.FnExactElementsText", spec := "fnExactElementsText", named := ["loop.example/feedbridge/impl.escapes"], apart := false, laid := [("loop.example/feedbridge/impl.escapes", laid_loop_example_feedbridge_impl_escapes)] }
def FnExactElementsTextSaid : Prop := fnExactElementsTextRow.holds Tryd.pinned (OpenSpec.ofChange fnExactElementsTextSpec)

/-- ITS FALSE NEIGHBOUR: 'it returns false'. Refute it at one input. -/
def fnExactElementsTextWrong : ChangeSpec := { name := "fnExactElementsText", vars := ["loop.example/feedbridge/impl.escapes"], fn := fun _ => fun
  | [d, g1] => { results := [.lit (.bool false)], args := [d], vars := [g1] }
  | _ => none }
def FnExactElementsTextWrongFalsely : Prop := fnExactElementsTextRow.holds Tryd.pinned (OpenSpec.ofChange fnExactElementsTextWrong)

/-- 'laws.FnExactReadElements': WHATEVER THE INPUT: true; the input reads as it did. -/
def fnExactReadElementsSpec : ChangeSpec := { name := "fnExactReadElements", vars := ["loop.example/feedbridge/impl.escapes"], fn := fun _ => fun
  | [d, g1] => { results := [.lit (.bool true)], args := [d], vars := [g1] }
  | _ => none }
def fnExactReadElementsRow : OpenClaim := { program := "ytjkdjemefkignaadoor", sum := "43dc2dc7e4be857d13a5c9e16eaafd10d9eafe005506709007441f1da737532a", func := "loop.example/feedbridge/laws.FnExactReadElements", spec := "fnExactReadElements", inPlace := ["internal/bytealg.IndexByteString"], named := ["loop.example/feedbridge/impl.escapes"], apart := false, laid := [("loop.example/feedbridge/impl.escapes", laid_loop_example_feedbridge_impl_escapes)] }
def FnExactReadElementsSaid : Prop := fnExactReadElementsRow.holds Tryd.pinned (OpenSpec.ofChange fnExactReadElementsSpec)

/-- ITS FALSE NEIGHBOUR: 'it returns false'. Refute it at one input. -/
def fnExactReadElementsWrong : ChangeSpec := { name := "fnExactReadElements", vars := ["loop.example/feedbridge/impl.escapes"], fn := fun _ => fun
  | [d, g1] => { results := [.lit (.bool false)], args := [d], vars := [g1] }
  | _ => none }
def FnExactReadElementsWrongFalsely : Prop := fnExactReadElementsRow.holds Tryd.pinned (OpenSpec.ofChange fnExactReadElementsWrong)

/-- 'laws.FnElementsText': WHATEVER THE INPUT: true; the input reads as it did. -/
def fnElementsTextSpec : ChangeSpec := { name := "fnElementsText", vars := ["loop.example/feedbridge/impl.escapes"], fn := fun _ => fun
  | [d, g1] => { results := [.lit (.bool true)], args := [d], vars := [g1] }
  | _ => none }
def fnElementsTextRow : OpenClaim := { program := "ytjkdjemefkignaadoor", sum := "43dc2dc7e4be857d13a5c9e16eaafd10d9eafe005506709007441f1da737532a", func := "loop.example/feedbridge/laws.FnElementsText", spec := "fnElementsText", inPlace := ["internal/bytealg.IndexByteString"], named := ["loop.example/feedbridge/impl.escapes"], apart := false, laid := [("loop.example/feedbridge/impl.escapes", laid_loop_example_feedbridge_impl_escapes)] }
def FnElementsTextSaid : Prop := fnElementsTextRow.holds Tryd.pinned (OpenSpec.ofChange fnElementsTextSpec)

/-- ITS FALSE NEIGHBOUR: 'it returns false'. Refute it at one input. -/
def fnElementsTextWrong : ChangeSpec := { name := "fnElementsText", vars := ["loop.example/feedbridge/impl.escapes"], fn := fun _ => fun
  | [d, g1] => { results := [.lit (.bool false)], args := [d], vars := [g1] }
  | _ => none }
def FnElementsTextWrongFalsely : Prop := fnElementsTextRow.holds Tryd.pinned (OpenSpec.ofChange fnElementsTextWrong)

/-- 'laws.FnReadElements': WHATEVER THE INPUT: true; the input reads as it did. -/
def fnReadElementsSpec : ChangeSpec := { name := "fnReadElements", vars := ["loop.example/feedbridge/impl.escapes"], fn := fun _ => fun
  | [d, g1] => { results := [.lit (.bool true)], args := [d], vars := [g1] }
  | _ => none }
def fnReadElementsRow : OpenClaim := { program := "ytjkdjemefkignaadoor", sum := "43dc2dc7e4be857d13a5c9e16eaafd10d9eafe005506709007441f1da737532a", func := "loop.example/feedbridge/laws.FnReadElements", spec := "fnReadElements", inPlace := ["internal/bytealg.IndexByteString"], named := ["loop.example/feedbridge/impl.escapes"], apart := false, laid := [("loop.example/feedbridge/impl.escapes", laid_loop_example_feedbridge_impl_escapes)] }
def FnReadElementsSaid : Prop := fnReadElementsRow.holds Tryd.pinned (OpenSpec.ofChange fnReadElementsSpec)

/-- ITS FALSE NEIGHBOUR: 'it returns false'. Refute it at one input. -/
def fnReadElementsWrong : ChangeSpec := { name := "fnReadElements", vars := ["loop.example/feedbridge/impl.escapes"], fn := fun _ => fun
  | [d, g1] => { results := [.lit (.bool false)], args := [d], vars := [g1] }
  | _ => none }
def FnReadElementsWrongFalsely : Prop := fnReadElementsRow.holds Tryd.pinned (OpenSpec.ofChange fnReadElementsWrong)

/- THE SECOND FORM. 'bulk': how many values and letters a reading holds, each counted each time it is reached (what is shared counts as often as it is met; a slice's spare places count too). A statement '..UptoSaid' is the law's where the arguments, and the package variables that the reading takes, are together of bulk at most 1048576: NARROWER than '..Said'. Prove '..Said' where nothing that the law and all that it calls make is longer than what came in: it says more and counts as full. Else prove '..UptoSaid'. A law counts once. -/
mutual
def uptoBulk {H : Type} : DataW H → Nat
  | .lit (.string bytes) => bytes.length + 1
  | .lit _ => 1
  | .nil => 1
  | .ptr d => uptoBulk d + 1
  | .slice elems spare => uptoBulkAll elems + uptoBulkAll spare + 1
  | .agg parts => uptoBulkAll parts + 1
  | .iface _ d => uptoBulk d + 1
  | .map entries => uptoBulkEntries entries + 1
  | .held _ => 1
def uptoBulkAll {H : Type} : List (DataW H) → Nat
  | [] => 0
  | d :: r => uptoBulk d + uptoBulkAll r
def uptoBulkEntries {H : Type} : List (Lit × DataW H) → Nat
  | [] => 0
  | x :: r => uptoBulkEntry x + uptoBulkEntries r
def uptoBulkEntry {H : Type} : Lit × DataW H → Nat
  | (.string bytes, d) => bytes.length + uptoBulk d + 1
  | (_, d) => uptoBulk d + 1
 end
def uptoSmall : (H : Type) → List (DataW H) → Bool := fun _ ds => decide (uptoBulkAll ds ≤ 1048576)
def OpenSpec.upto (s : _root_.Go.ChangeSpec) : _root_.Go.OpenSpec := { _root_.Go.OpenSpec.ofChange s with cond := some uptoSmall }

/-- 'laws.FnExactEscapeText', WHERE WHAT IT READS IS OF BULK AT MOST 1048576: true; the input reads as it did. -/
def fnExactEscapeTextUptoRow : OpenClaim := { program := "ytjkdjemefkignaadoor", sum := "43dc2dc7e4be857d13a5c9e16eaafd10d9eafe005506709007441f1da737532a", func := "loop.example/feedbridge/laws.FnExactEscapeText", spec := "fnExactEscapeText", named := ["loop.example/feedbridge/impl.escapes"], apart := false, laid := [("loop.example/feedbridge/impl.escapes", laid_loop_example_feedbridge_impl_escapes)], narrowed := true }
def FnExactEscapeTextUptoSaid : Prop := fnExactEscapeTextUptoRow.holds Tryd.pinned (OpenSpec.upto fnExactEscapeTextSpec)

/-- 'laws.FnExactUnescapeText', WHERE WHAT IT READS IS OF BULK AT MOST 1048576: true; the input reads as it did. -/
def fnExactUnescapeTextUptoRow : OpenClaim := { program := "ytjkdjemefkignaadoor", sum := "43dc2dc7e4be857d13a5c9e16eaafd10d9eafe005506709007441f1da737532a", func := "loop.example/feedbridge/laws.FnExactUnescapeText", spec := "fnExactUnescapeText", named := ["loop.example/feedbridge/impl.escapes"], apart := false, laid := [("loop.example/feedbridge/impl.escapes", laid_loop_example_feedbridge_impl_escapes)], narrowed := true }
def FnExactUnescapeTextUptoSaid : Prop := fnExactUnescapeTextUptoRow.holds Tryd.pinned (OpenSpec.upto fnExactUnescapeTextSpec)

/-- 'laws.FnEscapeText', WHERE WHAT IT READS IS OF BULK AT MOST 1048576: true; the input reads as it did. -/
def fnEscapeTextUptoRow : OpenClaim := { program := "ytjkdjemefkignaadoor", sum := "43dc2dc7e4be857d13a5c9e16eaafd10d9eafe005506709007441f1da737532a", func := "loop.example/feedbridge/laws.FnEscapeText", spec := "fnEscapeText", named := ["loop.example/feedbridge/impl.escapes"], apart := false, laid := [("loop.example/feedbridge/impl.escapes", laid_loop_example_feedbridge_impl_escapes)], narrowed := true }
def FnEscapeTextUptoSaid : Prop := fnEscapeTextUptoRow.holds Tryd.pinned (OpenSpec.upto fnEscapeTextSpec)

/-- 'laws.FnUnescapeText', WHERE WHAT IT READS IS OF BULK AT MOST 1048576: true; the input reads as it did. -/
def fnUnescapeTextUptoRow : OpenClaim := { program := "ytjkdjemefkignaadoor", sum := "43dc2dc7e4be857d13a5c9e16eaafd10d9eafe005506709007441f1da737532a", func := "loop.example/feedbridge/laws.FnUnescapeText", spec := "fnUnescapeText", named := ["loop.example/feedbridge/impl.escapes"], apart := false, laid := [("loop.example/feedbridge/impl.escapes", laid_loop_example_feedbridge_impl_escapes)], narrowed := true }
def FnUnescapeTextUptoSaid : Prop := fnUnescapeTextUptoRow.holds Tryd.pinned (OpenSpec.upto fnUnescapeTextSpec)

/-- 'laws.FnExactElementsText', WHERE WHAT IT READS IS OF BULK AT MOST 1048576: true; the input reads as it did. -/
def fnExactElementsTextUptoRow : OpenClaim := { program := "ytjkdjemefkignaadoor", sum := "43dc2dc7e4be857d13a5c9e16eaafd10d9eafe005506709007441f1da737532a", func := "loop.example/feedbridge/laws.FnExactElementsText", spec := "fnExactElementsText", named := ["loop.example/feedbridge/impl.escapes"], apart := false, laid := [("loop.example/feedbridge/impl.escapes", laid_loop_example_feedbridge_impl_escapes)], narrowed := true }
def FnExactElementsTextUptoSaid : Prop := fnExactElementsTextUptoRow.holds Tryd.pinned (OpenSpec.upto fnExactElementsTextSpec)

/-- 'laws.FnExactReadElements', WHERE WHAT IT READS IS OF BULK AT MOST 1048576: true; the input reads as it did. -/
def fnExactReadElementsUptoRow : OpenClaim := { program := "ytjkdjemefkignaadoor", sum := "43dc2dc7e4be857d13a5c9e16eaafd10d9eafe005506709007441f1da737532a", func := "loop.example/feedbridge/laws.FnExactReadElements", spec := "fnExactReadElements", inPlace := ["internal/bytealg.IndexByteString"], named := ["loop.example/feedbridge/impl.escapes"], apart := false, laid := [("loop.example/feedbridge/impl.escapes", laid_loop_example_feedbridge_impl_escapes)], narrowed := true }
def FnExactReadElementsUptoSaid : Prop := fnExactReadElementsUptoRow.holds Tryd.pinned (OpenSpec.upto fnExactReadElementsSpec)

/-- 'laws.FnElementsText', WHERE WHAT IT READS IS OF BULK AT MOST 1048576: true; the input reads as it did. -/
def fnElementsTextUptoRow : OpenClaim := { program := "ytjkdjemefkignaadoor", sum := "43dc2dc7e4be857d13a5c9e16eaafd10d9eafe005506709007441f1da737532a", func := "loop.example/feedbridge/laws.FnElementsText", spec := "fnElementsText", inPlace := ["internal/bytealg.IndexByteString"], named := ["loop.example/feedbridge/impl.escapes"], apart := false, laid := [("loop.example/feedbridge/impl.escapes", laid_loop_example_feedbridge_impl_escapes)], narrowed := true }
def FnElementsTextUptoSaid : Prop := fnElementsTextUptoRow.holds Tryd.pinned (OpenSpec.upto fnElementsTextSpec)

/-- 'laws.FnReadElements', WHERE WHAT IT READS IS OF BULK AT MOST 1048576: true; the input reads as it did. -/
def fnReadElementsUptoRow : OpenClaim := { program := "ytjkdjemefkignaadoor", sum := "43dc2dc7e4be857d13a5c9e16eaafd10d9eafe005506709007441f1da737532a", func := "loop.example/feedbridge/laws.FnReadElements", spec := "fnReadElements", inPlace := ["internal/bytealg.IndexByteString"], named := ["loop.example/feedbridge/impl.escapes"], apart := false, laid := [("loop.example/feedbridge/impl.escapes", laid_loop_example_feedbridge_impl_escapes)], narrowed := true }
def FnReadElementsUptoSaid : Prop := fnReadElementsUptoRow.holds Tryd.pinned (OpenSpec.upto fnReadElementsSpec)

end Rows
end Go.Proofs.YtjkdjemefkignaaDoor
