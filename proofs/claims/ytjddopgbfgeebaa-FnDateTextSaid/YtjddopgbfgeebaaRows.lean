/-
  No cell of these rows narrows 'for every input' (looked for: loops, veiled, ifaces, maps, wideKeys, modest, calm, conditions, laid).
  DERIVED. THE GIVEN ROWS OF THIS SEAT. 19 by the template 'for every input the law returns true; each argument reads behind the call as it read before'; 0 by the template 'total and deterministic' (their statements: YtjddopgbfgeebaaTotals.lean).
  GIVEN WITH THE SEED: the statements are not yours to turn. If you find one false, say at which input.
  Laid BY PROGRAM, IN A SANDBOX (cutbox-rows.mjs): the forced cells as the released guide's own fill.sh prints them over the translation 8f3d3b9c6d1c7116… (all of the seat's roots in one cut). By AI agents, Wed Nov 11 2026. No macro, syntax, notation, axiom, sorry.
-/
import Derived.Test.YtjddopgbfgeebaaChecked
import GoSem.Claim
import GoSem.ClaimJoined
import GoSem.ClaimMapViews
import Derived.JoinedTies
import Derived.KernelRfl
namespace Go.Proofs.Ytjddopgbfgeebaa
/- THE CELL 'sum', in the pinned program and in every row, IS THE sha256 OF THE DUMP (.gsa) THAT YtjddopgbfgeebaaProg.lean LOADS. Nothing in Lean hashes anything: it is a label: what it is worth is what the hold of that sum in a sandbox is worth. -/
noncomputable def Try.pinned : Pinned := { name := "ytjddopgbfgeebaa", sum := "8f3d3b9c6d1c7116a11ca0eb204e5f466a21975fb8728c09c8889b877b11fb0f", checked := Try.checked }
namespace Rows
def none {H : Type} : Left H := { results := [], args := [] }

/-- 'laws.FnExactConstants': WHATEVER THE INPUT: true; the input reads as it did. -/
def fnExactConstantsSpec : ChangeSpec := { name := "fnExactConstants", fn := fun _ => fun
  | [] => { results := [.lit (.bool true)], args := [] }
  | _ => none }
def fnExactConstantsRow : OpenClaim := { program := "ytjddopgbfgeebaa", sum := "8f3d3b9c6d1c7116a11ca0eb204e5f466a21975fb8728c09c8889b877b11fb0f", func := "loop.example/feedbridge/laws.FnExactConstants", spec := "fnExactConstants", apart := false }
def FnExactConstantsSaid : Prop := fnExactConstantsRow.holds Try.pinned (OpenSpec.ofChange fnExactConstantsSpec)

/-- ITS FALSE NEIGHBOUR: 'it returns false'. Refute it at one input. -/
def fnExactConstantsWrong : ChangeSpec := { name := "fnExactConstants", fn := fun _ => fun
  | [] => { results := [.lit (.bool false)], args := [] }
  | _ => none }
def FnExactConstantsWrongFalsely : Prop := fnExactConstantsRow.holds Try.pinned (OpenSpec.ofChange fnExactConstantsWrong)

/-- 'laws.FnExactLeapYear': WHATEVER THE INPUT: true; the input reads as it did. -/
def fnExactLeapYearSpec : ChangeSpec := { name := "fnExactLeapYear", fn := fun _ => fun
  | [d] => { results := [.lit (.bool true)], args := [d] }
  | _ => none }
def fnExactLeapYearRow : OpenClaim := { program := "ytjddopgbfgeebaa", sum := "8f3d3b9c6d1c7116a11ca0eb204e5f466a21975fb8728c09c8889b877b11fb0f", func := "loop.example/feedbridge/laws.FnExactLeapYear", spec := "fnExactLeapYear", apart := false }
def FnExactLeapYearSaid : Prop := fnExactLeapYearRow.holds Try.pinned (OpenSpec.ofChange fnExactLeapYearSpec)

/-- ITS FALSE NEIGHBOUR: 'it returns false'. Refute it at one input. -/
def fnExactLeapYearWrong : ChangeSpec := { name := "fnExactLeapYear", fn := fun _ => fun
  | [d] => { results := [.lit (.bool false)], args := [d] }
  | _ => none }
def FnExactLeapYearWrongFalsely : Prop := fnExactLeapYearRow.holds Try.pinned (OpenSpec.ofChange fnExactLeapYearWrong)

/-- 'laws.FnExactTextValid': WHATEVER THE INPUT: true; the input reads as it did. -/
def fnExactTextValidSpec : ChangeSpec := { name := "fnExactTextValid", fn := fun _ => fun
  | [d] => { results := [.lit (.bool true)], args := [d] }
  | _ => none }
def fnExactTextValidRow : OpenClaim := { program := "ytjddopgbfgeebaa", sum := "8f3d3b9c6d1c7116a11ca0eb204e5f466a21975fb8728c09c8889b877b11fb0f", func := "loop.example/feedbridge/laws.FnExactTextValid", spec := "fnExactTextValid", apart := false }
def FnExactTextValidSaid : Prop := fnExactTextValidRow.holds Try.pinned (OpenSpec.ofChange fnExactTextValidSpec)

/-- ITS FALSE NEIGHBOUR: 'it returns false'. Refute it at one input. -/
def fnExactTextValidWrong : ChangeSpec := { name := "fnExactTextValid", fn := fun _ => fun
  | [d] => { results := [.lit (.bool false)], args := [d] }
  | _ => none }
def FnExactTextValidWrongFalsely : Prop := fnExactTextValidRow.holds Try.pinned (OpenSpec.ofChange fnExactTextValidWrong)

/-- 'laws.FnExactMarkText': WHATEVER THE INPUT: true; the input reads as it did. -/
def fnExactMarkTextSpec : ChangeSpec := { name := "fnExactMarkText", fn := fun _ => fun
  | [d] => { results := [.lit (.bool true)], args := [d] }
  | _ => none }
def fnExactMarkTextRow : OpenClaim := { program := "ytjddopgbfgeebaa", sum := "8f3d3b9c6d1c7116a11ca0eb204e5f466a21975fb8728c09c8889b877b11fb0f", func := "loop.example/feedbridge/laws.FnExactMarkText", spec := "fnExactMarkText", apart := false }
def FnExactMarkTextSaid : Prop := fnExactMarkTextRow.holds Try.pinned (OpenSpec.ofChange fnExactMarkTextSpec)

/-- ITS FALSE NEIGHBOUR: 'it returns false'. Refute it at one input. -/
def fnExactMarkTextWrong : ChangeSpec := { name := "fnExactMarkText", fn := fun _ => fun
  | [d] => { results := [.lit (.bool false)], args := [d] }
  | _ => none }
def FnExactMarkTextWrongFalsely : Prop := fnExactMarkTextRow.holds Try.pinned (OpenSpec.ofChange fnExactMarkTextWrong)

/-- 'laws.FnExactWordValid': WHATEVER THE INPUT: true; the input reads as it did. -/
def fnExactWordValidSpec : ChangeSpec := { name := "fnExactWordValid", fn := fun _ => fun
  | [d] => { results := [.lit (.bool true)], args := [d] }
  | _ => none }
def fnExactWordValidRow : OpenClaim := { program := "ytjddopgbfgeebaa", sum := "8f3d3b9c6d1c7116a11ca0eb204e5f466a21975fb8728c09c8889b877b11fb0f", func := "loop.example/feedbridge/laws.FnExactWordValid", spec := "fnExactWordValid", apart := false }
def FnExactWordValidSaid : Prop := fnExactWordValidRow.holds Try.pinned (OpenSpec.ofChange fnExactWordValidSpec)

/-- ITS FALSE NEIGHBOUR: 'it returns false'. Refute it at one input. -/
def fnExactWordValidWrong : ChangeSpec := { name := "fnExactWordValid", fn := fun _ => fun
  | [d] => { results := [.lit (.bool false)], args := [d] }
  | _ => none }
def FnExactWordValidWrongFalsely : Prop := fnExactWordValidRow.holds Try.pinned (OpenSpec.ofChange fnExactWordValidWrong)

/-- 'laws.FnExactMonthDays': WHATEVER THE INPUT: true; the input reads as it did. -/
def fnExactMonthDaysSpec : ChangeSpec := { name := "fnExactMonthDays", fn := fun _ => fun
  | [d1, d2] => { results := [.lit (.bool true)], args := [d1, d2] }
  | _ => none }
def fnExactMonthDaysRow : OpenClaim := { program := "ytjddopgbfgeebaa", sum := "8f3d3b9c6d1c7116a11ca0eb204e5f466a21975fb8728c09c8889b877b11fb0f", func := "loop.example/feedbridge/laws.FnExactMonthDays", spec := "fnExactMonthDays", apart := false }
def FnExactMonthDaysSaid : Prop := fnExactMonthDaysRow.holds Try.pinned (OpenSpec.ofChange fnExactMonthDaysSpec)

/-- ITS FALSE NEIGHBOUR: 'it returns false'. Refute it at one input. -/
def fnExactMonthDaysWrong : ChangeSpec := { name := "fnExactMonthDays", fn := fun _ => fun
  | [d1, d2] => { results := [.lit (.bool false)], args := [d1, d2] }
  | _ => none }
def FnExactMonthDaysWrongFalsely : Prop := fnExactMonthDaysRow.holds Try.pinned (OpenSpec.ofChange fnExactMonthDaysWrong)

/-- 'laws.FnExactReadMark': WHATEVER THE INPUT: true; the input reads as it did. -/
def fnExactReadMarkSpec : ChangeSpec := { name := "fnExactReadMark", fn := fun _ => fun
  | [d] => { results := [.lit (.bool true)], args := [d] }
  | _ => none }
def fnExactReadMarkRow : OpenClaim := { program := "ytjddopgbfgeebaa", sum := "8f3d3b9c6d1c7116a11ca0eb204e5f466a21975fb8728c09c8889b877b11fb0f", func := "loop.example/feedbridge/laws.FnExactReadMark", spec := "fnExactReadMark", apart := false }
def FnExactReadMarkSaid : Prop := fnExactReadMarkRow.holds Try.pinned (OpenSpec.ofChange fnExactReadMarkSpec)

/-- ITS FALSE NEIGHBOUR: 'it returns false'. Refute it at one input. -/
def fnExactReadMarkWrong : ChangeSpec := { name := "fnExactReadMark", fn := fun _ => fun
  | [d] => { results := [.lit (.bool false)], args := [d] }
  | _ => none }
def FnExactReadMarkWrongFalsely : Prop := fnExactReadMarkRow.holds Try.pinned (OpenSpec.ofChange fnExactReadMarkWrong)

/-- 'laws.FnExactDayNumber': WHATEVER THE INPUT: true; the input reads as it did. -/
def fnExactDayNumberSpec : ChangeSpec := { name := "fnExactDayNumber", fn := fun _ => fun
  | [d1, d2, d3] => { results := [.lit (.bool true)], args := [d1, d2, d3] }
  | _ => none }
def fnExactDayNumberRow : OpenClaim := { program := "ytjddopgbfgeebaa", sum := "8f3d3b9c6d1c7116a11ca0eb204e5f466a21975fb8728c09c8889b877b11fb0f", func := "loop.example/feedbridge/laws.FnExactDayNumber", spec := "fnExactDayNumber", apart := false }
def FnExactDayNumberSaid : Prop := fnExactDayNumberRow.holds Try.pinned (OpenSpec.ofChange fnExactDayNumberSpec)

/-- ITS FALSE NEIGHBOUR: 'it returns false'. Refute it at one input. -/
def fnExactDayNumberWrong : ChangeSpec := { name := "fnExactDayNumber", fn := fun _ => fun
  | [d1, d2, d3] => { results := [.lit (.bool false)], args := [d1, d2, d3] }
  | _ => none }
def FnExactDayNumberWrongFalsely : Prop := fnExactDayNumberRow.holds Try.pinned (OpenSpec.ofChange fnExactDayNumberWrong)

/-- 'laws.FnWordValid': WHATEVER THE INPUT: true; the input reads as it did. -/
def fnWordValidSpec : ChangeSpec := { name := "fnWordValid", fn := fun _ => fun
  | [d] => { results := [.lit (.bool true)], args := [d] }
  | _ => none }
def fnWordValidRow : OpenClaim := { program := "ytjddopgbfgeebaa", sum := "8f3d3b9c6d1c7116a11ca0eb204e5f466a21975fb8728c09c8889b877b11fb0f", func := "loop.example/feedbridge/laws.FnWordValid", spec := "fnWordValid", apart := false }
def FnWordValidSaid : Prop := fnWordValidRow.holds Try.pinned (OpenSpec.ofChange fnWordValidSpec)

/-- ITS FALSE NEIGHBOUR: 'it returns false'. Refute it at one input. -/
def fnWordValidWrong : ChangeSpec := { name := "fnWordValid", fn := fun _ => fun
  | [d] => { results := [.lit (.bool false)], args := [d] }
  | _ => none }
def FnWordValidWrongFalsely : Prop := fnWordValidRow.holds Try.pinned (OpenSpec.ofChange fnWordValidWrong)

/-- 'laws.FnTextValid': WHATEVER THE INPUT: true; the input reads as it did. -/
def fnTextValidSpec : ChangeSpec := { name := "fnTextValid", fn := fun _ => fun
  | [d] => { results := [.lit (.bool true)], args := [d] }
  | _ => none }
def fnTextValidRow : OpenClaim := { program := "ytjddopgbfgeebaa", sum := "8f3d3b9c6d1c7116a11ca0eb204e5f466a21975fb8728c09c8889b877b11fb0f", func := "loop.example/feedbridge/laws.FnTextValid", spec := "fnTextValid", apart := false }
def FnTextValidSaid : Prop := fnTextValidRow.holds Try.pinned (OpenSpec.ofChange fnTextValidSpec)

/-- ITS FALSE NEIGHBOUR: 'it returns false'. Refute it at one input. -/
def fnTextValidWrong : ChangeSpec := { name := "fnTextValid", fn := fun _ => fun
  | [d] => { results := [.lit (.bool false)], args := [d] }
  | _ => none }
def FnTextValidWrongFalsely : Prop := fnTextValidRow.holds Try.pinned (OpenSpec.ofChange fnTextValidWrong)

/-- 'laws.FnLeapYear': WHATEVER THE INPUT: true; the input reads as it did. -/
def fnLeapYearSpec : ChangeSpec := { name := "fnLeapYear", fn := fun _ => fun
  | [d] => { results := [.lit (.bool true)], args := [d] }
  | _ => none }
def fnLeapYearRow : OpenClaim := { program := "ytjddopgbfgeebaa", sum := "8f3d3b9c6d1c7116a11ca0eb204e5f466a21975fb8728c09c8889b877b11fb0f", func := "loop.example/feedbridge/laws.FnLeapYear", spec := "fnLeapYear", apart := false }
def FnLeapYearSaid : Prop := fnLeapYearRow.holds Try.pinned (OpenSpec.ofChange fnLeapYearSpec)

/-- ITS FALSE NEIGHBOUR: 'it returns false'. Refute it at one input. -/
def fnLeapYearWrong : ChangeSpec := { name := "fnLeapYear", fn := fun _ => fun
  | [d] => { results := [.lit (.bool false)], args := [d] }
  | _ => none }
def FnLeapYearWrongFalsely : Prop := fnLeapYearRow.holds Try.pinned (OpenSpec.ofChange fnLeapYearWrong)

/-- 'laws.FnMonthDays': WHATEVER THE INPUT: true; the input reads as it did. -/
def fnMonthDaysSpec : ChangeSpec := { name := "fnMonthDays", fn := fun _ => fun
  | [d] => { results := [.lit (.bool true)], args := [d] }
  | _ => none }
def fnMonthDaysRow : OpenClaim := { program := "ytjddopgbfgeebaa", sum := "8f3d3b9c6d1c7116a11ca0eb204e5f466a21975fb8728c09c8889b877b11fb0f", func := "loop.example/feedbridge/laws.FnMonthDays", spec := "fnMonthDays", apart := false }
def FnMonthDaysSaid : Prop := fnMonthDaysRow.holds Try.pinned (OpenSpec.ofChange fnMonthDaysSpec)

/-- ITS FALSE NEIGHBOUR: 'it returns false'. Refute it at one input. -/
def fnMonthDaysWrong : ChangeSpec := { name := "fnMonthDays", fn := fun _ => fun
  | [d] => { results := [.lit (.bool false)], args := [d] }
  | _ => none }
def FnMonthDaysWrongFalsely : Prop := fnMonthDaysRow.holds Try.pinned (OpenSpec.ofChange fnMonthDaysWrong)

/-- 'laws.FnMarkText': WHATEVER THE INPUT: true; the input reads as it did. -/
def fnMarkTextSpec : ChangeSpec := { name := "fnMarkText", fn := fun _ => fun
  | [d] => { results := [.lit (.bool true)], args := [d] }
  | _ => none }
def fnMarkTextRow : OpenClaim := { program := "ytjddopgbfgeebaa", sum := "8f3d3b9c6d1c7116a11ca0eb204e5f466a21975fb8728c09c8889b877b11fb0f", func := "loop.example/feedbridge/laws.FnMarkText", spec := "fnMarkText", apart := false }
def FnMarkTextSaid : Prop := fnMarkTextRow.holds Try.pinned (OpenSpec.ofChange fnMarkTextSpec)

/-- ITS FALSE NEIGHBOUR: 'it returns false'. Refute it at one input. -/
def fnMarkTextWrong : ChangeSpec := { name := "fnMarkText", fn := fun _ => fun
  | [d] => { results := [.lit (.bool false)], args := [d] }
  | _ => none }
def FnMarkTextWrongFalsely : Prop := fnMarkTextRow.holds Try.pinned (OpenSpec.ofChange fnMarkTextWrong)

/-- 'laws.FnExactDateText': WHATEVER THE INPUT: true; the input reads as it did. -/
def fnExactDateTextSpec : ChangeSpec := { name := "fnExactDateText", fn := fun _ => fun
  | [d] => { results := [.lit (.bool true)], args := [d] }
  | _ => none }
def fnExactDateTextRow : OpenClaim := { program := "ytjddopgbfgeebaa", sum := "8f3d3b9c6d1c7116a11ca0eb204e5f466a21975fb8728c09c8889b877b11fb0f", func := "loop.example/feedbridge/laws.FnExactDateText", spec := "fnExactDateText", apart := false }
def FnExactDateTextSaid : Prop := fnExactDateTextRow.holds Try.pinned (OpenSpec.ofChange fnExactDateTextSpec)

/-- ITS FALSE NEIGHBOUR: 'it returns false'. Refute it at one input. -/
def fnExactDateTextWrong : ChangeSpec := { name := "fnExactDateText", fn := fun _ => fun
  | [d] => { results := [.lit (.bool false)], args := [d] }
  | _ => none }
def FnExactDateTextWrongFalsely : Prop := fnExactDateTextRow.holds Try.pinned (OpenSpec.ofChange fnExactDateTextWrong)

/-- 'laws.FnReadMark': WHATEVER THE INPUT: true; the input reads as it did. -/
def fnReadMarkSpec : ChangeSpec := { name := "fnReadMark", fn := fun _ => fun
  | [d] => { results := [.lit (.bool true)], args := [d] }
  | _ => none }
def fnReadMarkRow : OpenClaim := { program := "ytjddopgbfgeebaa", sum := "8f3d3b9c6d1c7116a11ca0eb204e5f466a21975fb8728c09c8889b877b11fb0f", func := "loop.example/feedbridge/laws.FnReadMark", spec := "fnReadMark", apart := false }
def FnReadMarkSaid : Prop := fnReadMarkRow.holds Try.pinned (OpenSpec.ofChange fnReadMarkSpec)

/-- ITS FALSE NEIGHBOUR: 'it returns false'. Refute it at one input. -/
def fnReadMarkWrong : ChangeSpec := { name := "fnReadMark", fn := fun _ => fun
  | [d] => { results := [.lit (.bool false)], args := [d] }
  | _ => none }
def FnReadMarkWrongFalsely : Prop := fnReadMarkRow.holds Try.pinned (OpenSpec.ofChange fnReadMarkWrong)

/-- 'laws.FnDayNumber': WHATEVER THE INPUT: true; the input reads as it did. -/
def fnDayNumberSpec : ChangeSpec := { name := "fnDayNumber", fn := fun _ => fun
  | [d] => { results := [.lit (.bool true)], args := [d] }
  | _ => none }
def fnDayNumberRow : OpenClaim := { program := "ytjddopgbfgeebaa", sum := "8f3d3b9c6d1c7116a11ca0eb204e5f466a21975fb8728c09c8889b877b11fb0f", func := "loop.example/feedbridge/laws.FnDayNumber", spec := "fnDayNumber", apart := false }
def FnDayNumberSaid : Prop := fnDayNumberRow.holds Try.pinned (OpenSpec.ofChange fnDayNumberSpec)

/-- ITS FALSE NEIGHBOUR: 'it returns false'. Refute it at one input. -/
def fnDayNumberWrong : ChangeSpec := { name := "fnDayNumber", fn := fun _ => fun
  | [d] => { results := [.lit (.bool false)], args := [d] }
  | _ => none }
def FnDayNumberWrongFalsely : Prop := fnDayNumberRow.holds Try.pinned (OpenSpec.ofChange fnDayNumberWrong)

/-- 'laws.FnExactReadDate': WHATEVER THE INPUT: true; the input reads as it did. -/
def fnExactReadDateSpec : ChangeSpec := { name := "fnExactReadDate", fn := fun _ => fun
  | [d] => { results := [.lit (.bool true)], args := [d] }
  | _ => none }
def fnExactReadDateRow : OpenClaim := { program := "ytjddopgbfgeebaa", sum := "8f3d3b9c6d1c7116a11ca0eb204e5f466a21975fb8728c09c8889b877b11fb0f", func := "loop.example/feedbridge/laws.FnExactReadDate", spec := "fnExactReadDate", apart := false }
def FnExactReadDateSaid : Prop := fnExactReadDateRow.holds Try.pinned (OpenSpec.ofChange fnExactReadDateSpec)

/-- ITS FALSE NEIGHBOUR: 'it returns false'. Refute it at one input. -/
def fnExactReadDateWrong : ChangeSpec := { name := "fnExactReadDate", fn := fun _ => fun
  | [d] => { results := [.lit (.bool false)], args := [d] }
  | _ => none }
def FnExactReadDateWrongFalsely : Prop := fnExactReadDateRow.holds Try.pinned (OpenSpec.ofChange fnExactReadDateWrong)

/-- 'laws.FnDateText': WHATEVER THE INPUT: true; the input reads as it did. -/
def fnDateTextSpec : ChangeSpec := { name := "fnDateText", fn := fun _ => fun
  | [d] => { results := [.lit (.bool true)], args := [d] }
  | _ => none }
def fnDateTextRow : OpenClaim := { program := "ytjddopgbfgeebaa", sum := "8f3d3b9c6d1c7116a11ca0eb204e5f466a21975fb8728c09c8889b877b11fb0f", func := "loop.example/feedbridge/laws.FnDateText", spec := "fnDateText", apart := false }
def FnDateTextSaid : Prop := fnDateTextRow.holds Try.pinned (OpenSpec.ofChange fnDateTextSpec)

/-- ITS FALSE NEIGHBOUR: 'it returns false'. Refute it at one input. -/
def fnDateTextWrong : ChangeSpec := { name := "fnDateText", fn := fun _ => fun
  | [d] => { results := [.lit (.bool false)], args := [d] }
  | _ => none }
def FnDateTextWrongFalsely : Prop := fnDateTextRow.holds Try.pinned (OpenSpec.ofChange fnDateTextWrong)

/-- 'laws.FnReadDate': WHATEVER THE INPUT: true; the input reads as it did. -/
def fnReadDateSpec : ChangeSpec := { name := "fnReadDate", fn := fun _ => fun
  | [d] => { results := [.lit (.bool true)], args := [d] }
  | _ => none }
def fnReadDateRow : OpenClaim := { program := "ytjddopgbfgeebaa", sum := "8f3d3b9c6d1c7116a11ca0eb204e5f466a21975fb8728c09c8889b877b11fb0f", func := "loop.example/feedbridge/laws.FnReadDate", spec := "fnReadDate", apart := false }
def FnReadDateSaid : Prop := fnReadDateRow.holds Try.pinned (OpenSpec.ofChange fnReadDateSpec)

/-- ITS FALSE NEIGHBOUR: 'it returns false'. Refute it at one input. -/
def fnReadDateWrong : ChangeSpec := { name := "fnReadDate", fn := fun _ => fun
  | [d] => { results := [.lit (.bool false)], args := [d] }
  | _ => none }
def FnReadDateWrongFalsely : Prop := fnReadDateRow.holds Try.pinned (OpenSpec.ofChange fnReadDateWrong)

/- THE SECOND FORM. 'bulk': how many values and letters a reading holds, each counted each time it is reached (what is shared counts as often as it is met; a slice's spare places count too). A statement '..UptoSaid' is the law's where the arguments, and the package variables that the reading takes, are together of bulk at most 1048576: NARROWER than '..Said'. Prove '..Said' where nothing that the law and all that it calls make is longer than what came in: it says more and counts as full. Else prove '..UptoSaid'. A law counts once. -/
mutual
def uptoBulk {H : Type} : DataW H → Nat
  | .lit (.string bytes) => bytes.length + 1
  | .lit _ => 1
  | .nil => 1
  | .ptr d => uptoBulk d + 1
  | .slice elems spare => uptoBulkAll elems + uptoBulkAll spare + 1
  | .agg parts => uptoBulkAll parts + 1
  | .iface _ d => uptoBulk d + 1
  | .map entries => uptoBulkEntries entries + 1
  | .held _ => 1
def uptoBulkAll {H : Type} : List (DataW H) → Nat
  | [] => 0
  | d :: r => uptoBulk d + uptoBulkAll r
def uptoBulkEntries {H : Type} : List (Lit × DataW H) → Nat
  | [] => 0
  | x :: r => uptoBulkEntry x + uptoBulkEntries r
def uptoBulkEntry {H : Type} : Lit × DataW H → Nat
  | (.string bytes, d) => bytes.length + uptoBulk d + 1
  | (_, d) => uptoBulk d + 1
 end
def uptoSmall : (H : Type) → List (DataW H) → Bool := fun _ ds => decide (uptoBulkAll ds ≤ 1048576)
def OpenSpec.upto (s : _root_.Go.ChangeSpec) : _root_.Go.OpenSpec := { _root_.Go.OpenSpec.ofChange s with cond := some uptoSmall }

/-- 'laws.FnExactConstants', WHERE WHAT IT READS IS OF BULK AT MOST 1048576: true; the input reads as it did. -/
def fnExactConstantsUptoRow : OpenClaim := { program := "ytjddopgbfgeebaa", sum := "8f3d3b9c6d1c7116a11ca0eb204e5f466a21975fb8728c09c8889b877b11fb0f", func := "loop.example/feedbridge/laws.FnExactConstants", spec := "fnExactConstants", apart := false, narrowed := true }
def FnExactConstantsUptoSaid : Prop := fnExactConstantsUptoRow.holds Try.pinned (OpenSpec.upto fnExactConstantsSpec)

/-- 'laws.FnExactLeapYear', WHERE WHAT IT READS IS OF BULK AT MOST 1048576: true; the input reads as it did. -/
def fnExactLeapYearUptoRow : OpenClaim := { program := "ytjddopgbfgeebaa", sum := "8f3d3b9c6d1c7116a11ca0eb204e5f466a21975fb8728c09c8889b877b11fb0f", func := "loop.example/feedbridge/laws.FnExactLeapYear", spec := "fnExactLeapYear", apart := false, narrowed := true }
def FnExactLeapYearUptoSaid : Prop := fnExactLeapYearUptoRow.holds Try.pinned (OpenSpec.upto fnExactLeapYearSpec)

/-- 'laws.FnExactTextValid', WHERE WHAT IT READS IS OF BULK AT MOST 1048576: true; the input reads as it did. -/
def fnExactTextValidUptoRow : OpenClaim := { program := "ytjddopgbfgeebaa", sum := "8f3d3b9c6d1c7116a11ca0eb204e5f466a21975fb8728c09c8889b877b11fb0f", func := "loop.example/feedbridge/laws.FnExactTextValid", spec := "fnExactTextValid", apart := false, narrowed := true }
def FnExactTextValidUptoSaid : Prop := fnExactTextValidUptoRow.holds Try.pinned (OpenSpec.upto fnExactTextValidSpec)

/-- 'laws.FnExactMarkText', WHERE WHAT IT READS IS OF BULK AT MOST 1048576: true; the input reads as it did. -/
def fnExactMarkTextUptoRow : OpenClaim := { program := "ytjddopgbfgeebaa", sum := "8f3d3b9c6d1c7116a11ca0eb204e5f466a21975fb8728c09c8889b877b11fb0f", func := "loop.example/feedbridge/laws.FnExactMarkText", spec := "fnExactMarkText", apart := false, narrowed := true }
def FnExactMarkTextUptoSaid : Prop := fnExactMarkTextUptoRow.holds Try.pinned (OpenSpec.upto fnExactMarkTextSpec)

/-- 'laws.FnExactWordValid', WHERE WHAT IT READS IS OF BULK AT MOST 1048576: true; the input reads as it did. -/
def fnExactWordValidUptoRow : OpenClaim := { program := "ytjddopgbfgeebaa", sum := "8f3d3b9c6d1c7116a11ca0eb204e5f466a21975fb8728c09c8889b877b11fb0f", func := "loop.example/feedbridge/laws.FnExactWordValid", spec := "fnExactWordValid", apart := false, narrowed := true }
def FnExactWordValidUptoSaid : Prop := fnExactWordValidUptoRow.holds Try.pinned (OpenSpec.upto fnExactWordValidSpec)

/-- 'laws.FnExactMonthDays', WHERE WHAT IT READS IS OF BULK AT MOST 1048576: true; the input reads as it did. -/
def fnExactMonthDaysUptoRow : OpenClaim := { program := "ytjddopgbfgeebaa", sum := "8f3d3b9c6d1c7116a11ca0eb204e5f466a21975fb8728c09c8889b877b11fb0f", func := "loop.example/feedbridge/laws.FnExactMonthDays", spec := "fnExactMonthDays", apart := false, narrowed := true }
def FnExactMonthDaysUptoSaid : Prop := fnExactMonthDaysUptoRow.holds Try.pinned (OpenSpec.upto fnExactMonthDaysSpec)

/-- 'laws.FnExactReadMark', WHERE WHAT IT READS IS OF BULK AT MOST 1048576: true; the input reads as it did. -/
def fnExactReadMarkUptoRow : OpenClaim := { program := "ytjddopgbfgeebaa", sum := "8f3d3b9c6d1c7116a11ca0eb204e5f466a21975fb8728c09c8889b877b11fb0f", func := "loop.example/feedbridge/laws.FnExactReadMark", spec := "fnExactReadMark", apart := false, narrowed := true }
def FnExactReadMarkUptoSaid : Prop := fnExactReadMarkUptoRow.holds Try.pinned (OpenSpec.upto fnExactReadMarkSpec)

/-- 'laws.FnExactDayNumber', WHERE WHAT IT READS IS OF BULK AT MOST 1048576: true; the input reads as it did. -/
def fnExactDayNumberUptoRow : OpenClaim := { program := "ytjddopgbfgeebaa", sum := "8f3d3b9c6d1c7116a11ca0eb204e5f466a21975fb8728c09c8889b877b11fb0f", func := "loop.example/feedbridge/laws.FnExactDayNumber", spec := "fnExactDayNumber", apart := false, narrowed := true }
def FnExactDayNumberUptoSaid : Prop := fnExactDayNumberUptoRow.holds Try.pinned (OpenSpec.upto fnExactDayNumberSpec)

/-- 'laws.FnWordValid', WHERE WHAT IT READS IS OF BULK AT MOST 1048576: true; the input reads as it did. -/
def fnWordValidUptoRow : OpenClaim := { program := "ytjddopgbfgeebaa", sum := "8f3d3b9c6d1c7116a11ca0eb204e5f466a21975fb8728c09c8889b877b11fb0f", func := "loop.example/feedbridge/laws.FnWordValid", spec := "fnWordValid", apart := false, narrowed := true }
def FnWordValidUptoSaid : Prop := fnWordValidUptoRow.holds Try.pinned (OpenSpec.upto fnWordValidSpec)

/-- 'laws.FnTextValid', WHERE WHAT IT READS IS OF BULK AT MOST 1048576: true; the input reads as it did. -/
def fnTextValidUptoRow : OpenClaim := { program := "ytjddopgbfgeebaa", sum := "8f3d3b9c6d1c7116a11ca0eb204e5f466a21975fb8728c09c8889b877b11fb0f", func := "loop.example/feedbridge/laws.FnTextValid", spec := "fnTextValid", apart := false, narrowed := true }
def FnTextValidUptoSaid : Prop := fnTextValidUptoRow.holds Try.pinned (OpenSpec.upto fnTextValidSpec)

/-- 'laws.FnLeapYear', WHERE WHAT IT READS IS OF BULK AT MOST 1048576: true; the input reads as it did. -/
def fnLeapYearUptoRow : OpenClaim := { program := "ytjddopgbfgeebaa", sum := "8f3d3b9c6d1c7116a11ca0eb204e5f466a21975fb8728c09c8889b877b11fb0f", func := "loop.example/feedbridge/laws.FnLeapYear", spec := "fnLeapYear", apart := false, narrowed := true }
def FnLeapYearUptoSaid : Prop := fnLeapYearUptoRow.holds Try.pinned (OpenSpec.upto fnLeapYearSpec)

/-- 'laws.FnMonthDays', WHERE WHAT IT READS IS OF BULK AT MOST 1048576: true; the input reads as it did. -/
def fnMonthDaysUptoRow : OpenClaim := { program := "ytjddopgbfgeebaa", sum := "8f3d3b9c6d1c7116a11ca0eb204e5f466a21975fb8728c09c8889b877b11fb0f", func := "loop.example/feedbridge/laws.FnMonthDays", spec := "fnMonthDays", apart := false, narrowed := true }
def FnMonthDaysUptoSaid : Prop := fnMonthDaysUptoRow.holds Try.pinned (OpenSpec.upto fnMonthDaysSpec)

/-- 'laws.FnMarkText', WHERE WHAT IT READS IS OF BULK AT MOST 1048576: true; the input reads as it did. -/
def fnMarkTextUptoRow : OpenClaim := { program := "ytjddopgbfgeebaa", sum := "8f3d3b9c6d1c7116a11ca0eb204e5f466a21975fb8728c09c8889b877b11fb0f", func := "loop.example/feedbridge/laws.FnMarkText", spec := "fnMarkText", apart := false, narrowed := true }
def FnMarkTextUptoSaid : Prop := fnMarkTextUptoRow.holds Try.pinned (OpenSpec.upto fnMarkTextSpec)

/-- 'laws.FnExactDateText', WHERE WHAT IT READS IS OF BULK AT MOST 1048576: true; the input reads as it did. -/
def fnExactDateTextUptoRow : OpenClaim := { program := "ytjddopgbfgeebaa", sum := "8f3d3b9c6d1c7116a11ca0eb204e5f466a21975fb8728c09c8889b877b11fb0f", func := "loop.example/feedbridge/laws.FnExactDateText", spec := "fnExactDateText", apart := false, narrowed := true }
def FnExactDateTextUptoSaid : Prop := fnExactDateTextUptoRow.holds Try.pinned (OpenSpec.upto fnExactDateTextSpec)

/-- 'laws.FnReadMark', WHERE WHAT IT READS IS OF BULK AT MOST 1048576: true; the input reads as it did. -/
def fnReadMarkUptoRow : OpenClaim := { program := "ytjddopgbfgeebaa", sum := "8f3d3b9c6d1c7116a11ca0eb204e5f466a21975fb8728c09c8889b877b11fb0f", func := "loop.example/feedbridge/laws.FnReadMark", spec := "fnReadMark", apart := false, narrowed := true }
def FnReadMarkUptoSaid : Prop := fnReadMarkUptoRow.holds Try.pinned (OpenSpec.upto fnReadMarkSpec)

/-- 'laws.FnDayNumber', WHERE WHAT IT READS IS OF BULK AT MOST 1048576: true; the input reads as it did. -/
def fnDayNumberUptoRow : OpenClaim := { program := "ytjddopgbfgeebaa", sum := "8f3d3b9c6d1c7116a11ca0eb204e5f466a21975fb8728c09c8889b877b11fb0f", func := "loop.example/feedbridge/laws.FnDayNumber", spec := "fnDayNumber", apart := false, narrowed := true }
def FnDayNumberUptoSaid : Prop := fnDayNumberUptoRow.holds Try.pinned (OpenSpec.upto fnDayNumberSpec)

/-- 'laws.FnExactReadDate', WHERE WHAT IT READS IS OF BULK AT MOST 1048576: true; the input reads as it did. -/
def fnExactReadDateUptoRow : OpenClaim := { program := "ytjddopgbfgeebaa", sum := "8f3d3b9c6d1c7116a11ca0eb204e5f466a21975fb8728c09c8889b877b11fb0f", func := "loop.example/feedbridge/laws.FnExactReadDate", spec := "fnExactReadDate", apart := false, narrowed := true }
def FnExactReadDateUptoSaid : Prop := fnExactReadDateUptoRow.holds Try.pinned (OpenSpec.upto fnExactReadDateSpec)

/-- 'laws.FnDateText', WHERE WHAT IT READS IS OF BULK AT MOST 1048576: true; the input reads as it did. -/
def fnDateTextUptoRow : OpenClaim := { program := "ytjddopgbfgeebaa", sum := "8f3d3b9c6d1c7116a11ca0eb204e5f466a21975fb8728c09c8889b877b11fb0f", func := "loop.example/feedbridge/laws.FnDateText", spec := "fnDateText", apart := false, narrowed := true }
def FnDateTextUptoSaid : Prop := fnDateTextUptoRow.holds Try.pinned (OpenSpec.upto fnDateTextSpec)

/-- 'laws.FnReadDate', WHERE WHAT IT READS IS OF BULK AT MOST 1048576: true; the input reads as it did. -/
def fnReadDateUptoRow : OpenClaim := { program := "ytjddopgbfgeebaa", sum := "8f3d3b9c6d1c7116a11ca0eb204e5f466a21975fb8728c09c8889b877b11fb0f", func := "loop.example/feedbridge/laws.FnReadDate", spec := "fnReadDate", apart := false, narrowed := true }
def FnReadDateUptoSaid : Prop := fnReadDateUptoRow.holds Try.pinned (OpenSpec.upto fnReadDateSpec)

end Rows
end Go.Proofs.Ytjddopgbfgeebaa
