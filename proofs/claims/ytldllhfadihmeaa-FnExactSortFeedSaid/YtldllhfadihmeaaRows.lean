/-
  No cell of these rows narrows 'for every input' (looked for: loops, veiled, ifaces, maps, wideKeys, modest, calm, conditions, laid).
  DERIVED. THE GIVEN ROWS OF THIS SEAT. 12 by the template 'for every input the law returns true; each argument reads behind the call as it read before'; 0 by the template 'total and deterministic' (their statements: YtldllhfadihmeaaTotals.lean).
  GIVEN WITH THE SEED: the statements are not yours to turn. If you find one false, say at which input.
  Laid BY PROGRAM, IN A SANDBOX (cutbox-rows.mjs): the forced cells as the released guide's own fill.sh prints them over the translation 6defcbec31742809… (all of the seat's roots in one cut). By AI agents, Wed Nov 11 2026. No macro, syntax, notation, axiom, sorry.
-/
import Derived.Test.YtldllhfadihmeaaChecked
import GoSem.Claim
import GoSem.ClaimJoined
import GoSem.ClaimMapViews
import Derived.JoinedTies
import Derived.KernelRfl
namespace Go.Proofs.Ytldllhfadihmeaa
/- THE CELL 'sum', in the pinned program and in every row, IS THE sha256 OF THE DUMP (.gsa) THAT YtldllhfadihmeaaProg.lean LOADS. Nothing in Lean hashes anything: it is a label: what it is worth is what the hold of that sum in a sandbox is worth. -/
noncomputable def Try.pinned : Pinned := { name := "ytldllhfadihmeaa", sum := "6defcbec31742809175942ed9b94d52f518a1c415e465172c98eb492a2a6608f", checked := Try.checked }
namespace Rows
def none {H : Type} : Left H := { results := [], args := [] }

/-- 'laws.FnExactSortFeed': WHATEVER THE INPUT: true; the input reads as it did. -/
def fnExactSortFeedSpec : ChangeSpec := { name := "fnExactSortFeed", fn := fun _ => fun
  | [d] => { results := [.lit (.bool true)], args := [d] }
  | _ => none }
def fnExactSortFeedRow : OpenClaim := { program := "ytldllhfadihmeaa", sum := "6defcbec31742809175942ed9b94d52f518a1c415e465172c98eb492a2a6608f", func := "loop.example/feedbridge/laws.FnExactSortFeed", spec := "fnExactSortFeed", inPlace := ["internal/bytealg.abigen_runtime_cmpstring"], unfollowed := true, recurses := true, apart := false }
def FnExactSortFeedSaid : Prop := fnExactSortFeedRow.holds Try.pinned (OpenSpec.ofChange fnExactSortFeedSpec)

/-- ITS FALSE NEIGHBOUR: 'it returns false'. Refute it at one input. -/
def fnExactSortFeedWrong : ChangeSpec := { name := "fnExactSortFeed", fn := fun _ => fun
  | [d] => { results := [.lit (.bool false)], args := [d] }
  | _ => none }
def FnExactSortFeedWrongFalsely : Prop := fnExactSortFeedRow.holds Try.pinned (OpenSpec.ofChange fnExactSortFeedWrong)

/-- 'laws.FnExactItemValid': WHATEVER THE INPUT: true; the input reads as it did. -/
def fnExactItemValidSpec : ChangeSpec := { name := "fnExactItemValid", fn := fun _ => fun
  | [d] => { results := [.lit (.bool true)], args := [d] }
  | _ => none }
def fnExactItemValidRow : OpenClaim := { program := "ytldllhfadihmeaa", sum := "6defcbec31742809175942ed9b94d52f518a1c415e465172c98eb492a2a6608f", func := "loop.example/feedbridge/laws.FnExactItemValid", spec := "fnExactItemValid", apart := false }
def FnExactItemValidSaid : Prop := fnExactItemValidRow.holds Try.pinned (OpenSpec.ofChange fnExactItemValidSpec)

/-- ITS FALSE NEIGHBOUR: 'it returns false'. Refute it at one input. -/
def fnExactItemValidWrong : ChangeSpec := { name := "fnExactItemValid", fn := fun _ => fun
  | [d] => { results := [.lit (.bool false)], args := [d] }
  | _ => none }
def FnExactItemValidWrongFalsely : Prop := fnExactItemValidRow.holds Try.pinned (OpenSpec.ofChange fnExactItemValidWrong)

/-- 'laws.FnItemValid': WHATEVER THE INPUT: true; the input reads as it did. -/
def fnItemValidSpec : ChangeSpec := { name := "fnItemValid", fn := fun _ => fun
  | [d] => { results := [.lit (.bool true)], args := [d] }
  | _ => none }
def fnItemValidRow : OpenClaim := { program := "ytldllhfadihmeaa", sum := "6defcbec31742809175942ed9b94d52f518a1c415e465172c98eb492a2a6608f", func := "loop.example/feedbridge/laws.FnItemValid", spec := "fnItemValid", apart := false }
def FnItemValidSaid : Prop := fnItemValidRow.holds Try.pinned (OpenSpec.ofChange fnItemValidSpec)

/-- ITS FALSE NEIGHBOUR: 'it returns false'. Refute it at one input. -/
def fnItemValidWrong : ChangeSpec := { name := "fnItemValid", fn := fun _ => fun
  | [d] => { results := [.lit (.bool false)], args := [d] }
  | _ => none }
def FnItemValidWrongFalsely : Prop := fnItemValidRow.holds Try.pinned (OpenSpec.ofChange fnItemValidWrong)

/-- 'laws.FnExactFeedValid': WHATEVER THE INPUT: true; the input reads as it did. -/
def fnExactFeedValidSpec : ChangeSpec := { name := "fnExactFeedValid", fn := fun _ => fun
  | [d] => { results := [.lit (.bool true)], args := [d] }
  | _ => none }
def fnExactFeedValidRow : OpenClaim := { program := "ytldllhfadihmeaa", sum := "6defcbec31742809175942ed9b94d52f518a1c415e465172c98eb492a2a6608f", func := "loop.example/feedbridge/laws.FnExactFeedValid", spec := "fnExactFeedValid", apart := false }
def FnExactFeedValidSaid : Prop := fnExactFeedValidRow.holds Try.pinned (OpenSpec.ofChange fnExactFeedValidSpec)

/-- ITS FALSE NEIGHBOUR: 'it returns false'. Refute it at one input. -/
def fnExactFeedValidWrong : ChangeSpec := { name := "fnExactFeedValid", fn := fun _ => fun
  | [d] => { results := [.lit (.bool false)], args := [d] }
  | _ => none }
def FnExactFeedValidWrongFalsely : Prop := fnExactFeedValidRow.holds Try.pinned (OpenSpec.ofChange fnExactFeedValidWrong)

/-- 'laws.FnFeedValid': WHATEVER THE INPUT: true; the input reads as it did. -/
def fnFeedValidSpec : ChangeSpec := { name := "fnFeedValid", fn := fun _ => fun
  | [d] => { results := [.lit (.bool true)], args := [d] }
  | _ => none }
def fnFeedValidRow : OpenClaim := { program := "ytldllhfadihmeaa", sum := "6defcbec31742809175942ed9b94d52f518a1c415e465172c98eb492a2a6608f", func := "loop.example/feedbridge/laws.FnFeedValid", spec := "fnFeedValid", apart := false }
def FnFeedValidSaid : Prop := fnFeedValidRow.holds Try.pinned (OpenSpec.ofChange fnFeedValidSpec)

/-- ITS FALSE NEIGHBOUR: 'it returns false'. Refute it at one input. -/
def fnFeedValidWrong : ChangeSpec := { name := "fnFeedValid", fn := fun _ => fun
  | [d] => { results := [.lit (.bool false)], args := [d] }
  | _ => none }
def FnFeedValidWrongFalsely : Prop := fnFeedValidRow.holds Try.pinned (OpenSpec.ofChange fnFeedValidWrong)

/-- 'laws.FnExactItemWith': WHATEVER THE INPUT: true; the input reads as it did. -/
def fnExactItemWithSpec : ChangeSpec := { name := "fnExactItemWith", fn := fun _ => fun
  | [d1, d2] => { results := [.lit (.bool true)], args := [d1, d2] }
  | _ => none }
def fnExactItemWithRow : OpenClaim := { program := "ytldllhfadihmeaa", sum := "6defcbec31742809175942ed9b94d52f518a1c415e465172c98eb492a2a6608f", func := "loop.example/feedbridge/laws.FnExactItemWith", spec := "fnExactItemWith", apart := false }
def FnExactItemWithSaid : Prop := fnExactItemWithRow.holds Try.pinned (OpenSpec.ofChange fnExactItemWithSpec)

/-- ITS FALSE NEIGHBOUR: 'it returns false'. Refute it at one input. -/
def fnExactItemWithWrong : ChangeSpec := { name := "fnExactItemWith", fn := fun _ => fun
  | [d1, d2] => { results := [.lit (.bool false)], args := [d1, d2] }
  | _ => none }
def FnExactItemWithWrongFalsely : Prop := fnExactItemWithRow.holds Try.pinned (OpenSpec.ofChange fnExactItemWithWrong)

/-- 'laws.FnItemWith': WHATEVER THE INPUT: true; the input reads as it did. -/
def fnItemWithSpec : ChangeSpec := { name := "fnItemWith", fn := fun _ => fun
  | [d] => { results := [.lit (.bool true)], args := [d] }
  | _ => none }
def fnItemWithRow : OpenClaim := { program := "ytldllhfadihmeaa", sum := "6defcbec31742809175942ed9b94d52f518a1c415e465172c98eb492a2a6608f", func := "loop.example/feedbridge/laws.FnItemWith", spec := "fnItemWith", apart := false }
def FnItemWithSaid : Prop := fnItemWithRow.holds Try.pinned (OpenSpec.ofChange fnItemWithSpec)

/-- ITS FALSE NEIGHBOUR: 'it returns false'. Refute it at one input. -/
def fnItemWithWrong : ChangeSpec := { name := "fnItemWith", fn := fun _ => fun
  | [d] => { results := [.lit (.bool false)], args := [d] }
  | _ => none }
def FnItemWithWrongFalsely : Prop := fnItemWithRow.holds Try.pinned (OpenSpec.ofChange fnItemWithWrong)

/-- 'laws.FnExactNewItems': WHATEVER THE INPUT: true; the input reads as it did. -/
def fnExactNewItemsSpec : ChangeSpec := { name := "fnExactNewItems", fn := fun _ => fun
  | [d1, d2] => { results := [.lit (.bool true)], args := [d1, d2] }
  | _ => none }
def fnExactNewItemsRow : OpenClaim := { program := "ytldllhfadihmeaa", sum := "6defcbec31742809175942ed9b94d52f518a1c415e465172c98eb492a2a6608f", func := "loop.example/feedbridge/laws.FnExactNewItems", spec := "fnExactNewItems", apart := false }
def FnExactNewItemsSaid : Prop := fnExactNewItemsRow.holds Try.pinned (OpenSpec.ofChange fnExactNewItemsSpec)

/-- ITS FALSE NEIGHBOUR: 'it returns false'. Refute it at one input. -/
def fnExactNewItemsWrong : ChangeSpec := { name := "fnExactNewItems", fn := fun _ => fun
  | [d1, d2] => { results := [.lit (.bool false)], args := [d1, d2] }
  | _ => none }
def FnExactNewItemsWrongFalsely : Prop := fnExactNewItemsRow.holds Try.pinned (OpenSpec.ofChange fnExactNewItemsWrong)

/-- 'laws.FnExactChangedItems': WHATEVER THE INPUT: true; the input reads as it did. -/
def fnExactChangedItemsSpec : ChangeSpec := { name := "fnExactChangedItems", fn := fun _ => fun
  | [d1, d2] => { results := [.lit (.bool true)], args := [d1, d2] }
  | _ => none }
def fnExactChangedItemsRow : OpenClaim := { program := "ytldllhfadihmeaa", sum := "6defcbec31742809175942ed9b94d52f518a1c415e465172c98eb492a2a6608f", func := "loop.example/feedbridge/laws.FnExactChangedItems", spec := "fnExactChangedItems", apart := false }
def FnExactChangedItemsSaid : Prop := fnExactChangedItemsRow.holds Try.pinned (OpenSpec.ofChange fnExactChangedItemsSpec)

/-- ITS FALSE NEIGHBOUR: 'it returns false'. Refute it at one input. -/
def fnExactChangedItemsWrong : ChangeSpec := { name := "fnExactChangedItems", fn := fun _ => fun
  | [d1, d2] => { results := [.lit (.bool false)], args := [d1, d2] }
  | _ => none }
def FnExactChangedItemsWrongFalsely : Prop := fnExactChangedItemsRow.holds Try.pinned (OpenSpec.ofChange fnExactChangedItemsWrong)

/-- 'laws.FnNewItems': WHATEVER THE INPUT: true; the input reads as it did. -/
def fnNewItemsSpec : ChangeSpec := { name := "fnNewItems", fn := fun _ => fun
  | [d] => { results := [.lit (.bool true)], args := [d] }
  | _ => none }
def fnNewItemsRow : OpenClaim := { program := "ytldllhfadihmeaa", sum := "6defcbec31742809175942ed9b94d52f518a1c415e465172c98eb492a2a6608f", func := "loop.example/feedbridge/laws.FnNewItems", spec := "fnNewItems", apart := false }
def FnNewItemsSaid : Prop := fnNewItemsRow.holds Try.pinned (OpenSpec.ofChange fnNewItemsSpec)

/-- ITS FALSE NEIGHBOUR: 'it returns false'. Refute it at one input. -/
def fnNewItemsWrong : ChangeSpec := { name := "fnNewItems", fn := fun _ => fun
  | [d] => { results := [.lit (.bool false)], args := [d] }
  | _ => none }
def FnNewItemsWrongFalsely : Prop := fnNewItemsRow.holds Try.pinned (OpenSpec.ofChange fnNewItemsWrong)

/-- 'laws.FnExactGoneKeys': WHATEVER THE INPUT: true; the input reads as it did. -/
def fnExactGoneKeysSpec : ChangeSpec := { name := "fnExactGoneKeys", fn := fun _ => fun
  | [d1, d2] => { results := [.lit (.bool true)], args := [d1, d2] }
  | _ => none }
def fnExactGoneKeysRow : OpenClaim := { program := "ytldllhfadihmeaa", sum := "6defcbec31742809175942ed9b94d52f518a1c415e465172c98eb492a2a6608f", func := "loop.example/feedbridge/laws.FnExactGoneKeys", spec := "fnExactGoneKeys", apart := false }
def FnExactGoneKeysSaid : Prop := fnExactGoneKeysRow.holds Try.pinned (OpenSpec.ofChange fnExactGoneKeysSpec)

/-- ITS FALSE NEIGHBOUR: 'it returns false'. Refute it at one input. -/
def fnExactGoneKeysWrong : ChangeSpec := { name := "fnExactGoneKeys", fn := fun _ => fun
  | [d1, d2] => { results := [.lit (.bool false)], args := [d1, d2] }
  | _ => none }
def FnExactGoneKeysWrongFalsely : Prop := fnExactGoneKeysRow.holds Try.pinned (OpenSpec.ofChange fnExactGoneKeysWrong)

/-- 'laws.FnChangedItems': WHATEVER THE INPUT: true; the input reads as it did. -/
def fnChangedItemsSpec : ChangeSpec := { name := "fnChangedItems", fn := fun _ => fun
  | [d] => { results := [.lit (.bool true)], args := [d] }
  | _ => none }
def fnChangedItemsRow : OpenClaim := { program := "ytldllhfadihmeaa", sum := "6defcbec31742809175942ed9b94d52f518a1c415e465172c98eb492a2a6608f", func := "loop.example/feedbridge/laws.FnChangedItems", spec := "fnChangedItems", apart := false }
def FnChangedItemsSaid : Prop := fnChangedItemsRow.holds Try.pinned (OpenSpec.ofChange fnChangedItemsSpec)

/-- ITS FALSE NEIGHBOUR: 'it returns false'. Refute it at one input. -/
def fnChangedItemsWrong : ChangeSpec := { name := "fnChangedItems", fn := fun _ => fun
  | [d] => { results := [.lit (.bool false)], args := [d] }
  | _ => none }
def FnChangedItemsWrongFalsely : Prop := fnChangedItemsRow.holds Try.pinned (OpenSpec.ofChange fnChangedItemsWrong)

/- THE SECOND FORM. 'bulk': how many values and letters a reading holds, each counted each time it is reached (what is shared counts as often as it is met; a slice's spare places count too). A statement '..UptoSaid' is the law's where the arguments, and the package variables that the reading takes, are together of bulk at most 1048576: NARROWER than '..Said'. Prove '..Said' where nothing that the law and all that it calls make is longer than what came in: it says more and counts as full. Else prove '..UptoSaid'. A law counts once. -/
mutual
def uptoBulk {H : Type} : DataW H → Nat
  | .lit (.string bytes) => bytes.length + 1
  | .lit _ => 1
  | .nil => 1
  | .ptr d => uptoBulk d + 1
  | .slice elems spare => uptoBulkAll elems + uptoBulkAll spare + 1
  | .agg parts => uptoBulkAll parts + 1
  | .iface _ d => uptoBulk d + 1
  | .map entries => uptoBulkEntries entries + 1
  | .held _ => 1
def uptoBulkAll {H : Type} : List (DataW H) → Nat
  | [] => 0
  | d :: r => uptoBulk d + uptoBulkAll r
def uptoBulkEntries {H : Type} : List (Lit × DataW H) → Nat
  | [] => 0
  | x :: r => uptoBulkEntry x + uptoBulkEntries r
def uptoBulkEntry {H : Type} : Lit × DataW H → Nat
  | (.string bytes, d) => bytes.length + uptoBulk d + 1
  | (_, d) => uptoBulk d + 1
 end
def uptoSmall : (H : Type) → List (DataW H) → Bool := fun _ ds => decide (uptoBulkAll ds ≤ 1048576)
def OpenSpec.upto (s : _root_.Go.ChangeSpec) : _root_.Go.OpenSpec := { _root_.Go.OpenSpec.ofChange s with cond := some uptoSmall }

/-- 'laws.FnExactSortFeed', WHERE WHAT IT READS IS OF BULK AT MOST 1048576: true; the input reads as it did. -/
def fnExactSortFeedUptoRow : OpenClaim := { program := "ytldllhfadihmeaa", sum := "6defcbec31742809175942ed9b94d52f518a1c415e465172c98eb492a2a6608f", func := "loop.example/feedbridge/laws.FnExactSortFeed", spec := "fnExactSortFeed", inPlace := ["internal/bytealg.abigen_runtime_cmpstring"], unfollowed := true, recurses := true, apart := false, narrowed := true }
def FnExactSortFeedUptoSaid : Prop := fnExactSortFeedUptoRow.holds Try.pinned (OpenSpec.upto fnExactSortFeedSpec)

/-- 'laws.FnExactItemValid', WHERE WHAT IT READS IS OF BULK AT MOST 1048576: true; the input reads as it did. -/
def fnExactItemValidUptoRow : OpenClaim := { program := "ytldllhfadihmeaa", sum := "6defcbec31742809175942ed9b94d52f518a1c415e465172c98eb492a2a6608f", func := "loop.example/feedbridge/laws.FnExactItemValid", spec := "fnExactItemValid", apart := false, narrowed := true }
def FnExactItemValidUptoSaid : Prop := fnExactItemValidUptoRow.holds Try.pinned (OpenSpec.upto fnExactItemValidSpec)

/-- 'laws.FnItemValid', WHERE WHAT IT READS IS OF BULK AT MOST 1048576: true; the input reads as it did. -/
def fnItemValidUptoRow : OpenClaim := { program := "ytldllhfadihmeaa", sum := "6defcbec31742809175942ed9b94d52f518a1c415e465172c98eb492a2a6608f", func := "loop.example/feedbridge/laws.FnItemValid", spec := "fnItemValid", apart := false, narrowed := true }
def FnItemValidUptoSaid : Prop := fnItemValidUptoRow.holds Try.pinned (OpenSpec.upto fnItemValidSpec)

/-- 'laws.FnExactFeedValid', WHERE WHAT IT READS IS OF BULK AT MOST 1048576: true; the input reads as it did. -/
def fnExactFeedValidUptoRow : OpenClaim := { program := "ytldllhfadihmeaa", sum := "6defcbec31742809175942ed9b94d52f518a1c415e465172c98eb492a2a6608f", func := "loop.example/feedbridge/laws.FnExactFeedValid", spec := "fnExactFeedValid", apart := false, narrowed := true }
def FnExactFeedValidUptoSaid : Prop := fnExactFeedValidUptoRow.holds Try.pinned (OpenSpec.upto fnExactFeedValidSpec)

/-- 'laws.FnFeedValid', WHERE WHAT IT READS IS OF BULK AT MOST 1048576: true; the input reads as it did. -/
def fnFeedValidUptoRow : OpenClaim := { program := "ytldllhfadihmeaa", sum := "6defcbec31742809175942ed9b94d52f518a1c415e465172c98eb492a2a6608f", func := "loop.example/feedbridge/laws.FnFeedValid", spec := "fnFeedValid", apart := false, narrowed := true }
def FnFeedValidUptoSaid : Prop := fnFeedValidUptoRow.holds Try.pinned (OpenSpec.upto fnFeedValidSpec)

/-- 'laws.FnExactItemWith', WHERE WHAT IT READS IS OF BULK AT MOST 1048576: true; the input reads as it did. -/
def fnExactItemWithUptoRow : OpenClaim := { program := "ytldllhfadihmeaa", sum := "6defcbec31742809175942ed9b94d52f518a1c415e465172c98eb492a2a6608f", func := "loop.example/feedbridge/laws.FnExactItemWith", spec := "fnExactItemWith", apart := false, narrowed := true }
def FnExactItemWithUptoSaid : Prop := fnExactItemWithUptoRow.holds Try.pinned (OpenSpec.upto fnExactItemWithSpec)

/-- 'laws.FnItemWith', WHERE WHAT IT READS IS OF BULK AT MOST 1048576: true; the input reads as it did. -/
def fnItemWithUptoRow : OpenClaim := { program := "ytldllhfadihmeaa", sum := "6defcbec31742809175942ed9b94d52f518a1c415e465172c98eb492a2a6608f", func := "loop.example/feedbridge/laws.FnItemWith", spec := "fnItemWith", apart := false, narrowed := true }
def FnItemWithUptoSaid : Prop := fnItemWithUptoRow.holds Try.pinned (OpenSpec.upto fnItemWithSpec)

/-- 'laws.FnExactNewItems', WHERE WHAT IT READS IS OF BULK AT MOST 1048576: true; the input reads as it did. -/
def fnExactNewItemsUptoRow : OpenClaim := { program := "ytldllhfadihmeaa", sum := "6defcbec31742809175942ed9b94d52f518a1c415e465172c98eb492a2a6608f", func := "loop.example/feedbridge/laws.FnExactNewItems", spec := "fnExactNewItems", apart := false, narrowed := true }
def FnExactNewItemsUptoSaid : Prop := fnExactNewItemsUptoRow.holds Try.pinned (OpenSpec.upto fnExactNewItemsSpec)

/-- 'laws.FnExactChangedItems', WHERE WHAT IT READS IS OF BULK AT MOST 1048576: true; the input reads as it did. -/
def fnExactChangedItemsUptoRow : OpenClaim := { program := "ytldllhfadihmeaa", sum := "6defcbec31742809175942ed9b94d52f518a1c415e465172c98eb492a2a6608f", func := "loop.example/feedbridge/laws.FnExactChangedItems", spec := "fnExactChangedItems", apart := false, narrowed := true }
def FnExactChangedItemsUptoSaid : Prop := fnExactChangedItemsUptoRow.holds Try.pinned (OpenSpec.upto fnExactChangedItemsSpec)

/-- 'laws.FnNewItems', WHERE WHAT IT READS IS OF BULK AT MOST 1048576: true; the input reads as it did. -/
def fnNewItemsUptoRow : OpenClaim := { program := "ytldllhfadihmeaa", sum := "6defcbec31742809175942ed9b94d52f518a1c415e465172c98eb492a2a6608f", func := "loop.example/feedbridge/laws.FnNewItems", spec := "fnNewItems", apart := false, narrowed := true }
def FnNewItemsUptoSaid : Prop := fnNewItemsUptoRow.holds Try.pinned (OpenSpec.upto fnNewItemsSpec)

/-- 'laws.FnExactGoneKeys', WHERE WHAT IT READS IS OF BULK AT MOST 1048576: true; the input reads as it did. -/
def fnExactGoneKeysUptoRow : OpenClaim := { program := "ytldllhfadihmeaa", sum := "6defcbec31742809175942ed9b94d52f518a1c415e465172c98eb492a2a6608f", func := "loop.example/feedbridge/laws.FnExactGoneKeys", spec := "fnExactGoneKeys", apart := false, narrowed := true }
def FnExactGoneKeysUptoSaid : Prop := fnExactGoneKeysUptoRow.holds Try.pinned (OpenSpec.upto fnExactGoneKeysSpec)

/-- 'laws.FnChangedItems', WHERE WHAT IT READS IS OF BULK AT MOST 1048576: true; the input reads as it did. -/
def fnChangedItemsUptoRow : OpenClaim := { program := "ytldllhfadihmeaa", sum := "6defcbec31742809175942ed9b94d52f518a1c415e465172c98eb492a2a6608f", func := "loop.example/feedbridge/laws.FnChangedItems", spec := "fnChangedItems", apart := false, narrowed := true }
def FnChangedItemsUptoSaid : Prop := fnChangedItemsUptoRow.holds Try.pinned (OpenSpec.upto fnChangedItemsSpec)

end Rows
end Go.Proofs.Ytldllhfadihmeaa
