/-
  DERIVED. GIVEN WITH THE SEED: THE CARDS: each row of YtldllhfadihmeaaDoorRows.lean that lists a variable, with what it lists TIED to the program's text (the seventh form; the later family's looks); each row that meets fmt, with fmt's text TOLD by the authors' own Lean function (tested against real Go, not proved from fmt's source: count such statements apart). THE CARD IS WHAT COUNTS. Prove the row's statement (the work); the ties are given (YtldllhfadihmeaaDoorTie.lean); close each card by the builder's one call (the guide's Derived/Test/ToyasCard.lean, 'card_holds'). Laid BY PROGRAM, IN A SANDBOX (cutbox-door.mjs). By AI agents, Wed Nov 11 2026. No macro, syntax, notation, axiom, sorry.
-/
import Derived.Test.YtldllhfadihmeaaDoorRows
import GoSem.ClaimSeven
namespace Go.Proofs.YtldllhfadihmeaaDoor
namespace Rows

/-- THE TIED CARD OF 'laws.FnExactReadFeed'. -/
def fnExactReadFeedCard : Claim7 := { stood := { row := fnExactReadFeedRow, standIns := [], harness := (true, "a0b85782d98a5fa6565d8a5fd2786bead10804490fd67fa2b95b510382bb24d9"), looks := false }, kinds := [], alts := [], laidByText := true, laidKinds := [.data], laidTests := true, laidLooks := .later }
def FnExactReadFeedCardSaid : Prop := Claim7.holds Tryd.pinned (.plain (OpenSpec.ofChange fnExactReadFeedSpec)) fnExactReadFeedCard

/-- THE TIED CARD OF 'laws.FnReadFeed'. -/
def fnReadFeedCard : Claim7 := { stood := { row := fnReadFeedRow, standIns := [], harness := (true, "a0b85782d98a5fa6565d8a5fd2786bead10804490fd67fa2b95b510382bb24d9"), looks := false }, kinds := [], alts := [], laidByText := true, laidKinds := [.data], laidTests := true, laidLooks := .later }
def FnReadFeedCardSaid : Prop := Claim7.holds Tryd.pinned (.plain (OpenSpec.ofChange fnReadFeedSpec)) fnReadFeedCard

/-- THE TIED CARD OF 'laws.FnExactItemText'. -/
def fnExactItemTextCard : Claim7 := { stood := { row := fnExactItemTextRow, standIns := [], harness := (true, "a0b85782d98a5fa6565d8a5fd2786bead10804490fd67fa2b95b510382bb24d9"), looks := false }, kinds := [], alts := [], laidByText := true, laidKinds := [.data], laidTests := true, laidLooks := .later }
def FnExactItemTextCardSaid : Prop := Claim7.holds Tryd.pinned (.plain (OpenSpec.ofChange fnExactItemTextSpec)) fnExactItemTextCard

/-- THE TIED CARD OF 'laws.FnExactFeedLines'. -/
def fnExactFeedLinesCard : Claim7 := { stood := { row := fnExactFeedLinesRow, standIns := [], harness := (true, "a0b85782d98a5fa6565d8a5fd2786bead10804490fd67fa2b95b510382bb24d9"), looks := false }, kinds := [], alts := [], laidByText := true, laidKinds := [.data], laidTests := true, laidLooks := .later }
def FnExactFeedLinesCardSaid : Prop := Claim7.holds Tryd.pinned (.plain (OpenSpec.ofChange fnExactFeedLinesSpec)) fnExactFeedLinesCard

/-- THE TIED CARD OF 'laws.FnItemText'. -/
def fnItemTextCard : Claim7 := { stood := { row := fnItemTextRow, standIns := [], harness := (true, "a0b85782d98a5fa6565d8a5fd2786bead10804490fd67fa2b95b510382bb24d9"), looks := false }, kinds := [], alts := [], laidByText := true, laidKinds := [.data], laidTests := true, laidLooks := .later }
def FnItemTextCardSaid : Prop := Claim7.holds Tryd.pinned (.plain (OpenSpec.ofChange fnItemTextSpec)) fnItemTextCard

/-- THE TIED CARD OF 'laws.FnExactReadItem'. -/
def fnExactReadItemCard : Claim7 := { stood := { row := fnExactReadItemRow, standIns := [], harness := (true, "a0b85782d98a5fa6565d8a5fd2786bead10804490fd67fa2b95b510382bb24d9"), looks := false }, kinds := [], alts := [], laidByText := true, laidKinds := [.data], laidTests := true, laidLooks := .later }
def FnExactReadItemCardSaid : Prop := Claim7.holds Tryd.pinned (.plain (OpenSpec.ofChange fnExactReadItemSpec)) fnExactReadItemCard

/-- THE TIED CARD OF 'laws.FnFeedLines'. -/
def fnFeedLinesCard : Claim7 := { stood := { row := fnFeedLinesRow, standIns := [], harness := (true, "a0b85782d98a5fa6565d8a5fd2786bead10804490fd67fa2b95b510382bb24d9"), looks := false }, kinds := [], alts := [], laidByText := true, laidKinds := [.data], laidTests := true, laidLooks := .later }
def FnFeedLinesCardSaid : Prop := Claim7.holds Tryd.pinned (.plain (OpenSpec.ofChange fnFeedLinesSpec)) fnFeedLinesCard

/-- THE TIED CARD OF 'laws.FnReadItem'. -/
def fnReadItemCard : Claim7 := { stood := { row := fnReadItemRow, standIns := [], harness := (true, "a0b85782d98a5fa6565d8a5fd2786bead10804490fd67fa2b95b510382bb24d9"), looks := false }, kinds := [], alts := [], laidByText := true, laidKinds := [.data], laidTests := true, laidLooks := .later }
def FnReadItemCardSaid : Prop := Claim7.holds Tryd.pinned (.plain (OpenSpec.ofChange fnReadItemSpec)) fnReadItemCard

/-- THE SECOND FORM's CARD OF 'laws.FnExactReadFeed'. -/
def fnExactReadFeedUptoCard : Claim7 := { stood := { row := fnExactReadFeedUptoRow, standIns := [], harness := (true, "a0b85782d98a5fa6565d8a5fd2786bead10804490fd67fa2b95b510382bb24d9"), looks := false }, kinds := [], alts := [], laidByText := true, laidKinds := [.data], laidTests := true, laidLooks := .later }
def FnExactReadFeedUptoCardSaid : Prop := Claim7.holds Tryd.pinned (.plain (OpenSpec.upto fnExactReadFeedSpec)) fnExactReadFeedUptoCard

/-- THE SECOND FORM's CARD OF 'laws.FnReadFeed'. -/
def fnReadFeedUptoCard : Claim7 := { stood := { row := fnReadFeedUptoRow, standIns := [], harness := (true, "a0b85782d98a5fa6565d8a5fd2786bead10804490fd67fa2b95b510382bb24d9"), looks := false }, kinds := [], alts := [], laidByText := true, laidKinds := [.data], laidTests := true, laidLooks := .later }
def FnReadFeedUptoCardSaid : Prop := Claim7.holds Tryd.pinned (.plain (OpenSpec.upto fnReadFeedSpec)) fnReadFeedUptoCard

/-- THE SECOND FORM's CARD OF 'laws.FnExactItemText'. -/
def fnExactItemTextUptoCard : Claim7 := { stood := { row := fnExactItemTextUptoRow, standIns := [], harness := (true, "a0b85782d98a5fa6565d8a5fd2786bead10804490fd67fa2b95b510382bb24d9"), looks := false }, kinds := [], alts := [], laidByText := true, laidKinds := [.data], laidTests := true, laidLooks := .later }
def FnExactItemTextUptoCardSaid : Prop := Claim7.holds Tryd.pinned (.plain (OpenSpec.upto fnExactItemTextSpec)) fnExactItemTextUptoCard

/-- THE SECOND FORM's CARD OF 'laws.FnExactFeedLines'. -/
def fnExactFeedLinesUptoCard : Claim7 := { stood := { row := fnExactFeedLinesUptoRow, standIns := [], harness := (true, "a0b85782d98a5fa6565d8a5fd2786bead10804490fd67fa2b95b510382bb24d9"), looks := false }, kinds := [], alts := [], laidByText := true, laidKinds := [.data], laidTests := true, laidLooks := .later }
def FnExactFeedLinesUptoCardSaid : Prop := Claim7.holds Tryd.pinned (.plain (OpenSpec.upto fnExactFeedLinesSpec)) fnExactFeedLinesUptoCard

/-- THE SECOND FORM's CARD OF 'laws.FnItemText'. -/
def fnItemTextUptoCard : Claim7 := { stood := { row := fnItemTextUptoRow, standIns := [], harness := (true, "a0b85782d98a5fa6565d8a5fd2786bead10804490fd67fa2b95b510382bb24d9"), looks := false }, kinds := [], alts := [], laidByText := true, laidKinds := [.data], laidTests := true, laidLooks := .later }
def FnItemTextUptoCardSaid : Prop := Claim7.holds Tryd.pinned (.plain (OpenSpec.upto fnItemTextSpec)) fnItemTextUptoCard

/-- THE SECOND FORM's CARD OF 'laws.FnExactReadItem'. -/
def fnExactReadItemUptoCard : Claim7 := { stood := { row := fnExactReadItemUptoRow, standIns := [], harness := (true, "a0b85782d98a5fa6565d8a5fd2786bead10804490fd67fa2b95b510382bb24d9"), looks := false }, kinds := [], alts := [], laidByText := true, laidKinds := [.data], laidTests := true, laidLooks := .later }
def FnExactReadItemUptoCardSaid : Prop := Claim7.holds Tryd.pinned (.plain (OpenSpec.upto fnExactReadItemSpec)) fnExactReadItemUptoCard

/-- THE SECOND FORM's CARD OF 'laws.FnFeedLines'. -/
def fnFeedLinesUptoCard : Claim7 := { stood := { row := fnFeedLinesUptoRow, standIns := [], harness := (true, "a0b85782d98a5fa6565d8a5fd2786bead10804490fd67fa2b95b510382bb24d9"), looks := false }, kinds := [], alts := [], laidByText := true, laidKinds := [.data], laidTests := true, laidLooks := .later }
def FnFeedLinesUptoCardSaid : Prop := Claim7.holds Tryd.pinned (.plain (OpenSpec.upto fnFeedLinesSpec)) fnFeedLinesUptoCard

/-- THE SECOND FORM's CARD OF 'laws.FnReadItem'. -/
def fnReadItemUptoCard : Claim7 := { stood := { row := fnReadItemUptoRow, standIns := [], harness := (true, "a0b85782d98a5fa6565d8a5fd2786bead10804490fd67fa2b95b510382bb24d9"), looks := false }, kinds := [], alts := [], laidByText := true, laidKinds := [.data], laidTests := true, laidLooks := .later }
def FnReadItemUptoCardSaid : Prop := Claim7.holds Tryd.pinned (.plain (OpenSpec.upto fnReadItemSpec)) fnReadItemUptoCard
end Rows
end Go.Proofs.YtldllhfadihmeaaDoor
