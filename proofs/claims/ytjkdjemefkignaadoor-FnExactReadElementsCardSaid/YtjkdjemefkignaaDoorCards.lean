/-
  DERIVED. GIVEN WITH THE SEED: THE CARDS: each row of YtjkdjemefkignaaDoorRows.lean that lists a variable, with what it lists TIED to the program's text (the seventh form; the later family's looks); each row that meets fmt, with fmt's text TOLD by the authors' own Lean function (tested against real Go, not proved from fmt's source: count such statements apart). THE CARD IS WHAT COUNTS. Prove the row's statement (the work); the ties are given (YtjkdjemefkignaaDoorTie.lean); close each card by the builder's one call (the guide's Derived/Test/ToyasCard.lean, 'card_holds'). Laid BY PROGRAM, IN A SANDBOX (cutbox-door.mjs). By AI agents, Wed Nov 11 2026. No macro, syntax, notation, axiom, sorry.
-/
import Derived.Test.YtjkdjemefkignaaDoorRows
import GoSem.ClaimSeven
namespace Go.Proofs.YtjkdjemefkignaaDoor
namespace Rows

/-- THE TIED CARD OF 'laws.FnExactEscapeText'. -/
def fnExactEscapeTextCard : Claim7 := { stood := { row := fnExactEscapeTextRow, standIns := [], harness := (true, "38ae1fd3058d338cd00973bab19171ca7071facf2add3c0a80321a30e84a3af1"), looks := false }, kinds := [], alts := [], laidByText := true, laidKinds := [.data], laidTests := true, laidLooks := .later }
def FnExactEscapeTextCardSaid : Prop := Claim7.holds Tryd.pinned (.plain (OpenSpec.ofChange fnExactEscapeTextSpec)) fnExactEscapeTextCard

/-- THE TIED CARD OF 'laws.FnExactUnescapeText'. -/
def fnExactUnescapeTextCard : Claim7 := { stood := { row := fnExactUnescapeTextRow, standIns := [], harness := (true, "38ae1fd3058d338cd00973bab19171ca7071facf2add3c0a80321a30e84a3af1"), looks := false }, kinds := [], alts := [], laidByText := true, laidKinds := [.data], laidTests := true, laidLooks := .later }
def FnExactUnescapeTextCardSaid : Prop := Claim7.holds Tryd.pinned (.plain (OpenSpec.ofChange fnExactUnescapeTextSpec)) fnExactUnescapeTextCard

/-- THE TIED CARD OF 'laws.FnEscapeText'. -/
def fnEscapeTextCard : Claim7 := { stood := { row := fnEscapeTextRow, standIns := [], harness := (true, "38ae1fd3058d338cd00973bab19171ca7071facf2add3c0a80321a30e84a3af1"), looks := false }, kinds := [], alts := [], laidByText := true, laidKinds := [.data], laidTests := true, laidLooks := .later }
def FnEscapeTextCardSaid : Prop := Claim7.holds Tryd.pinned (.plain (OpenSpec.ofChange fnEscapeTextSpec)) fnEscapeTextCard

/-- THE TIED CARD OF 'laws.FnUnescapeText'. -/
def fnUnescapeTextCard : Claim7 := { stood := { row := fnUnescapeTextRow, standIns := [], harness := (true, "38ae1fd3058d338cd00973bab19171ca7071facf2add3c0a80321a30e84a3af1"), looks := false }, kinds := [], alts := [], laidByText := true, laidKinds := [.data], laidTests := true, laidLooks := .later }
def FnUnescapeTextCardSaid : Prop := Claim7.holds Tryd.pinned (.plain (OpenSpec.ofChange fnUnescapeTextSpec)) fnUnescapeTextCard

/-- THE TIED CARD OF 'laws.FnExactElementsText'. -/
def fnExactElementsTextCard : Claim7 := { stood := { row := fnExactElementsTextRow, standIns := [], harness := (true, "38ae1fd3058d338cd00973bab19171ca7071facf2add3c0a80321a30e84a3af1"), looks := false }, kinds := [], alts := [], laidByText := true, laidKinds := [.data], laidTests := true, laidLooks := .later }
def FnExactElementsTextCardSaid : Prop := Claim7.holds Tryd.pinned (.plain (OpenSpec.ofChange fnExactElementsTextSpec)) fnExactElementsTextCard

/-- THE TIED CARD OF 'laws.FnExactReadElements'. -/
def fnExactReadElementsCard : Claim7 := { stood := { row := fnExactReadElementsRow, standIns := [], harness := (true, "38ae1fd3058d338cd00973bab19171ca7071facf2add3c0a80321a30e84a3af1"), looks := false }, kinds := [], alts := [], laidByText := true, laidKinds := [.data], laidTests := true, laidLooks := .later }
def FnExactReadElementsCardSaid : Prop := Claim7.holds Tryd.pinned (.plain (OpenSpec.ofChange fnExactReadElementsSpec)) fnExactReadElementsCard

/-- THE TIED CARD OF 'laws.FnElementsText'. -/
def fnElementsTextCard : Claim7 := { stood := { row := fnElementsTextRow, standIns := [], harness := (true, "38ae1fd3058d338cd00973bab19171ca7071facf2add3c0a80321a30e84a3af1"), looks := false }, kinds := [], alts := [], laidByText := true, laidKinds := [.data], laidTests := true, laidLooks := .later }
def FnElementsTextCardSaid : Prop := Claim7.holds Tryd.pinned (.plain (OpenSpec.ofChange fnElementsTextSpec)) fnElementsTextCard

/-- THE TIED CARD OF 'laws.FnReadElements'. -/
def fnReadElementsCard : Claim7 := { stood := { row := fnReadElementsRow, standIns := [], harness := (true, "38ae1fd3058d338cd00973bab19171ca7071facf2add3c0a80321a30e84a3af1"), looks := false }, kinds := [], alts := [], laidByText := true, laidKinds := [.data], laidTests := true, laidLooks := .later }
def FnReadElementsCardSaid : Prop := Claim7.holds Tryd.pinned (.plain (OpenSpec.ofChange fnReadElementsSpec)) fnReadElementsCard

/-- THE SECOND FORM's CARD OF 'laws.FnExactEscapeText'. -/
def fnExactEscapeTextUptoCard : Claim7 := { stood := { row := fnExactEscapeTextUptoRow, standIns := [], harness := (true, "38ae1fd3058d338cd00973bab19171ca7071facf2add3c0a80321a30e84a3af1"), looks := false }, kinds := [], alts := [], laidByText := true, laidKinds := [.data], laidTests := true, laidLooks := .later }
def FnExactEscapeTextUptoCardSaid : Prop := Claim7.holds Tryd.pinned (.plain (OpenSpec.upto fnExactEscapeTextSpec)) fnExactEscapeTextUptoCard

/-- THE SECOND FORM's CARD OF 'laws.FnExactUnescapeText'. -/
def fnExactUnescapeTextUptoCard : Claim7 := { stood := { row := fnExactUnescapeTextUptoRow, standIns := [], harness := (true, "38ae1fd3058d338cd00973bab19171ca7071facf2add3c0a80321a30e84a3af1"), looks := false }, kinds := [], alts := [], laidByText := true, laidKinds := [.data], laidTests := true, laidLooks := .later }
def FnExactUnescapeTextUptoCardSaid : Prop := Claim7.holds Tryd.pinned (.plain (OpenSpec.upto fnExactUnescapeTextSpec)) fnExactUnescapeTextUptoCard

/-- THE SECOND FORM's CARD OF 'laws.FnEscapeText'. -/
def fnEscapeTextUptoCard : Claim7 := { stood := { row := fnEscapeTextUptoRow, standIns := [], harness := (true, "38ae1fd3058d338cd00973bab19171ca7071facf2add3c0a80321a30e84a3af1"), looks := false }, kinds := [], alts := [], laidByText := true, laidKinds := [.data], laidTests := true, laidLooks := .later }
def FnEscapeTextUptoCardSaid : Prop := Claim7.holds Tryd.pinned (.plain (OpenSpec.upto fnEscapeTextSpec)) fnEscapeTextUptoCard

/-- THE SECOND FORM's CARD OF 'laws.FnUnescapeText'. -/
def fnUnescapeTextUptoCard : Claim7 := { stood := { row := fnUnescapeTextUptoRow, standIns := [], harness := (true, "38ae1fd3058d338cd00973bab19171ca7071facf2add3c0a80321a30e84a3af1"), looks := false }, kinds := [], alts := [], laidByText := true, laidKinds := [.data], laidTests := true, laidLooks := .later }
def FnUnescapeTextUptoCardSaid : Prop := Claim7.holds Tryd.pinned (.plain (OpenSpec.upto fnUnescapeTextSpec)) fnUnescapeTextUptoCard

/-- THE SECOND FORM's CARD OF 'laws.FnExactElementsText'. -/
def fnExactElementsTextUptoCard : Claim7 := { stood := { row := fnExactElementsTextUptoRow, standIns := [], harness := (true, "38ae1fd3058d338cd00973bab19171ca7071facf2add3c0a80321a30e84a3af1"), looks := false }, kinds := [], alts := [], laidByText := true, laidKinds := [.data], laidTests := true, laidLooks := .later }
def FnExactElementsTextUptoCardSaid : Prop := Claim7.holds Tryd.pinned (.plain (OpenSpec.upto fnExactElementsTextSpec)) fnExactElementsTextUptoCard

/-- THE SECOND FORM's CARD OF 'laws.FnExactReadElements'. -/
def fnExactReadElementsUptoCard : Claim7 := { stood := { row := fnExactReadElementsUptoRow, standIns := [], harness := (true, "38ae1fd3058d338cd00973bab19171ca7071facf2add3c0a80321a30e84a3af1"), looks := false }, kinds := [], alts := [], laidByText := true, laidKinds := [.data], laidTests := true, laidLooks := .later }
def FnExactReadElementsUptoCardSaid : Prop := Claim7.holds Tryd.pinned (.plain (OpenSpec.upto fnExactReadElementsSpec)) fnExactReadElementsUptoCard

/-- THE SECOND FORM's CARD OF 'laws.FnElementsText'. -/
def fnElementsTextUptoCard : Claim7 := { stood := { row := fnElementsTextUptoRow, standIns := [], harness := (true, "38ae1fd3058d338cd00973bab19171ca7071facf2add3c0a80321a30e84a3af1"), looks := false }, kinds := [], alts := [], laidByText := true, laidKinds := [.data], laidTests := true, laidLooks := .later }
def FnElementsTextUptoCardSaid : Prop := Claim7.holds Tryd.pinned (.plain (OpenSpec.upto fnElementsTextSpec)) fnElementsTextUptoCard

/-- THE SECOND FORM's CARD OF 'laws.FnReadElements'. -/
def fnReadElementsUptoCard : Claim7 := { stood := { row := fnReadElementsUptoRow, standIns := [], harness := (true, "38ae1fd3058d338cd00973bab19171ca7071facf2add3c0a80321a30e84a3af1"), looks := false }, kinds := [], alts := [], laidByText := true, laidKinds := [.data], laidTests := true, laidLooks := .later }
def FnReadElementsUptoCardSaid : Prop := Claim7.holds Tryd.pinned (.plain (OpenSpec.upto fnReadElementsSpec)) fnReadElementsUptoCard
end Rows
end Go.Proofs.YtjkdjemefkignaaDoor
