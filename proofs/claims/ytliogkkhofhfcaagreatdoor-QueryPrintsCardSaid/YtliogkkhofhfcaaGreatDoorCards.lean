/-
  DERIVED. GIVEN WITH THE SEED: THE CARDS: each row of YtliogkkhofhfcaaGreatDoorRows.lean that lists a variable, with what it lists TIED to the program's text (the seventh form; the later family's looks); each row that meets fmt, with fmt's text TOLD by the authors' own Lean function (tested against real Go, not proved from fmt's source: count such statements apart). THE CARD IS WHAT COUNTS. Prove the row's statement (the work); the ties are given (YtliogkkhofhfcaaGreatDoorTie.lean); close each card by the builder's one call (the guide's Derived/Test/ToyasCard.lean, 'card_holds'). Laid BY PROGRAM, IN A SANDBOX (cutbox-door.mjs). By AI agents, Wed Nov 11 2026. No macro, syntax, notation, axiom, sorry.
-/
import Derived.Test.YtliogkkhofhfcaaGreatDoorRows
import GoSem.ClaimSeven
namespace Go.Proofs.YtliogkkhofhfcaaGreatDoor
namespace Rows

/-- THE TIED CARD OF 'examboardlaw21.QueryPrints'. -/
def queryPrintsCard : Claim7 := { stood := { row := queryPrintsRow, standIns := [], harness := (true, "0c1c94002a1d5d20b555afebb2d006a45d79f9b7936844fbe7e35641324f1495"), looks := false }, kinds := [], alts := [], laidByText := true, laidKinds := [.data, .data, .data], laidTests := true, laidLooks := .later }
def QueryPrintsCardSaid : Prop := Claim7.holds Tryz.pinned (.plain (OpenSpec.ofChange queryPrintsSpec)) queryPrintsCard

/-- THE TIED CARD OF 'examboardlaw21.QueryRoundTrip'. -/
def queryRoundTripCard : Claim7 := { stood := { row := queryRoundTripRow, standIns := [], harness := (true, "0c1c94002a1d5d20b555afebb2d006a45d79f9b7936844fbe7e35641324f1495"), looks := false }, kinds := [], alts := [], laidByText := true, laidKinds := [.data, .data, .data], laidTests := true, laidLooks := .later }
def QueryRoundTripCardSaid : Prop := Claim7.holds Tryz.pinned (.plain (OpenSpec.ofChange queryRoundTripSpec)) queryRoundTripCard

/-- THE TIED CARD OF 'examboardlaw21.QueryBoolean'. -/
def queryBooleanCard : Claim7 := { stood := { row := queryBooleanRow, standIns := [], harness := (true, "0c1c94002a1d5d20b555afebb2d006a45d79f9b7936844fbe7e35641324f1495"), looks := false }, kinds := [], alts := [], laidByText := true, laidKinds := [.data, .data, .data], laidTests := true, laidLooks := .later }
def QueryBooleanCardSaid : Prop := Claim7.holds Tryz.pinned (.plain (OpenSpec.ofChange queryBooleanSpec)) queryBooleanCard

/-- THE TIED CARD OF 'examboardlaw21.QuerySets'. -/
def querySetsCard : Claim7 := { stood := { row := querySetsRow, standIns := [], harness := (true, "0c1c94002a1d5d20b555afebb2d006a45d79f9b7936844fbe7e35641324f1495"), looks := false }, kinds := [], alts := [], laidByText := true, laidKinds := [.data, .data, .data], laidTests := true, laidLooks := .later }
def QuerySetsCardSaid : Prop := Claim7.holds Tryz.pinned (.plain (OpenSpec.ofChange querySetsSpec)) querySetsCard

/-- THE TIED CARD OF 'examboardlaw21.QueryBlanks'. -/
def queryBlanksCard : Claim7 := { stood := { row := queryBlanksRow, standIns := [], harness := (true, "0c1c94002a1d5d20b555afebb2d006a45d79f9b7936844fbe7e35641324f1495"), looks := false }, kinds := [], alts := [], laidByText := true, laidKinds := [.data, .data, .data], laidTests := true, laidLooks := .later }
def QueryBlanksCardSaid : Prop := Claim7.holds Tryz.pinned (.plain (OpenSpec.ofChange queryBlanksSpec)) queryBlanksCard

/-- THE SECOND FORM's CARD OF 'examboardlaw21.QueryPrints'. -/
def queryPrintsUptoCard : Claim7 := { stood := { row := queryPrintsUptoRow, standIns := [], harness := (true, "0c1c94002a1d5d20b555afebb2d006a45d79f9b7936844fbe7e35641324f1495"), looks := false }, kinds := [], alts := [], laidByText := true, laidKinds := [.data, .data, .data], laidTests := true, laidLooks := .later }
def QueryPrintsUptoCardSaid : Prop := Claim7.holds Tryz.pinned (.plain (OpenSpec.upto queryPrintsSpec)) queryPrintsUptoCard

/-- THE SECOND FORM's CARD OF 'examboardlaw21.QueryRoundTrip'. -/
def queryRoundTripUptoCard : Claim7 := { stood := { row := queryRoundTripUptoRow, standIns := [], harness := (true, "0c1c94002a1d5d20b555afebb2d006a45d79f9b7936844fbe7e35641324f1495"), looks := false }, kinds := [], alts := [], laidByText := true, laidKinds := [.data, .data, .data], laidTests := true, laidLooks := .later }
def QueryRoundTripUptoCardSaid : Prop := Claim7.holds Tryz.pinned (.plain (OpenSpec.upto queryRoundTripSpec)) queryRoundTripUptoCard

/-- THE SECOND FORM's CARD OF 'examboardlaw21.QueryBoolean'. -/
def queryBooleanUptoCard : Claim7 := { stood := { row := queryBooleanUptoRow, standIns := [], harness := (true, "0c1c94002a1d5d20b555afebb2d006a45d79f9b7936844fbe7e35641324f1495"), looks := false }, kinds := [], alts := [], laidByText := true, laidKinds := [.data, .data, .data], laidTests := true, laidLooks := .later }
def QueryBooleanUptoCardSaid : Prop := Claim7.holds Tryz.pinned (.plain (OpenSpec.upto queryBooleanSpec)) queryBooleanUptoCard

/-- THE SECOND FORM's CARD OF 'examboardlaw21.QuerySets'. -/
def querySetsUptoCard : Claim7 := { stood := { row := querySetsUptoRow, standIns := [], harness := (true, "0c1c94002a1d5d20b555afebb2d006a45d79f9b7936844fbe7e35641324f1495"), looks := false }, kinds := [], alts := [], laidByText := true, laidKinds := [.data, .data, .data], laidTests := true, laidLooks := .later }
def QuerySetsUptoCardSaid : Prop := Claim7.holds Tryz.pinned (.plain (OpenSpec.upto querySetsSpec)) querySetsUptoCard

/-- THE SECOND FORM's CARD OF 'examboardlaw21.QueryBlanks'. -/
def queryBlanksUptoCard : Claim7 := { stood := { row := queryBlanksUptoRow, standIns := [], harness := (true, "0c1c94002a1d5d20b555afebb2d006a45d79f9b7936844fbe7e35641324f1495"), looks := false }, kinds := [], alts := [], laidByText := true, laidKinds := [.data, .data, .data], laidTests := true, laidLooks := .later }
def QueryBlanksUptoCardSaid : Prop := Claim7.holds Tryz.pinned (.plain (OpenSpec.upto queryBlanksSpec)) queryBlanksUptoCard
end Rows
end Go.Proofs.YtliogkkhofhfcaaGreatDoor
