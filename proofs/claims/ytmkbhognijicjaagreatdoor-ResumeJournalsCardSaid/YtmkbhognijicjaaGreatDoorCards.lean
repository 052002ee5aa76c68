/-
  DERIVED. GIVEN WITH THE SEED: THE CARDS: each row of YtmkbhognijicjaaGreatDoorRows.lean that lists a variable, with what it lists TIED to the program's text (the seventh form; the later family's looks); each row that meets fmt, with fmt's text TOLD by the authors' own Lean function (tested against real Go, not proved from fmt's source: count such statements apart). THE CARD IS WHAT COUNTS. Prove the row's statement (the work); the ties are given (YtmkbhognijicjaaGreatDoorTie.lean); close each card by the builder's one call (the guide's Derived/Test/ToyasCard.lean, 'card_holds'). Laid BY PROGRAM, IN A SANDBOX (cutbox-door.mjs). By AI agents, Wed Nov 11 2026. No macro, syntax, notation, axiom, sorry.
-/
import Derived.Test.YtmkbhognijicjaaGreatDoorRows
import GoSem.ClaimSeven
namespace Go.Proofs.YtmkbhognijicjaaGreatDoor
namespace Rows

/-- THE TIED CARD OF 'examboardlaw52.ResumeJournals'. -/
def resumeJournalsCard : Claim7 := { stood := { row := resumeJournalsRow, standIns := [], harness := (true, "db97320ef596893e4ba84a1da9b13e39f5e763b7e7251a2c14e771c77d0fe19b"), looks := true }, kinds := [], alts := [], laidByText := true, laidKinds := [.handle], laidTests := true, laidLooks := .later }
def ResumeJournalsCardSaid : Prop := Claim7.holds Tryz.pinned (.plain (OpenSpec.ofChange resumeJournalsSpec)) resumeJournalsCard

/-- THE SECOND FORM's CARD OF 'examboardlaw52.ResumeJournals'. -/
def resumeJournalsUptoCard : Claim7 := { stood := { row := resumeJournalsUptoRow, standIns := [], harness := (true, "db97320ef596893e4ba84a1da9b13e39f5e763b7e7251a2c14e771c77d0fe19b"), looks := true }, kinds := [], alts := [], laidByText := true, laidKinds := [.handle], laidTests := true, laidLooks := .later }
def ResumeJournalsUptoCardSaid : Prop := Claim7.holds Tryz.pinned (.plain (OpenSpec.upto resumeJournalsSpec)) resumeJournalsUptoCard
end Rows
end Go.Proofs.YtmkbhognijicjaaGreatDoor
