/-
  DERIVED. GIVEN WITH THE SEED: THE CARDS: each row of YtmkbhognijicjaaDoorRows.lean that lists a variable, with what it lists TIED to the program's text (the seventh form; the later family's looks); each row that meets fmt, with fmt's text TOLD by the authors' own Lean function (tested against real Go, not proved from fmt's source: count such statements apart). THE CARD IS WHAT COUNTS. Prove the row's statement (the work); the ties are given (YtmkbhognijicjaaDoorTie.lean); close each card by the builder's one call (the guide's Derived/Test/ToyasCard.lean, 'card_holds'). Laid BY PROGRAM, IN A SANDBOX (cutbox-door.mjs). By AI agents, Wed Nov 11 2026. No macro, syntax, notation, axiom, sorry.
-/
import Derived.Test.YtmkbhognijicjaaDoorRows
import GoSem.ClaimSeven
namespace Go.Proofs.YtmkbhognijicjaaDoor
namespace Rows

/-- THE TIED CARD OF 'examboardlaw52.ResumeJoins'. -/
def resumeJoinsCard : Claim7 := { stood := { row := resumeJoinsRow, standIns := [], harness := (true, "2d8b6cf4fd30fcf14a83446d3cee2f02ad3c2e8cc2a076fbcd8c8aae073d22b4"), looks := true }, kinds := [], alts := [], laidByText := true, laidKinds := [.handle], laidTests := true, laidLooks := .later }
def ResumeJoinsCardSaid : Prop := Claim7.holds Tryd.pinned (.plain (OpenSpec.ofChange resumeJoinsSpec)) resumeJoinsCard

/-- THE SECOND FORM's CARD OF 'examboardlaw52.ResumeJoins'. -/
def resumeJoinsUptoCard : Claim7 := { stood := { row := resumeJoinsUptoRow, standIns := [], harness := (true, "2d8b6cf4fd30fcf14a83446d3cee2f02ad3c2e8cc2a076fbcd8c8aae073d22b4"), looks := true }, kinds := [], alts := [], laidByText := true, laidKinds := [.handle], laidTests := true, laidLooks := .later }
def ResumeJoinsUptoCardSaid : Prop := Claim7.holds Tryd.pinned (.plain (OpenSpec.upto resumeJoinsSpec)) resumeJoinsUptoCard
end Rows
end Go.Proofs.YtmkbhognijicjaaDoor
