/-
  DERIVED. GIVEN WITH THE SEED: THE CARDS: each row of YtnklkkagpkcmfaaGreatDoorRows.lean that lists a variable, with what it lists TIED to the program's text (the seventh form; the later family's looks); each row that meets fmt, with fmt's text TOLD by the authors' own Lean function (tested against real Go, not proved from fmt's source: count such statements apart). THE CARD IS WHAT COUNTS. Prove the row's statement (the work); the ties are given (YtnklkkagpkcmfaaGreatDoorTie.lean); close each card by the builder's one call (the guide's Derived/Test/ToyasCard.lean, 'card_holds'). Laid BY PROGRAM, IN A SANDBOX (cutbox-door.mjs). By AI agents, Wed Nov 11 2026. No macro, syntax, notation, axiom, sorry.
-/
import Derived.Test.YtnklkkagpkcmfaaGreatDoorRows
import GoSem.ClaimSeven
namespace Go.Proofs.YtnklkkagpkcmfaaGreatDoor
namespace Rows

/-- THE TIED CARD OF 'examboardlaw58.SimulateDraws'. -/
def simulateDrawsCard : Claim7 := { stood := { row := simulateDrawsRow, standIns := [], harness := (true, "d95cb937e2a168e3f30c62f3d187c5dbd2f975f0634b97db0ee6d4cf9fcff408"), looks := true }, kinds := [], alts := [], laidByText := true, laidKinds := [.pinned, .data, .handle], laidTests := true, laidLooks := .later }
def SimulateDrawsCardSaid : Prop := Claim7.holds Tryz.pinned (.plain (OpenSpec.ofChange simulateDrawsSpec)) simulateDrawsCard

/-- THE TIED CARD OF 'examboardlaw58.SimulateAnswers'. -/
def simulateAnswersCard : Claim7 := { stood := { row := simulateAnswersRow, standIns := [], harness := (true, "d95cb937e2a168e3f30c62f3d187c5dbd2f975f0634b97db0ee6d4cf9fcff408"), looks := true }, kinds := [], alts := [], laidByText := true, laidKinds := [.pinned, .data, .handle], laidTests := true, laidLooks := .later }
def SimulateAnswersCardSaid : Prop := Claim7.holds Tryz.pinned (.plain (OpenSpec.ofChange simulateAnswersSpec)) simulateAnswersCard

/-- THE SECOND FORM's CARD OF 'examboardlaw58.SimulateDraws'. -/
def simulateDrawsUptoCard : Claim7 := { stood := { row := simulateDrawsUptoRow, standIns := [], harness := (true, "d95cb937e2a168e3f30c62f3d187c5dbd2f975f0634b97db0ee6d4cf9fcff408"), looks := true }, kinds := [], alts := [], laidByText := true, laidKinds := [.pinned, .data, .handle], laidTests := true, laidLooks := .later }
def SimulateDrawsUptoCardSaid : Prop := Claim7.holds Tryz.pinned (.plain (OpenSpec.upto simulateDrawsSpec)) simulateDrawsUptoCard

/-- THE SECOND FORM's CARD OF 'examboardlaw58.SimulateAnswers'. -/
def simulateAnswersUptoCard : Claim7 := { stood := { row := simulateAnswersUptoRow, standIns := [], harness := (true, "d95cb937e2a168e3f30c62f3d187c5dbd2f975f0634b97db0ee6d4cf9fcff408"), looks := true }, kinds := [], alts := [], laidByText := true, laidKinds := [.pinned, .data, .handle], laidTests := true, laidLooks := .later }
def SimulateAnswersUptoCardSaid : Prop := Claim7.holds Tryz.pinned (.plain (OpenSpec.upto simulateAnswersSpec)) simulateAnswersUptoCard
end Rows
end Go.Proofs.YtnklkkagpkcmfaaGreatDoor
