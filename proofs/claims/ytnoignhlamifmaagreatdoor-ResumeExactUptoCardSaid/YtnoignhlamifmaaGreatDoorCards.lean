/-
  DERIVED. GIVEN WITH THE SEED: THE CARDS: each row of YtnoignhlamifmaaGreatDoorRows.lean that lists a variable, with what it lists TIED to the program's text (the seventh form; the later family's looks); each row that meets fmt, with fmt's text TOLD by the authors' own Lean function (tested against real Go, not proved from fmt's source: count such statements apart). THE CARD IS WHAT COUNTS. Prove the row's statement (the work); the ties are given (YtnoignhlamifmaaGreatDoorTie.lean); close each card by the builder's one call (the guide's Derived/Test/ToyasCard.lean, 'card_holds'). Laid BY PROGRAM, IN A SANDBOX (cutbox-door.mjs). By AI agents, Wed Nov 11 2026. No macro, syntax, notation, axiom, sorry.
-/
import Derived.Test.YtnoignhlamifmaaGreatDoorRows
import GoSem.ClaimSeven
namespace Go.Proofs.YtnoignhlamifmaaGreatDoor
namespace Rows

/-- THE TIED CARD OF 'examboardlaw52.ResumeAgain'. -/
def resumeAgainCard : Claim7 := { stood := { row := resumeAgainRow, standIns := [], harness := (true, "a91276e78f4e617a4e7dfae086feabf64f7b52f25bb2a3571ef507fd2f214009"), looks := true }, kinds := [], alts := [], laidByText := true, laidKinds := [.data, .handle, .pinned], laidTests := true, laidLooks := .later }
def ResumeAgainCardSaid : Prop := Claim7.holds Tryz.pinned (.plain (OpenSpec.ofChange resumeAgainSpec)) resumeAgainCard

/-- THE TIED CARD OF 'examboardlaw52.ResumeExact'. -/
def resumeExactCard : Claim7 := { stood := { row := resumeExactRow, standIns := [], harness := (true, "a91276e78f4e617a4e7dfae086feabf64f7b52f25bb2a3571ef507fd2f214009"), looks := true }, kinds := [], alts := [], laidByText := true, laidKinds := [.data, .handle, .pinned], laidTests := true, laidLooks := .later }
def ResumeExactCardSaid : Prop := Claim7.holds Tryz.pinned (.plain (OpenSpec.ofChange resumeExactSpec)) resumeExactCard

/-- THE SECOND FORM's CARD OF 'examboardlaw52.ResumeAgain'. -/
def resumeAgainUptoCard : Claim7 := { stood := { row := resumeAgainUptoRow, standIns := [], harness := (true, "a91276e78f4e617a4e7dfae086feabf64f7b52f25bb2a3571ef507fd2f214009"), looks := true }, kinds := [], alts := [], laidByText := true, laidKinds := [.data, .handle, .pinned], laidTests := true, laidLooks := .later }
def ResumeAgainUptoCardSaid : Prop := Claim7.holds Tryz.pinned (.plain (OpenSpec.upto resumeAgainSpec)) resumeAgainUptoCard

/-- THE SECOND FORM's CARD OF 'examboardlaw52.ResumeExact'. -/
def resumeExactUptoCard : Claim7 := { stood := { row := resumeExactUptoRow, standIns := [], harness := (true, "a91276e78f4e617a4e7dfae086feabf64f7b52f25bb2a3571ef507fd2f214009"), looks := true }, kinds := [], alts := [], laidByText := true, laidKinds := [.data, .handle, .pinned], laidTests := true, laidLooks := .later }
def ResumeExactUptoCardSaid : Prop := Claim7.holds Tryz.pinned (.plain (OpenSpec.upto resumeExactSpec)) resumeExactUptoCard
end Rows
end Go.Proofs.YtnoignhlamifmaaGreatDoor
