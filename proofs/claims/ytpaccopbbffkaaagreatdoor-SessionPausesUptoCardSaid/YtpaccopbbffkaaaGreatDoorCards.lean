/-
  DERIVED. GIVEN WITH THE SEED: THE CARDS: each row of YtpaccopbbffkaaaGreatDoorRows.lean that lists a variable, with what it lists TIED to the program's text (the seventh form; the later family's looks); each row that meets fmt, with fmt's text TOLD by the authors' own Lean function (tested against real Go, not proved from fmt's source: count such statements apart). THE CARD IS WHAT COUNTS. Prove the row's statement (the work); the ties are given (YtpaccopbbffkaaaGreatDoorTie.lean); close each card by the builder's one call (the guide's Derived/Test/ToyasCard.lean, 'card_holds'). Laid BY PROGRAM, IN A SANDBOX (cutbox-door.mjs). By AI agents, Wed Nov 11 2026. No macro, syntax, notation, axiom, sorry.
-/
import Derived.Test.YtpaccopbbffkaaaGreatDoorRows
import GoSem.ClaimSeven
namespace Go.Proofs.YtpaccopbbffkaaaGreatDoor
namespace Rows

/-- THE TIED CARD OF 'examboardlaw51.SessionAnswers'. -/
def sessionAnswersCard : Claim7 := { stood := { row := sessionAnswersRow, standIns := [], harness := (true, "e62a4119ade72470a0b8df3e1690f2a89a139afbbe1e5bd2afdd3d63f79e2260"), looks := false }, kinds := [], alts := [], laidByText := true, laidKinds := [.data, .pinned], laidTests := true, laidLooks := .later }
def SessionAnswersCardSaid : Prop := Claim7.holds Tryz.pinned (.plain (OpenSpec.ofChange sessionAnswersSpec)) sessionAnswersCard

/-- THE TIED CARD OF 'examboardlaw51.SessionPauses'. -/
def sessionPausesCard : Claim7 := { stood := { row := sessionPausesRow, standIns := [], harness := (true, "e62a4119ade72470a0b8df3e1690f2a89a139afbbe1e5bd2afdd3d63f79e2260"), looks := false }, kinds := [], alts := [], laidByText := true, laidKinds := [.data, .pinned], laidTests := true, laidLooks := .later }
def SessionPausesCardSaid : Prop := Claim7.holds Tryz.pinned (.plain (OpenSpec.ofChange sessionPausesSpec)) sessionPausesCard

/-- THE TIED CARD OF 'examboardlaw51.SessionEnds'. -/
def sessionEndsCard : Claim7 := { stood := { row := sessionEndsRow, standIns := [], harness := (true, "e62a4119ade72470a0b8df3e1690f2a89a139afbbe1e5bd2afdd3d63f79e2260"), looks := false }, kinds := [], alts := [], laidByText := true, laidKinds := [.data, .pinned], laidTests := true, laidLooks := .later }
def SessionEndsCardSaid : Prop := Claim7.holds Tryz.pinned (.plain (OpenSpec.ofChange sessionEndsSpec)) sessionEndsCard

/-- THE TIED CARD OF 'examboardlaw51.SessionTime'. -/
def sessionTimeCard : Claim7 := { stood := { row := sessionTimeRow, standIns := [], harness := (true, "e62a4119ade72470a0b8df3e1690f2a89a139afbbe1e5bd2afdd3d63f79e2260"), looks := false }, kinds := [], alts := [], laidByText := true, laidKinds := [.data, .pinned], laidTests := true, laidLooks := .later }
def SessionTimeCardSaid : Prop := Claim7.holds Tryz.pinned (.plain (OpenSpec.ofChange sessionTimeSpec)) sessionTimeCard

/-- THE SECOND FORM's CARD OF 'examboardlaw51.SessionAnswers'. -/
def sessionAnswersUptoCard : Claim7 := { stood := { row := sessionAnswersUptoRow, standIns := [], harness := (true, "e62a4119ade72470a0b8df3e1690f2a89a139afbbe1e5bd2afdd3d63f79e2260"), looks := false }, kinds := [], alts := [], laidByText := true, laidKinds := [.data, .pinned], laidTests := true, laidLooks := .later }
def SessionAnswersUptoCardSaid : Prop := Claim7.holds Tryz.pinned (.plain (OpenSpec.upto sessionAnswersSpec)) sessionAnswersUptoCard

/-- THE SECOND FORM's CARD OF 'examboardlaw51.SessionPauses'. -/
def sessionPausesUptoCard : Claim7 := { stood := { row := sessionPausesUptoRow, standIns := [], harness := (true, "e62a4119ade72470a0b8df3e1690f2a89a139afbbe1e5bd2afdd3d63f79e2260"), looks := false }, kinds := [], alts := [], laidByText := true, laidKinds := [.data, .pinned], laidTests := true, laidLooks := .later }
def SessionPausesUptoCardSaid : Prop := Claim7.holds Tryz.pinned (.plain (OpenSpec.upto sessionPausesSpec)) sessionPausesUptoCard

/-- THE SECOND FORM's CARD OF 'examboardlaw51.SessionEnds'. -/
def sessionEndsUptoCard : Claim7 := { stood := { row := sessionEndsUptoRow, standIns := [], harness := (true, "e62a4119ade72470a0b8df3e1690f2a89a139afbbe1e5bd2afdd3d63f79e2260"), looks := false }, kinds := [], alts := [], laidByText := true, laidKinds := [.data, .pinned], laidTests := true, laidLooks := .later }
def SessionEndsUptoCardSaid : Prop := Claim7.holds Tryz.pinned (.plain (OpenSpec.upto sessionEndsSpec)) sessionEndsUptoCard

/-- THE SECOND FORM's CARD OF 'examboardlaw51.SessionTime'. -/
def sessionTimeUptoCard : Claim7 := { stood := { row := sessionTimeUptoRow, standIns := [], harness := (true, "e62a4119ade72470a0b8df3e1690f2a89a139afbbe1e5bd2afdd3d63f79e2260"), looks := false }, kinds := [], alts := [], laidByText := true, laidKinds := [.data, .pinned], laidTests := true, laidLooks := .later }
def SessionTimeUptoCardSaid : Prop := Claim7.holds Tryz.pinned (.plain (OpenSpec.upto sessionTimeSpec)) sessionTimeUptoCard
end Rows
end Go.Proofs.YtpaccopbbffkaaaGreatDoor
