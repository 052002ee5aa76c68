import Derived.Test.YtnklkkagpkcmfaaGreatDoorCards
import Derived.SevenTiedAt
import Derived.LaidByTextLater
set_option linter.all false
set_option maxRecDepth 10000
namespace Go.Proofs.YtnklkkagpkcmfaaGreatDoor
open Go
theorem jA0 : (Rows.simulateAnswersUptoRow.wf (OpenSpec.ofChange (Rows.OpenSpec.upto Rows.simulateAnswersSpec).bare)) = true := by kernel_rfl
end Go.Proofs.YtnklkkagpkcmfaaGreatDoor

set_option maxRecDepth 10000
namespace Go.Proofs.YtnklkkagpkcmfaaGreatDoor
open Go
theorem jA3 : (Tryz.f4.params.all (Tryz.prog.readableRec ·)) = true := by kernel_rfl
end Go.Proofs.YtnklkkagpkcmfaaGreatDoor

set_option maxRecDepth 10000
namespace Go.Proofs.YtnklkkagpkcmfaaGreatDoor
open Go
theorem jA4 : (namedTie Tryz.prog Rows.simulateAnswersUptoRow.named (Rows.OpenSpec.upto Rows.simulateAnswersSpec).bare.vars) = true := by kernel_rfl
end Go.Proofs.YtnklkkagpkcmfaaGreatDoor

set_option maxRecDepth 10000
namespace Go.Proofs.YtnklkkagpkcmfaaGreatDoor
open Go
theorem jA5 : ((Rows.simulateAnswersUptoRow.stops == [])) = true := by kernel_rfl
end Go.Proofs.YtnklkkagpkcmfaaGreatDoor

set_option maxRecDepth 10000
namespace Go.Proofs.YtnklkkagpkcmfaaGreatDoor
open Go
theorem jA6 : ((Tryz.prog.stops == [])) = true := by kernel_rfl
end Go.Proofs.YtnklkkagpkcmfaaGreatDoor

set_option maxRecDepth 10000
namespace Go.Proofs.YtnklkkagpkcmfaaGreatDoor
open Go
theorem jA7 : ((Rows.simulateAnswersUptoRow.knobs == [])) = true := by kernel_rfl
end Go.Proofs.YtnklkkagpkcmfaaGreatDoor

set_option maxRecDepth 10000
namespace Go.Proofs.YtnklkkagpkcmfaaGreatDoor
open Go
theorem jA8 : ((Tryz.prog.stopKnobs == [])) = true := by kernel_rfl
end Go.Proofs.YtnklkkagpkcmfaaGreatDoor

set_option maxRecDepth 10000
namespace Go.Proofs.YtnklkkagpkcmfaaGreatDoor
open Go
theorem jA13 : ((Rows.simulateAnswersUptoRow.maps == (Tryz.f4.params.toList ++ (Rows.OpenSpec.upto Rows.simulateAnswersSpec).bare.plain.varTypes Tryz.prog).any (Tryz.prog.mapsRec ·))) = true := by kernel_rfl
end Go.Proofs.YtnklkkagpkcmfaaGreatDoor

set_option maxRecDepth 10000
namespace Go.Proofs.YtnklkkagpkcmfaaGreatDoor
open Go
theorem jA14 : ((Rows.simulateAnswersUptoRow.ifaces == (Tryz.f4.params.toList ++ (Rows.OpenSpec.upto Rows.simulateAnswersSpec).bare.plain.varTypes Tryz.prog).any (Tryz.prog.ifacesRec ·))) = true := by kernel_rfl
end Go.Proofs.YtnklkkagpkcmfaaGreatDoor

set_option maxRecDepth 10000
namespace Go.Proofs.YtnklkkagpkcmfaaGreatDoor
open Go
theorem jA15 : ((Rows.simulateAnswersUptoRow.mapsOut == Tryz.prog.mapsAmong Tryz.f4.resultTypes.toList)) = true := by kernel_rfl
end Go.Proofs.YtnklkkagpkcmfaaGreatDoor

set_option maxRecDepth 10000
namespace Go.Proofs.YtnklkkagpkcmfaaGreatDoor
open Go
theorem jA16 : ((Rows.simulateAnswersUptoRow.loops == (Tryz.f4.params.toList ++ (Rows.OpenSpec.upto Rows.simulateAnswersSpec).bare.plain.varTypes Tryz.prog).any (Tryz.prog.loopsFrom ·))) = true := by kernel_rfl
end Go.Proofs.YtnklkkagpkcmfaaGreatDoor

set_option maxRecDepth 10000
namespace Go.Proofs.YtnklkkagpkcmfaaGreatDoor
open Go
theorem jA17 : ((Rows.simulateAnswersUptoRow.wideKeys == (Tryz.f4.params.toList ++ (Rows.OpenSpec.upto Rows.simulateAnswersSpec).bare.plain.varTypes Tryz.prog ++ Tryz.f4.resultTypes.toList).any (Tryz.prog.wideKeysFrom ·))) = true := by kernel_rfl
end Go.Proofs.YtnklkkagpkcmfaaGreatDoor

set_option maxRecDepth 10000
namespace Go.Proofs.YtnklkkagpkcmfaaGreatDoor
open Go
theorem jA18 : ((Rows.OpenSpec.upto Rows.simulateAnswersSpec).bare.vars.all (Tryz.prog.varReadable ·)) = true := by kernel_rfl
end Go.Proofs.YtnklkkagpkcmfaaGreatDoor

set_option maxRecDepth 10000
namespace Go.Proofs.YtnklkkagpkcmfaaGreatDoor
open Go
theorem jA19 : (Tryz.f4.resultTypes.all (fun t => Tryz.prog.readableRec t && decide (t < Tryz.prog.types.size))) = true := by kernel_rfl
end Go.Proofs.YtnklkkagpkcmfaaGreatDoor

set_option maxRecDepth 10000
namespace Go.Proofs.YtnklkkagpkcmfaaGreatDoor
open Go
theorem jA20 : ((Rows.simulateAnswersUptoRow.ifacesOut == Tryz.f4.resultTypes.toList.any (Tryz.prog.ifacesRec ·))) = true := by kernel_rfl
end Go.Proofs.YtnklkkagpkcmfaaGreatDoor

set_option maxRecDepth 10000
namespace Go.Proofs.YtnklkkagpkcmfaaGreatDoor
open Go
theorem jA21 : ((Rows.simulateAnswersUptoRow.loopsOut == Tryz.f4.resultTypes.toList.any (Tryz.prog.loopsFrom ·))) = true := by kernel_rfl
end Go.Proofs.YtnklkkagpkcmfaaGreatDoor

set_option maxRecDepth 10000
namespace Go.Proofs.YtnklkkagpkcmfaaGreatDoor
open Go
theorem jA23 : (Rows.simulateAnswersUptoRow.shortTexts.isNone) = true := by kernel_rfl
end Go.Proofs.YtnklkkagpkcmfaaGreatDoor

set_option maxRecDepth 10000
namespace Go.Proofs.YtnklkkagpkcmfaaGreatDoor
open Go
theorem jA26 : ((Rows.simulateAnswersUptoRow.lifted == Tryz.prog.liftsFinal)) = true := by kernel_rfl
end Go.Proofs.YtnklkkagpkcmfaaGreatDoor

set_option maxRecDepth 10000
namespace Go.Proofs.YtnklkkagpkcmfaaGreatDoor
open Go
theorem jA27 : ((Tryz.prog.make == some Rows.simulateAnswersUptoRow.make)) = true := by kernel_rfl
end Go.Proofs.YtnklkkagpkcmfaaGreatDoor

set_option maxRecDepth 10000
namespace Go.Proofs.YtnklkkagpkcmfaaGreatDoor
open Go
theorem jA28 : ((Rows.simulateAnswersUptoRow.kinds == (if Rows.simulateAnswersUptoRow.domain.isEmpty then [] else Tryz.f4.params.toList.map fun t => match Tryz.prog.underlying t with | some (.int k) => some k | _ => none))) = true := by kernel_rfl
end Go.Proofs.YtnklkkagpkcmfaaGreatDoor

set_option maxRecDepth 10000
namespace Go.Proofs.YtnklkkagpkcmfaaGreatDoor
open Go
theorem jA29 : ((Rows.simulateAnswersUptoRow.pinned == Rows.simulateAnswersUptoRow.pinnedBy)) = true := by kernel_rfl
end Go.Proofs.YtnklkkagpkcmfaaGreatDoor

set_option maxRecDepth 10000
namespace Go.Proofs.YtnklkkagpkcmfaaGreatDoor
open Go
theorem jA30 : ((Rows.simulateAnswersUptoRow.veiled == (Tryz.f4.params.toList ++ (Rows.OpenSpec.upto Rows.simulateAnswersSpec).bare.plain.varTypes Tryz.prog ++ Tryz.f4.resultTypes.toList).any (Tryz.prog.veiledRec ·))) = true := by kernel_rfl
end Go.Proofs.YtnklkkagpkcmfaaGreatDoor

set_option maxRecDepth 10000
namespace Go.Proofs.YtnklkkagpkcmfaaGreatDoor
open Go
theorem jA31 : (Rows.simulateAnswersUptoRow.veiledFits Tryz.prog Tryz.f4.params.toList (Tryz.f4.params.toList ++ (Rows.OpenSpec.upto Rows.simulateAnswersSpec).bare.plain.varTypes Tryz.prog ++ Tryz.f4.resultTypes.toList)) = true := by kernel_rfl
end Go.Proofs.YtnklkkagpkcmfaaGreatDoor

set_option maxRecDepth 10000
namespace Go.Proofs.YtnklkkagpkcmfaaGreatDoor
open Go
theorem jAwft : Rows.simulateAnswersUptoRow.wfByText (Rows.OpenSpec.upto Rows.simulateAnswersSpec) = true := by kernel_rfl
end Go.Proofs.YtnklkkagpkcmfaaGreatDoor

set_option maxRecDepth 10000
namespace Go.Proofs.YtnklkkagpkcmfaaGreatDoor
open Go
theorem mainS : Tryz.pinned.checked.prog.mainIs = some (true, "d95cb937e2a168e3f30c62f3d187c5dbd2f975f0634b97db0ee6d4cf9fcff408".toList) := by kernel_rfl
end Go.Proofs.YtnklkkagpkcmfaaGreatDoor

set_option maxRecDepth 10000
namespace Go.Proofs.YtnklkkagpkcmfaaGreatDoor
open Go
theorem tk : ([("unicode/utf8.acceptRanges", Rows.laid_unicode_utf8_acceptRanges), ("errors.errorType", Rows.laid_errors_errorType)] : List (String × DataW Unit)).map (fun x => Tryz.prog.kindOfLater x.1) = [LaidKind.data, .handle].map some := by kernel_rfl
end Go.Proofs.YtnklkkagpkcmfaaGreatDoor
