import Derived.Test.YtnklkkagpkcmfaaGreatDoorCards
import Derived.SevenTiedAt
import Derived.LaidByTextLater
set_option linter.all false
set_option maxRecDepth 10000
namespace Go.Proofs.YtnklkkagpkcmfaaGreatDoor
open Go
theorem jD0 : (Rows.simulateDrawsRow.wf (OpenSpec.ofChange (OpenSpec.ofChange Rows.simulateDrawsSpec).bare)) = true := by kernel_rfl
end Go.Proofs.YtnklkkagpkcmfaaGreatDoor

set_option maxRecDepth 10000
namespace Go.Proofs.YtnklkkagpkcmfaaGreatDoor
open Go
theorem jD3 : (Tryz.f3.params.all (Tryz.prog.readableRec ·)) = true := by kernel_rfl
end Go.Proofs.YtnklkkagpkcmfaaGreatDoor

set_option maxRecDepth 10000
namespace Go.Proofs.YtnklkkagpkcmfaaGreatDoor
open Go
theorem jD4 : (namedTie Tryz.prog Rows.simulateDrawsRow.named (OpenSpec.ofChange Rows.simulateDrawsSpec).bare.vars) = true := by kernel_rfl
end Go.Proofs.YtnklkkagpkcmfaaGreatDoor

set_option maxRecDepth 10000
namespace Go.Proofs.YtnklkkagpkcmfaaGreatDoor
open Go
theorem jD5 : ((Rows.simulateDrawsRow.stops == [])) = true := by kernel_rfl
end Go.Proofs.YtnklkkagpkcmfaaGreatDoor

set_option maxRecDepth 10000
namespace Go.Proofs.YtnklkkagpkcmfaaGreatDoor
open Go
theorem jD6 : ((Tryz.prog.stops == [])) = true := by kernel_rfl
end Go.Proofs.YtnklkkagpkcmfaaGreatDoor

set_option maxRecDepth 10000
namespace Go.Proofs.YtnklkkagpkcmfaaGreatDoor
open Go
theorem jD7 : ((Rows.simulateDrawsRow.knobs == [])) = true := by kernel_rfl
end Go.Proofs.YtnklkkagpkcmfaaGreatDoor

set_option maxRecDepth 10000
namespace Go.Proofs.YtnklkkagpkcmfaaGreatDoor
open Go
theorem jD8 : ((Tryz.prog.stopKnobs == [])) = true := by kernel_rfl
end Go.Proofs.YtnklkkagpkcmfaaGreatDoor

set_option maxRecDepth 10000
namespace Go.Proofs.YtnklkkagpkcmfaaGreatDoor
open Go
theorem jD13 : ((Rows.simulateDrawsRow.maps == (Tryz.f3.params.toList ++ (OpenSpec.ofChange Rows.simulateDrawsSpec).bare.plain.varTypes Tryz.prog).any (Tryz.prog.mapsRec ·))) = true := by kernel_rfl
end Go.Proofs.YtnklkkagpkcmfaaGreatDoor

set_option maxRecDepth 10000
namespace Go.Proofs.YtnklkkagpkcmfaaGreatDoor
open Go
theorem jD14 : ((Rows.simulateDrawsRow.ifaces == (Tryz.f3.params.toList ++ (OpenSpec.ofChange Rows.simulateDrawsSpec).bare.plain.varTypes Tryz.prog).any (Tryz.prog.ifacesRec ·))) = true := by kernel_rfl
end Go.Proofs.YtnklkkagpkcmfaaGreatDoor

set_option maxRecDepth 10000
namespace Go.Proofs.YtnklkkagpkcmfaaGreatDoor
open Go
theorem jD15 : ((Rows.simulateDrawsRow.mapsOut == Tryz.prog.mapsAmong Tryz.f3.resultTypes.toList)) = true := by kernel_rfl
end Go.Proofs.YtnklkkagpkcmfaaGreatDoor

set_option maxRecDepth 10000
namespace Go.Proofs.YtnklkkagpkcmfaaGreatDoor
open Go
theorem jD16 : ((Rows.simulateDrawsRow.loops == (Tryz.f3.params.toList ++ (OpenSpec.ofChange Rows.simulateDrawsSpec).bare.plain.varTypes Tryz.prog).any (Tryz.prog.loopsFrom ·))) = true := by kernel_rfl
end Go.Proofs.YtnklkkagpkcmfaaGreatDoor

set_option maxRecDepth 10000
namespace Go.Proofs.YtnklkkagpkcmfaaGreatDoor
open Go
theorem jD17 : ((Rows.simulateDrawsRow.wideKeys == (Tryz.f3.params.toList ++ (OpenSpec.ofChange Rows.simulateDrawsSpec).bare.plain.varTypes Tryz.prog ++ Tryz.f3.resultTypes.toList).any (Tryz.prog.wideKeysFrom ·))) = true := by kernel_rfl
end Go.Proofs.YtnklkkagpkcmfaaGreatDoor

set_option maxRecDepth 10000
namespace Go.Proofs.YtnklkkagpkcmfaaGreatDoor
open Go
theorem jD18 : ((OpenSpec.ofChange Rows.simulateDrawsSpec).bare.vars.all (Tryz.prog.varReadable ·)) = true := by kernel_rfl
end Go.Proofs.YtnklkkagpkcmfaaGreatDoor

set_option maxRecDepth 10000
namespace Go.Proofs.YtnklkkagpkcmfaaGreatDoor
open Go
theorem jD19 : (Tryz.f3.resultTypes.all (fun t => Tryz.prog.readableRec t && decide (t < Tryz.prog.types.size))) = true := by kernel_rfl
end Go.Proofs.YtnklkkagpkcmfaaGreatDoor

set_option maxRecDepth 10000
namespace Go.Proofs.YtnklkkagpkcmfaaGreatDoor
open Go
theorem jD20 : ((Rows.simulateDrawsRow.ifacesOut == Tryz.f3.resultTypes.toList.any (Tryz.prog.ifacesRec ·))) = true := by kernel_rfl
end Go.Proofs.YtnklkkagpkcmfaaGreatDoor

set_option maxRecDepth 10000
namespace Go.Proofs.YtnklkkagpkcmfaaGreatDoor
open Go
theorem jD21 : ((Rows.simulateDrawsRow.loopsOut == Tryz.f3.resultTypes.toList.any (Tryz.prog.loopsFrom ·))) = true := by kernel_rfl
end Go.Proofs.YtnklkkagpkcmfaaGreatDoor

set_option maxRecDepth 10000
namespace Go.Proofs.YtnklkkagpkcmfaaGreatDoor
open Go
theorem jD23 : (Rows.simulateDrawsRow.shortTexts.isNone) = true := by kernel_rfl
end Go.Proofs.YtnklkkagpkcmfaaGreatDoor

set_option maxRecDepth 10000
namespace Go.Proofs.YtnklkkagpkcmfaaGreatDoor
open Go
theorem jD26 : ((Rows.simulateDrawsRow.lifted == Tryz.prog.liftsFinal)) = true := by kernel_rfl
end Go.Proofs.YtnklkkagpkcmfaaGreatDoor

set_option maxRecDepth 10000
namespace Go.Proofs.YtnklkkagpkcmfaaGreatDoor
open Go
theorem jD27 : ((Tryz.prog.make == some Rows.simulateDrawsRow.make)) = true := by kernel_rfl
end Go.Proofs.YtnklkkagpkcmfaaGreatDoor

set_option maxRecDepth 10000
namespace Go.Proofs.YtnklkkagpkcmfaaGreatDoor
open Go
theorem jD28 : ((Rows.simulateDrawsRow.kinds == (if Rows.simulateDrawsRow.domain.isEmpty then [] else Tryz.f3.params.toList.map fun t => match Tryz.prog.underlying t with | some (.int k) => some k | _ => none))) = true := by kernel_rfl
end Go.Proofs.YtnklkkagpkcmfaaGreatDoor

set_option maxRecDepth 10000
namespace Go.Proofs.YtnklkkagpkcmfaaGreatDoor
open Go
theorem jD29 : ((Rows.simulateDrawsRow.pinned == Rows.simulateDrawsRow.pinnedBy)) = true := by kernel_rfl
end Go.Proofs.YtnklkkagpkcmfaaGreatDoor

set_option maxRecDepth 10000
namespace Go.Proofs.YtnklkkagpkcmfaaGreatDoor
open Go
theorem jD30 : ((Rows.simulateDrawsRow.veiled == (Tryz.f3.params.toList ++ (OpenSpec.ofChange Rows.simulateDrawsSpec).bare.plain.varTypes Tryz.prog ++ Tryz.f3.resultTypes.toList).any (Tryz.prog.veiledRec ·))) = true := by kernel_rfl
end Go.Proofs.YtnklkkagpkcmfaaGreatDoor

set_option maxRecDepth 10000
namespace Go.Proofs.YtnklkkagpkcmfaaGreatDoor
open Go
theorem jD31 : (Rows.simulateDrawsRow.veiledFits Tryz.prog Tryz.f3.params.toList (Tryz.f3.params.toList ++ (OpenSpec.ofChange Rows.simulateDrawsSpec).bare.plain.varTypes Tryz.prog ++ Tryz.f3.resultTypes.toList)) = true := by kernel_rfl
end Go.Proofs.YtnklkkagpkcmfaaGreatDoor

set_option maxRecDepth 10000
namespace Go.Proofs.YtnklkkagpkcmfaaGreatDoor
open Go
theorem jDwft : Rows.simulateDrawsRow.wfByText (OpenSpec.ofChange Rows.simulateDrawsSpec) = true := by kernel_rfl
end Go.Proofs.YtnklkkagpkcmfaaGreatDoor

set_option maxRecDepth 10000
namespace Go.Proofs.YtnklkkagpkcmfaaGreatDoor
open Go
theorem mainS : Tryz.pinned.checked.prog.mainIs = some (true, "d95cb937e2a168e3f30c62f3d187c5dbd2f975f0634b97db0ee6d4cf9fcff408".toList) := by kernel_rfl
end Go.Proofs.YtnklkkagpkcmfaaGreatDoor

set_option maxRecDepth 10000
namespace Go.Proofs.YtnklkkagpkcmfaaGreatDoor
open Go
theorem tk : ([("unicode/utf8.acceptRanges", Rows.laid_unicode_utf8_acceptRanges), ("errors.errorType", Rows.laid_errors_errorType)] : List (String × DataW Unit)).map (fun x => Tryz.prog.kindOfLater x.1) = [LaidKind.data, .handle].map some := by kernel_rfl
end Go.Proofs.YtnklkkagpkcmfaaGreatDoor
