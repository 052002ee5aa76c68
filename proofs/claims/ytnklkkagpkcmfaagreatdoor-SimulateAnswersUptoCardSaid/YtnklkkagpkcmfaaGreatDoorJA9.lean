import Derived.Test.YtnklkkagpkcmfaaGreatDoorCards
import Derived.SevenTiedAt
import Derived.LaidByTextLater
set_option linter.all false
set_option maxRecDepth 10000
namespace Go.Proofs.YtnklkkagpkcmfaaGreatDoor
open Go
theorem jA9 : ((Rows.simulateAnswersUptoRow.inPlace == Tryz.prog.inPlace 4)) = true := by kernel_rfl
end Go.Proofs.YtnklkkagpkcmfaaGreatDoor
