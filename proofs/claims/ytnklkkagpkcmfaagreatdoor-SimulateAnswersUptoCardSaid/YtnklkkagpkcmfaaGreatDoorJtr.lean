import Derived.Test.YtnklkkagpkcmfaaGreatDoorCards
import Derived.SevenTiedAt
import Derived.LaidByTextLater
set_option linter.all false
set_option maxRecDepth 10000
namespace Go.Proofs.YtnklkkagpkcmfaaGreatDoor
open Go
theorem tr : Tryz.prog.worded rootWordLater = true := by kernel_rfl
end Go.Proofs.YtnklkkagpkcmfaaGreatDoor
