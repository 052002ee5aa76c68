import Derived.Test.YtnklkkagpkcmfaaGreatDoorCards
import Derived.SevenTiedAt
import Derived.LaidByTextLater
set_option linter.all false
set_option maxRecDepth 10000
namespace Go.Proofs.YtnklkkagpkcmfaaGreatDoor
open Go
theorem tw2 : Tryz.prog.worded (varsWordLater !true) = false := by kernel_rfl
end Go.Proofs.YtnklkkagpkcmfaaGreatDoor
