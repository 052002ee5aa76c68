/- Resuming, closed facts 2. No condition. -/
import Derived.Test.YtnoignhlamifmaaGreatDoorE1
import Derived.Test.YtnoignhlamifmaaGreatDoorCards
import Derived.Test.YtnoignhlamifmaaGreatDoorTie
import Derived.WalkKit
import Derived.ProofKit
import Derived.OpenShut
import Derived.Deep.DeepHandedRow
import Derived.Lib.LaidTab
import Derived.Stop.LaidErr
set_option maxHeartbeats 8000000
set_option linter.all false
set_option maxRecDepth 10000
open Go.Proofs.Tryz
namespace Go.Proofs.YtnoignhlamifmaaGreatDoor
open Go
def Axz:true=Tryz.pinned.checked.prog.looks []:=by kernel_rfl
end Go.Proofs.YtnoignhlamifmaaGreatDoor
