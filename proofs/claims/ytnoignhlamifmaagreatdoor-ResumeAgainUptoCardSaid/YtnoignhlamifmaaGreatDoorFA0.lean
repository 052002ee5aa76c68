/- Resuming, closed facts 1. No condition. -/
import Derived.Test.YtnoignhlamifmaaGreatDoorA1
import Derived.Test.YtnoignhlamifmaaGreatDoorCards
import Derived.Test.YtnoignhlamifmaaGreatDoorTie
import Derived.WalkKit
import Derived.ProofKit
import Derived.OpenShut
import Derived.Deep.DeepHandedRow
import Derived.Lib.LaidTab
import Derived.Stop.LaidErr
set_option maxHeartbeats 8000000
set_option linter.all false
set_option maxRecDepth 10000
open Go.Proofs.Tryz
namespace Go.Proofs.YtnoignhlamifmaaGreatDoor
open Go.Eng Go.ChangeShapes Go.WideShapes Go.ChangeAt Go.RowKit
def Bep:(Rows.resumeAgainUptoRow.wf (OpenSpec.ofChange (Rows.OpenSpec.upto Rows.resumeAgainSpec).bare))=true:=kr
def Beq:(laidOutB prog)=true:=kr
def Ber:(mapsRowed prog)=true:=kr
def Bes:(Tryz.f3.params.all (prog.readableRec ·))=true:=kr
def Bet:(namedTie prog Rows.resumeAgainUptoRow.named (Rows.OpenSpec.upto Rows.resumeAgainSpec).bare.vars)=true:=kr
def Beu:((Rows.resumeAgainUptoRow.stops== []))=true:=kr
def Bev:((prog.stops== []))=true:=kr
def Bew:((Rows.resumeAgainUptoRow.knobs== []))=true:=kr
def Bex:((prog.stopKnobs== []))=true:=kr
def Bey:((Rows.resumeAgainUptoRow.inPlace==prog.inPlace 3))=true:=kr
def A9f:((Rows.resumeAgainUptoRow.unfollowed==prog.unfollowed 3))=true:=kr
def A9g:((Rows.resumeAgainUptoRow.recurses==prog.recurses 3))=true:=kr
def A9h:((Rows.resumeAgainUptoRow.named==prog.varsNamed 3))=true:=kr
def A9i:((Rows.resumeAgainUptoRow.maps==(Tryz.f3.params.toList++(Rows.OpenSpec.upto Rows.resumeAgainSpec).bare.plain.varTypes prog).any (prog.mapsRec ·)))=true:=kr
def A9j:((Rows.resumeAgainUptoRow.ifaces==(Tryz.f3.params.toList++(Rows.OpenSpec.upto Rows.resumeAgainSpec).bare.plain.varTypes prog).any (prog.ifacesRec ·)))=true:=kr
def A9k:((Rows.resumeAgainUptoRow.mapsOut==prog.mapsAmong Tryz.f3.resultTypes.toList))=true:=kr
def A9l:((Rows.resumeAgainUptoRow.loops==(Tryz.f3.params.toList++(Rows.OpenSpec.upto Rows.resumeAgainSpec).bare.plain.varTypes prog).any (prog.loopsFrom ·)))=true:=kr
def A9m:((Rows.resumeAgainUptoRow.wideKeys==(Tryz.f3.params.toList++(Rows.OpenSpec.upto Rows.resumeAgainSpec).bare.plain.varTypes prog++Tryz.f3.resultTypes.toList).any (prog.wideKeysFrom ·)))=true:=kr
def A9n:((Rows.OpenSpec.upto Rows.resumeAgainSpec).bare.vars.all (prog.varReadable ·))=true:=kr
def A9o:(Tryz.f3.resultTypes.all (fun t=>prog.readableRec t&&decide (t<prog.types.size)))=true:=kr
def A9p:((Rows.resumeAgainUptoRow.ifacesOut==Tryz.f3.resultTypes.toList.any (prog.ifacesRec ·)))=true:=kr
def A9q:((Rows.resumeAgainUptoRow.loopsOut==Tryz.f3.resultTypes.toList.any (prog.loopsFrom ·)))=true:=kr
def A9r:((Rows.resumeAgainUptoRow.plainKeys==prog.plainKeys))=true:=kr
def A9s:(Rows.resumeAgainUptoRow.shortTexts.isNone)=true:=kr
def A9t:(prog.stopsHeard)=true:=kr
def A9u:(prog.mayEnter)=true:=kr
def A9v:((Rows.resumeAgainUptoRow.lifted==prog.liftsFinal))=true:=kr
def A9w:((prog.make==some Rows.resumeAgainUptoRow.make))=true:=kr
def A9x:((Rows.resumeAgainUptoRow.kinds==(if Rows.resumeAgainUptoRow.domain.isEmpty then []else Tryz.f3.params.toList.map fun t=>match prog.underlying t with|some (.int k)=>some k|_ =>none)))=true:=kr
def A9y:((Rows.resumeAgainUptoRow.pinned==Rows.resumeAgainUptoRow.pinnedBy))=true:=kr
def A9z:((Rows.resumeAgainUptoRow.veiled==(Tryz.f3.params.toList++(Rows.OpenSpec.upto Rows.resumeAgainSpec).bare.plain.varTypes prog++Tryz.f3.resultTypes.toList).any (prog.veiledRec ·)))=true:=kr
def A90:(Rows.resumeAgainUptoRow.veiledFits prog Tryz.f3.params.toList (Tryz.f3.params.toList++(Rows.OpenSpec.upto Rows.resumeAgainSpec).bare.plain.varTypes prog++Tryz.f3.resultTypes.toList))=true:=kr
def Ail:prog.funcNamed "examboard/examboardlaw52.ResumeAgain" =some 3:=kr
def A91:Rows.resumeAgainUptoRow.wfByText (Rows.OpenSpec.upto Rows.resumeAgainSpec)=true:=kr
def A2u:Tryz.pinned.checked.prog.mainIs=some (true,"a91276e78f4e617a4e7dfae086feabf64f7b52f25bb2a3571ef507fd2f214009".toList):=kr
def bt{a b:Bool}(h1:a=true)(h2:b=true):(a&&b)=true:=by rw [h1,h2];rfl
def Av5:joinedFacts prog 3 Tryz.f3 (Rows.OpenSpec.upto Rows.resumeAgainSpec).bare Rows.resumeAgainUptoRow=true:=by
 unfold joinedFacts
 exact bt (bt (bt (bt (bt (bt (bt (bt (bt (bt (bt (bt (bt (bt (bt (bt (bt (bt (bt (bt (bt (bt (bt (bt (bt (bt (bt (bt (bt (bt (bt Bep Beq) Ber) Bes) Bet) Beu) Bev) Bew) Bex) Bey) A9f) A9g) A9h) A9i) A9j) A9k) A9l) A9m) A9n) A9o) A9p) A9q) A9r) A9s) A9t) A9u) A9v) A9w) A9x) A9y) A9z) A90
end Go.Proofs.YtnoignhlamifmaaGreatDoor
