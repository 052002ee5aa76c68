/- Resuming, closed facts 1. No condition. -/
import Derived.Test.YtnoignhlamifmaaGreatDoorE1
import Derived.Test.YtnoignhlamifmaaGreatDoorCards
import Derived.Test.YtnoignhlamifmaaGreatDoorTie
import Derived.WalkKit
import Derived.ProofKit
import Derived.OpenShut
import Derived.Deep.DeepHandedRow
import Derived.Lib.LaidTab
import Derived.Stop.LaidErr
set_option maxHeartbeats 8000000
set_option linter.all false
set_option maxRecDepth 10000
open Go.Proofs.Tryz
namespace Go.Proofs.YtnoignhlamifmaaGreatDoor
open Go.Eng Go.ChangeShapes Go.WideShapes Go.ChangeAt Go.RowKit
def Bgk:(Rows.resumeExactUptoRow.wf (OpenSpec.ofChange (Rows.OpenSpec.upto Rows.resumeExactSpec).bare))=true:=kr
def Bgl:(laidOutB prog)=true:=kr
def Bgm:(mapsRowed prog)=true:=kr
def Bgn:(Tryz.f4.params.all (prog.readableRec ·))=true:=kr
def Bgo:(namedTie prog Rows.resumeExactUptoRow.named (Rows.OpenSpec.upto Rows.resumeExactSpec).bare.vars)=true:=kr
def Bgp:((Rows.resumeExactUptoRow.stops== []))=true:=kr
def Bgq:((prog.stops== []))=true:=kr
def Bgr:((Rows.resumeExactUptoRow.knobs== []))=true:=kr
def Bgs:((prog.stopKnobs== []))=true:=kr
def Bgt:((Rows.resumeExactUptoRow.inPlace==prog.inPlace 4))=true:=kr
def Baz:((Rows.resumeExactUptoRow.unfollowed==prog.unfollowed 4))=true:=kr
def Ba0:((Rows.resumeExactUptoRow.recurses==prog.recurses 4))=true:=kr
def Ba1:((Rows.resumeExactUptoRow.named==prog.varsNamed 4))=true:=kr
def Ba2:((Rows.resumeExactUptoRow.maps==(Tryz.f4.params.toList++(Rows.OpenSpec.upto Rows.resumeExactSpec).bare.plain.varTypes prog).any (prog.mapsRec ·)))=true:=kr
def Ba3:((Rows.resumeExactUptoRow.ifaces==(Tryz.f4.params.toList++(Rows.OpenSpec.upto Rows.resumeExactSpec).bare.plain.varTypes prog).any (prog.ifacesRec ·)))=true:=kr
def Ba4:((Rows.resumeExactUptoRow.mapsOut==prog.mapsAmong Tryz.f4.resultTypes.toList))=true:=kr
def Ba5:((Rows.resumeExactUptoRow.loops==(Tryz.f4.params.toList++(Rows.OpenSpec.upto Rows.resumeExactSpec).bare.plain.varTypes prog).any (prog.loopsFrom ·)))=true:=kr
def Ba6:((Rows.resumeExactUptoRow.wideKeys==(Tryz.f4.params.toList++(Rows.OpenSpec.upto Rows.resumeExactSpec).bare.plain.varTypes prog++Tryz.f4.resultTypes.toList).any (prog.wideKeysFrom ·)))=true:=kr
def Ba7:((Rows.OpenSpec.upto Rows.resumeExactSpec).bare.vars.all (prog.varReadable ·))=true:=kr
def Ba8:(Tryz.f4.resultTypes.all (fun t=>prog.readableRec t&&decide (t<prog.types.size)))=true:=kr
def Ba9:((Rows.resumeExactUptoRow.ifacesOut==Tryz.f4.resultTypes.toList.any (prog.ifacesRec ·)))=true:=kr
def Bba:((Rows.resumeExactUptoRow.loopsOut==Tryz.f4.resultTypes.toList.any (prog.loopsFrom ·)))=true:=kr
def Bbb:((Rows.resumeExactUptoRow.plainKeys==prog.plainKeys))=true:=kr
def Bbc:(Rows.resumeExactUptoRow.shortTexts.isNone)=true:=kr
def Bbd:(prog.stopsHeard)=true:=kr
def Bbe:(prog.mayEnter)=true:=kr
def Bbf:((Rows.resumeExactUptoRow.lifted==prog.liftsFinal))=true:=kr
def Bbg:((prog.make==some Rows.resumeExactUptoRow.make))=true:=kr
def Bbh:((Rows.resumeExactUptoRow.kinds==(if Rows.resumeExactUptoRow.domain.isEmpty then []else Tryz.f4.params.toList.map fun t=>match prog.underlying t with|some (.int k)=>some k|_=>none)))=true:=kr
def Bbi:((Rows.resumeExactUptoRow.pinned==Rows.resumeExactUptoRow.pinnedBy))=true:=kr
def Bbj:((Rows.resumeExactUptoRow.veiled==(Tryz.f4.params.toList++(Rows.OpenSpec.upto Rows.resumeExactSpec).bare.plain.varTypes prog++Tryz.f4.resultTypes.toList).any (prog.veiledRec ·)))=true:=kr
def Bbk:(Rows.resumeExactUptoRow.veiledFits prog Tryz.f4.params.toList (Tryz.f4.params.toList++(Rows.OpenSpec.upto Rows.resumeExactSpec).bare.plain.varTypes prog++Tryz.f4.resultTypes.toList))=true:=kr
def Aj3:prog.funcNamed "examboard/examboardlaw52.ResumeExact" =some 4:=kr
def Bbl:Rows.resumeExactUptoRow.wfByText (Rows.OpenSpec.upto Rows.resumeExactSpec)=true:=kr
def A4n:Tryz.pinned.checked.prog.mainIs=some (true,"a91276e78f4e617a4e7dfae086feabf64f7b52f25bb2a3571ef507fd2f214009".toList):=kr
def btX{a b:Bool}(h1:a=true)(h2:b=true):(a&&b)=true:=by rw [h1,h2];rfl
def Axy:joinedFacts prog 4 Tryz.f4 (Rows.OpenSpec.upto Rows.resumeExactSpec).bare Rows.resumeExactUptoRow=true:=by
 unfold joinedFacts
 exact btX (btX (btX (btX (btX (btX (btX (btX (btX (btX (btX (btX (btX (btX (btX (btX (btX (btX (btX (btX (btX (btX (btX (btX (btX (btX (btX (btX (btX (btX (btX Bgk Bgl) Bgm) Bgn) Bgo) Bgp) Bgq) Bgr) Bgs) Bgt) Baz) Ba0) Ba1) Ba2) Ba3) Ba4) Ba5) Ba6) Ba7) Ba8) Ba9) Bba) Bbb) Bbc) Bbd) Bbe) Bbf) Bbg) Bbh) Bbi) Bbj) Bbk
end Go.Proofs.YtnoignhlamifmaaGreatDoor
