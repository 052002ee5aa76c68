/- Sessions: the closed facts of the row of SessionEnds. No condition. -/
import Derived.Test.YtpaccopbbffkaaaGreatDoorB1
import Derived.Test.YtpaccopbbffkaaaGreatDoorRows
import Derived.Test.YtpaccopbbffkaaaGreatDoorCards
import Derived.Test.YtpaccopbbffkaaaGreatDoorTie
import Derived.WalkKit
import Derived.ProofKit
import Derived.OpenShut
import Derived.Deep.DeepHandedRow
import Derived.Lib.LaidTab
import Derived.Stop.LaidErr
import Derived.SevenTiedAt
set_option maxHeartbeats 8000000
set_option linter.all false
open Go.Proofs.Tryz
set_option maxRecDepth 10000
namespace Go.Proofs.YtpaccopbbffkaaaGreatDoor
open Go.Eng Go.ChangeShapes Go.WideShapes Go.ChangeAt Go.RowKit
theorem Bdk:(Rows.sessionEndsUptoRow.wf (OpenSpec.ofChange (Rows.OpenSpec.upto Rows.sessionEndsSpec).bare))=true:=kr
theorem Bdl:(laidOutB prog)=true:=kr
theorem Bdm:(mapsRowed prog)=true:=kr
theorem Bdn:(Tryz.f5.params.all (prog.readableRec ·))=true:=kr
theorem Bdo:(namedTie prog Rows.sessionEndsUptoRow.named (Rows.OpenSpec.upto Rows.sessionEndsSpec).bare.vars)=true:=kr
theorem Bdp:((Rows.sessionEndsUptoRow.stops== []))=true:=kr
theorem Bdq:((prog.stops== []))=true:=kr
theorem Bdr:((Rows.sessionEndsUptoRow.knobs== []))=true:=kr
theorem Bds:((prog.stopKnobs== []))=true:=kr
theorem Bdt:((Rows.sessionEndsUptoRow.inPlace==prog.inPlace 5))=true:=kr
theorem Bab:((Rows.sessionEndsUptoRow.unfollowed==prog.unfollowed 5))=true:=kr
theorem Bac:((Rows.sessionEndsUptoRow.recurses==prog.recurses 5))=true:=kr
theorem Bad:((Rows.sessionEndsUptoRow.named==prog.varsNamed 5))=true:=kr
theorem Bae:((Rows.sessionEndsUptoRow.maps==(Tryz.f5.params.toList++(Rows.OpenSpec.upto Rows.sessionEndsSpec).bare.plain.varTypes prog).any (prog.mapsRec ·)))=true:=kr
theorem Baf:((Rows.sessionEndsUptoRow.ifaces==(Tryz.f5.params.toList++(Rows.OpenSpec.upto Rows.sessionEndsSpec).bare.plain.varTypes prog).any (prog.ifacesRec ·)))=true:=kr
theorem Bag:((Rows.sessionEndsUptoRow.mapsOut==prog.mapsAmong Tryz.f5.resultTypes.toList))=true:=kr
theorem Bah:((Rows.sessionEndsUptoRow.loops==(Tryz.f5.params.toList++(Rows.OpenSpec.upto Rows.sessionEndsSpec).bare.plain.varTypes prog).any (prog.loopsFrom ·)))=true:=kr
theorem Bai:((Rows.sessionEndsUptoRow.wideKeys==(Tryz.f5.params.toList++(Rows.OpenSpec.upto Rows.sessionEndsSpec).bare.plain.varTypes prog++Tryz.f5.resultTypes.toList).any (prog.wideKeysFrom ·)))=true:=kr
theorem Baj:((Rows.OpenSpec.upto Rows.sessionEndsSpec).bare.vars.all (prog.varReadable ·))=true:=kr
theorem Bak:(Tryz.f5.resultTypes.all (fun t=>prog.readableRec t&&decide (t<prog.types.size)))=true:=kr
theorem Bal:((Rows.sessionEndsUptoRow.ifacesOut==Tryz.f5.resultTypes.toList.any (prog.ifacesRec ·)))=true:=kr
theorem Bam:((Rows.sessionEndsUptoRow.loopsOut==Tryz.f5.resultTypes.toList.any (prog.loopsFrom ·)))=true:=kr
theorem Ban:((Rows.sessionEndsUptoRow.plainKeys==prog.plainKeys))=true:=kr
theorem Bao:(Rows.sessionEndsUptoRow.shortTexts.isNone)=true:=kr
theorem Bap:(prog.stopsHeard)=true:=kr
theorem Baq:(prog.mayEnter)=true:=kr
theorem Bar:((Rows.sessionEndsUptoRow.lifted==prog.liftsFinal))=true:=kr
theorem Bas:((prog.make==some Rows.sessionEndsUptoRow.make))=true:=kr
theorem Bat:((Rows.sessionEndsUptoRow.kinds==(if Rows.sessionEndsUptoRow.domain.isEmpty then []else Tryz.f5.params.toList.map fun t=>match prog.underlying t with|some (.int k)=>some k|_ =>none)))=true:=kr
theorem Bau:((Rows.sessionEndsUptoRow.pinned==Rows.sessionEndsUptoRow.pinnedBy))=true:=kr
theorem Bav:((Rows.sessionEndsUptoRow.veiled==(Tryz.f5.params.toList++(Rows.OpenSpec.upto Rows.sessionEndsSpec).bare.plain.varTypes prog++Tryz.f5.resultTypes.toList).any (prog.veiledRec ·)))=true:=kr
theorem Baw:(Rows.sessionEndsUptoRow.veiledFits prog Tryz.f5.params.toList (Tryz.f5.params.toList++(Rows.OpenSpec.upto Rows.sessionEndsSpec).bare.plain.varTypes prog++Tryz.f5.resultTypes.toList))=true:=kr
theorem Akm:prog.funcNamed "examboard/examboardlaw51.SessionEnds" =some 5:=kr
theorem Azl:false=Tryz.pinned.checked.prog.looks []:=kr
theorem Bax:Rows.sessionEndsUptoRow.wfByText (Rows.OpenSpec.upto Rows.sessionEndsSpec)=true:=kr
theorem A5k:Tryz.pinned.checked.prog.mainIs=some (true,"e62a4119ade72470a0b8df3e1690f2a89a139afbbe1e5bd2afdd3d63f79e2260".toList):=kr
theorem A5l:false=Rows.sessionEndsUptoRow.goesBy Tryz.pinned.checked.prog:=kr
theorem bt{a b:Bool}(h1:a=true)(h2:b=true):(a&&b)=true:=by rw [h1,h2];rfl
theorem Azm:joinedFacts prog 5 Tryz.f5 (Rows.OpenSpec.upto Rows.sessionEndsSpec).bare Rows.sessionEndsUptoRow=true:=by
 unfold joinedFacts
 exact bt (bt (bt (bt (bt (bt (bt (bt (bt (bt (bt (bt (bt (bt (bt (bt (bt (bt (bt (bt (bt (bt (bt (bt (bt (bt (bt (bt (bt (bt (bt Bdk Bdl) Bdm) Bdn) Bdo) Bdp) Bdq) Bdr) Bds) Bdt) Bab) Bac) Bad) Bae) Baf) Bag) Bah) Bai) Baj) Bak) Bal) Bam) Ban) Bao) Bap) Baq) Bar) Bas) Bat) Bau) Bav) Baw
end Go.Proofs.YtpaccopbbffkaaaGreatDoor
