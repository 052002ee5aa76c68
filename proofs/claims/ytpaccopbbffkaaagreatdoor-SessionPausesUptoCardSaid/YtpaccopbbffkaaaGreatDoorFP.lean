/- Sessions: the closed facts of the row of SessionPauses. No condition. -/
import Derived.Test.YtpaccopbbffkaaaGreatDoorP1
import Derived.Test.YtpaccopbbffkaaaGreatDoorRows
import Derived.Test.YtpaccopbbffkaaaGreatDoorCards
import Derived.Test.YtpaccopbbffkaaaGreatDoorTie
import Derived.WalkKit
import Derived.ProofKit
import Derived.OpenShut
import Derived.Deep.DeepHandedRow
import Derived.Lib.LaidTab
import Derived.Stop.LaidErr
import Derived.SevenTiedAt
set_option maxHeartbeats 8000000
set_option linter.all false
open Go.Proofs.Tryz
set_option maxRecDepth 10000
namespace Go.Proofs.YtpaccopbbffkaaaGreatDoor
open Go.Eng Go.ChangeShapes Go.WideShapes Go.ChangeAt Go.RowKit
theorem A2w:(Rows.sessionPausesUptoRow.wf (OpenSpec.ofChange (Rows.OpenSpec.upto Rows.sessionPausesSpec).bare))=true:=kr
theorem A2x:(laidOutB prog)=true:=kr
theorem A2y:(mapsRowed prog)=true:=kr
theorem A2z:(Tryz.f4.params.all (prog.readableRec ·))=true:=kr
theorem A20:(namedTie prog Rows.sessionPausesUptoRow.named (Rows.OpenSpec.upto Rows.sessionPausesSpec).bare.vars)=true:=kr
theorem A21:((Rows.sessionPausesUptoRow.stops== []))=true:=kr
theorem A22:((prog.stops== []))=true:=kr
theorem A23:((Rows.sessionPausesUptoRow.knobs== []))=true:=kr
theorem A24:((prog.stopKnobs== []))=true:=kr
theorem A25:((Rows.sessionPausesUptoRow.inPlace==prog.inPlace 4))=true:=kr
theorem Awv:((Rows.sessionPausesUptoRow.unfollowed==prog.unfollowed 4))=true:=kr
theorem Aww:((Rows.sessionPausesUptoRow.recurses==prog.recurses 4))=true:=kr
theorem Awx:((Rows.sessionPausesUptoRow.named==prog.varsNamed 4))=true:=kr
theorem Awy:((Rows.sessionPausesUptoRow.maps==(Tryz.f4.params.toList++(Rows.OpenSpec.upto Rows.sessionPausesSpec).bare.plain.varTypes prog).any (prog.mapsRec ·)))=true:=kr
theorem Awz:((Rows.sessionPausesUptoRow.ifaces==(Tryz.f4.params.toList++(Rows.OpenSpec.upto Rows.sessionPausesSpec).bare.plain.varTypes prog).any (prog.ifacesRec ·)))=true:=kr
theorem Aw0:((Rows.sessionPausesUptoRow.mapsOut==prog.mapsAmong Tryz.f4.resultTypes.toList))=true:=kr
theorem Aw1:((Rows.sessionPausesUptoRow.loops==(Tryz.f4.params.toList++(Rows.OpenSpec.upto Rows.sessionPausesSpec).bare.plain.varTypes prog).any (prog.loopsFrom ·)))=true:=kr
theorem Aw2:((Rows.sessionPausesUptoRow.wideKeys==(Tryz.f4.params.toList++(Rows.OpenSpec.upto Rows.sessionPausesSpec).bare.plain.varTypes prog++Tryz.f4.resultTypes.toList).any (prog.wideKeysFrom ·)))=true:=kr
theorem Aw3:((Rows.OpenSpec.upto Rows.sessionPausesSpec).bare.vars.all (prog.varReadable ·))=true:=kr
theorem Aw4:(Tryz.f4.resultTypes.all (fun t=>prog.readableRec t&&decide (t<prog.types.size)))=true:=kr
theorem Aw5:((Rows.sessionPausesUptoRow.ifacesOut==Tryz.f4.resultTypes.toList.any (prog.ifacesRec ·)))=true:=kr
theorem Aw6:((Rows.sessionPausesUptoRow.loopsOut==Tryz.f4.resultTypes.toList.any (prog.loopsFrom ·)))=true:=kr
theorem Aw7:((Rows.sessionPausesUptoRow.plainKeys==prog.plainKeys))=true:=kr
theorem Aw8:(Rows.sessionPausesUptoRow.shortTexts.isNone)=true:=kr
theorem Aw9:(prog.stopsHeard)=true:=kr
theorem Axa:(prog.mayEnter)=true:=kr
theorem Axb:((Rows.sessionPausesUptoRow.lifted==prog.liftsFinal))=true:=kr
theorem Axc:((prog.make==some Rows.sessionPausesUptoRow.make))=true:=kr
theorem Axd:((Rows.sessionPausesUptoRow.kinds==(if Rows.sessionPausesUptoRow.domain.isEmpty then []else Tryz.f4.params.toList.map fun t=>match prog.underlying t with|some (.int k)=>some k|_ =>none)))=true:=kr
theorem Axe:((Rows.sessionPausesUptoRow.pinned==Rows.sessionPausesUptoRow.pinnedBy))=true:=kr
theorem Axf:((Rows.sessionPausesUptoRow.veiled==(Tryz.f4.params.toList++(Rows.OpenSpec.upto Rows.sessionPausesSpec).bare.plain.varTypes prog++Tryz.f4.resultTypes.toList).any (prog.veiledRec ·)))=true:=kr
theorem Axg:(Rows.sessionPausesUptoRow.veiledFits prog Tryz.f4.params.toList (Tryz.f4.params.toList++(Rows.OpenSpec.upto Rows.sessionPausesSpec).bare.plain.varTypes prog++Tryz.f4.resultTypes.toList))=true:=kr
theorem Aa6:prog.funcNamed "examboard/examboardlaw51.SessionPauses" =some 4:=kr
theorem Aoo:false=Tryz.pinned.checked.prog.looks []:=kr
theorem Axh:Rows.sessionPausesUptoRow.wfByText (Rows.OpenSpec.upto Rows.sessionPausesSpec)=true:=kr
theorem Arj:Tryz.pinned.checked.prog.mainIs=some (true,"e62a4119ade72470a0b8df3e1690f2a89a139afbbe1e5bd2afdd3d63f79e2260".toList):=kr
theorem Ark:false=Rows.sessionPausesUptoRow.goesBy Tryz.pinned.checked.prog:=kr
theorem bt{a b:Bool}(h1:a=true)(h2:b=true):(a&&b)=true:=by rw [h1,h2];rfl
theorem Aop:joinedFacts prog 4 Tryz.f4 (Rows.OpenSpec.upto Rows.sessionPausesSpec).bare Rows.sessionPausesUptoRow=true:=by
 unfold joinedFacts
 exact bt (bt (bt (bt (bt (bt (bt (bt (bt (bt (bt (bt (bt (bt (bt (bt (bt (bt (bt (bt (bt (bt (bt (bt (bt (bt (bt (bt (bt (bt (bt A2w A2x) A2y) A2z) A20) A21) A22) A23) A24) A25) Awv) Aww) Awx) Awy) Awz) Aw0) Aw1) Aw2) Aw3) Aw4) Aw5) Aw6) Aw7) Aw8) Aw9) Axa) Axb) Axc) Axd) Axe) Axf) Axg
end Go.Proofs.YtpaccopbbffkaaaGreatDoor
