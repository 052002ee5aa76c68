/- Sessions: the closed facts of the row of SessionTime. No condition. -/
import Derived.Test.YtpaccopbbffkaaaGreatDoorB1
import Derived.Test.YtpaccopbbffkaaaGreatDoorRows
import Derived.Test.YtpaccopbbffkaaaGreatDoorCards
import Derived.Test.YtpaccopbbffkaaaGreatDoorTie
import Derived.WalkKit
import Derived.ProofKit
import Derived.OpenShut
import Derived.Deep.DeepHandedRow
import Derived.Lib.LaidTab
import Derived.Stop.LaidErr
import Derived.SevenTiedAt
set_option maxHeartbeats 8000000
set_option linter.all false
open Go.Proofs.Tryz
set_option maxRecDepth 10000
namespace Go.Proofs.YtpaccopbbffkaaaGreatDoor
open Go.Eng Go.ChangeShapes Go.WideShapes Go.ChangeAt Go.RowKit
theorem Bda:(Rows.sessionTimeUptoRow.wf (OpenSpec.ofChange (Rows.OpenSpec.upto Rows.sessionTimeSpec).bare))=true:=kr
theorem Bdb:(laidOutB prog)=true:=kr
theorem Bdc:(mapsRowed prog)=true:=kr
theorem Bdd:(Tryz.f6.params.all (prog.readableRec ·))=true:=kr
theorem Bde:(namedTie prog Rows.sessionTimeUptoRow.named (Rows.OpenSpec.upto Rows.sessionTimeSpec).bare.vars)=true:=kr
theorem Bdf:((Rows.sessionTimeUptoRow.stops== []))=true:=kr
theorem Bdg:((prog.stops== []))=true:=kr
theorem Bdh:((Rows.sessionTimeUptoRow.knobs== []))=true:=kr
theorem Bdi:((prog.stopKnobs== []))=true:=kr
theorem Bdj:((Rows.sessionTimeUptoRow.inPlace==prog.inPlace 6))=true:=kr
theorem A9n:((Rows.sessionTimeUptoRow.unfollowed==prog.unfollowed 6))=true:=kr
theorem A9o:((Rows.sessionTimeUptoRow.recurses==prog.recurses 6))=true:=kr
theorem A9p:((Rows.sessionTimeUptoRow.named==prog.varsNamed 6))=true:=kr
theorem A9q:((Rows.sessionTimeUptoRow.maps==(Tryz.f6.params.toList++(Rows.OpenSpec.upto Rows.sessionTimeSpec).bare.plain.varTypes prog).any (prog.mapsRec ·)))=true:=kr
theorem A9r:((Rows.sessionTimeUptoRow.ifaces==(Tryz.f6.params.toList++(Rows.OpenSpec.upto Rows.sessionTimeSpec).bare.plain.varTypes prog).any (prog.ifacesRec ·)))=true:=kr
theorem A9s:((Rows.sessionTimeUptoRow.mapsOut==prog.mapsAmong Tryz.f6.resultTypes.toList))=true:=kr
theorem A9t:((Rows.sessionTimeUptoRow.loops==(Tryz.f6.params.toList++(Rows.OpenSpec.upto Rows.sessionTimeSpec).bare.plain.varTypes prog).any (prog.loopsFrom ·)))=true:=kr
theorem A9u:((Rows.sessionTimeUptoRow.wideKeys==(Tryz.f6.params.toList++(Rows.OpenSpec.upto Rows.sessionTimeSpec).bare.plain.varTypes prog++Tryz.f6.resultTypes.toList).any (prog.wideKeysFrom ·)))=true:=kr
theorem A9v:((Rows.OpenSpec.upto Rows.sessionTimeSpec).bare.vars.all (prog.varReadable ·))=true:=kr
theorem A9w:(Tryz.f6.resultTypes.all (fun t=>prog.readableRec t&&decide (t<prog.types.size)))=true:=kr
theorem A9x:((Rows.sessionTimeUptoRow.ifacesOut==Tryz.f6.resultTypes.toList.any (prog.ifacesRec ·)))=true:=kr
theorem A9y:((Rows.sessionTimeUptoRow.loopsOut==Tryz.f6.resultTypes.toList.any (prog.loopsFrom ·)))=true:=kr
theorem A9z:((Rows.sessionTimeUptoRow.plainKeys==prog.plainKeys))=true:=kr
theorem A90:(Rows.sessionTimeUptoRow.shortTexts.isNone)=true:=kr
theorem A91:(prog.stopsHeard)=true:=kr
theorem A92:(prog.mayEnter)=true:=kr
theorem A93:((Rows.sessionTimeUptoRow.lifted==prog.liftsFinal))=true:=kr
theorem A94:((prog.make==some Rows.sessionTimeUptoRow.make))=true:=kr
theorem A95:((Rows.sessionTimeUptoRow.kinds==(if Rows.sessionTimeUptoRow.domain.isEmpty then []else Tryz.f6.params.toList.map fun t=>match prog.underlying t with|some (.int k)=>some k|_ =>none)))=true:=kr
theorem A96:((Rows.sessionTimeUptoRow.pinned==Rows.sessionTimeUptoRow.pinnedBy))=true:=kr
theorem A97:((Rows.sessionTimeUptoRow.veiled==(Tryz.f6.params.toList++(Rows.OpenSpec.upto Rows.sessionTimeSpec).bare.plain.varTypes prog++Tryz.f6.resultTypes.toList).any (prog.veiledRec ·)))=true:=kr
theorem A98:(Rows.sessionTimeUptoRow.veiledFits prog Tryz.f6.params.toList (Tryz.f6.params.toList++(Rows.OpenSpec.upto Rows.sessionTimeSpec).bare.plain.varTypes prog++Tryz.f6.resultTypes.toList))=true:=kr
theorem Akl:prog.funcNamed "examboard/examboardlaw51.SessionTime" =some 6:=kr
theorem Ay7:false=Tryz.pinned.checked.prog.looks []:=kr
theorem A99:Rows.sessionTimeUptoRow.wfByText (Rows.OpenSpec.upto Rows.sessionTimeSpec)=true:=kr
theorem A5g:Tryz.pinned.checked.prog.mainIs=some (true,"e62a4119ade72470a0b8df3e1690f2a89a139afbbe1e5bd2afdd3d63f79e2260".toList):=kr
theorem A5h:false=Rows.sessionTimeUptoRow.goesBy Tryz.pinned.checked.prog:=kr
theorem bt{a b:Bool}(h1:a=true)(h2:b=true):(a&&b)=true:=by rw [h1,h2];rfl
theorem Ay8:joinedFacts prog 6 Tryz.f6 (Rows.OpenSpec.upto Rows.sessionTimeSpec).bare Rows.sessionTimeUptoRow=true:=by
 unfold joinedFacts
 exact bt (bt (bt (bt (bt (bt (bt (bt (bt (bt (bt (bt (bt (bt (bt (bt (bt (bt (bt (bt (bt (bt (bt (bt (bt (bt (bt (bt (bt (bt (bt Bda Bdb) Bdc) Bdd) Bde) Bdf) Bdg) Bdh) Bdi) Bdj) A9n) A9o) A9p) A9q) A9r) A9s) A9t) A9u) A9v) A9w) A9x) A9y) A9z) A90) A91) A92) A93) A94) A95) A96) A97) A98
end Go.Proofs.YtpaccopbbffkaaaGreatDoor
