/- Sessions: the closed facts of the row of SessionAnswers. No condition. -/
import Derived.Test.YtpaccopbbffkaaaGreatDoorB1
import Derived.Test.YtpaccopbbffkaaaGreatDoorRows
import Derived.Test.YtpaccopbbffkaaaGreatDoorCards
import Derived.Test.YtpaccopbbffkaaaGreatDoorTie
import Derived.WalkKit
import Derived.ProofKit
import Derived.OpenShut
import Derived.Deep.DeepHandedRow
import Derived.Lib.LaidTab
import Derived.Stop.LaidErr
import Derived.SevenTiedAt
set_option maxHeartbeats 8000000
set_option linter.all false
open Go.Proofs.Tryz
set_option maxRecDepth 10000
namespace Go.Proofs.YtpaccopbbffkaaaGreatDoor
open Go.Eng Go.ChangeShapes Go.WideShapes Go.ChangeAt Go.RowKit
theorem Azb:(Rows.sessionAnswersUptoRow.wf (OpenSpec.ofChange (Rows.OpenSpec.upto Rows.sessionAnswersSpec).bare))=true:=kr
theorem Azc:(laidOutB prog)=true:=kr
theorem Azd:(mapsRowed prog)=true:=kr
theorem Aze:(Tryz.f3.params.all (prog.readableRec ·))=true:=kr
theorem Azf:(namedTie prog Rows.sessionAnswersUptoRow.named (Rows.OpenSpec.upto Rows.sessionAnswersSpec).bare.vars)=true:=kr
theorem Azg:((Rows.sessionAnswersUptoRow.stops== []))=true:=kr
theorem Azh:((prog.stops== []))=true:=kr
theorem Azi:((Rows.sessionAnswersUptoRow.knobs== []))=true:=kr
theorem Azj:((prog.stopKnobs== []))=true:=kr
theorem Azk:((Rows.sessionAnswersUptoRow.inPlace==prog.inPlace 3))=true:=kr
theorem Atm:((Rows.sessionAnswersUptoRow.unfollowed==prog.unfollowed 3))=true:=kr
theorem Atn:((Rows.sessionAnswersUptoRow.recurses==prog.recurses 3))=true:=kr
theorem Ato:((Rows.sessionAnswersUptoRow.named==prog.varsNamed 3))=true:=kr
theorem Atp:((Rows.sessionAnswersUptoRow.maps==(Tryz.f3.params.toList++(Rows.OpenSpec.upto Rows.sessionAnswersSpec).bare.plain.varTypes prog).any (prog.mapsRec ·)))=true:=kr
theorem Atq:((Rows.sessionAnswersUptoRow.ifaces==(Tryz.f3.params.toList++(Rows.OpenSpec.upto Rows.sessionAnswersSpec).bare.plain.varTypes prog).any (prog.ifacesRec ·)))=true:=kr
theorem Atr:((Rows.sessionAnswersUptoRow.mapsOut==prog.mapsAmong Tryz.f3.resultTypes.toList))=true:=kr
theorem Ats:((Rows.sessionAnswersUptoRow.loops==(Tryz.f3.params.toList++(Rows.OpenSpec.upto Rows.sessionAnswersSpec).bare.plain.varTypes prog).any (prog.loopsFrom ·)))=true:=kr
theorem Att:((Rows.sessionAnswersUptoRow.wideKeys==(Tryz.f3.params.toList++(Rows.OpenSpec.upto Rows.sessionAnswersSpec).bare.plain.varTypes prog++Tryz.f3.resultTypes.toList).any (prog.wideKeysFrom ·)))=true:=kr
theorem Atu:((Rows.OpenSpec.upto Rows.sessionAnswersSpec).bare.vars.all (prog.varReadable ·))=true:=kr
theorem Atv:(Tryz.f3.resultTypes.all (fun t=>prog.readableRec t&&decide (t<prog.types.size)))=true:=kr
theorem Atw:((Rows.sessionAnswersUptoRow.ifacesOut==Tryz.f3.resultTypes.toList.any (prog.ifacesRec ·)))=true:=kr
theorem Atx:((Rows.sessionAnswersUptoRow.loopsOut==Tryz.f3.resultTypes.toList.any (prog.loopsFrom ·)))=true:=kr
theorem Aty:((Rows.sessionAnswersUptoRow.plainKeys==prog.plainKeys))=true:=kr
theorem Atz:(Rows.sessionAnswersUptoRow.shortTexts.isNone)=true:=kr
theorem At0:(prog.stopsHeard)=true:=kr
theorem At1:(prog.mayEnter)=true:=kr
theorem At2:((Rows.sessionAnswersUptoRow.lifted==prog.liftsFinal))=true:=kr
theorem At3:((prog.make==some Rows.sessionAnswersUptoRow.make))=true:=kr
theorem At4:((Rows.sessionAnswersUptoRow.kinds==(if Rows.sessionAnswersUptoRow.domain.isEmpty then []else Tryz.f3.params.toList.map fun t=>match prog.underlying t with|some (.int k)=>some k|_ =>none)))=true:=kr
theorem At5:((Rows.sessionAnswersUptoRow.pinned==Rows.sessionAnswersUptoRow.pinnedBy))=true:=kr
theorem At6:((Rows.sessionAnswersUptoRow.veiled==(Tryz.f3.params.toList++(Rows.OpenSpec.upto Rows.sessionAnswersSpec).bare.plain.varTypes prog++Tryz.f3.resultTypes.toList).any (prog.veiledRec ·)))=true:=kr
theorem At7:(Rows.sessionAnswersUptoRow.veiledFits prog Tryz.f3.params.toList (Tryz.f3.params.toList++(Rows.OpenSpec.upto Rows.sessionAnswersSpec).bare.plain.varTypes prog++Tryz.f3.resultTypes.toList))=true:=kr
theorem Aar:prog.funcNamed "examboard/examboardlaw51.SessionAnswers" =some 3:=kr
theorem Amt:false=Tryz.pinned.checked.prog.looks []:=kr
theorem At8:Rows.sessionAnswersUptoRow.wfByText (Rows.OpenSpec.upto Rows.sessionAnswersSpec)=true:=kr
theorem Aqw:Tryz.pinned.checked.prog.mainIs=some (true,"e62a4119ade72470a0b8df3e1690f2a89a139afbbe1e5bd2afdd3d63f79e2260".toList):=kr
theorem Aqx:false=Rows.sessionAnswersUptoRow.goesBy Tryz.pinned.checked.prog:=kr
theorem bt{a b:Bool}(h1:a=true)(h2:b=true):(a&&b)=true:=by rw [h1,h2];rfl
theorem Amu:joinedFacts prog 3 Tryz.f3 (Rows.OpenSpec.upto Rows.sessionAnswersSpec).bare Rows.sessionAnswersUptoRow=true:=by
 unfold joinedFacts
 exact bt (bt (bt (bt (bt (bt (bt (bt (bt (bt (bt (bt (bt (bt (bt (bt (bt (bt (bt (bt (bt (bt (bt (bt (bt (bt (bt (bt (bt (bt (bt Azb Azc) Azd) Aze) Azf) Azg) Azh) Azi) Azj) Azk) Atm) Atn) Ato) Atp) Atq) Atr) Ats) Att) Atu) Atv) Atw) Atx) Aty) Atz) At0) At1) At2) At3) At4) At5) At6) At7
end Go.Proofs.YtpaccopbbffkaaaGreatDoor
