/- Resuming, the given statement (second form). No condition. -/
import Derived.Test.YtnoignhlamifmaaGreatDoorA6
import Derived.Test.YtnoignhlamifmaaGreatDoorFA0
import Derived.Test.YtnoignhlamifmaaGreatDoorFA1
import Derived.Test.YtnoignhlamifmaaGreatDoorFA2
set_option maxHeartbeats 8000000
set_option linter.all false
set_option maxRecDepth 10000
open Go.Proofs.Tryz
namespace Go.Proofs.YtnoignhlamifmaaGreatDoor
open Go.Eng Go.Eng.Limb Go.ChangeShapes Go.WideShapes Go.ChangeAt Go.RowKit
def Av7(os:Os){H:Type}(enc:TypeId × Value->H):∃ds places,DataW.whole enc prog ((Adt os).forCall (fun _ _ =>0) ⟨#[],#[zd,zS],[]⟩).memory Tryz.f3.params.toList Rows.resumeAgainSpec.vars false #[zd,zS].toList 8=some (ds,[],places)/\Rows.uptoSmall H (ds++[])=true:=
 ⟨[dD,.nil],[],kr,kr⟩
set_option maxRecDepth 100000 in
theorem As6(os:Os)(started:os.Started)(H:Type)(enc:TypeId × Value->H)(F:Stop.Interp):
  ReturnsInHanded {} Tryz.checked os 3 .any ((Rows.OpenSpec.upto Rows.resumeAgainSpec).preRow enc prog Tryz.f3 Rows.resumeAgainUptoRow.domain false Rows.resumeAgainUptoRow.laid) (((Rows.OpenSpec.upto Rows.resumeAgainSpec).at F).post enc prog Tryz.f3 false true false false):=by
 obtain⟨ds,places,hx,hsm⟩:=Av7 os enc
 refine returnsInHanded_of_row (C:=Tryz.checked) (s:=Rows.OpenSpec.upto Rows.resumeAgainSpec) (show ownKnob prog.godebug=none from kr) started kr func3
  (witness_row_at (enc:=enc) (C:=Tryz.checked) false (Adt os) #[zd,zS] rfl kr kr kr
   (OpenSpec.preRow_of_cond 8 hx kr (fun k hk=>by cases hk;exact hsm) kr (A2s os))) ?_
 intro W base args ds gs before hval hW _ hcond _ hL hS _
 refine Aga (s:=Rows.resumeAgainSpec) (L:=[44,36,24,22,203,27,25,28,447,34,32,30,164,37,111,109,107,38,150,148,39,310,41,42,45,5,3,9,4]) (tb:=4) (ts:=[44,45]) (by rw [params3]) kr kr Bee rfl underlying4 rfl (fun ds hl=>?_) (fun vs hvs hsm=>?_) (G:=gv) ⟨Bhy hS,Aik hL⟩ (Bhx H) (fun d hd=>Av3 (hcond _ rfl) d (Lo _ hd)) hval hW
 ·match ds,hl with
  | [d0,d1],_ =>rfl
 ·obtain⟨v0,r0,rfl,h0,v1,r1,rfl,h1,rfl⟩:=hvs
  obtain⟨d,rfl,hlim⟩:=Aos h0
  obtain⟨l,rfl⟩:=A9b h1
  have hd:=Bhw (hsm d.v sM)
  exact A2q d l (fun hv _ =>Bel hlim hd hv)
def Aem:Rows.ResumeAgainUptoSaid:=
 OpenClaim.holds_of_cond 3 Tryz.f3 rfl rfl rfl rfl rfl rfl rfl ⟨rfl,rfl,rfl,rfl,rfl⟩ rfl rfl rfl rfl rfl Ail func3 Av5
  (Jz kr) (by unfold Func.isWrapper;first|(rw [Ad (by decide+kernel)];kernel_rfl)|(rw [I (by decide+kernel)];exact⟨rfl,rfl⟩))
  (fun os started H enc _ F=>by rw [OpenClaim.pre_eq_preRow];exact As6 os started H enc F)
def Av8(f:FuncId)(fn:Func)(hf:Tryz.pinned.checked.prog.funcNamed "examboard/examboardlaw52.ResumeAgain" =some f)(hfn:Tryz.pinned.checked.prog.funcs[f]? =some fn):
  true=Tryz.pinned.checked.prog.looks []/\∀(j:Nat)t,fn.params[j]? =some t->Tryz.pinned.checked.prog.wantsStandIn t=false:=by
 obtain rfl:f=3:=Ht (Ail.symm.trans hf)|>.symm
 obtain rfl:fn=Tryz.f3:=(Ht (func3.symm.trans hfn)).symm
 refine⟨Av6,fun j t ht=>?_⟩
 rw [params3]at ht
 have h3:t=44\/t=45:=by
  have:=Array.mem_of_getElem? ht
  simp at this
  omega
 rcases h3 with rfl|rfl
 ·exact(show prog.wantsStandIn 44=false from kr)
 ·exact(show prog.wantsStandIn 45=false from kr)
theorem resumeAgainProved:Rows.ResumeAgainUptoCardSaid:=
 Claim7.holds_tied_plain_at .later [] _ _ _ _ Aem (fun _ h=>by cases h) A91 (fun _ h=>by cases h) resumeAgainUpto_row_tie rfl ⟨rfl,rfl⟩ A2u rfl Av8 A2v
end Go.Proofs.YtnoignhlamifmaaGreatDoor
