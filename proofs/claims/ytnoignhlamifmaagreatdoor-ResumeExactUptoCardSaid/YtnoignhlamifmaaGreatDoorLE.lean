/- Resuming, the given statement (second form). No condition. -/
import Derived.Test.YtnoignhlamifmaaGreatDoorE6
import Derived.Test.YtnoignhlamifmaaGreatDoorFE0
import Derived.Test.YtnoignhlamifmaaGreatDoorFE1
import Derived.Test.YtnoignhlamifmaaGreatDoorFE2
set_option maxHeartbeats 8000000
set_option linter.all false
set_option maxRecDepth 10000
open Go.Proofs.Tryz
namespace Go.Proofs.YtnoignhlamifmaaGreatDoor
open Go.Eng Go.Eng.Limb Go.ChangeShapes Go.WideShapes Go.ChangeAt Go.RowKit
def Ax0(os:Os){H:Type}(enc:TypeId×Value->H):∃ds places,DataW.whole enc prog ((Ae3 os).forCall (fun _ _=>0) ⟨#[],#[zd,zS,zI],[]⟩).memory Tryz.f4.params.toList Rows.resumeExactSpec.vars false #[zd,zS,zI].toList 8=some (ds,[],places)/\Rows.uptoSmall H (ds++[])=true:=
 ⟨[dD,.nil,dI],[],kr,kr⟩
set_option maxRecDepth 100000 in
theorem Auv(os:Os)(started:os.Started)(H:Type)(enc:TypeId×Value->H)(F:Stop.Interp):
  ReturnsInHanded {} Tryz.checked os 4 .any ((Rows.OpenSpec.upto Rows.resumeExactSpec).preRow enc prog Tryz.f4 Rows.resumeExactUptoRow.domain false Rows.resumeExactUptoRow.laid) (((Rows.OpenSpec.upto Rows.resumeExactSpec).at F).post enc prog Tryz.f4 false true false false):=by
 obtain⟨ds,places,hx,hsm⟩:=Ax0 os enc
 refine returnsInHanded_of_row (C:=Tryz.checked) (s:=Rows.OpenSpec.upto Rows.resumeExactSpec) (show ownKnob prog.godebug=none from kr) started kr func4
  (witness_row_at (enc:=enc) (C:=Tryz.checked) false (Ae3 os) #[zd,zS,zI] rfl kr kr kr
   (OpenSpec.preRow_of_cond 8 hx kr (fun k hk=>by cases hk;exact hsm) kr (A4m os))) ?_
 intro W base args ds gs before hval hW _ hcond _ hL hS _
 refine Ahk (s:=Rows.resumeExactSpec) (L:=[44,36,24,22,203,27,25,28,447,34,32,30,164,37,111,109,107,38,150,148,39,310,41,42,62,79,75,77,3,9,4]) (tb:=4) (ts:=[44,62,3]) (by rw [params4]) kr kr Bf4 rfl underlying4 rfl (fun ds hl=>?_) (fun vs hvs hsm=>?_) (G:=gv) ⟨Bj0 hS,Aj0 hL⟩ (Bjz H) (fun d hd=>Axw (hcond _ rfl) d (L9 _ hd)) hval hW
 ·match ds,hl with
  |[d0,d1,d2],_=>rfl
 ·obtain⟨v0,r0,rfl,h0,v1,r1,rfl,h1,v2,r2,rfl,h2,rfl⟩:=hvs
  obtain⟨d,rfl,hlim⟩:=Aqj h0
  obtain⟨l,rfl,hj⟩:=Bgh h1
  obtain⟨c,rfl⟩:=Bgi h2
  have hd:=Bjy (hsm d.v sM)
  obtain⟨hl,hs⟩:=Bgj (hsm (.ro 11 (l.map Jv.v)) sM)
  exact A4l d l c (fun hv=>Bgc hlim hd hv) hl hj hs
def Afy:Rows.ResumeExactUptoSaid:=
 OpenClaim.holds_of_cond 4 Tryz.f4 rfl rfl rfl rfl rfl rfl rfl ⟨rfl,rfl,rfl,rfl,rfl⟩ rfl rfl rfl rfl rfl Aj3 func4 Axy
  (Kd kr) (by unfold Func.isWrapper;first|(rw [Ab (by decide+kernel)];kernel_rfl)|(rw [I (by decide+kernel)];exact⟨rfl,rfl⟩))
  (fun os started H enc _ F=>by rw [OpenClaim.pre_eq_preRow];exact Auv os started H enc F)
def Ax1(f:FuncId)(fn:Func)(hf:Tryz.pinned.checked.prog.funcNamed "examboard/examboardlaw52.ResumeExact" =some f)(hfn:Tryz.pinned.checked.prog.funcs[f]?=some fn):
  true=Tryz.pinned.checked.prog.looks []/\∀(j:Nat)t,fn.params[j]?=some t->Tryz.pinned.checked.prog.wantsStandIn t=false:=by
 obtain rfl:f=4:=J0 (Aj3.symm.trans hf)|>.symm
 obtain rfl:fn=Tryz.f4:=(J0 (func4.symm.trans hfn)).symm
 refine⟨Axz,fun j t ht=>?_⟩
 rw [params4]at ht
 have h3:t=44\/t=62\/t=3:=by
  have:=Array.mem_of_getElem? ht
  simp at this
  omega
 rcases h3 with rfl|rfl|rfl
 ·exact(show prog.wantsStandIn 44=false from kr)
 ·exact(show prog.wantsStandIn 62=false from kr)
 ·exact(show prog.wantsStandIn 3=false from kr)
theorem resumeExactProved:Rows.ResumeExactUptoCardSaid:=
 Claim7.holds_tied_plain_at .later [] _ _ _ _ Afy (fun _ h=>by cases h) Bbl (fun _ h=>by cases h) resumeExactUpto_row_tie rfl ⟨rfl,rfl⟩ A4n rfl Ax1 A4o
end Go.Proofs.YtnoignhlamifmaaGreatDoor
