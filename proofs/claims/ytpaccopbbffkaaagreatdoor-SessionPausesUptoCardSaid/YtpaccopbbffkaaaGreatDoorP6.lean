/- Sessions: part 6 of the proof. No condition. -/
import Derived.Test.YtpaccopbbffkaaaGreatDoorP5
import Derived.RangeFuncBox
import Derived.RangeFuncLeaves
import Derived.Shelf.Abstract
import Derived.OwnWalkIn
import Derived.TacticsInMore
import Derived.LoopNIn
import Derived.LoopIn
import Derived.Shelf.SlIterI.Sorted
import Derived.Test.YtpaccopbbffkaaaGreatDoorRows
import Derived.Test.YtpaccopbbffkaaaGreatDoorCards
import Derived.Test.YtpaccopbbffkaaaGreatDoorTie
import Derived.Deep.DeepHandedRow
import Derived.Lib.LaidTab
import Derived.Stop.LaidErr
import Derived.SevenTiedAt
set_option maxHeartbeats 8000000
set_option linter.all false
open Go.Proofs.Tryz
set_option maxRecDepth 4000
namespace Go.Proofs.YtpaccopbbffkaaaGreatDoor
open Go.Eng Go.Eng.Limb
structure Ev where
 kind:Int
 time:Int
 an:An
 inc:In4
def Ev.v(e:Ev):V:=V.agg [.int .i64 e.kind,.int .i64 e.time,.int .i64 e.an.item,.ro 1 (As e.an.ch),.int .i64 e.an.val,.str e.an.txt,.bool e.an.om,.int .i64 e.inc.ki,.int .i64 e.inc.ti,.int .i64 e.inc.lo,.int .i64 e.inc.gr]
def An5(s:Se)(e:Ev):Int:=
 if A6b s=false then 8 else if e.inc.ti≠e.time then 1 else if O3 e.inc≠0 then O3 e.inc else if(300:Int)<=s.inc.length then 5 else 0
def R7(d:Dl)(s:Se)(e:Ev):Se:={ s with us:=L0 (H9 s e.time) (Ig d s),inc:=s.inc++[e.inc]}
theorem Aq4(d:Dl)(s:Se)(e:Ev)(v aq iq:Nat)(al:s.inc.length<=1000):
  U9 gv prog 45 [d.v,.bp 10 v 12 0 0,e.v] (Aet s v aq iq) (evR (An5 s e) v (R7 d s e)):=by
 have af:=Atb s;have ag:=Aa1 e.inc;have aa:=Yw s e.time;have y:=Aeo d s
 have m:∀r o,r=V.int .i64 0->o= [(10,(⟨v,12,58,[V.agg [.int .i64 s.st,.int .i64 (if Ig d s<H9 s e.time then Ig d s else H9 s e.time),.int .i64 s.la,.int .i64 s.sh,.ro 1 (As s.t.elig),.ro 2 (A2 s.t.steps),.int .i64 s.t.pend,.ro 1 (Bw s.t.w),.int .u64 s.t.draw,.int .i64 s.t.stop,.ro 5 (Fu s.ans),.ro 4 (Dt (s.inc++[e.inc]))]]⟩:Ob))]->evR 0 v (R7 d s e) r o:=
  fun r o hr ho=>Wt rfl hr ho
 have ab:Dt s.inc++[V.agg [.int .i64 e.inc.ki,.int .i64 e.inc.ti,.int .i64 e.inc.lo,.int .i64 e.inc.gr]]=Dt (s.inc++[e.inc]):=by simp [Dt,In4.v]
 have ad:=Ec (s.inc++[e.inc]);have x:s.inc.length+1<=maxLen/\(s.inc.length+1)*32<=140737488355328:=⟨Ai (show s.inc.length+1<=1001 by omega) dc,by omega⟩;unfold An5 Aet seC;unfold In4.v at ag;generalize R7 d s e=ps,H9 s e.time=uu,Ig d s=ll,O3 e.inc=ie at*;have ai:e.v=V.agg [.int .i64 e.kind,.int .i64 e.time,.int .i64 e.an.item,.ro 1 (As e.an.ch),.int .i64 e.an.val,.str e.an.txt,.bool e.an.om,.int .i64 e.inc.ki,.int .i64 e.inc.ti,.int .i64 e.inc.lo,.int .i64 e.inc.gr]:=rfl;rw [ai];have i5:=Ag e.an.ch;generalize As e.an.ch=hv at*;have ah:s.v=V.agg [.int .i64 s.st,.int .i64 s.us,.int .i64 s.la,.int .i64 s.sh,.ro 1 (As s.t.elig),.ro 2 (A2 s.t.steps),.int .i64 s.t.pend,.ro 1 (Bw s.t.w),.int .u64 s.t.draw,.int .i64 s.t.stop,.ro 5 (Fu s.ans),.ro 4 (Dt s.inc)]:=rfl;have ae:d.v=V.agg [.int .i64 d.ses,.int .i64 d.cand,.int .i64 d.p.len,.ro 5 (Ey d.p.rules),.ro 1 (As d.p.g.pts),.ro 1 (As d.p.g.pri),.ro 2 (A2 d.p.en),.int .i64 d.p.mn,.bool d.p.var.num.neg,.ro 1 (Av d.p.var.num.mag),.ro 1 (Av d.p.var.den),.int .i64 d.p.cut,.bool d.p.lvl.num.neg,.ro 1 (Av d.p.lvl.num.mag),.ro 1 (Av d.p.lvl.den),.int .i64 d.p.top,.bool d.p.rate.num.neg,.ro 1 (Av d.p.rate.num.mag),.ro 1 (Av d.p.rate.den),.int .i64 d.p.slack,.ro 9 (Ce d.pool),.ro 17 (Ip d.items),.ro 1 (As d.ess),.ro 2 (A2 d.uses),.int .i64 d.served,.int .i64 d.sec,.int .i64 d.nu,.int .i64 d.de,.int .i64 d.ex,.int .u64 d.seed]:=rfl;rw [ah]at af aa y;rw [ae]at y;rw [ae];have d0:=C2 d.p.rules;have d1:=Ag d.p.g.pts;have d2:=Ag d.p.g.pri;have d3:=A5 d.p.en;have d4:=Ak d.p.var.num.mag;have d5:=Ak d.p.var.den;have d6:=Ak d.p.lvl.num.mag;have d7:=Ak d.p.lvl.den;have d8:=Ak d.p.rate.num.mag;have d9:=Ak d.p.rate.den;have j:=Ca d.pool;have f:=Gh d.items;have l:=Ag d.ess;have h:=A5 d.uses;generalize Ey d.p.rules=rv,As d.p.g.pts=pt,As d.p.g.pri=pr,A2 d.p.en=ev,Av d.p.var.num.mag=vm,Av d.p.var.den=vd,Av d.p.lvl.num.mag=lm,Av d.p.lvl.den=ld,Av d.p.rate.num.mag=rm,Av d.p.rate.den=rd at*;have am:=Dx d.pool;have au:=Hj d.items;have av:=A4 d.ess;generalize Ce d.pool=lv,Ip d.items=aw,As d.ess=ar,A2 d.uses=uv at*;have z1:=Ag s.t.elig;have z2:=A5 s.t.steps;have z3:=Bv s.t.w;have u:=Ew s.ans;have z:=Ec s.inc;have c:=Gy s.ans;have a:=F6 s.inc;generalize As s.t.elig=ti,A2 s.t.steps=ts,Bw s.t.w=tw,Fu s.ans=ao,Dt s.inc=ak at*;have aj:=Fo z;refine Hr func45 fun w0 N0 n hG=>?_;refine Aa [1,3,5] [3,5,10,73,85] sr (Bp 85 [1,3,5] [3,5,10,73] (by simp [u,c,aj]<;>rfl) (Ab (Ab (Ad (Am 3 sr ?_)))));refine Ack af func77 rfl kr rfl rfl rfl sr (by simp [AS.views,AS.view,AS.viewL,AS.viewC,z,a]<;>rfl) rfl sr ?_;refine Af [1,3,5,12] [3,5,10,73] sr ?_
 refine Ao (fun h1=>?_) fun h1=>Ae ?_
 ·refine Aa [6] [10,73] sr ?_;exact C1 n (Dr (A8 _ _) sr (by rw [if_pos (by simpa using h1)];exact Is dc) Iu)
 rw [if_neg (by simpa using h1)];refine Ab (Aa [1,3,5,18] [3,5,10,73] sr ?_)
 refine Ao (fun h2=>?_) fun h2=>Ae ?_
 ·refine Aa [6] [10,73] sr ?_;exact C1 n (Dr (A8 _ _) sr (by rw [if_pos (by simpa using h2)];exact Is dc) Iu)
 rw [if_neg (by simpa using h2)];refine Ab (Ab (Ad (Am 2 sr ?_)));refine Ah ag func54 ?_;refine Af [1,3,5,7] [3,5,10,73] sr ?_;refine Aa [1,3,5,7,23] [3,5,10,73] sr ?_
 refine Ao (fun h3=>?_) fun h3=>Ae ?_
 ·refine Aa [6] [10,73] sr ?_;exact C1 n (Dr (A8 _ _) sr (by rw [if_pos (by simpa using h3)];exact Is (by simpa using h3)) Iu)
 rw [if_neg (by simpa using h3)];refine Ab (Aa [1,3,5,30] [3,5,10,73] sr ?_)
 refine Ao (fun h4=>?_) fun h4=>Ae ?_
 ·refine Aa [6] [10,73] sr ?_;exact C1 n (Dr (A8 _ _) sr (by rw [if_pos (by simpa using h4)];exact Is dc) Iu)
 rw [if_neg (by simpa using h4)];refine Ab (Lw [6,11] Ds ?_);refine Ih [(0,[]),(1,[]),(2,[]),(4,[]),(8,[]),(9,[]),(3,[]),(5,[])] kr sr ?_
 refine Ur [6,7,10] kr ?_;intro i hi;simp only [Cj,F9,or_false]at hi
 rcases hi with rfl|rfl|rfl
 ·refine⟨_,_,rfl,Il sm aa func32 rfl kr sr rfl rfl sr (by simp [AS.views,AS.view,AS.viewL,AS.viewC,z,a]<;>rfl) rfl sr,?_⟩;refine Ih [(7,[]),(10,[])] kr sr ?_
  refine I0 (i:=11) (ks:=[]) kr rfl sm (Il sm y func31 rfl kr sr rfl rfl sr (by simp [AS.views,AS.view,AS.viewL,AS.viewC,z,a]<;>rfl) rfl sr) ?_;refine Ih [(12,[]),(13,[]),(14,[]),(15,[])] kr sr ?_
  refine Kp [1,5] [5,10,73] kr sr ?_;refine Dq [(0,[]),(1,[]),(2,[]),(3,[]),(5,[]),(4,[53]),(6,[53]),(7,[]),(8,[]),(9,[]),(10,[]),(11,[])] [] [10,73] Ds kr (by simp [x,a]<;>rfl) ?_;rw [ab];refine Aa [6] [10,73] sr (Bp 73 [6] [10] (by simp [ad]<;>rfl) ?_);exact C1 n (Dr (A8 _ _) sr (m _ _ rfl rfl) (fun k o hk=>Dk gt hk))
 ·refine⟨_,_,rfl,Q3 sr,?_⟩;refine Ur [6,10] kr ?_;intro i hi;simp only [Cj,F9,or_false]at hi
  rcases hi with rfl|rfl
  ·refine⟨_,_,rfl,Il sm aa func32 rfl kr sr rfl rfl sr (by simp [AS.views,AS.view,AS.viewL,AS.viewC,z,a]<;>rfl) rfl sr,?_⟩;refine Ih [(10,[])] kr sr ?_
   refine I0 (i:=11) (ks:=[]) kr rfl sm (Il sm y func31 rfl kr sr rfl rfl sr (by simp [AS.views,AS.view,AS.viewL,AS.viewC,z,a]<;>rfl) rfl sr) ?_;refine Ih [(12,[]),(13,[]),(14,[]),(15,[])] kr sr ?_
   refine Kp [1,5] [5,10,73] kr sr ?_;refine Dq [(0,[]),(1,[]),(2,[]),(3,[]),(5,[]),(4,[53]),(6,[53]),(7,[]),(8,[]),(9,[]),(10,[]),(11,[])] [] [10,73] Ds kr (by simp [x,a]<;>rfl) ?_;rw [ab];refine Aa [6] [10,73] sr (Bp 73 [6] [10] (by simp [ad]<;>rfl) ?_);exact C1 n (Dr (A8 _ _) sr (m _ _ rfl rfl) (fun k o hk=>Dk gt hk))
  ·refine⟨_,_,rfl,Q3 sr,?_⟩;refine I0 (i:=6) (ks:=[]) kr rfl sm (Il sm aa func32 rfl kr sr rfl rfl sr (by simp [AS.views,AS.view,AS.viewL,AS.viewC,z,a]<;>rfl) rfl sr) ?_;refine I0 (i:=11) (ks:=[]) kr rfl sm (Il sm y func31 rfl kr sr rfl rfl sr (by simp [AS.views,AS.view,AS.viewL,AS.viewC,z,a]<;>rfl) rfl sr) ?_;refine Ih [(12,[]),(13,[]),(14,[]),(15,[])] kr sr ?_
   refine Kp [1,5] [5,10,73] kr sr ?_;refine Dq [(0,[]),(1,[]),(2,[]),(3,[]),(5,[]),(4,[53]),(6,[53]),(7,[]),(8,[]),(9,[]),(10,[]),(11,[])] [] [10,73] Ds kr (by simp [x,a]<;>rfl) ?_;rw [ab];refine Aa [6] [10,73] sr (Bp 73 [6] [10] (by simp [ad]<;>rfl) ?_);exact C1 n (Dr (A8 _ _) sr (m _ _ rfl rfl) (fun k o hk=>Dk gt hk))
 ·refine⟨_,_,rfl,Q3 sr,?_⟩;refine Ur [6,7] kr ?_;intro i hi;simp only [Cj,F9,or_false]at hi
  rcases hi with rfl|rfl
  ·refine⟨_,_,rfl,Il sm aa func32 rfl kr sr rfl rfl sr (by simp [AS.views,AS.view,AS.viewL,AS.viewC,z,a]<;>rfl) rfl sr,?_⟩;refine Ih [(7,[])] kr sr ?_
   refine I0 (i:=11) (ks:=[]) kr rfl sm (Il sm y func31 rfl kr sr rfl rfl sr (by simp [AS.views,AS.view,AS.viewL,AS.viewC,z,a]<;>rfl) rfl sr) ?_;refine Ih [(12,[]),(13,[]),(14,[]),(15,[])] kr sr ?_
   refine Kp [1,5] [5,10,73] kr sr ?_;refine Dq [(0,[]),(1,[]),(2,[]),(3,[]),(5,[]),(4,[53]),(6,[53]),(7,[]),(8,[]),(9,[]),(10,[]),(11,[])] [] [10,73] Ds kr (by simp [x,a]<;>rfl) ?_;rw [ab];refine Aa [6] [10,73] sr (Bp 73 [6] [10] (by simp [ad]<;>rfl) ?_);exact C1 n (Dr (A8 _ _) sr (m _ _ rfl rfl) (fun k o hk=>Dk gt hk))
  ·refine⟨_,_,rfl,Q3 sr,?_⟩;refine I0 (i:=6) (ks:=[]) kr rfl sm (Il sm aa func32 rfl kr sr rfl rfl sr (by simp [AS.views,AS.view,AS.viewL,AS.viewC,z,a]<;>rfl) rfl sr) ?_;refine I0 (i:=11) (ks:=[]) kr rfl sm (Il sm y func31 rfl kr sr rfl rfl sr (by simp [AS.views,AS.view,AS.viewL,AS.viewC,z,a]<;>rfl) rfl sr) ?_;refine Ih [(12,[]),(13,[]),(14,[]),(15,[])] kr sr ?_
   refine Kp [1,5] [5,10,73] kr sr ?_;refine Dq [(0,[]),(1,[]),(2,[]),(3,[]),(5,[]),(4,[53]),(6,[53]),(7,[]),(8,[]),(9,[]),(10,[]),(11,[])] [] [10,73] Ds kr (by simp [x,a]<;>rfl) ?_;rw [ab];refine Aa [6] [10,73] sr (Bp 73 [6] [10] (by simp [ad]<;>rfl) ?_);exact C1 n (Dr (A8 _ _) sr (m _ _ rfl rfl) (fun k o hk=>Dk gt hk))
theorem A6f{p:Po}{pool:List Pit}{t:Te}{c:Int}(h:Af4 p pool t c=0):Yr p pool t=0/\t.pend≠0/\Afn (Om pool t.pend) c=true:=by
 unfold Af4 at h
 (repeat' split at h)<;>try omega
 rename_i h1 h2 a;exact⟨by omega,h2,by simpa using a⟩
theorem A2c{p:Po}{pool:List Pit}{t:Te}{c:Int}(k:AdP p pool)(h:Af4 p pool t c=0)(d:teOk t)(f:t.steps.length<=900){n:Nat}(hn:n<=998)(j:J2 t.w n):
  teOk (Qv p pool t c)/\J2 (Qv p pool t c).w (n+1)/\(Qv p pool t c).steps.length=t.steps.length+1:=by
 obtain⟨h1,h2,e⟩:=A6f h;obtain⟨r1,a,r3,i,r5,r6,r7⟩:=Ah8 k (Aem h1).1 h2 e (n:=n) om j;have l:(Vj pool t c).length=t.w.length:=by unfold Vj;rw [Ab0,i]
 refine⟨⟨d.el,by simp [Qv];omega,by show(Vj pool t c).length<=1000;rw [l];exact d.wl,fun x g=>Ai (a x g) om⟩,a,by simp [Qv]⟩
def Sv(d:Dl)(s:Se)(c:Int):Te:=
 if(Qv d.p d.pool s.t c).stop=0 then T7 d.p d.pool (Qv d.p d.pool s.t c)else Qv d.p d.pool s.t c
def Abd(d:Dl)(s:Se)(it:It)(a:An):Int:=
 if(J6 it a).2≠0 then(J6 it a).2 else if Af4 d.p d.pool s.t (J6 it a).1≠0 then Af4 d.p d.pool s.t (J6 it a).1
 else if(Qv d.p d.pool s.t (J6 it a).1).stop=0 then Af3 d.p d.pool (Qv d.p d.pool s.t (J6 it a).1)else 0
def A83(d:Dl)(s:Se)(it:It)(a:An):Se:={ s with t:=Sv d s (J6 it a).1,sh:=(Sv d s (J6 it a).1).pend}
theorem Aq5(hS:Jh)(d:Dl)(s:Se)(it:It)(a:An)(v:Nat)(hi:it.small)(ha:a.small)(h:AdP d.p d.pool)(ht:teOk s.t)(hw:J2 s.t.w 998)(aj:s.t.steps.length<=900):
  U9 gv prog 75 [d.v,.bp 10 v 12 0 0,it.v,a.v] [(10,⟨v,12,58,[s.v]⟩)] (evR (Abd d s it a) v (A83 d s it a)):=by
 have al:=Av6 hS it a hi ha ha.ch;unfold Abd A83 Sv;generalize J6 it a=sc at*;have f:=Aqv d.p d.pool s.t sc.1 h ht (fun x hx=>Ai (hw x hx) dc) aj;have ak:=fun h0=>A2c h h0 ht aj (c:=sc.1) (n:=998) dc hw
 have i:=fun h0=>Ann d.p d.pool (Qv d.p d.pool s.t sc.1) h (ak h0).1 (fun x hx=>Ai ((ak h0).2.1 x hx) dc)
 have hT:∀e x,teR e x=.tup [(if e=0 then x else Vi).v,.int .i64 e]:=fun e x=>rfl
 rw [hT]at f;simp only [hT]at i;generalize Qv d.p d.pool s.t sc.1=rT at*;generalize bb:Af4 d.p d.pool s.t sc.1=re at*;generalize Af3 d.p d.pool rT=ne,T7 d.p d.pool rT=nT at*;generalize aa:(if re=0 then rT else Vi)=t1 at*;generalize ab:(if ne=0 then nT else Vi)=t2 at*;have an:∀x:Te,x.v=.agg [.ro 1 (As x.elig),.ro 2 (A2 x.steps),.int .i64 x.pend,.ro 1 (Bw x.w),.int .u64 x.draw,.int .i64 x.stop]:=fun x=>rfl
 simp only [an]at f i;have ah:∀x:Te,Se.v { s with t:=x,sh:=x.pend}=V.agg [.int .i64 s.st,.int .i64 s.us,.int .i64 s.la,.int .i64 x.pend,.ro 1 (As x.elig),.ro 2 (A2 x.steps),.int .i64 x.pend,.ro 1 (Bw x.w),.int .u64 x.draw,.int .i64 x.stop,.ro 5 (Fu s.ans),.ro 4 (Dt s.inc)]:=fun x=>rfl
 have l:∀(x:Te)r o,r=V.int .i64 0->o= [(10,(⟨v,12,58,[V.agg [.int .i64 s.st,.int .i64 s.us,.int .i64 s.la,.int .i64 x.pend,.ro 1 (As x.elig),.ro 2 (A2 x.steps),.int .i64 x.pend,.ro 1 (Bw x.w),.int .u64 x.draw,.int .i64 x.stop,.ro 5 (Fu s.ans),.ro 4 (Dt s.inc)]]⟩:Ob))]->evR 0 v { s with t:=x,sh:=x.pend} r o:=
  fun x r o hr ho=>Wt (ah x) hr ho
 have y:=fun x:Te=>Ag x.elig
 have z:=fun x:Te=>A5 x.steps
 have u:=fun x:Te=>Bv x.w
 have aw:d.p.v=.agg [.int .i64 d.p.len,.ro 5 (Ey d.p.rules),.ro 1 (As d.p.g.pts),.ro 1 (As d.p.g.pri),.ro 2 (A2 d.p.en),.int .i64 d.p.mn,.bool d.p.var.num.neg,.ro 1 (Av d.p.var.num.mag),.ro 1 (Av d.p.var.den),.int .i64 d.p.cut,.bool d.p.lvl.num.neg,.ro 1 (Av d.p.lvl.num.mag),.ro 1 (Av d.p.lvl.den),.int .i64 d.p.top,.bool d.p.rate.num.neg,.ro 1 (Av d.p.rate.num.mag),.ro 1 (Av d.p.rate.den),.int .i64 d.p.slack]:=rfl;rw [aw]at f i;have ao:it.v=V.agg [.int .i64 it.id,.int .i64 it.ver,.int .i64 it.kind,.str it.stem,.ro 1 (Ed it.opts),.ro 1 (As it.ch),.int .i64 it.val,.int .i64 it.tol,.ro 1 (Ed it.txts),.int .i64 it.pts,.str it.code,.int .i64 it.fam,.int .i64 it.set,.int .i64 it.wo,.int .i64 it.se,.ro 1 (As it.ass),.int .i64 it.rub]:=rfl;have am:a.v=V.agg [.int .i64 a.item,.ro 1 (As a.ch),.int .i64 a.val,.str a.txt,.bool a.om]:=rfl;have ar:s.v=V.agg [.int .i64 s.st,.int .i64 s.us,.int .i64 s.la,.int .i64 s.sh,.ro 1 (As s.t.elig),.ro 2 (A2 s.t.steps),.int .i64 s.t.pend,.ro 1 (Bw s.t.w),.int .u64 s.t.draw,.int .i64 s.t.stop,.ro 5 (Fu s.ans),.ro 4 (Dt s.inc)]:=rfl;have ax:d.v=V.agg [.int .i64 d.ses,.int .i64 d.cand,.int .i64 d.p.len,.ro 5 (Ey d.p.rules),.ro 1 (As d.p.g.pts),.ro 1 (As d.p.g.pri),.ro 2 (A2 d.p.en),.int .i64 d.p.mn,.bool d.p.var.num.neg,.ro 1 (Av d.p.var.num.mag),.ro 1 (Av d.p.var.den),.int .i64 d.p.cut,.bool d.p.lvl.num.neg,.ro 1 (Av d.p.lvl.num.mag),.ro 1 (Av d.p.lvl.den),.int .i64 d.p.top,.bool d.p.rate.num.neg,.ro 1 (Av d.p.rate.num.mag),.ro 1 (Av d.p.rate.den),.int .i64 d.p.slack,.ro 9 (Ce d.pool),.ro 17 (Ip d.items),.ro 1 (As d.ess),.ro 2 (A2 d.uses),.int .i64 d.served,.int .i64 d.sec,.int .i64 d.nu,.int .i64 d.de,.int .i64 d.ex,.int .u64 d.seed]:=rfl;rw [ao,am]at al;rw [ao,am,ax,ar];clear ah an;have d0:=C2 d.p.rules;have d1:=Ag d.p.g.pts;have d2:=Ag d.p.g.pri;have d3:=A5 d.p.en;have d4:=Ak d.p.var.num.mag;have d5:=Ak d.p.var.den;have d6:=Ak d.p.lvl.num.mag;have d7:=Ak d.p.lvl.den;have d8:=Ak d.p.rate.num.mag;have d9:=Ak d.p.rate.den;have af:=Ca d.pool;have ad:=Gh d.items;have ae:=Ag d.ess;have ag:=A5 d.uses;generalize Ey d.p.rules=rv,As d.p.g.pts=pt,As d.p.g.pri=pr,A2 d.p.en=ev,Av d.p.var.num.mag=vm,Av d.p.var.den=vd,Av d.p.lvl.num.mag=lm,Av d.p.lvl.den=ld,Av d.p.rate.num.mag=rm,Av d.p.rate.den=rd at*;have a1:=Dx d.pool;have a3:=Hj d.items;have a6:=A4 d.ess;generalize Ce d.pool=lv,Ip d.items=a7,As d.ess=be,A2 d.uses=uv at*;have z1:=Ag s.t.elig;have z2:=A5 s.t.steps;have z3:=Bv s.t.w;have z4:=Ew s.ans;have z5:=Ec s.inc;have a9:=Gy s.ans;have a5:=F6 s.inc;generalize As s.t.elig=ti,A2 s.t.steps=ts,Bw s.t.w=tw,Fu s.ans=a2,Dt s.inc=bd at*;have i1:=Cw it.opts;have i2:=Ag it.ch;have i3:=Cw it.txts;have i4:=Ag it.ass;have az:=Eu it.opts;have ay:=A4 it.ch;have au:=Eu it.txts;have ba:=A4 it.ass;generalize Ed it.opts=ov,As it.ch=cv,Ed it.txts=xv,As it.ass=av at*;have bc:ov= []↔it.opts= []:=by rw [<- Aq,az,Aq]
 have a0:cv= []↔it.ch= []:=by rw [<- Aq,ay,Aq]
 have a8:xv= []↔it.txts= []:=by rw [<- Aq,au,Aq]
 have i5:=Ag a.ch;have a4:=A4 a.ch;generalize As a.ch=hv at*;refine Hr func75 fun w0 N0 m hG=>?_;refine Aa [1,4,6,7] [4,6,7,10] sr (Ab (Ad (Am 2 sr ?_)));refine Bq hG al func24 ?_;refine Af [1,4,9,10] [4,10] sr ?_;refine Ab (Aa [1,4,9,10,19] [4,10] sr ?_)
 refine Ao (fun h1=>?_) fun h1=>Ae ?_
 ·refine Aa [8] [10] sr ?_;exact C1 m (Dr (A8 _ _) sr (by rw [if_pos (by simpa using h1)];exact Is (by simpa using h1)) Iu)
 rw [if_neg (by simpa using h1)];refine Ab (C5 [(0,[]),(2,[]),(4,[]),(5,[]),(6,[]),(8,[]),(1,[11]),(3,[11]),(7,[11]),(9,[]),(10,[]),(11,[]),(12,[]),(13,[]),(14,[]),(15,[])] Ds kr ?_);refine Cf 9 sr ?_;refine Ut hG (fun hg=>f) func117 rfl kr rfl rfl sr rfl rfl sr (by simp) sr ?_;refine C6 [1,4,10,11] [4,10,11] sr ?_;refine Ab (Aa [1,4,10,11,35] [4,10,11] sr ?_)
 refine Ao (fun h2=>?_) fun h2=>Ae ?_
 ·refine Aa [8] [10] sr ?_;exact C1 m (Dr (A8 _ _) sr (by rw [if_pos (by simpa using h2)];exact Is (by simpa using h2)) Iu)
 have aq:re=0:=by simpa using h2
 rw [if_neg (by simpa using h2)];rw [if_pos aq]at aa;subst aa;replace i:=i aq;refine Ab (Aa [1,4,11,39] [4,10,11] sr ?_)
 refine Ao (fun h3=>?_) fun h3=>Ae ?_
 ·have j:rT.stop=0:=by simpa using h3
  rw [if_pos j,if_pos j];refine Ab (Ad (Am 5 sr ?_));refine Bq hG i func74 ?_;refine Af [1,10,11] [10,11] Go.sr ?_;refine Aa [1,10,11,50] [10,11] sr ?_
  refine Ao (fun h4=>?_) fun h4=>Ae ?_
  ·refine Aa [8] [10] sr ?_;exact C1 m (Dr (A8 _ _) sr (Is (by simpa using h4)) Iu)
  have ai:ne=0:=by simpa using h4
  rw [if_pos ai]at ab;subst ab;rw [ai];refine Aa [1,11] [10,11] Go.sr (Aa [] [10] Go.sr (Aa [8] [10] sr ?_));exact C1 m (Dr (A8 _ _) sr (l _ _ _ rfl rfl) (fun k o hk=>Dk gt hk))
 have j:¬rT.stop=0:=by simpa using h3
 rw [if_neg j,if_neg j];refine Aa [1,11] [10,11] Go.sr (Aa [] [10] Go.sr (Aa [8] [10] sr ?_));exact C1 m (Dr (A8 _ _) sr (l _ _ _ rfl rfl) (fun k o hk=>Dk gt hk))
theorem Awd:it0.small:=⟨by decide,⟨by decide,fun s h=>by cases h⟩,⟨by decide,fun s h=>by cases h⟩,by decide,by decide⟩
theorem Aq6{l:List It}(h:∀it∈l,it.small)(id:Int):(Ki (Hz l id)).small:=by
 cases e:Hz l id with
 |none=>exact Awd
 |some x=>exact h x (List.mem_of_find?_eq_some e)
def On(d:Dl)(s:Se):It:=Ki (Hz d.items s.sh)
def Lo(d:Dl)(s:Se)(e:Ev):Te:=if s.t.pend=s.sh then Sv d s (J6 (On d s) e.an).1 else s.t
def Vl(d:Dl)(s:Se)(e:Ev):Int:=if(Lo d s e).stop≠0 then(Abc d.ess (s.ans++[e.an])).getD 0 else if s.t.pend=s.sh then(Lo d s e).pend else s.sh
def Qw(d:Dl)(s:Se)(e:Ev):Se:={ st:=s.st,us:=H9 s e.time,la:=s.la,sh:=Vl d s e,t:=Lo d s e,ans:=s.ans++[e.an],inc:=s.inc}
def Px(d:Dl)(s:Se)(e:Ev):Int:=
 if s.st≠1 then 8 else if Ig d s<H9 s e.time then 15 else if s.sh=0 then 21 else if e.an.item≠s.sh then 11
 else if Z9 (On d s) e.an≠0 then Z9 (On d s) e.an else if s.t.pend=s.sh then Abd d s (On d s) e.an else 0
theorem Aq7(hS:Jh)(d:Dl)(s:Se)(e:Ev)(v aq iq:Nat)(hd:DlOk d)(ha:e.an.small)(h:AdP d.p d.pool)(ht:teOk s.t)(hw:J2 s.t.w 998)(a0:s.t.steps.length<=900)(bg:s.ans.length<=1000):
  U9 gv prog 43 [d.v,.bp 10 v 12 0 0,e.v] (Aet s v aq iq) (evR (Px d s e) v (Qw d s e)):=by
 have au:=Aq6 hd.is s.sh;have ay:=Yw s e.time;have ai:=Aeo d s;have av:=Aep d.items s.sh hd.il;have aj:=Yt hS (Ki (Hz d.items s.sh)) e.an au ha;have am:=An0 e.an ha.ch;have ao:=Av9 d.ess (s.ans++[e.an]) hd.el;have ab:=Aq5 hS d { s with ans:=s.ans++[e.an],us:=H9 s e.time} (Ki (Hz d.items s.sh)) e.an v au ha h ht hw a0;have e1:s.st≠1->Px d s e=8:=fun a=>by unfold Px;rw [if_pos a]
 have e2:s.st=1->Ig d s<H9 s e.time->Px d s e=15:=fun a b=>by unfold Px;rw [if_neg (by simp [a]),if_pos b]
 have e3:s.st=1->¬Ig d s<H9 s e.time->s.sh=0->Px d s e=21:=fun a b c=>by unfold Px;rw [if_neg (by simp [a]),if_neg b,if_pos c]
 have e4:s.st=1->¬Ig d s<H9 s e.time->¬s.sh=0->e.an.item≠s.sh->Px d s e=11:=fun a b c f=>by unfold Px;rw [if_neg (by simp [a]),if_neg b,if_neg c,if_pos f]
 have e5:s.st=1->¬Ig d s<H9 s e.time->¬s.sh=0->e.an.item=s.sh->Px d s e=if Z9 (On d s) e.an≠0 then Z9 (On d s) e.an else if s.t.pend=s.sh then Abd d s (On d s) e.an else 0:=fun a b c f=>by unfold Px;rw [if_neg (by simp [a]),if_neg b,if_neg c,if_neg (by simp [f])]
 have hI:On d s=Ki (Hz d.items s.sh):=rfl;rw [hI]at e5;have t1:s.t.pend=s.sh->Lo d s e=Sv d s (J6 (Ki (Hz d.items s.sh)) e.an).1:=fun a=>by unfold Lo;rw [if_pos a];rfl
 have t0:¬s.t.pend=s.sh->Lo d s e=s.t:=fun a=>by unfold Lo;rw [if_neg a]
 have ah:∀(x:Te)(z:Int),Lo d s e=x->Vl d s e=z->(Qw d s e).v=V.agg [.int .i64 s.st,.int .i64 (H9 s e.time),.int .i64 s.la,.int .i64 z,.ro 1 (As x.elig),.ro 2 (A2 x.steps),.int .i64 x.pend,.ro 1 (Bw x.w),.int .u64 x.draw,.int .i64 x.stop,.ro 5 (Fu (s.ans++[e.an])),.ro 4 (Dt s.inc)]:=fun x z a b=>by
  subst a;subst b;rfl
 have ak:Lo d s e≠Lo d s e\/(Lo d s e).stop≠0->Vl d s e=(Abc d.ess (s.ans++[e.an])).getD 0:=fun a=>by unfold Vl;rw [if_pos (a.resolve_left (fun n=>n rfl))]
 have a5:(Lo d s e).stop=0->s.t.pend=s.sh->Vl d s e=(Lo d s e).pend:=fun a b=>by unfold Vl;rw [if_neg (by simp [a]),if_pos b]
 have a4:(Lo d s e).stop=0->¬s.t.pend=s.sh->Vl d s e=s.sh:=fun a b=>by unfold Vl;rw [if_neg (by simp [a]),if_neg b]
 have aw:(A83 d { s with ans:=s.ans++[e.an],us:=H9 s e.time} (Ki (Hz d.items s.sh)) e.an).v=V.agg [.int .i64 s.st,.int .i64 (H9 s e.time),.int .i64 s.la,.int .i64 (Sv d s (J6 (Ki (Hz d.items s.sh)) e.an).1).pend,.ro 1 (As (Sv d s (J6 (Ki (Hz d.items s.sh)) e.an).1).elig),.ro 2 (A2 (Sv d s (J6 (Ki (Hz d.items s.sh)) e.an).1).steps),.int .i64 (Sv d s (J6 (Ki (Hz d.items s.sh)) e.an).1).pend,.ro 1 (Bw (Sv d s (J6 (Ki (Hz d.items s.sh)) e.an).1).w),.int .u64 (Sv d s (J6 (Ki (Hz d.items s.sh)) e.an).1).draw,.int .i64 (Sv d s (J6 (Ki (Hz d.items s.sh)) e.an).1).stop,.ro 5 (Fu (s.ans++[e.an])),.ro 4 (Dt s.inc)]:=rfl;change U9 _ _ _ _ [(10,⟨v,12,58,[V.agg [.int .i64 s.st,.int .i64 (H9 s e.time),.int .i64 s.la,.int .i64 s.sh,.ro 1 (As s.t.elig),.ro 2 (A2 s.t.steps),.int .i64 s.t.pend,.ro 1 (Bw s.t.w),.int .u64 s.t.draw,.int .i64 s.t.stop,.ro 5 (Fu (s.ans++[e.an])),.ro 4 (Dt s.inc)]]⟩)] (evR (Abd d s (Ki (Hz d.items s.sh)) e.an) v _)at ab;unfold evR at ab;rw [aw]at ab;clear aw hI;generalize Abd d s (Ki (Hz d.items s.sh)) e.an=rE,Sv d s (J6 (Ki (Hz d.items s.sh)) e.an).1=rT at*;generalize bd:Z9 (Ki (Hz d.items s.sh)) e.an=ve at*;generalize(Abc d.ess (s.ans++[e.an])).getD 0=un at*;have y1:=fun x:Te=>Ag x.elig
 have y2:=fun x:Te=>A5 x.steps
 have y3:=fun x:Te=>Bv x.w
 have az:Fu s.ans++[V.agg [.int .i64 e.an.item,.ro 1 (As e.an.ch),.int .i64 e.an.val,.str e.an.txt,.bool e.an.om]]=Fu (s.ans++[e.an]):=by simp [Fu,An.v]
 have m:=Ew (s.ans++[e.an]);have ar:s.ans.length+1<=maxLen/\(s.ans.length+1)*64<=140737488355328:=⟨Ai (show s.ans.length+1<=1001 by omega) dc,by omega⟩;generalize Ki (Hz d.items s.sh)=it,(Hz d.items s.sh).isSome=fs at*;have ei:it.v=V.agg [.int .i64 it.id,.int .i64 it.ver,.int .i64 it.kind,.str it.stem,.ro 1 (Ed it.opts),.ro 1 (As it.ch),.int .i64 it.val,.int .i64 it.tol,.ro 1 (Ed it.txts),.int .i64 it.pts,.str it.code,.int .i64 it.fam,.int .i64 it.set,.int .i64 it.wo,.int .i64 it.se,.ro 1 (As it.ass),.int .i64 it.rub]:=rfl;have k1:=Cw it.opts;have k2:=Ag it.ch;have k3:=Cw it.txts;have k4:=Ag it.ass;have ea:e.an.v=V.agg [.int .i64 e.an.item,.ro 1 (As e.an.ch),.int .i64 e.an.val,.str e.an.txt,.bool e.an.om]:=rfl;have a2:e.v=V.agg [.int .i64 e.kind,.int .i64 e.time,.int .i64 e.an.item,.ro 1 (As e.an.ch),.int .i64 e.an.val,.str e.an.txt,.bool e.an.om,.int .i64 e.inc.ki,.int .i64 e.inc.ti,.int .i64 e.inc.lo,.int .i64 e.inc.gr]:=rfl;unfold Aet seC;rw [ei]at av aj ab;rw [ea]at aj am ab;rw [a2];have i5:=Ag e.an.ch;generalize As e.an.ch=hv at*;have ag:=ah s.t;have a1:s.v=V.agg [.int .i64 s.st,.int .i64 s.us,.int .i64 s.la,.int .i64 s.sh,.ro 1 (As s.t.elig),.ro 2 (A2 s.t.steps),.int .i64 s.t.pend,.ro 1 (Bw s.t.w),.int .u64 s.t.draw,.int .i64 s.t.stop,.ro 5 (Fu s.ans),.ro 4 (Dt s.inc)]:=rfl;have ax:d.v=V.agg [.int .i64 d.ses,.int .i64 d.cand,.int .i64 d.p.len,.ro 5 (Ey d.p.rules),.ro 1 (As d.p.g.pts),.ro 1 (As d.p.g.pri),.ro 2 (A2 d.p.en),.int .i64 d.p.mn,.bool d.p.var.num.neg,.ro 1 (Av d.p.var.num.mag),.ro 1 (Av d.p.var.den),.int .i64 d.p.cut,.bool d.p.lvl.num.neg,.ro 1 (Av d.p.lvl.num.mag),.ro 1 (Av d.p.lvl.den),.int .i64 d.p.top,.bool d.p.rate.num.neg,.ro 1 (Av d.p.rate.num.mag),.ro 1 (Av d.p.rate.den),.int .i64 d.p.slack,.ro 9 (Ce d.pool),.ro 17 (Ip d.items),.ro 1 (As d.ess),.ro 2 (A2 d.uses),.int .i64 d.served,.int .i64 d.sec,.int .i64 d.nu,.int .i64 d.de,.int .i64 d.ex,.int .u64 d.seed]:=rfl;rw [a1]at ay ai;rw [ax]at ai ab;rw [ax];have d0:=C2 d.p.rules;have d1:=Ag d.p.g.pts;have d2:=Ag d.p.g.pri;have d3:=A5 d.p.en;have d4:=Ak d.p.var.num.mag;have d5:=Ak d.p.var.den;have d6:=Ak d.p.lvl.num.mag;have d7:=Ak d.p.lvl.den;have d8:=Ak d.p.rate.num.mag;have d9:=Ak d.p.rate.den;have ae:=Ca d.pool;have aa:=Gh d.items;have ad:=Ag d.ess;have af:=A5 d.uses;generalize Ey d.p.rules=rv,As d.p.g.pts=pt,As d.p.g.pri=pr,A2 d.p.en=ev,Av d.p.var.num.mag=vm,Av d.p.var.den=vd,Av d.p.lvl.num.mag=lm,Av d.p.lvl.den=ld,Av d.p.rate.num.mag=rm,Av d.p.rate.den=rd at*;have a9:=Dx d.pool;have bc:=Hj d.items;have be:=A4 d.ess;generalize Ce d.pool=lv,Ip d.items=bf,As d.ess=bi,A2 d.uses=uv at*;have z1:=Ag s.t.elig;have z2:=A5 s.t.steps;have z3:=Bv s.t.w;have z4:=Ew s.ans;have z5:=Ec s.inc;have y:=Gy s.ans;have u:=F6 s.inc;generalize As s.t.elig=ti,A2 s.t.steps=ts,Bw s.t.w=tw,Fu s.ans=bb,Dt s.inc=bh at*;have a6:=Fo z4;refine Hr func43 fun w0 N0 j hG=>?_;refine Aa [1,3,5] [3,5,10,73,85] sr (Bp 73 [1,3,5] [3,5,10,85] (by simp [z5,u,a6]<;>rfl) (Ab (Aa [1,3,5,16] [3,5,10,85] sr ?_)))
 refine Ao (fun h1=>?_) fun h1=>Ae ?_
 ·refine Aa [6] [10,85] sr ?_;exact C1 j (Dr (A8 _ _) sr (by rw [e1 (by simpa using h1)];exact Is dc) Iu)
 have s1:s.st=1:=by simpa using h1
 refine Ab (Lw [5] Ds ?_);refine Ih [(0,[]),(1,[]),(3,[]),(2,[]),(4,[])] kr sr ?_
 refine I0 (i:=5) (ks:=[]) kr rfl sm (Il sm ay func32 rfl kr sr rfl rfl sr (by simp [AS.views,AS.view,AS.viewL,AS.viewC,z4,y]<;>rfl) rfl sr) ?_;refine Ih [(6,[])] kr sr ?_
 refine Kp [1,3,5,7] [3,5,10,85] kr sr ?_;refine Ab (Ab (Lw [5] Ds ?_));refine Ih [(0,[]),(2,[]),(3,[]),(1,[]),(4,[])] kr sr ?_
 refine I0 (i:=5) (ks:=[]) kr rfl sm (Il sm ai func31 rfl kr sr rfl rfl sr (by simp [AS.views,AS.view,AS.viewL,AS.viewC,z4,y]<;>rfl) rfl sr) ?_;refine Ih [(6,[])] kr sr ?_
 refine Kp [1,3,5,7,29] [3,5,10,85] kr sr ?_
 refine Ao (fun h2=>?_) fun h2=>Ae ?_
 ·refine Aa [6] [10,85] sr ?_;exact C1 j (Dr (A8 _ _) sr (by rw [e2 s1 (by simpa using h2)];exact Is dc) Iu)
 have s2:¬Ig d s<H9 s e.time:=by simpa using h2
 refine Ab (Aa [1,3,5,7,34] [3,5,10,85] sr ?_)
 refine Ao (fun h3=>?_) fun h3=>Ae ?_
 ·refine Aa [6] [10,85] sr ?_;exact C1 j (Dr (A8 _ _) sr (by rw [e3 s1 s2 (by simpa using h3)];exact Is dc) Iu)
 have s3:¬s.sh=0:=by simpa using h3
 refine Ab (Dq [(0,[]),(1,[]),(3,[]),(4,[]),(5,[]),(2,[]),(6,[]),(7,[])] [1,3,5,7,42] [3,5,10,85] Ds kr sr ?_)
 refine Ao (fun h4=>?_) fun h4=>Ae ?_
 ·refine Aa [6] [10,85] sr ?_;exact C1 j (Dr (A8 _ _) sr (by rw [e4 s1 s2 s3 (by simpa using h4)];exact Is dc) Iu)
 have s4:e.an.item=s.sh:=by simpa using h4
 have l:=e5 s1 s2 s3 s4;refine Ab (C5 [(0,[]),(2,[]),(3,[]),(4,[]),(1,[8]),(5,[8]),(6,[]),(7,[]),(8,[]),(9,[]),(10,[]),(11,[]),(12,[])] Ds kr ?_);refine Cf 6 sr ?_;refine Bu (fun hg=>av) func62 rfl kr rfl rfl sr rfl rfl sr (by simp) sr ?_;refine C6 [1,3,5,7,8] [3,5,8,10,85] sr ?_;refine Ab (Ab (Ad (Am 3 sr ?_)));refine Bq hG aj func47 ?_;refine Af [1,3,5,7,8,10] [3,5,8,10,85] sr ?_;refine Aa [1,3,5,7,8,10,58] [3,5,8,10,85] sr ?_
 refine Ao (fun h5=>?_) fun h5=>Ae ?_
 ·refine Aa [6] [10,85] sr ?_;exact C1 j (Dr (A8 _ _) sr (by rw [l,if_pos (by simpa using h5)];exact Is (by simpa using h5)) Iu)
 rw [if_neg (by simpa using h5)]at l;refine Ab (C5 [(0,[]),(1,[]),(2,[]),(3,[]),(5,[]),(4,[68]),(6,[68]),(7,[]),(8,[]),(9,[]),(10,[]),(11,[]),(12,[])] Ds kr ?_);refine Cf 7 sr ?_;refine Bu (fun hg=>am) func72 rfl kr rfl rfl sr rfl rfl sr (by simp) sr ?_;refine C6 [1,3,5,7,8] [3,5,8,10,85] (by simp [ar,y]<;>rfl) ?_;rw [az];refine Bp 85 [1,3,5,7,8] [3,5,8,10] (by simp [m]<;>rfl) (Aa [1,3,5,8] [3,5,8,10] sr (Ab (Dq [(0,[]),(1,[]),(2,[]),(3,[]),(5,[]),(6,[]),(7,[]),(4,[]),(8,[]),(9,[])] [1,3,5,8,85] [3,5,8,10] Ds kr sr ?_)))
 refine Ao (fun h6=>?_) fun h6=>Ae ?_
 ·have s6:s.t.pend=s.sh:=by simpa using h6
  rw [if_pos s6]at l;refine Ab (Ad (Am 5 sr ?_));refine Nq hG ab func75 rfl kr rfl rfl rfl sr (fun k o hk=>Dk gt hk) ?_;rintro r a7 ba⟨rfl,hh⟩a8
  rcases hh with⟨al,rfl⟩|⟨a3,rfl⟩
  ·refine⟨_,by simp [Jn]<;>rfl,?_⟩;refine Af [1,3,11] [3] sr ?_;refine Aa [1,3,11,93] [3] sr ?_;refine A7 rfl (fun h7=>?_) (fun h7=>by simp at h7;exact absurd h7 al);refine Aa [6] [] sr ?_;exact C1 j (Dr (A8 _ _) sr (by rw [l];exact Is al) Iu)
  refine⟨_,by simp [Jn]<;>rfl,?_⟩;subst a3;refine Af [1,3,11] [3,10] sr ?_;refine Aa [1,3,11,93] [3,10] sr ?_;refine A7 rfl (fun h7=>by simp at h7) (fun h7=>Ae (Ab (Aa [1,3,100] [3,10] sr ?_)))
  refine Ao (fun h8=>?_) fun h8=>Ae ?_
  ·refine C5 [(0,[]),(1,[]),(3,[]),(4,[]),(5,[]),(2,[]),(6,[]),(7,[]),(8,[]),(9,[]),(10,[])] Ds kr ?_;refine Cf 7 sr ?_;refine Ut hG (fun hg=>ao) func76 rfl kr rfl rfl sr rfl rfl sr (by simp) sr ?_;refine C6 [] [10] sr ?_;refine Aa [6] [10] sr ?_;exact C1 j (Dr (A8 _ _) sr (by rw [l];exact Wt (ah _ _ (t1 s6) (ak (.inr (by rw [t1 s6];simpa using h8)))) rfl rfl) (fun k o hk=>Dk gt hk))
  refine Aa [6] [10] sr ?_;exact C1 j (Dr (A8 _ _) sr (by rw [l];exact Wt (ah _ _ (t1 s6) ((a5 (by rw [t1 s6];simpa using h8) s6).trans (by rw [t1 s6]))) rfl rfl) (fun k o hk=>Dk gt hk))
 have s6:¬s.t.pend=s.sh:=by simpa using h6
 rw [if_neg s6]at l;refine Ab (Aa [1,3,100] [3,10] sr ?_)
 refine Ao (fun h9=>?_) fun h9=>Ae ?_
 ·refine C5 [(0,[]),(1,[]),(3,[]),(4,[]),(5,[]),(2,[]),(6,[]),(7,[]),(8,[]),(9,[]),(10,[])] Ds kr ?_;refine Cf 7 sr ?_;refine Ut hG (fun hg=>ao) func76 rfl kr rfl rfl sr rfl rfl sr (by simp) sr ?_;refine C6 [] [10] sr ?_;refine Aa [6] [10] sr ?_;exact C1 j (Dr (A8 _ _) sr (by rw [l];exact Wt (ag _ (t0 s6) (ak (.inr (by rw [t0 s6];simpa using h9)))) rfl rfl) (fun k o hk=>Dk gt hk))
 refine Aa [6] [10] sr ?_;exact C1 j (Dr (A8 _ _) sr (by rw [l];exact Wt (ag _ (t0 s6) (a4 (by rw [t0 s6];simpa using h9) s6)) rfl rfl) (fun k o hk=>Dk gt hk))
def se0:Se:=⟨0,0,0,0,Vi,[],[]⟩
def seR(e:Int)(s:Se):V:=.tup [(if e=0 then s else se0).v,.int .i64 e]
theorem Lh{e:Int}(h:e≠0)(s:Se):Bi (.tup [.agg [.int .i64 0,.int .i64 0,.int .i64 0,.int .i64 0,.nils,.nils,.int .i64 0,.nils,.int .u64 0,.int .i64 0,.nils,.nils],.int .i64 e]) (seR e s):=by
 unfold seR;rw [if_neg h];have r:=fun x:V=>Bi.refl x
 exact Bi.tup (.cons (Bi.agg (.cons (r _) (.cons (r _) (.cons (r _) (.cons (r _) (.cons (Bi.nils 1) (.cons (Bi.nils 2) (.cons (r _) (.cons (Bi.nils 1) (.cons (r _) (.cons (r _) (.cons (Bi.nils 5) (.cons (Bi.nils 4) .nil))))))))))))) (.cons (r _) .nil))
theorem Pc{s:Se}{x:V}(h:s.v=x):Bi (.tup [x,.int .i64 0]) (seR 0 s):=by
 unfold seR;rw [if_pos rfl,h];exact Bi.refl _
def swE(d:Dl)(t:Te)(s:Se)(e:Ev):Int:=
 if e.kind=1 then An4 d t s else if e.kind=2 then Px d s e else if e.kind=3 then Af6 s else if e.kind=4 then(if s.st≠2 then 8 else 0)else if e.kind=5 then An5 s e else if e.kind=6 then Aq2 s else 0
def swS(d:Dl)(t:Te)(s:Se)(e:Ev):Se:=
 if e.kind=1 then Vk d t s else if e.kind=2 then Qw d s e else if e.kind=3 then Su d s e.time else if e.kind=4 then { s with st:=1}else if e.kind=5 then R7 d s e else if e.kind=6 then T8 d s e.time else s
def Hl(d:Dl)(t:Te)(s:Se)(e:Ev):Int:=if e.kind<1\/6<e.kind then 1 else if Kx s e.time=false then 15 else swE d t s e
def I9(d:Dl)(t:Te)(s:Se)(e:Ev):Se:={ swS d t s e with la:=e.time}
theorem Aa2(hS:Jh)(d:Dl)(t:Te)(s:Se)(e:Ev)(hd:DlOk d)(ha:e.an.small)(h:AdP d.p d.pool)(ht:teOk t)(hw:J2 t.w 1000)(hs:SeOk s)(az:J2 s.t.w 998)(a0:s.t.steps.length<=900):
  Hp gv prog 22 [d.v,t.v,s.v,e.v] (fun r=>r=seR (Hl d t s e) (I9 d t s e)):=by
 refine Hp.relaxP ?_;have ao:=Av7 s e.time;have ai:=Awa s hs;have ab:=fun v aq iq=>Awb d t s v aq iq h ht hw
 have aa:=fun v aq iq=>Aq7 hS d s e v aq iq hd ha h hs.t az a0 hs.al
 have ae:=fun v aq iq=>Awc d s e.time v aq iq
 have ad:=fun v aq iq=>Aq4 d s e v aq iq hs.il
 have ag:=fun v aq iq=>Aq3 d s e.time v aq iq hs.t
 have e0:(e.kind<1\/6<e.kind)->Hl d t s e=1:=fun x=>by unfold Hl;rw [if_pos x]
 have e1:¬(e.kind<1\/6<e.kind)->Kx s e.time=false->Hl d t s e=15:=fun x y=>by unfold Hl;rw [if_neg x,if_pos y]
 have a8:¬(e.kind<1\/6<e.kind)->¬Kx s e.time=false->e.kind=1->Hl d t s e=An4 d t s:=fun x y c=>by unfold Hl swE;rw [if_neg x,if_neg y,if_pos c]
 have bo:¬(e.kind<1\/6<e.kind)->¬Kx s e.time=false->e.kind≠1->e.kind=2->Hl d t s e=Px d s e:=fun x y c f=>by unfold Hl swE;rw [if_neg x,if_neg y,if_neg c,if_pos f]
 have a7:¬(e.kind<1\/6<e.kind)->¬Kx s e.time=false->e.kind≠1->e.kind≠2->e.kind=3->Hl d t s e=Af6 s:=fun x y c f u=>by unfold Hl swE;rw [if_neg x,if_neg y,if_neg c,if_neg f,if_pos u]
 have br:¬(e.kind<1\/6<e.kind)->¬Kx s e.time=false->e.kind≠1->e.kind≠2->e.kind≠3->e.kind=4->Hl d t s e=(if s.st≠2 then 8 else 0):=fun x y c f u a4=>by unfold Hl swE;rw [if_neg x,if_neg y,if_neg c,if_neg f,if_neg u,if_pos a4]
 have bh:¬(e.kind<1\/6<e.kind)->¬Kx s e.time=false->e.kind≠1->e.kind≠2->e.kind≠3->e.kind≠4->e.kind=5->Hl d t s e=An5 s e:=fun x y c f u a4 a5=>by unfold Hl swE;rw [if_neg x,if_neg y,if_neg c,if_neg f,if_neg u,if_neg a4,if_pos a5]
 have a9:¬(e.kind<1\/6<e.kind)->¬Kx s e.time=false->e.kind≠1->e.kind≠2->e.kind≠3->e.kind≠4->e.kind≠5->e.kind=6->Hl d t s e=Aq2 s:=fun x y c f u a4 a5 a6=>by unfold Hl swE;rw [if_neg x,if_neg y,if_neg c,if_neg f,if_neg u,if_neg a4,if_neg a5,if_pos a6]
 have bk:e.kind=1->(I9 d t s e).v=V.agg [.int .i64 (Vk d t s).st,.int .i64 (Vk d t s).us,.int .i64 e.time,.int .i64 (Vk d t s).sh,.ro 1 (As (Vk d t s).t.elig),.ro 2 (A2 (Vk d t s).t.steps),.int .i64 (Vk d t s).t.pend,.ro 1 (Bw (Vk d t s).t.w),.int .u64 (Vk d t s).t.draw,.int .i64 (Vk d t s).t.stop,.ro 5 (Fu (Vk d t s).ans),.ro 4 (Dt (Vk d t s).inc)]:=fun c=>by unfold I9 swS;rw [if_pos c];rfl
 have be:e.kind≠1->e.kind=2->(I9 d t s e).v=V.agg [.int .i64 (Qw d s e).st,.int .i64 (Qw d s e).us,.int .i64 e.time,.int .i64 (Qw d s e).sh,.ro 1 (As (Qw d s e).t.elig),.ro 2 (A2 (Qw d s e).t.steps),.int .i64 (Qw d s e).t.pend,.ro 1 (Bw (Qw d s e).t.w),.int .u64 (Qw d s e).t.draw,.int .i64 (Qw d s e).t.stop,.ro 5 (Fu (Qw d s e).ans),.ro 4 (Dt (Qw d s e).inc)]:=fun c f=>by unfold I9 swS;rw [if_neg c,if_pos f];rfl
 have bd:e.kind≠1->e.kind≠2->e.kind=3->(I9 d t s e).v=V.agg [.int .i64 (Su d s e.time).st,.int .i64 (Su d s e.time).us,.int .i64 e.time,.int .i64 (Su d s e.time).sh,.ro 1 (As (Su d s e.time).t.elig),.ro 2 (A2 (Su d s e.time).t.steps),.int .i64 (Su d s e.time).t.pend,.ro 1 (Bw (Su d s e.time).t.w),.int .u64 (Su d s e.time).t.draw,.int .i64 (Su d s e.time).t.stop,.ro 5 (Fu (Su d s e.time).ans),.ro 4 (Dt (Su d s e.time).inc)]:=fun c f u=>by unfold I9 swS;rw [if_neg c,if_neg f,if_pos u];rfl
 have bj:e.kind≠1->e.kind≠2->e.kind≠3->e.kind=4->(I9 d t s e).v=V.agg [.int .i64 1,.int .i64 s.us,.int .i64 e.time,.int .i64 s.sh,.ro 1 (As s.t.elig),.ro 2 (A2 s.t.steps),.int .i64 s.t.pend,.ro 1 (Bw s.t.w),.int .u64 s.t.draw,.int .i64 s.t.stop,.ro 5 (Fu s.ans),.ro 4 (Dt s.inc)]:=fun c f u a4=>by unfold I9 swS;rw [if_neg c,if_neg f,if_neg u,if_pos a4];rfl
 have bf:e.kind≠1->e.kind≠2->e.kind≠3->e.kind≠4->e.kind=5->(I9 d t s e).v=V.agg [.int .i64 (R7 d s e).st,.int .i64 (R7 d s e).us,.int .i64 e.time,.int .i64 (R7 d s e).sh,.ro 1 (As (R7 d s e).t.elig),.ro 2 (A2 (R7 d s e).t.steps),.int .i64 (R7 d s e).t.pend,.ro 1 (Bw (R7 d s e).t.w),.int .u64 (R7 d s e).t.draw,.int .i64 (R7 d s e).t.stop,.ro 5 (Fu (R7 d s e).ans),.ro 4 (Dt (R7 d s e).inc)]:=fun c f u a4 a5=>by unfold I9 swS;rw [if_neg c,if_neg f,if_neg u,if_neg a4,if_pos a5];rfl
 have bg:e.kind≠1->e.kind≠2->e.kind≠3->e.kind≠4->e.kind≠5->e.kind=6->(I9 d t s e).v=V.agg [.int .i64 (T8 d s e.time).st,.int .i64 (T8 d s e.time).us,.int .i64 e.time,.int .i64 (T8 d s e.time).sh,.ro 1 (As (T8 d s e.time).t.elig),.ro 2 (A2 (T8 d s e.time).t.steps),.int .i64 (T8 d s e.time).t.pend,.ro 1 (Bw (T8 d s e.time).t.w),.int .u64 (T8 d s e.time).t.draw,.int .i64 (T8 d s e.time).t.stop,.ro 5 (Fu (T8 d s e.time).ans),.ro 4 (Dt (T8 d s e.time).inc)]:=fun c f u a4 a5 a6=>by unfold I9 swS;rw [if_neg c,if_neg f,if_neg u,if_neg a4,if_neg a5,if_pos a6];rfl
 generalize An4 d t s=E1,Vk d t s=S1,Px d s e=E2,Qw d s e=S2,Af6 s=E3,Su d s e.time=S3,An5 s e=E5,R7 d s e=S5,Aq2 s=E6,T8 d s e.time=S6,Hl d t s e=PE,I9 d t s e=PS at*;have m:∀x:Se,x.v=V.agg [.int .i64 x.st,.int .i64 x.us,.int .i64 x.la,.int .i64 x.sh,.ro 1 (As x.t.elig),.ro 2 (A2 x.t.steps),.int .i64 x.t.pend,.ro 1 (Bw x.t.w),.int .u64 x.t.draw,.int .i64 x.t.stop,.ro 5 (Fu x.ans),.ro 4 (Dt x.inc)]:=fun x=>rfl
 unfold evR Aet seC at ab aa ae ad ag;unfold seC at ai;rw [m S1]at ab;rw [m S2]at aa;rw [m S3]at ae;rw [m S5]at ad;rw [m S6]at ag;have y1:=fun x:Te=>Ag x.elig
 have y2:=fun x:Te=>A5 x.steps
 have y3:=fun x:Te=>Bv x.w
 have y4:=fun x:Se=>Ew x.ans
 have y5:=fun x:Se=>Ec x.inc
 have bi:t.v=.agg [.ro 1 (As t.elig),.ro 2 (A2 t.steps),.int .i64 t.pend,.ro 1 (Bw t.w),.int .u64 t.draw,.int .i64 t.stop]:=rfl;have bb:e.v=V.agg [.int .i64 e.kind,.int .i64 e.time,.int .i64 e.an.item,.ro 1 (As e.an.ch),.int .i64 e.an.val,.str e.an.txt,.bool e.an.om,.int .i64 e.inc.ki,.int .i64 e.inc.ti,.int .i64 e.inc.lo,.int .i64 e.inc.gr]:=rfl;rw [bi]at ab|-;rw [bb]at aa ad|-;have i5:=Ag e.an.ch;have x1:=Ag t.elig;have x2:=A5 t.steps;have x3:=Bv t.w;generalize As e.an.ch=hv,As t.elig=xi,A2 t.steps=xs,Bw t.w=xw at*;have ba:s.v=V.agg [.int .i64 s.st,.int .i64 s.us,.int .i64 s.la,.int .i64 s.sh,.ro 1 (As s.t.elig),.ro 2 (A2 s.t.steps),.int .i64 s.t.pend,.ro 1 (Bw s.t.w),.int .u64 s.t.draw,.int .i64 s.t.stop,.ro 5 (Fu s.ans),.ro 4 (Dt s.inc)]:=rfl;have bn:d.v=V.agg [.int .i64 d.ses,.int .i64 d.cand,.int .i64 d.p.len,.ro 5 (Ey d.p.rules),.ro 1 (As d.p.g.pts),.ro 1 (As d.p.g.pri),.ro 2 (A2 d.p.en),.int .i64 d.p.mn,.bool d.p.var.num.neg,.ro 1 (Av d.p.var.num.mag),.ro 1 (Av d.p.var.den),.int .i64 d.p.cut,.bool d.p.lvl.num.neg,.ro 1 (Av d.p.lvl.num.mag),.ro 1 (Av d.p.lvl.den),.int .i64 d.p.top,.bool d.p.rate.num.neg,.ro 1 (Av d.p.rate.num.mag),.ro 1 (Av d.p.rate.den),.int .i64 d.p.slack,.ro 9 (Ce d.pool),.ro 17 (Ip d.items),.ro 1 (As d.ess),.ro 2 (A2 d.uses),.int .i64 d.served,.int .i64 d.sec,.int .i64 d.nu,.int .i64 d.de,.int .i64 d.ex,.int .u64 d.seed]:=rfl;rw [ba]at ao ai|-;rw [bn]at ab aa ae ad ag|-;have d0:=C2 d.p.rules;have d1:=Ag d.p.g.pts;have d2:=Ag d.p.g.pri;have d3:=A5 d.p.en;have d4:=Ak d.p.var.num.mag;have d5:=Ak d.p.var.den;have d6:=Ak d.p.lvl.num.mag;have d7:=Ak d.p.lvl.den;have d8:=Ak d.p.rate.num.mag;have d9:=Ak d.p.rate.den;have bl:=Ca d.pool;have ay:=Gh d.items;have bc:=Ag d.ess;have bs:=A5 d.uses;generalize Ey d.p.rules=rv,As d.p.g.pts=pt,As d.p.g.pri=pr,A2 d.p.en=ev,Av d.p.var.num.mag=vm,Av d.p.var.den=vd,Av d.p.lvl.num.mag=lm,Av d.p.lvl.den=ld,Av d.p.rate.num.mag=rm,Av d.p.rate.den=rd at*;have bu:=Dx d.pool;have bx:=Hj d.items;have bz:=A4 d.ess;generalize Ce d.pool=lv,Ip d.items=b0,As d.ess=b2,A2 d.uses=uv at*;have z1:=Ag s.t.elig;have z2:=A5 s.t.steps;have z3:=Bv s.t.w;have z4:=Ew s.ans;have z5:=Ec s.inc;have ax:=Gy s.ans;have au:=F6 s.inc;generalize As s.t.elig=ti,A2 s.t.steps=ts,Bw s.t.w=tw,Fu s.ans=bw,Dt s.inc=b1 at*;have bp:=Fo z4;have bq:=Fo z5;refine By func22 fun w0 N0 hG=>?_;refine Aa [4,5,6,7,8] [4,5,6,7,8] sr (Ab (Aa [4,5,6,7,8,19] [4,5,6,7,8] sr ?_))
 refine Ao (fun h1=>?_) fun h1=>Ae ?_
 ·exact Aa [8,9] [8] sr (Aj (Ac sr (by rw [e0 (by simpa using h1)];exact Lh dc _)))
 have kk:¬(e.kind<1\/6<e.kind):=by simpa using h1
 refine Ab (Ab (Ad (Am 3 sr ?_)));refine Ah ao func29 ?_;refine Af [4,5,6,7,8,25] [4,5,6,7,8] sr ?_
 refine Ao (fun h2=>?_) fun h2=>Ae ?_
 ·exact Aa [8,9] [8] sr (Aj (Ac sr (by rw [e1 kk (by simpa using h2)];exact Lh dc _)))
 have tt:¬Kx s e.time=false:=by simpa using h2
 refine Ab (Ad (Am 1 sr ?_));refine El ai func41 rfl kr rfl rfl rfl sr (fun k o hk=>by cases hk) ?_ fun ch bm=>bm.elim;rintro r n bv⟨q1,q2,rfl,rfl⟩bt;refine⟨fun k hk=>rfl,_,by simp<;>rfl,?_⟩;refine Af [4,5,6,7,8,10] [4,5,6,7,8,10,73,85] sr ?_;refine Aa [4,5,6,7,8,10,11] [4,5,6,7,8,10,73,85] sr (Ab (Aa [4,5,6,7,8,10,11,30] [4,5,6,7,8,10,73,85] sr (Ar (Aa [4,5,6,7,8,10,11,30,31] [4,5,6,7,8,10,73,85] sr ?_))))
 refine Ao (fun h3=>?_) fun h3=>?_
 ·have k1:e.kind=1:=by simpa using h3
  refine Ad (Am 2 sr ?_);refine Nq hG (ab _ q1 q2) func42 rfl kr rfl rfl rfl sr (fun k o hk=>E9 (by simp [Eng.get]<;>rfl) gt gt hk) ?_;rintro r n af⟨rfl,hh⟩z;have l:=a8 kk tt k1
  rcases hh with⟨a,rfl⟩|⟨i,rfl⟩
  ·refine⟨_,by simp [Jn]<;>rfl,?_⟩;refine Af [8,11] [8] sr ?_;refine Ab (Aa [8,11,65] [8] sr ?_);refine A7 rfl (fun j=>?_) (fun j=>by simp at j;exact absurd j a);exact Aa [8,9] [8] sr (Aj (Ac sr (by rw [l];exact Lh a _)))
  subst i;refine⟨_,by simp [Jn]<;>rfl,?_⟩;refine Af [7,8,10,11] [7,8,10] sr ?_;refine Ab (Aa [7,8,10,11,65] [7,8,10] sr ?_);refine A7 rfl (fun h4=>by simp at h4) fun h4=>Ae (Aa [8,10] [8,10] sr ?_);exact Aa [8,9] [8] sr (Aj (Ac sr (by rw [l];exact Pc (bk k1))))
 ·have k1:e.kind≠1:=by simpa using h3
  refine Aa [4,6,7,8,10,11,30,36] [4,6,7,8,10,73,85] sr ?_
  refine Ao (fun h5=>?_) fun h5=>?_
  ·have k2:e.kind=2:=by simpa using h5
   refine Ad (Am 2 sr ?_);refine Nq hG (aa _ q1 q2) func43 rfl kr rfl rfl rfl sr (fun k o hk=>E9 (by simp [Eng.get]<;>rfl) gt gt hk) ?_;rintro r n af⟨rfl,hh⟩z;have l:=bo kk tt k1 k2
   rcases hh with⟨a,rfl⟩|⟨i,rfl⟩
   ·refine⟨_,by simp [Jn]<;>rfl,?_⟩;refine Af [8,11] [8] sr ?_;refine Ab (Aa [8,11,65] [8] sr ?_);refine A7 rfl (fun j=>?_) (fun j=>by simp at j;exact absurd j a);exact Aa [8,9] [8] sr (Aj (Ac sr (by rw [l];exact Lh a _)))
   subst i;refine⟨_,by simp [Jn]<;>rfl,?_⟩;refine Af [7,8,10,11] [7,8,10] sr ?_;refine Ab (Aa [7,8,10,11,65] [7,8,10] sr ?_);refine A7 rfl (fun h6=>by simp at h6) fun h6=>Ae (Aa [8,10] [8,10] sr ?_);exact Aa [8,9] [8] sr (Aj (Ac sr (by rw [l];exact Pc (be k1 k2))))
  ·have k2:e.kind≠2:=by simpa using h5
   refine Aa [4,6,7,8,10,11,30,41] [4,6,7,8,10,73,85] sr ?_
   refine Ao (fun h7=>?_) fun h7=>?_
   ·have k3:e.kind=3:=by simpa using h7
    refine Ad (Am 3 sr ?_);refine Nq hG (ae _ q1 q2) func44 rfl kr rfl rfl rfl sr (fun k o hk=>E9 (by simp [Eng.get]<;>rfl) gt gt hk) ?_;rintro r n af⟨rfl,hh⟩z;have l:=a7 kk tt k1 k2 k3
    rcases hh with⟨a,rfl⟩|⟨i,rfl⟩
    ·refine⟨_,by simp [Jn]<;>rfl,?_⟩;refine Af [8,11] [8] sr ?_;refine Ab (Aa [8,11,65] [8] sr ?_);refine A7 rfl (fun j=>?_) (fun j=>by simp at j;exact absurd j a);exact Aa [8,9] [8] sr (Aj (Ac sr (by rw [l];exact Lh a _)))
    subst i;refine⟨_,by simp [Jn]<;>rfl,?_⟩;refine Af [7,8,10,11] [7,8,10] sr ?_;refine Ab (Aa [7,8,10,11,65] [7,8,10] sr ?_);refine A7 rfl (fun h8=>by simp at h8) fun h8=>Ae (Aa [8,10] [8,10] sr ?_);exact Aa [8,9] [8] sr (Aj (Ac sr (by rw [l];exact Pc (bd k1 k2 k3))))
   ·have k3:e.kind≠3:=by simpa using h7
    refine Aa [4,6,7,8,10,11,30,47] [4,6,7,8,10,73,85] sr ?_
    refine Ao (fun h9=>?_) fun h9=>?_
    ·have k4:e.kind=4:=by simpa using h9
     have l:=br kk tt k1 k2 k3 k4;refine Ab (Aa [7,8,10,11,51] [7,8,10,73,85] sr ?_)
     refine Ao (fun ak=>?_) fun ak=>Ae ?_
     ·refine A3 [7,8,10,11] [7,8,10] sr (A3 [7,8,10,11] [7,8,10] sr (Ab (Aa [7,8,10,11,65] [7,8,10] sr ?_)))
      refine A7 rfl (fun am=>?_) (fun am=>by simp at am)
      ·exact Aa [8,9] [8] sr (Aj (Ac sr (by rw [l,if_pos (by simpa using ak)];exact Lh dc _)))
     refine A3 [7,8,10,11] [7,8,10,73,85] sr ?_;rw [if_neg (by simpa using ak)]at l;refine Bp 85 [7,8,10,11] [7,8,10,73] (by simp [z4,ax]<;>rfl) (Bp 73 [7,8,10,11] [7,8,10] (by simp [z5,au,bq]<;>rfl) (Ab (Aa [7,8,10,11,65] [7,8,10] sr ?_)));refine A7 rfl (fun av=>by simp at av) fun av=>Ae (Aa [8,10] [8,10] sr ?_);exact Aa [8,9] [8] sr (Aj (Ac sr (by rw [l];exact Pc (bj k1 k2 k3 k4))))
    ·have k4:e.kind≠4:=by simpa using h9
     refine Aa [4,7,8,10,11,30,53] [4,7,8,10,73,85] sr ?_
     refine Ao (fun ah=>?_) fun ah=>?_
     ·have k5:e.kind=5:=by simpa using ah
      refine Ad (Am 2 sr ?_);refine Nq hG (ad _ q1 q2) func45 rfl kr rfl rfl rfl sr (fun k o hk=>E9 (by simp [Eng.get]<;>rfl) gt gt hk) ?_;rintro r n af⟨rfl,hh⟩z;have l:=bh kk tt k1 k2 k3 k4 k5
      rcases hh with⟨a,rfl⟩|⟨i,rfl⟩
      ·refine⟨_,by simp [Jn]<;>rfl,?_⟩;refine Af [8,11] [8] sr ?_;refine Ab (Aa [8,11,65] [8] sr ?_);refine A7 rfl (fun j=>?_) (fun j=>by simp at j;exact absurd j a);exact Aa [8,9] [8] sr (Aj (Ac sr (by rw [l];exact Lh a _)))
      subst i;refine⟨_,by simp [Jn]<;>rfl,?_⟩;refine Af [7,8,10,11] [7,8,10] sr ?_;refine Ab (Aa [7,8,10,11,65] [7,8,10] sr ?_);refine A7 rfl (fun ar=>by simp at ar) fun ar=>Ae (Aa [8,10] [8,10] sr ?_);exact Aa [8,9] [8] sr (Aj (Ac sr (by rw [l];exact Pc (bf k1 k2 k3 k4 k5))))
     ·have k5:e.kind≠5:=by simpa using ah
      refine Aa [4,7,8,10,11,58] [4,7,8,10,73,85] sr ?_
      refine A7 rfl (fun aj=>?_) (fun aj=>absurd (show e.kind=6 by omega) (by simpa using aj))
      ·have k6:e.kind=6:=by simpa using aj
       refine Ad (Am 3 sr ?_);refine Nq hG (ag _ q1 q2) func46 rfl kr rfl rfl rfl sr (fun k o hk=>E9 (by simp [Eng.get]<;>rfl) gt gt hk) ?_;rintro r n af⟨rfl,hh⟩z;have l:=a9 kk tt k1 k2 k3 k4 k5 k6
       rcases hh with⟨a,rfl⟩|⟨i,rfl⟩
       ·refine⟨_,by simp [Jn]<;>rfl,?_⟩;refine Af [8,11] [8] sr ?_;refine Ab (Aa [8,11,65] [8] sr ?_);refine A7 rfl (fun j=>?_) (fun j=>by simp at j;exact absurd j a);exact Aa [8,9] [8] sr (Aj (Ac sr (by rw [l];exact Lh a _)))
       subst i;refine⟨_,by simp [Jn]<;>rfl,?_⟩;refine Af [7,8,10,11] [7,8,10] sr ?_;refine Ab (Aa [7,8,10,11,65] [7,8,10] sr ?_);refine A7 rfl (fun aw=>by simp at aw) fun aw=>Ae (Aa [8,10] [8,10] sr ?_);exact Aa [8,9] [8] sr (Aj (Ac sr (by rw [l];exact Pc (bg k1 k2 k3 k4 k5 k6))))
set_option linter.unusedSimpArgs false
structure SeB(n:Nat)(s:Se):Prop where
 t:teOk s.t
 w:J2 s.t.w (n+1)
 st:s.t.steps.length<=n
 al:s.ans.length<=n
 ac:∀a∈s.ans,a.small
 il:s.inc.length<=n
theorem SeB.ok{n:Nat}{s:Se}(h:SeB n s)(hn:n<=800):SeOk s:=⟨h.t,Ai h.al om,h.ac,Ai h.il om⟩
theorem SeB.w998{n:Nat}{s:Se}(h:SeB n s)(hn:n<=800):J2 s.t.w 998:=fun x a=>Ai (h.w x a) om
theorem An7(m:Nat):J2 [] m:=fun x a=>by cases a
theorem SeB.new:SeB 0 se0:=⟨⟨B4 _,B4 _,B4 _,An7 _⟩,An7 _,A9 _,A9 _,(fun a c=>by cases c),A9 _⟩
def teB(n:Nat)(t:Te):Prop:=teOk t/\J2 t.w (n+1)/\t.steps.length<=n
theorem Ate{n:Nat}{t:Te}(h:teB n t)(p d s:Int):teB n { t with pend:=p,draw:=d,stop:=s}:=⟨⟨h.1.el,h.1.sl,h.1.wl,h.1.wd⟩,h.2.1,h.2.2⟩
theorem T9{n m:Nat}{t:Te}(h:teB n t)(a:n<=m):teB m t:=⟨h.1,fun x c=>Ai (h.2.1 x c) om,Ai h.2.2 a⟩
theorem An8{n:Nat}{t:Te}(h:teB n t)(p:Po)(pool:List Pit):teB n (T7 p pool t):=by
 unfold T7;split
 ·exact h
 ·exact Ate h _ _ t.stop
theorem Aeu{d:Dl}(h:I8 d=0)(a:DlOk d):AdP d.p d.pool/\teB 0 (Dp d)/\(Dp d).steps= []:=by
 unfold I8 at h
 (repeat' split at h)<;>try omega
 have h2:Tq d.p=0:=om;have e:Jp d.pool d.p.g.pts.length=0:=om;refine⟨⟨a.pok,h2,e,a.pl,a.st⟩,?_,rfl⟩;obtain⟨j,c,p3⟩:=Ani (Wr h2).2.1;have i:(Pr (Ny d.p.g.pri)).length<=1000:=by rw [Ab0,j];have:=(Jg (Wr h2).2.1).len;omega
 refine⟨⟨Ai (by show(X2 d.pool d.uses d.served d.p.rate.val d.p.slack).length<=d.pool.length;exact Ahb _ _) (Ai a.pl dc),B4 _,i,fun x f=>Ai (Yq c x f) dc⟩,Yq c,A9 _⟩
theorem SeB.te{n:Nat}{s:Se}(h:SeB n s):teB n s.t:=⟨h.t,h.w,h.st⟩
theorem SeB.mk'{n:Nat}{s:Se}(h:teB n s.t)(c:s.ans.length<=n)(ac:∀a∈s.ans,a.small)(d:s.inc.length<=n):SeB n s:=⟨h.1,h.2.1,h.2.2,c,ac,d⟩
theorem A84{d:Dl}{s:Se}{e:Ev}{n:Nat}(k:AdP d.p d.pool)(h:Px d s e=0)(hs:SeB n s)(hn:n<=800):teB (n+1) (Lo d s e):=by
 unfold Lo;split
 ·rename_i hp
  have c:Abd d s (On d s) e.an=0:=by
   unfold Px at h
   (repeat' split at h)<;>first|exact h|omega
  unfold Abd at c
  have a:Af4 d.p d.pool s.t (J6 (On d s) e.an).1=0:=by
   (repeat' split at c)<;>first|omega
  obtain⟨j,g,i⟩:=A2c k a hs.t (Ai hs.st om) (n:=n+1) om hs.w;have f:teB (n+1) (Qv d.p d.pool s.t (J6 (On d s) e.an).1):=⟨j,g,by rw [i];have:=hs.st;omega⟩
  unfold Sv;split
  ·exact An8 f _ _
  ·exact f
 ·exact T9 hs.te (Nat.le_succ n)
theorem Aq8{d:Dl}{t:Te}{s:Se}{e:Ev}{n:Nat}(r:AdP d.p d.pool)(m:teB 0 t)(o:e.an.small)(h:Hl d t s e=0)(hs:SeB n s)(l:n<=800):SeB (n+1) (I9 d t s e):=by
 have k:swE d t s e=0:=by
  unfold Hl at h
  (repeat' split at h)<;>first|omega
 have i:=hs.al;have f:=hs.il;have c:=T9 hs.te (Nat.le_succ n)
 have g:SeB (n+1) (swS d t s e):=by
  unfold swS
  split
  ·exact SeB.mk' (An8 (T9 m (B4 _)) _ _) (D0 i) hs.ac (D0 f)
  split
  ·rename_i h1 h2;have u:Px d s e=0:=by unfold swE at k;rwa [if_neg h1,if_pos h2]at k
   refine SeB.mk' (A84 r u hs l) (by show(s.ans++[e.an]).length<=n+1;simp;omega) (fun a j=>?_) (D0 f)
   rcases Cc.1 j with j|j
   ·exact hs.ac a j
   ·rw [Bz.1 j];exact o
  split
  ·exact SeB.mk' c (D0 i) hs.ac (D0 f)
  split
  ·exact SeB.mk' c (D0 i) hs.ac (D0 f)
  split
  ·exact SeB.mk' c (D0 i) hs.ac (by show(s.inc++[e.inc]).length<=n+1;simp;omega)
  split
  ·refine SeB.mk' ?_ (D0 i) hs.ac (D0 f);show teB (n+1) (P5 s.t)
   unfold P5;split
   ·exact Ate c 0 s.t.draw 4
   ·exact c
  ·exact SeB.mk' c (D0 i) hs.ac (D0 f)
 exact⟨g.t,g.w,g.st,g.al,g.ac,g.il⟩
def Vm(d:Dl)(s:Se)(e:Ev):Int:=if I8 d≠0 then I8 d else Hl d (Dp d) s e
def Akd(d:Dl)(s:Se)(e:Ev):Se:=I9 d (Dp d) s e
theorem Awe(hS:Jh)(d:Dl)(s:Se)(e:Ev)(z:DlOk d)(ha:e.an.small)(hs:SeOk s)(ae:J2 s.t.w 998)(af:s.t.steps.length<=900):
  Hp gv prog 12 [d.v,s.v,e.v] (fun r=>r=seR (Vm d s e) (Akd d s e)):=by
 refine Hp.relaxP ?_;have f:=Ws hS d z;unfold teR at f;obtain⟨tt,i⟩:∃tt,tt=(if I8 d=0 then Dp d else Vi):=⟨_,rfl⟩;rw [<- i]at f
 have a:I8 d=0->Hp gv prog 22 [d.v,tt.v,s.v,e.v] (fun r=>r=.tup [(if Hl d (Dp d) s e=0 then I9 d (Dp d) s e else se0).v,.int .i64 (Hl d (Dp d) s e)]):=fun h=>by
  rw [i,if_pos h];obtain⟨h1,h2,_⟩:=Aeu h z;exact Aa2 hS d (Dp d) s e z ha h1 h2.1 (fun x hx=>Ai (h2.2.1 x hx) dc) hs ae af
 have hE:I8 d≠0->Vm d s e=I8 d:=fun h=>by unfold Vm;rw [if_pos h]
 have c:I8 d=0->V.tup [(if Hl d (Dp d) s e=0 then I9 d (Dp d) s e else se0).v,.int .i64 (Hl d (Dp d) s e)]=seR (Vm d s e) (Akd d s e):=fun h=>by
  unfold Vm Akd seR;rw [show(if I8 d≠0 then I8 d else Hl d (Dp d) s e)=Hl d (Dp d) s e from if_neg (by simp [h])]
 clear i;generalize Hl d (Dp d) s e=PE at*;generalize(if PE=0 then I9 d (Dp d) s e else se0)=PS,I8 d=DE,Vm d s e=AE at*;generalize Akd d s e=ah at*;have y1:=fun x:Te=>Ag x.elig
 have y2:=fun x:Te=>A5 x.steps
 have y3:=fun x:Te=>Bv x.w
 have y4:=fun x:Se=>Ew x.ans
 have y5:=fun x:Se=>Ec x.inc
 have ab:∀x:Te,x.v=.agg [.ro 1 (As x.elig),.ro 2 (A2 x.steps),.int .i64 x.pend,.ro 1 (Bw x.w),.int .u64 x.draw,.int .i64 x.stop]:=fun x=>rfl
 have j:PS.v=V.agg [.int .i64 PS.st,.int .i64 PS.us,.int .i64 PS.la,.int .i64 PS.sh,.ro 1 (As PS.t.elig),.ro 2 (A2 PS.t.steps),.int .i64 PS.t.pend,.ro 1 (Bw PS.t.w),.int .u64 PS.t.draw,.int .i64 PS.t.stop,.ro 5 (Fu PS.ans),.ro 4 (Dt PS.inc)]:=rfl;have ad:e.v=V.agg [.int .i64 e.kind,.int .i64 e.time,.int .i64 e.an.item,.ro 1 (As e.an.ch),.int .i64 e.an.val,.str e.an.txt,.bool e.an.om,.int .i64 e.inc.ki,.int .i64 e.inc.ti,.int .i64 e.inc.lo,.int .i64 e.inc.gr]:=rfl;have i5:=Ag e.an.ch;rw [ab]at f a;rw [j]at a c;rw [ad]at a|-;generalize As e.an.ch=hv at*;have aa:s.v=V.agg [.int .i64 s.st,.int .i64 s.us,.int .i64 s.la,.int .i64 s.sh,.ro 1 (As s.t.elig),.ro 2 (A2 s.t.steps),.int .i64 s.t.pend,.ro 1 (Bw s.t.w),.int .u64 s.t.draw,.int .i64 s.t.stop,.ro 5 (Fu s.ans),.ro 4 (Dt s.inc)]:=rfl;have y:d.v=V.agg [.int .i64 d.ses,.int .i64 d.cand,.int .i64 d.p.len,.ro 5 (Ey d.p.rules),.ro 1 (As d.p.g.pts),.ro 1 (As d.p.g.pri),.ro 2 (A2 d.p.en),.int .i64 d.p.mn,.bool d.p.var.num.neg,.ro 1 (Av d.p.var.num.mag),.ro 1 (Av d.p.var.den),.int .i64 d.p.cut,.bool d.p.lvl.num.neg,.ro 1 (Av d.p.lvl.num.mag),.ro 1 (Av d.p.lvl.den),.int .i64 d.p.top,.bool d.p.rate.num.neg,.ro 1 (Av d.p.rate.num.mag),.ro 1 (Av d.p.rate.den),.int .i64 d.p.slack,.ro 9 (Ce d.pool),.ro 17 (Ip d.items),.ro 1 (As d.ess),.ro 2 (A2 d.uses),.int .i64 d.served,.int .i64 d.sec,.int .i64 d.nu,.int .i64 d.de,.int .i64 d.ex,.int .u64 d.seed]:=rfl;rw [aa]at a|-;rw [y]at f a|-;have d0:=C2 d.p.rules;have d1:=Ag d.p.g.pts;have d2:=Ag d.p.g.pri;have d3:=A5 d.p.en;have d4:=Ak d.p.var.num.mag;have d5:=Ak d.p.var.den;have d6:=Ak d.p.lvl.num.mag;have d7:=Ak d.p.lvl.den;have d8:=Ak d.p.rate.num.mag;have d9:=Ak d.p.rate.den;have o:=Ca d.pool;have l:=Gh d.items;have u:=Ag d.ess;have n:=A5 d.uses;generalize Ey d.p.rules=rv,As d.p.g.pts=pt,As d.p.g.pri=pr,A2 d.p.en=ev,Av d.p.var.num.mag=vm,Av d.p.var.den=vd,Av d.p.lvl.num.mag=lm,Av d.p.lvl.den=ld,Av d.p.rate.num.mag=rm,Av d.p.rate.den=rd at*;have aj:=Dx d.pool;have am:=Hj d.items;have ao:=A4 d.ess;generalize Ce d.pool=lv,Ip d.items=ag,As d.ess=al,A2 d.uses=uv at*;have z1:=Ag s.t.elig;have z2:=A5 s.t.steps;have z3:=Bv s.t.w;have z4:=Ew s.ans;have z5:=Ec s.inc;have m:=Gy s.ans;have k:=F6 s.inc;generalize As s.t.elig=ti,A2 s.t.steps=ts,Bw s.t.w=tw,Fu s.ans=ak,Dt s.inc=ai at*;refine By func12 fun w0 N0 hG=>?_;refine Aa [3,4,5,6] [3,4,5,6] sr (Ab (Ad (Am 1 sr ?_)));refine Bq hG f func20 ?_;refine Af [3,4,5,6,8,9] [3,4,5,6,8] sr ?_;refine Ab (Aa [3,4,5,6,8,9,16] [3,4,5,6,8] sr ?_)
 refine Ao (fun h1=>?_) fun h1=>Ae ?_
 ·exact Aa [6,7] [6] sr (Aj (Ac sr (by rw [hE (by simpa using h1)];exact Lh (by simpa using h1) _)))
 have h:DE=0:=by simpa using h1
 replace a:=a h;replace c:=c h;refine Ab (Ad (Am 4 sr ?_));refine Bq hG a func22 ?_;refine Af [6,7] [6] sr ?_;exact Aj (Ac sr (by rw [<- c];exact Bi.refl _))
theorem Aic:Bi (.agg [.int .i64 0,.int .i64 0,.int .i64 0,.int .i64 0,.nils,.nils,.int .i64 0,.nils,.int .u64 0,.int .i64 0,.nils,.nils]) se0.v:=by
 have r:=fun x:V=>Bi.refl x
 exact(Bi.agg (.cons (r _) (.cons (r _) (.cons (r _) (.cons (r _) (.cons (Bi.nils 1) (.cons (Bi.nils 2) (.cons (r _) (.cons (Bi.nils 1) (.cons (r _) (.cons (r _) (.cons (Bi.nils 5) (.cons (Bi.nils 4) .nil)))))))))))))
theorem Atf:AC prog 10 [] (fun r=>r=se0.v):=by
 refine AC.relaxP ?_;refine Ax func10 fun w0 N0=>?_;refine Aa [0] [0] sr (Aa [0] [0] sr ?_);exact Aj (Ac sr (Aic))
def Baq(d:Dl)(s:Se)(n:Int):Int:=if I8 d≠0 then I8 d else if Kx s n=false then 15 else 0
def A6g(d:Dl)(s:Se)(n:Int):Int:=if I8 d≠0\/Kx s n=false then 0 else if s.st=3 then 0 else A5v (Ig d s) (H9 s n)
section
def He(l:List Ev):List V:=l.map Ev.v
@[simp]theorem M6(l:List Ev):(He l).length=l.length:=by simp [He]
theorem Yx{l:List Ev}{k:Nat}(h:k<l.length):G8 (He l) k=some l[k].v:=by rw [C0];simp [He,h]
theorem Ake(e:Ev):(Ev.v e).pureE=true:=by
 have h:=Ag e.an.ch;unfold Ev.v;simp [V.pureE,V.pureC]
theorem A6h(t:Te):(Te.v t).pureE=true:=by
 have h1:=Ag t.elig;have h2:=A5 t.steps;have a:=Bv t.w;unfold Te.v teV;simp [V.pureE,V.pureC]
theorem A6i(s:Se):(Se.v s).pureE=true:=by
 have h1:=Ag s.t.elig;have h2:=A5 s.t.steps;have a:=Bv s.t.w;have c:=Ew s.ans;have d:=Ec s.inc;unfold Se.v;simp [V.pureE,V.pureC]
theorem A6j(d:Dl):(Dl.v d).pureE=true:=by
 have m:=C2 d.p.rules;have r:=Ag d.p.g.pts;have l:=Ag d.p.g.pri;have n:=A5 d.p.en;have o:=Ak d.p.var.num.mag;have h:=Ak d.p.var.den;have k:=Ak d.p.lvl.num.mag;have j:=Ak d.p.lvl.den;have s:=Ak d.p.rate.num.mag;have i:=Ak d.p.rate.den;have e:=Ca d.pool;have f:=Gh d.items;have c:=Ag d.ess;have a:=A5 d.uses;unfold Dl.v;simp [V.pureE,V.pureC]
theorem Jr(l:List Ev):(He l).all V.pureE=true:=by
 rw [Aw];intro x a;simp only [He,Bm]at a;obtain⟨n,_,rfl⟩:=a;exact Ake n
theorem Ja{S:AS}:∀ {cs:List V},cs.all V.pureC=true->S.viewL cs=some cs
 | [],_ =>rfl
 |v::r,h=>by
  rw [List.all_cons,Bk]at h
  have h1:S.viewC v=some v:=by
   have a:=h.1;clear h;unfold AS.viewC
   split
   ·exact absurd a (by simp [V.pureC])
   ·exact absurd a (by simp [V.pureC])
   ·rw [if_pos a]
  simp only [AS.viewL,h1,Ja h.2]
theorem A7f{v:V}{cs:List V}(h:v.pureE=true)(e:v=.agg cs):cs.all V.pureC=true:=by subst e;exact h
theorem Yy{v:V}{cs:List V}{n:Nat}(h:v.pureE=true)(e:v=.agg cs)(d:cs.length=n):∃c,v=.agg c/\c.length=n/\c.take n=c/\c.all V.pureC=true/\c.all V.isCell=true:=
 ⟨cs,e,d,Bg om,A7f h e,Aw.2 fun x a=>Aci (Aw.1 (A7f h e) x a)⟩
theorem An9(d:Dl):∃c,d.v=.agg c/\c.length=30/\c.take 30=c/\c.all V.pureC=true/\c.all V.isCell=true:=Yy (A6j d) rfl rfl
theorem A2d(t:Te):∃c,t.v=.agg c/\c.length=6/\c.take 6=c/\c.all V.pureC=true/\c.all V.isCell=true:=Yy (A6h t) rfl rfl
theorem Rm(s:Se):∃c,s.v=.agg c/\c.length=12/\c.take 12=c/\c.all V.pureC=true/\c.all V.isCell=true:=Yy (A6i s) rfl rfl
theorem Aev(e:Ev):∃c,e.v=.agg c/\c.length=11/\c.take 11=c/\c.all V.pureC=true/\c.all V.isCell=true:=Yy (Ake e) rfl rfl
attribute [-simp] V.pureC V.isCell List.all_eq_true
@[simp]theorem A9v(k:IntKind)(n:Int):(V.int k n).pureC=true:=rfl
@[simp]theorem A85:V.nils.pureC=true:=rfl
@[simp]theorem A86(k:IntKind)(n:Int):(V.int k n).isCell=true:=rfl
@[simp]theorem A7g:V.nils.isCell=true:=rfl
def Aab(d:Dl)(t:Te):Se->Nat->List Ev->Se × Nat × Int
 |s,k,[]=>(s,k,0)
 |s,k,e::l=>if Hl d t s e≠0 then(s,k,Hl d t s e)else Aab d t (I9 d t s e) (k+1) l
def Py(d:Dl)(l:List Ev):Se × Nat × Int:=if I8 d≠0 then(se0,0,I8 d)else Aab d (Dp d) se0 0 l
def Awf(x:Se × Nat × Int):V:=.tup [x.1.v,.int .i64 x.2.1,.int .i64 x.2.2]
def ev0:Ev:=⟨0,0,⟨0,[],0,[],false⟩,⟨0,0,0,0⟩⟩
def Fl(d:Dl)(t:Te)(l:List Ev):Nat->Se
 |0=>se0
 |k+1=>I9 d t (Fl d t l k) (l.getD k ev0)
theorem Akf(hS:Jh)(d:Dl)(l:List Ev)(hd:DlOk d)(hl:l.length<=700)(ha:∀e∈l,e.an.small):
  Hp gv prog 15 [d.v,.ro 11 (He l)] (fun r=>r=Awf (Py d l)):=by
 refine Hp.relaxP ?_;have af:=Ws hS d hd;unfold teR at af;have aq:=Atf;obtain⟨tt,aj⟩:∃tt,tt=(if I8 d=0 then Dp d else Vi):=⟨_,rfl⟩;rw [<- aj]at af;have hE:I8 d≠0->Py d l=(se0,0,I8 d):=fun h0=>by unfold Py;rw [if_pos h0]
 have hG:I8 d=0->tt=Dp d/\Py d l=Aab d tt se0 0 l/\AdP d.p d.pool/\teB 0 tt:=fun h0=>by
  have:tt=Dp d:=by rw [aj,if_pos h0]
  refine⟨this,?_,(Aeu h0 hd).1,this▸(Aeu h0 hd).2.1⟩;unfold Py;rw [if_neg (by simp [h0]),this]
 have ba:=M6 l;have qn:=fun(k:Nat)(h:k<l.length)=>Yx h
 have pl:=Jr l;have a3:l.length<=700:=hl;clear aj;have ah:Fl d tt l 0=se0:=rfl;have al:∀k,Fl d tt l (k+1)=I9 d tt (Fl d tt l k) (l.getD k ev0):=fun k=>rfl
 have a5:∀(s:Se)(e:Ev)(n:Nat),I8 d=0->e∈l->SeB n s->n<=800->Hp gv prog 22 [d.v,tt.v,s.v,e.v] (fun r=>r=.tup [(if Hl d tt s e=0 then I9 d tt s e else se0).v,.int .i64 (Hl d tt s e)]):=fun s e n h0 he hs hn=>by
  obtain⟨_,_,h1,h2⟩:=hG h0;exact Aa2 hS d tt s e hd (ha e he) h1 h2.1 (fun x hx=>Ai (h2.2.1 x hx) dc) (hs.ok hn) (hs.w998 hn) (Ai hs.st om)
 have ai:∀k(hk:k<l.length),Py d l=Aab d tt (Fl d tt l k) k (l.drop k)->Hl d tt (Fl d tt l k) l[k]=0->Py d l=Aab d tt (Fl d tt l (k+1)) (k+1) (l.drop (k+1)):=fun k hk h1 h2=>by
  rw [h1,Bt hk,Aab,if_neg (by simp [h2]),al,Df,Al hk];rfl
 have ak:∀k(hk:k<l.length),Py d l=Aab d tt (Fl d tt l k) k (l.drop k)->Hl d tt (Fl d tt l k) l[k]≠0->Py d l=(Fl d tt l k,k,Hl d tt (Fl d tt l k) l[k]):=fun k hk h1 h2=>by
  rw [h1,Bt hk,Aab,if_pos h2]
 have a0:Py d l=Aab d tt (Fl d tt l l.length) l.length (l.drop l.length)->Py d l=(Fl d tt l l.length,l.length,0):=fun h1=>by
  rw [h1,Cd,Aab]
 have hB:∀k(hk:k<l.length),I8 d=0->SeB k (Fl d tt l k)->Hl d tt (Fl d tt l k) l[k]=0->SeB (k+1) (Fl d tt l (k+1)):=fun k hk h0 hs h1=>by
  obtain⟨_,_,h2,h3⟩:=hG h0;rw [al,Df,Al hk];exact Aq8 h2 h3 (ha _ (Az hk)) h1 hs om
 obtain⟨dc,a2,d1,d2,i,j⟩:=An9 d;obtain⟨tc,av,w,o,y,t⟩:=A2d tt;have ad:∀k,∃c,(Fl d tt l k).v=.agg c/\c.length=12/\c.take 12=c/\c.all V.pureC=true/\c.all V.isCell=true:=fun k=>Rm _
 obtain⟨sc,ad⟩:=Classical.axiomOfChoice ad;have bf:∀k,∃c,(l.getD k ev0).v=.agg c/\c.length=11/\c.take 11=c/\c.all V.pureC=true/\c.all V.isCell=true:=fun k=>Aev _
 obtain⟨z0,ao,u,g,f,z⟩:=Rm se0;rw [a2]at af|-;rw [ao]at aq;rw [av]at af;generalize be:Py d l=RF at*;generalize bd:Fl d tt l=K at*;generalize He l=lv at*;have m:=fun S:AS=>Ja (S:=S) f
 have a7:sc 0=z0:=by have h:=(ad 0).1;rw [ah,ao]at h;injection h with h;exact h.symm
 refine By func15 fun w0 N0 au=>?_;refine Aa [1,2,4] [2,4] (by simp [ntmps15,d1,j]<;>rfl) (Ab (Ad (Am 1 (by simp [d1,d2]<;>rfl) ?_)));refine Gt au af func20 rfl kr sm rfl rfl rfl Go.sr (by simp [i]) Go.sr ?_;refine Af [1,2,4,7,8] [2,4,7] (by simp [w,t]<;>rfl) ?_;refine Ab (Aa [1,2,4,7,8,20] [2,4,7] Go.sr ?_)
 refine Ao (fun h1=>?_) fun h1=>Ae ?_
 ·refine Aa [4,5,6] [4] Go.sr ?_;exact Aj (Ac (by simp [results15]<;>rfl) (by rw [hE (by simpa using h1)];exact Bi.tup (.cons Aic (.cons (Bi.refl _) (.cons (Bi.refl _) .nil)))))
 have h0:I8 d=0:=by simpa using h1
 obtain⟨_,a6,bc,bb⟩:=hG h0;refine Ab (Ad (Mg aq func10 rfl kr rfl rfl rfl Go.sr sm Go.sr ?_));refine Af [1,2,4,7,9] [2,4,7,9] (by simp [u,z]<;>rfl) ?_;refine Ab (Aa [1,2,4,7,9,24,25,26] [2,4,7,9] Go.sr (Ar ?_));refine Br (fun k nx=>⟨[(1,V.ro 11 lv),(2,V.bp 2 0 30 0 0),(4,V.bp 4 1 12 0 0),(7,V.bp 7 9 6 0 0),(9,V.bp 9 15 12 0 0),(24,V.ro 11 lv),(25,V.int .i64 lv.length),(26,V.int .i64 k)],[(2,⟨0,30,44,[V.agg dc]⟩),(4,⟨1,12,58,[V.agg [.int .i64 0,.int .i64 0,.int .i64 0,.int .i64 0,.nils,.nils,.int .i64 0,.nils,.int .u64 0,.int .i64 0,.nils,.nils]]⟩),(7,⟨9,6,54,[V.agg tc]⟩),(9,⟨15,12,58,[V.agg (sc k)]⟩)],nx,49⟩) (fun k=>RF=Aab d tt (K k) k (l.drop k)/\SeB k (K k)) l.length _ ⟨by rw [ah];exact a6,by rw [ah];exact SeB.new⟩ (by simp only [a7];exact AS.le_refl _) ?_;intro k nx hk hI;refine Aa [1,2,4,7,9,24,25,26,27] [2,4,7,9] Go.sr (Ab ?_)
 refine Ao (fun h2=>Ae ?_) fun h2=>?_
 ·have ab:k<l.length:=by simp at h2;omega
  have ga:=qn k ab;have ar:k<lv.length:=om;have Dg:=A6 (k:=k) om;have ag:=a5 (K k) l[k] k h0 (Az ab) hI.2 om;have ay:=ai k ab hI.1;have ax:=ak k ab hI.1;have a8:=hB k ab h0 hI.2;obtain⟨ec,a1,e1,e2,e3,e4⟩:=Aev l[k];have a:=ad k;have aa:(sc k).drop 12= []:=Fj (I5 a.2.1);have vk:=fun S:AS=>Ja (S:=S) a.2.2.2.1
  have az:=ad (k+1);obtain⟨rc,ae,r1,r2,r3,r4⟩:=Rm (if Hl d tt (K k) l[k]=0 then I9 d tt (K k) l[k]else se0);rw [a2,av,a.1,a1,ae]at ag;rw [a1]at ga;have aw:K (k+1)=I9 d tt (K k) l[k]:=by rw [al,Df,Al ab];rfl
  generalize l[k]=e at*;generalize bg:Hl d tt (K k) e=PE at*;refine Ab (Ar (Aa [1,2,4,7,9,10,11,24,25,26] [2,4,7,9,11] (by simp [ga,ar,e1,e2,e4]<;>rfl) (Ab (Ad (Am 4 (by simp [e1,e2,a.2.1,a.2.2.1,d1,d2,w,o]<;>rfl) ?_)))));refine Gt au ag func22 rfl kr sm rfl rfl rfl Go.sr (by simp [i,y,e3,a.2.2.2.1]) Go.sr ?_;refine Af [1,2,4,7,9,10,12,13,24,25,26] [2,4,7,9,12] (by simp [r1,r4]<;>rfl) ?_;refine Ab (Aa [1,2,4,7,9,10,12,13,24,25,26,40] [2,4,7,9,12] Go.sr ?_)
  refine Ao (fun h3=>?_) fun h3=>Ae ?_
  ·refine Aa [4,5,6] [4] (by simp [a.2.1,a.2.2.1,a.2.2.2.2]<;>rfl) ?_;exact Aj (Ac (by simp [results15,a.2.1,a.2.2.1,vk]<;>rfl) (by rw [ax (by simpa using h3)];unfold Awf;rw [a.1];exact Bi.refl _))
  have hz:PE=0:=by simpa using h3
  rw [if_pos hz,<- aw]at ae;have a4:rc=sc (k+1):=by rw [az.1]at ae;injection ae with ae;exact ae.symm
  subst a4;refine A3 [1,2,4,7,9,24,25,26] [2,4,7,9] (by simp [r1,r2,r4,aa,a.2.1]<;>rfl) (A3 [1,2,4,7,9,24,25,26] [2,4,7,9] (by simp [Dg]<;>rfl) ?_);exact⟨ab,⟨ay hz,a8 hz⟩,_,AS.le_refl _⟩
 ·refine Bb ?_;have a:=ad k;have aa:(sc k).drop 12= []:=Fj (I5 a.2.1);have vk:=fun S:AS=>Ja (S:=S) a.2.2.2.1
  have am:k=l.length:=by simp at h2;omega
  have a9:=a0 (am▸hI.1);refine Aa [4,5,6] [4] (by simp [a.2.1,a.2.2.1,a.2.2.2.2]<;>rfl) ?_;exact Aj (Ac (by simp [results15,a.2.1,a.2.2.1,vk]<;>rfl) (by rw [a9];unfold Awf;rw [<- am,a.1,am,<- ba];exact Bi.refl _))
end
section
theorem Ua{cs:List V}(h:cs.all V.pureC=true)(d v sz:Nat)(es:List V):cs.map (V.frzC d v sz es)=cs:=by
 have:=Ahk d v sz es (show(V.agg cs).pureE=true from h);injection this
@[simp]theorem Bar(sz:Nat)(es:List V):(V.ro sz es).pureC=true:=rfl
def Awg(d:Dl):Bool:=if 9<d.pool.length\/14<d.items.length\/20<d.p.en.length\/40<d.uses.length then false else decide (Fa d.p.rules<=3)
def Aoa(l:List Ru)(k:Nat):Nat:=Fa (l.take k)
theorem Awh{l:List Ru}{k:Nat}(h:k<l.length):Aoa l (k+1)=Aoa l k+Sr l[k]:=by
 unfold Aoa;rw [A1 h,X9];simp [Fa]
theorem Aob(d:Dl)(hb:d.p.rules.length<=4000000/\d.pool.length<=4000000/\d.items.length<=4000000/\d.p.en.length<=4000000/\d.uses.length<=4000000):AC prog 7 [d.v] (fun r=>r=.bool (Awg d)):=by
 obtain⟨b1,b2,b3,b4,b5⟩:=hb;have lr:=Pp d.p.rules;have qr:=fun(k:Nat)(h:k<d.p.rules.length)=>Re h
 have hs:=fun(k:Nat)(h:k<d.p.rules.length)=>Awh h
 have m:Aoa d.p.rules 0=0:=rfl;have n:Aoa d.p.rules d.p.rules.length=Fa d.p.rules:=by unfold Aoa;rw [Bl]
 have e:=fun k=>Ai (Ya (d.p.rules.take k)) (Ic k d.p.rules)
 have f:∀k,Aoa d.p.rules k<=k:=e;clear e;unfold Awg;rw [<- n];have x:=Du d.p.en;have ab:=Du d.uses;have j:d.v=V.agg [.int .i64 d.ses,.int .i64 d.cand,.int .i64 d.p.len,.ro 5 (Ey d.p.rules),.ro 1 (As d.p.g.pts),.ro 1 (As d.p.g.pri),.ro 2 (A2 d.p.en),.int .i64 d.p.mn,.bool d.p.var.num.neg,.ro 1 (Av d.p.var.num.mag),.ro 1 (Av d.p.var.den),.int .i64 d.p.cut,.bool d.p.lvl.num.neg,.ro 1 (Av d.p.lvl.num.mag),.ro 1 (Av d.p.lvl.den),.int .i64 d.p.top,.bool d.p.rate.num.neg,.ro 1 (Av d.p.rate.num.mag),.ro 1 (Av d.p.rate.den),.int .i64 d.p.slack,.ro 9 (Ce d.pool),.ro 17 (Ip d.items),.ro 1 (As d.ess),.ro 2 (A2 d.uses),.int .i64 d.served,.int .i64 d.sec,.int .i64 d.nu,.int .i64 d.de,.int .i64 d.ex,.int .u64 d.seed]:=rfl;rw [j];have d0:=C2 d.p.rules;have d1:=Ag d.p.g.pts;have d2:=Ag d.p.g.pri;have d3:=A5 d.p.en;have d4:=Ak d.p.var.num.mag;have d5:=Ak d.p.var.den;have d6:=Ak d.p.lvl.num.mag;have d7:=Ak d.p.lvl.den;have d8:=Ak d.p.rate.num.mag;have d9:=Ak d.p.rate.den;have aa:=Ca d.pool;have o:=Gh d.items;have ad:=Ag d.ess;have y:=A5 d.uses;generalize Ey d.p.rules=l,As d.p.g.pts=pt,As d.p.g.pri=pr,A2 d.p.en=ev,Av d.p.var.num.mag=vm,Av d.p.var.den=vd,Av d.p.lvl.num.mag=lm,Av d.p.lvl.den=ld,Av d.p.rate.num.mag=rm,Av d.p.rate.den=rd at*;have s:=Dx d.pool;have w:=Hj d.items;have z:=A4 d.ess;generalize Ce d.pool=lv,Ip d.items=ae,As d.ess=af,A2 d.uses=uv,Aoa d.p.rules=sk at*;refine Ax func7 fun w0 N0=>?_;refine Aa [1] [1] sr (Ab (Aa [1,28] [1] (by simp [s,w,x,ab]<;>rfl) ?_))
 refine Ao (fun h1=>?_) fun h1=>Ae ?_
 ·exact Aa [2] [] sr (Aj (Ac sr (by rw [if_pos (by simp at h1;omega)])))
 rw [if_neg (by simp at h1;omega)];refine Aa [1,3] [1] sr (Ab (Aa [3,32,33,34] [] sr (Ar (Br (fun k nx=>⟨[(3,V.int .i64 (sk k)),(32,V.ro 5 l),(33,V.int .i64 l.length),(34,V.int .i64 k)],[],nx,46⟩) (fun k=>True) d.p.rules.length _ trivial (by simp only [m];exact AS.le_refl _) ?_))));intro k nx hk hI;refine Aa [3,32,33,34,35] [] sr (Ab ?_)
 refine Ao (fun h2=>Ae ?_) fun h2=>?_
 ·have c:k<d.p.rules.length:=by simp at h2;omega
  have i:k<l.length:=om;have ga:=qr k c;have a:=hs k c;have Dg:=A6 (k:=k) om;have Pm:=A6 (k:=sk k) (by have:=f k;omega);unfold Ru.v Ru.cs at ga;unfold Sr at a;generalize d.p.rules[k]=r at*;refine Ab (Ar (Aa [3,5,32,33,34] [5] (by simp [ga,i]<;>rfl) (Aa [3,32,33,34,40] [] sr ?_)))
  refine Ao (fun u=>?_) fun u=>Ae ?_
  ·rw [if_pos (by simpa using u)]at a;refine A3 [3,32,33,34] [] (by simp [Pm]<;>rfl) (A3 [3,32,33,34] [] (by simp [Dg]<;>rfl) ?_);exact⟨c,trivial,_,by rw [a];exact AS.le_refl _⟩
  rw [if_neg (by simpa using u)]at a;refine A3 [3,32,33,34] [] (by simp [Dg]<;>rfl) ?_;exact⟨c,trivial,_,by rw [a];exact AS.le_refl _⟩
 ·refine Bb ?_;have t:k=d.p.rules.length:=by simp at h2;omega
  subst t;exact Aa [2] [] sr (Aj (Ac sr (by congr 1;apply L4.2;simp;omega)))
theorem A87(l:List Ev)(hl:l.length<=4000000):AC prog 11 [.ro 11 (He l)] (fun r=>r=.ro 11 (He (l.take 14))):=by
 have ll:=M6 l;have pl:=Jr l;have d:He (l.take 14)=(He l).take 14:=Ke;rw [d];generalize He l=c at*;refine Ax func11 fun w0 N0=>?_;refine Aa [0] [] sr (Ab (Aa [0,5] [] sr ?_))
 refine Ao (fun h1=>?_) fun h1=>Ae ?_
 ·have a:(14:Int)<=c.length:=by simp at h1;omega
  exact Aa [2] [] (by simp [a]<;>rfl) (Aj (Ac sr sm))
 have a:c.length<=14:=by simp at h1;omega
 exact Aa [2] [] sr (Aj (Ac sr (by rw [Bg a])))
attribute [-simp] V.pureC V.isCell List.all_eq_true
def Aq9(d:Dl)(x:Se × List Ev)(e:Ev):Se × List Ev:=if Vm d x.1 e=0 then(Akd d x.1 e,x.2++[e])else x
def L9(d:Dl)(l:List Ev):Se × List Ev:=l.foldl (Aq9 d) (se0,[])
theorem Aac(d:Dl){l:List Ev}{k:Nat}(h:k<l.length):L9 d (l.take (k+1))=Aq9 d (L9 d (l.take k)) l[k]:=by
 unfold L9;rw [A1 h,List.foldl_append];rfl
theorem A88{d:Dl}{s:Se}{e:Ev}{n:Nat}(c:DlOk d)(g:e.an.small)(h:Vm d s e=0)(hs:SeB n s)(f:n<=800):SeB (n+1) (Akd d s e):=by
 have a:I8 d=0/\Hl d (Dp d) s e=0:=by
  unfold Vm at h;split at h
  ·omega
  ·exact⟨by omega,h⟩
 obtain⟨h1,h2,_⟩:=Aeu a.1 c;exact Aq8 h1 h2 g a.2 hs f
theorem Atg{d:Dl}(i:DlOk d):∀ {l:List Ev},l.length<=700->(∀e∈l,e.an.small)->(L9 d l).2.length<=l.length/\SeB l.length (L9 d l).1/\∀e∈(L9 d l).2,e∈l:=by
 intro l hl h
 have f:∀k,k<=l.length->(L9 d (l.take k)).2.length<=k/\SeB k (L9 d (l.take k)).1/\∀e∈(L9 d (l.take k)).2,e∈l:=by
  intro k
  induction k with
  |zero=>exact fun _ =>⟨A9 _,SeB.new,fun e a=>by cases a⟩
  |succ k ih=>
   intro hk;obtain⟨i1,c,g⟩:=ih om;rw [Aac d Go.om]
   unfold Aq9;split
   ·rename_i j;refine⟨by simp;omega,A88 i (h _ (Az _)) j c om,fun e a=>?_⟩
    rcases Cc.1 a with a|a
    ·exact g e a
    ·rw [Bz.1 a];exact Az _
   ·refine⟨by omega,?_,g⟩;exact SeB.mk' (T9 c.te (Nat.le_succ k)) (D0 c.al) c.ac (D0 c.il)
 have:=f l.length (A9 _)
 rwa [Bl]at this
set_option maxHeartbeats 16000000 in
theorem Akg(hS:Jh)(d:Dl)(l:List Ev)(hd:DlOk d)(hl:l.length<=4000000)(ha:∀e∈l,e.an.small):
  Hp gv prog 14 [d.v,.ro 11 (He l)] (fun r=>r=.tup [(L9 d (l.take 14)).1.v,.ro 11 (He (L9 d (l.take 14)).2)]):=by
 have ar:=Atf
 have a0:=A87 l hl
 have ay:∀e∈l.take 14,e.an.small:=fun e he=>ha e (B8 he)
 have a9:(l.take 14).length<=14:=Ic 14 l
 have a:=Jr l
 generalize He l=a8 at*
 generalize l.take 14=m at*
 have ag:∀k,(L9 d (m.take k)).2.length<=k/\SeB k (L9 d (m.take k)).1:=fun k=>by
  obtain⟨h1,h2,_⟩:=Atg hd (l:=m.take k) (by have:=Ic k m;have:=List.length_take_le' k m;omega) (fun e he=>ay e (B8 he))
  have hk:=Ic k m
  exact⟨Ai h1 hk,SeB.mk' (T9 h2.te hk) (Ai h2.al hk) h2.ac (Ai h2.il hk)⟩
 have aq:=fun(k:Nat)(h:k<m.length)=>Aac d h
 have au:L9 d (m.take 0)=(se0,[]):=by rw [Iq];rfl
 have az:L9 d (m.take m.length)=L9 d m:=by rw [Bl]
 rw [<- az]
 have a4:∀k(h:k<m.length),Hp gv prog 12 [d.v,(L9 d (m.take k)).1.v,m[k].v] (fun r=>r=.tup [(if Vm d (L9 d (m.take k)).1 m[k]=0 then Akd d (L9 d (m.take k)).1 m[k]else se0).v,.int .i64 (Vm d (L9 d (m.take k)).1 m[k])]):=fun k h=>
  Awe hS d _ _ hd (ay _ (Az h)) ((ag k).2.ok Go.om) ((ag k).2.w998 Go.om) (Ai (ag k).2.st Go.om)
 generalize hA:(fun k=>L9 d (m.take k))=A
 have a1:∀k,L9 d (m.take k)=A k:=fun k=>by rw [<- hA]
 clear hA
 simp only [a1]at*
 have ah:∀k,∃c,(A k).1.v=.agg c/\c.length=12/\c.take 12=c/\c.all V.pureC=true/\c.all V.isCell=true:=fun k=>Rm _
 obtain⟨sc,ah⟩:=Classical.axiomOfChoice ah
 obtain⟨dc,de,i,z,f,s⟩:=An9 d
 have o:=fun S:AS=>Ja (S:=S) f
 have w:dc.drop 30= []:=Fj (I5 i)
 have t:=Ua f
 obtain⟨zc,ez,u,j,g,y⟩:=Rm se0
 have n:=fun S:AS=>Ja (S:=S) g
 rw [ez]at ar
 rw [de]
 have a2:sc 0=zc:=by have h:=(ah 0).1;rw [au]at h;simp only [ez]at h;injection h with h;exact h.symm
 have lm:=M6 m
 have pm:=Jr m
 have qm:=fun(k:Nat)(h:k<m.length)=>Yx h
 have fK:∀k,He (A k).2=He (A k).2:=fun k=>rfl
 have pK:=fun k=>Jr (A k).2
 have lK:=fun k=>M6 (A k).2
 generalize a3:(fun k=>He (A k).2)=EK
 have ad:∀k,He (A k).2=EK k:=fun k=>by rw [<- a3]
 have a5:EK 0= []:=by rw [<- ad,au];rfl
 generalize He m=mv at*
 refine Ags func14 rfl (by show(2:Nat)<=37;omega) (fun w0 N0 hG=>?_)
 refine Aa [1,2,4] [2,4] (by simp [ntmps14,i,s]<;>rfl) ?_
 refine Ab (Ad ?_)
 refine Mg ar func10 rfl (by kernel_rfl) rfl rfl rfl Go.sr (by simp) Go.sr ?_
 refine Af [1,2,4,6] [2,4,6] (by simp [u,y]<;>rfl) ?_
 refine Aa [1,2,4,6,7] [2,4,6] Go.sr ?_
 refine Ab ?_
 refine Ab (Ad ?_)
 refine Am 1 Go.sr ?_
 refine Mg a0 func11 rfl (by kernel_rfl) rfl rfl rfl Go.sr (by simp) Go.sr ?_
 refine Af [2,4,6,7,14,15,16] [2,4,6] Go.sr ?_
 refine Fp 7 100 11 66 [2,4,6,7,14,15,16] [2,4,6,100] Go.sr Go.sr ?_
 refine Ar ?_
 refine Di (fun x:Nat × Nat × Nat=>⟨[(2,V.bp 2 0 30 0 0),(4,V.bp 4 1 12 0 0),(6,V.bp 6 4 12 0 0),(7,V.sl 100 x.2.1 11 (EK x.1).length),(14,V.ro 11 mv),(15,V.int .i64 mv.length),(16,V.int .i64 x.1)],[(2,⟨0,30,44,[V.agg dc]⟩),(4,⟨1,12,58,[V.agg [.int .i64 0,.int .i64 0,.int .i64 0,.int .i64 0,.nils,.nils,.int .i64 0,.nils,.int .u64 0,.int .i64 0,.nils,.nils]]⟩),(6,⟨4,12,58,[V.agg (sc x.1)]⟩),(100,⟨x.2.1,11,66,EK x.1⟩)],x.2.2,37⟩) (fun x=>x.1<=m.length) (fun x=>m.length-x.1) (0,_,_) (B4 _) (by simp only [a2,a5];exact AS.le_refl _) ?_
 rintro⟨k,qv,nx⟩hk
 simp only at hk|-
 refine Aa [2,4,6,7,14,15,16,17] [2,4,6,100] Go.sr ?_
 refine Ab ?_
 refine A7 rfl (fun h1=>Ae ?_) (fun h1=>?_)
 ·have ai:k<m.length:=by simp at h1;omega
  have av:k<mv.length:=by omega
  have ga:=qm k ai
  have Dg:=A6 (k:=k) Go.om
  have am:=a4 k ai
  have ab:=aq k ai
  have aa:=ah k
  have ao:=ah (k+1)
  obtain⟨ec,ee,e1,e2,e3,e4⟩:=Aev m[k]
  have ev:=fun S:AS=>Ja (S:=S) e3
  have ed:ec.drop 11= []:=Fj (I5 e1)
  have ef:=Ua e3
  obtain⟨rc,re,r1,r2,r3,r4⟩:=Rm (if Vm d (A k).1 m[k]=0 then Akd d (A k).1 m[k]else se0)
  have rv:=fun S:AS=>Ja (S:=S) r3
  have rd:rc.drop 12= []:=Fj (I5 r1)
  have rf:=Ua r3
  have s1:=aa.2.1
  have s2:=aa.2.2.1
  have s3:=aa.2.2.2.1
  have s4:=aa.2.2.2.2
  have sv:=fun S:AS=>Ja (S:=S) s3
  have sd:(sc k).drop 12= []:=Fj (I5 s1)
  have sf:=Ua s3
  rw [de,aa.1,ee,re]at am
  rw [ee]at ga
  have aw:Vm d (A k).1 m[k]=0->EK (k+1)=EK k++[V.agg ec]/\sc (k+1)=rc:=fun h0=>by
   unfold Aq9 at ab
   rw [if_pos h0]at ab
   refine⟨?_,?_⟩
   ·rw [<- ad,<- ad,ab];simp [He,ee]
   ·have h:=ao.1
    rw [ab]at h
    rw [if_pos h0]at re
    rw [re]at h
    injection h with h;exact h.symm
  have ax:¬Vm d (A k).1 m[k]=0->EK (k+1)=EK k/\sc (k+1)=sc k:=fun h0=>by
   unfold Aq9 at ab
   rw [if_neg h0]at ab
   refine⟨?_,?_⟩
   ·rw [<- ad,<- ad,ab]
   ·have h:=ao.1
    rw [ab,aa.1]at h
    injection h with h;exact h.symm
  generalize Vm d (A k).1 m[k]=ae at*
  have aj:=lK k
  rw [ad]at aj
  have a7:=(ag k).1
  have af:(EK k).length+1<=maxLen/\((EK k).length+1)*112<=140737488355328:=⟨Ai (show(EK k).length+1<=1001 by omega) Go.dc,by omega⟩
  refine Ab ?_
  refine Ar ?_
  refine Aa [2,4,6,7,9,14,15,16] [2,4,6,9,100] (by simp [ga,av,e1,e2,e4]<;>rfl) ?_
  refine Ab (Ad ?_)
  refine Am 3 (by simp [e1,e2,s1,s2,i,z]<;>rfl) ?_
  refine Gt hG am func12 rfl (by kernel_rfl) (by simp) rfl rfl rfl Go.sr (by simp [e3,s3,f]) Go.sr ?_
  refine Af [2,4,6,7,9,10,11,14,15,16] [2,4,6,9,10,100] (by simp [r1,r4]<;>rfl) ?_
  refine Aa [2,4,6,7,9,10,14,15,16,28] [2,4,6,9,10,100] Go.sr ?_
  refine A7 rfl (fun h2=>?_) (fun h2=>Ae ?_)
  ·obtain⟨g1,g2⟩:=aw (by simpa using h2)
   refine Aa [2,4,6,7,9,14,15,16] [2,4,6,9,100] (by simp [r1,r2,r4,s1,sd]<;>rfl) ?_
   refine A3 [2,4,6,7,14,15,16] [2,4,6,33,100] (by simp [af,e1,e2,e4]<;>rfl) ?_
   refine A3 [2,4,6,7,14,15,16] [2,4,6,33,100] (by simp [Dg]<;>rfl) ?_
   exact⟨(k+1,_,_),ai,by simp only;omega,by simp only [g1,g2,Bf,List.length_singleton];exact AS.le_refl _⟩
  obtain⟨g1,g2⟩:=ax (by simpa using h2)
  refine A3 [2,4,6,7,14,15,16] [2,4,6,100] (by simp [Dg]<;>rfl) ?_
  exact⟨(k+1,_,_),ai,by simp only;omega,by simp only [g1,g2];exact AS.le_refl _⟩
 ·refine Bb ?_
  have a6:k=m.length:=by simp at h1;omega
  subst a6
  have aa:=ah m.length
  have s1:=aa.2.1
  have s2:=aa.2.2.1
  have s3:=aa.2.2.2.1
  have s4:=aa.2.2.2.2
  have sv:=fun S:AS=>Ja (S:=S) s3
  have sd:(sc m.length).drop 12= []:=Fj (I5 s1)
  have sf:=Ua s3
  have ak:=pK m.length
  have aj:=lK m.length
  rw [ad]at ak aj
  refine Bp 100 [4,6,7] [4,6] (by simp [ak,aj,sf,t]<;>rfl) ?_
  refine Aa [4,5] [4] (by simp [s1,s2,s4]<;>rfl) ?_
  exact Aj (Ac (by simp [results14,s1,s2,sv]<;>rfl) (by rw [ad,aa.1]))
end
theorem Ara{a b:List V}(h:RelaxL a b):a.length=b.length/\∀(j:Nat)c d,a[j]? =some c->b[j]? =some d->Bi c d:=
 ⟨h.length,fun j c d h1 h2=>by obtain⟨v,e,f⟩:=h.get j d h2;rw [h1]at e;injection e with e;rw [e];exact f⟩
inductive RelaxE:List V->List V->Prop
 |nil:RelaxE [] []
 |cons {a b:List V} {l m:List V} (h:RelaxL a b) (t:RelaxE l m):RelaxE (.agg a::l) (.agg b::m)
theorem RelaxE.toL{l m:List V}(h:RelaxE l m):RelaxL l m:=by
 induction h with
 |nil=>exact .nil
 |cons h _ ih=>exact .cons (Bi.agg h) ih
theorem RelaxE.get{l m:List V}(h:RelaxE l m):∀(k:Nat)e f,l[k]? =some e->m[k]? =some f->e.cells.length=f.cells.length/\(∀(j:Nat)c d,e.cells[j]? =some c->f.cells[j]? =some d->Bi c d):=by
 induction h with
 |nil=>intro k e f h;simp at h
 |cons h _ ih=>
  intro k e f h1 h2
  rcases k with _ |k
  ·simp at h1 h2;subst h1;subst h2;exact Ara h
  ·simp at h1 h2;exact ih k e f h1 h2
theorem Bi.roE{sz:Nat}{l m:List V}(h:RelaxE l m):Bi (.ro sz l) (.ro sz m):=Bi.ro h.toL h.get
def an0:An:=⟨0,[],0,[],false⟩
def in0:In4:=⟨0,0,0,0⟩
def rr0:RR:=⟨⟨false,[]⟩,[]⟩
def A2e:Po:={ len:=1,rules:=[],g:=⟨[-100,100],[1,1]⟩,en:=[],mn:=0,var:=rr0,cut:=0,lvl:=rr0,top:=1,rate:=⟨⟨false,[1]⟩,[1]⟩,slack:=0}
def Wu:Pit:={ id:=3,code:=[65],fam:=0,st:=0,wo:=0,se:=1,pt:=1,ky:=0,m:=[[800,200],[200,800]]}
def A89:It:=⟨3,1,1,[79,110,101,32,97,110,100,32,111,110,101,63],[[50],[51]],[0],0,0,[],1,[65],0,0,5,60,[],0⟩
def Bas:It:=⟨4,1,6,[87,104,121,63],[],[],0,0,[],5,[65],0,0,5,60,[],1⟩
def Oh:Dl:={ ses:=1,cand:=1,p:=A2e,pool:=[Wu],items:=[A89,Bas],ess:=[4],uses:=[],served:=0,sec:=60,nu:=3,de:=2,ex:=0,seed:=0}
def Af7:List Ev:=[⟨1,10,an0,in0⟩,⟨2,30,⟨3,[0],0,[],false⟩,in0⟩]
theorem Awi:I8 Oh=0:=by decide+kernel
theorem A6k:(Py Oh Af7).2=(2,0)/\(Py Oh Af7).1.us=20/\(Py Oh Af7).1.sh=4/\(Py Oh Af7).1.st=1/\(Py Oh Af7).1.ans.length=1:=by decide+kernel
def A9a:V:=.agg [.int .i64 1,.nils,.ro 1 (As [-100,100]),.ro 1 (As [1,1]),.nils,.int .i64 0,.bool false,.nils,.nils,.int .i64 0,.bool false,.nils,.nils,.int .i64 1,.bool false,.ro 1 (Av [1]),.ro 1 (Av [1]),.int .i64 0,.ro 9 (Ce [Wu]),.nils,.int .i64 0,.int .u64 0]
theorem A2f:AC prog 40 [] (fun r=>r=A9a):=by
 unfold A9a;refine Ax func40 fun w0 N0=>?_;refine Aa [0] [0] sr (Aa [0,1] [0,5,6,1] sr (Bp 5 [0,1] [0,1,6] sr (Bp 6 [0,1] [0,1] sr (Aa [0,1,2] [0,1,2,8,9,10] sr (Bp 8 [0,1,2] [0,1,2,9,10] sr (Bp 9 [0,1,2] [0,1,2,10] sr (Bp 10 [0,1,2] [0,1,2] sr (Aa [0,1,2,3] [0,1,2,3,12,14] sr (Bp 12 [0,1,2,3] [0,1,2,3,14] sr (Bp 14 [0,1,2,3] [0,1,2,3] sr (Aa [0,2,4] [0,2,4] sr (Aa [0] [0,23] sr ?_))))))))))));exact Bp 23 [0] [0] sr (Aj (Ac sr (by rfl)))
def Aoc:V:=.agg [.int .i64 1,.int .i64 1,.int .i64 1,.nils,.ro 1 (As [-100,100]),.ro 1 (As [1,1]),.nils,.int .i64 0,.bool false,.nils,.nils,.int .i64 0,.bool false,.nils,.nils,.int .i64 1,.bool false,.ro 1 (Av [1]),.ro 1 (Av [1]),.int .i64 0,.ro 9 (Ce [Wu]),.ro 17 [V.agg [.int .i64 3,.int .i64 1,.int .i64 1,.str [79,110,101,32,97,110,100,32,111,110,101,63],.ro 1 [.str [50],.str [51]],.ro 1 [.int .i64 0],.int .i64 0,.int .i64 0,.nils,.int .i64 1,.str [65],.int .i64 0,.int .i64 0,.int .i64 5,.int .i64 60,.nils,.int .i64 0],V.agg [.int .i64 4,.int .i64 1,.int .i64 6,.str [87,104,121,63],.nils,.nils,.int .i64 0,.int .i64 0,.nils,.int .i64 5,.str [65],.int .i64 0,.int .i64 0,.int .i64 5,.int .i64 60,.nils,.int .i64 1]],.ro 1 (As [4]),.nils,.int .i64 0,.int .i64 60,.int .i64 3,.int .i64 2,.int .i64 0,.int .u64 0]
theorem A2g:AC prog 21 [] (fun r=>r=Aoc):=by
 have c:=A2f;unfold A9a at c;have a:=Ca [Wu];unfold Aoc;generalize Ce [Wu]=pv at*;refine Ax func21 fun w0 N0=>?_;refine Aa [0] [0] sr (Ab (Ad (Ah c func40 ?_)));refine Af [0,1] [0,1] Go.sr ?_;refine Aa [0,1,2] [0,1,2,5,6] Go.sr (Bp 5 [0,1,2] [0,1,2,6] Go.sr (Bp 6 [0,1,2] [0,1,2] Go.sr (Aa [0,1,2,3] [0,1,2,3] Go.sr (Aa [0] [0,15,16] Go.sr (Bp 15 [0] [0,16] Go.sr (Bp 16 [0] [0] Go.sr ?_))))));exact Aj (Ac (by simp [results21]<;>rfl) (by rfl))
theorem rcl{p:Prop}(h:p:=by repeat(first|exact RelaxL.nil|refine RelaxL.cons (Bi.refl _) ?_ |refine RelaxL.cons (Bi.nils _) ?_)):p:=h
theorem Aew:Bi Aoc Oh.v:=by
 refine Bi.agg ?_
 have a:Bi (.ro 17 [V.agg [.int .i64 3,.int .i64 1,.int .i64 1,.str [79,110,101,32,97,110,100,32,111,110,101,63],.ro 1 [.str [50],.str [51]],.ro 1 [.int .i64 0],.int .i64 0,.int .i64 0,.nils,.int .i64 1,.str [65],.int .i64 0,.int .i64 0,.int .i64 5,.int .i64 60,.nils,.int .i64 0],V.agg [.int .i64 4,.int .i64 1,.int .i64 6,.str [87,104,121,63],.nils,.nils,.int .i64 0,.int .i64 0,.nils,.int .i64 5,.str [65],.int .i64 0,.int .i64 0,.int .i64 5,.int .i64 60,.nils,.int .i64 1]]) (.ro 17 (Ip Oh.items)):=by
  refine Bi.roE (.cons ?_ (.cons ?_ .nil))
  ·exact rcl
  ·exact rcl
 (repeat(first|exact RelaxL.nil|refine RelaxL.cons (Bi.refl _) ?_ |refine RelaxL.cons (Bi.nils _) ?_ |refine RelaxL.cons a ?_))
theorem A2h:DlOk Oh where
 pok:=⟨⟨⟨(by intro x a;cases a),B4 _⟩,(by intro x a;cases a),B4 _⟩,⟨⟨(by intro x a;cases a),B4 _⟩,(by intro x a;cases a),B4 _⟩,⟨⟨by intro x a;simp [Oh,A2e]at a;subst a;decide,by decide⟩,by intro x a;simp [Oh,A2e]at a;subst a;decide,by decide⟩⟩
 pl:=by decide
 st:=by decide
 il:=by decide
 is:=by
  intro it c;have:it=A89\/it=Bas:=by simpa [Oh]using c
  rcases this with rfl|rfl
  ·exact⟨by decide,⟨by decide,by intro s hs;simp [A89]at hs;rcases hs with rfl|rfl<;>decide⟩,⟨by decide,by intro s hs;cases hs⟩,by decide,by decide⟩
  ·exact⟨by decide,⟨by decide,by intro s hs;cases hs⟩,⟨by decide,by intro s hs;cases hs⟩,by decide,by decide⟩
 el:=by decide
theorem Awj(x:Jh):Hp gv prog 9 [] (fun r=>r=.bool true):=by
 have j:=A2g;have i:=Aer x Oh A2h;rw [Awi]at i;have i:=i.argsR (.cons Aew .nil)
 have d:=Akf x Oh Af7 A2h dc (by
  intro e he;have:e=⟨1,10,an0,in0⟩\/e=⟨2,30,⟨3,[0],0,[],false⟩,in0⟩:=by simpa [Af7]using he
  rcases this with rfl|rfl<;>exact⟨by decide,by decide⟩)
 obtain⟨k,s3,s4,s5,s6⟩:=A6k;unfold Awf at d;rw [show(Py Oh Af7).2.1=2 by rw [k],show(Py Oh Af7).2.2=0 by rw [k]]at d;clear k;generalize(Py Oh Af7).1=s at*;have l:s.v=V.agg [.int .i64 s.st,.int .i64 s.us,.int .i64 s.la,.int .i64 s.sh,.ro 1 (As s.t.elig),.ro 2 (A2 s.t.steps),.int .i64 s.t.pend,.ro 1 (Bw s.t.w),.int .u64 s.t.draw,.int .i64 s.t.stop,.ro 5 (Fu s.ans),.ro 4 (Dt s.inc)]:=rfl;rw [l]at d
 have d:=d.argsR (args:=[Aoc,.ro 11 [V.agg [.int .i64 1,.int .i64 10,.int .i64 0,.nils,.int .i64 0,.str [],.bool false,.int .i64 0,.int .i64 0,.int .i64 0,.int .i64 0],V.agg [.int .i64 2,.int .i64 30,.int .i64 3,.ro 1 [.int .i64 0],.int .i64 0,.str [],.bool false,.int .i64 0,.int .i64 0,.int .i64 0,.int .i64 0]]])
  (.cons Aew (.cons (Bi.roE (.cons rcl (.cons rcl .nil))) .nil))
 have m:=Ag s.t.elig;have u:=A5 s.t.steps;have o:=Bv s.t.w;have n:=Ew s.ans;have z:=Ec s.inc;have y7:=Gy s.ans;have f:=Ca [Wu];unfold Aoc at j i d;generalize Ce [Wu]=pv,Fu s.ans=aa at*;have h:(As [4]).all V.pureE=true:=Ag _;have a:(As [-100,100]).all V.pureE=true:=Ag _;have c:(As [1,1]).all V.pureE=true:=Ag _;have g:(Av [1]).all V.pureE=true:=Ak _;generalize As [4]=p4,As [-100,100]=pa,As [1,1]=pb,Av [1]=pc at*;rw [s5]at d;refine By func9 fun w0 N0 y=>?_;refine Aa [] [] sr (Ab (Ad (Mg j func21 rfl kr rfl rfl rfl Go.sr sm Go.sr ?_)));refine Af [1] [1] Go.sr ?_;refine Ab (Ab (Ad (Am 1 Go.sr ?_)));refine Bq y i func8 ?_ (hs:=by simp<;>rfl);refine Af [1,8] [1] Go.sr ?_;refine A7 rfl (fun h1=>by simp at h1) (fun h1=>Ae (Ab (Ad (Am 6 Go.sr ?_))));refine I7 12 [10,15] [15] Go.sr ?_;refine I7 15 [10,15] [] Go.sr ?_;refine Bq y d func15 ?_ (hs:=by simp<;>rfl);refine Af [2,3,4] [2] Go.sr ?_;exact Aa [0] [] (by simp [y7,s3,s4,s6]<;>rfl) (Aj (Ac sr rf))
end Go.Proofs.YtpaccopbbffkaaaGreatDoor
set_option linter.unusedSimpArgs false
namespace Go.Proofs.YtpaccopbbffkaaaGreatDoor
open Go.RowKit Go.Shelf
attribute [local go_sem] Oper.semAt_some
def Ou(a:List Int)(k:Nat):List Int:=(List.range k).map fun j=>a[j]?.getD 0
theorem Arb(a:List Int)(k:Nat):Ou a (k+1)=Ou a k++[a[k]?.getD 0]:=by simp [Ou,List.range_succ]
theorem Awk(a:List Int)(k:Nat):(Ou a k).length=k:=by simp [Ou]
theorem Awl(a:List Int):Ou a a.length=a:=by
 apply List.ext_getElem
 ·simp [Ou]
 ·intro i h1 h2;simp [Ou,h2]
def R8(f:Nat)(W:World)(e:Value)(a:List Int):Prop:=
 ∃A c,e=.slice A a.length c/\(0<a.length->∃d:Addr,A=some d/\d.block<f/\∀j,j<a.length->W.cell? (d.add j)=some (.int .i64 (a[j]?.getD 0)))
theorem R8.below{c:Nat}{A B:World}(h:Below c A B){f:Value}{g:List Int}:R8 c A f g->R8 c B f g
 |⟨X,a,e,l⟩=>⟨X,a,e,fun n=>by
   obtain⟨d,k,i,h2⟩:=l n;exact⟨d,k,i,fun j m=>(h.cell (p:=d.add j) (by rw [Go.Eng.add_block];exact i)).trans (h2 j m)⟩⟩
set_option maxRecDepth 100000 in
theorem A6l(F:Fence)(n:Nat)(h7:F.fn 176)(hro:F.round=none)(hn:1<=n)(l n₀:Nat)(bd:Addr)(sv:Value)(zs:List Int)(hreach:zs.length*8<=140737488351232)(J Jx:List Int->World->Prop)
  (hY:∀pre x W,J pre W->pre.length<zs.length->YieldAt F (n-1) prog l #[.int .i64 x] W fun e W'=>
   (e=.returned (.bool true)/\J (pre++[x]) W'/\Below n₀ W W')\/(e=.returned (.bool false)/\Jx (pre++[x]) W'))
  (W:World)(hBs:W.cell? bd=some sv)(hI:R8 n₀ W sv zs)(h0:J [] W):
  CallsIn F n prog 176 #[.func (.yield l) #[] #[],.pointer (some bd)] W fun e W'=>(∃v,e=.returned v)/\
   ((∃ys,ys=zs/\J ys W')\/(∃pre,pre<+:zs/\Jx pre W')):=by
 obtain⟨A,cap,rfl,hc⟩:=hI;refine callsIn_of_wp func176 rfl h7 ?_ hro;simp only [ntmps176,C4,Ba,Bx,Nat.reduceAdd,Nat.reduceSub,K0,K1,Nc,Lr,Fm,Ch]
 gi_wp2
 gi_loopw [7] (fun i wr=>∃k:Nat,k<=zs.length/\i=.int .i64 k/\J (Ou zs k) wr/\Below n₀ W wr)
  (fun i _ =>zs.length-(intOf i).toNat)
 case atStart=>exact⟨0,B4 _,rfl,h0,Below.refl _ _⟩
 case round=>
  obtain⟨k,hk,rfl,hJs,hnx⟩:=hrel
  by_cases hlt:k<zs.length
  ·obtain⟨ad,rfl,hb,hcs⟩:=hc om;have hcx':wr.cell? (ad.add k)=some (.int .i64 (zs[k]?.getD 0)):=(hnx.cell (p:=ad.add k) (by rw [Go.Eng.add_block];exact hb)).trans (hcs k hlt);have ex:zs[k]?.getD 0=zs[k]:=by simp [hlt]
   rw [ex]at hcx';have hup:Ou zs (k+1)=Ou zs k++[zs[k]]:=by rw [Arb,ex]
   obtain⟨fn,tmps,assign,body,hy,hR⟩:=hY _ zs[k] wr hJs (by rw [Awk];exact hlt)
   gi_wp2
   refine hR.mono ?_
   rintro e W3(⟨rfl,hJ3,hk3⟩|⟨rfl,hJx3⟩)
   ·gi_wp2
    go_roundw
    case rel=>exact⟨k+1,by omega,by simp,by rw [hup];exact hJ3,hnx.trans hk3⟩
    case measure=>simp [intOf];omega
   ·gi_wp2
    refine bodyPost_ret (results_none rfl _ _ _) rfl ?_;refine⟨⟨_,rfl⟩,.inr ⟨Ou zs (k+1),?_,by rw [hup];exact hJx3⟩⟩
    have:Ou zs (k+1)=zs.take (k+1):=by
     apply List.ext_getElem
     ·simp [Ou];omega
     ·intro i h1 h2;have:i<zs.length:=by simp [Ou]at h1;omega
      simp [Ou,this]
    rw [this];exact List.take_prefix _ _
  ·obtain rfl:k=zs.length:=by omega
   gi_wp2
   go_end0
   exact⟨⟨_,rfl⟩,.inl ⟨_,Awl zs,hJs⟩⟩
theorem Akh(F:Fence)(n:Nat)(u:F.fn 176)(h:F.round=none)(m:1<=n)(d:Addr)(e:Nat)(i:Value)(c:List Int)(a:c.length*8<=140737488351232)(w:World)(f:d.block<w.heap.size)(g:e<=w.heap.size)
  (o:w.cell? d=some i)(y:R8 e w i c):
  SeqStopsK F n prog 176 #[.pointer (some d)] (fun x:Int=> #[Value.int .i64 x]) (Below e) (fun s=>s=c) (fun pre=>pre<+:c) c.length w:=fun l J r W j _ _ t k=>
 A6l F n u h m l e d i c a J r t W ((j.cell (p:=d) f).trans o) (y.below (j.mono g)) k
end Go.Proofs.YtpaccopbbffkaaaGreatDoor
set_option linter.unusedSimpArgs false
namespace Go.Proofs.YtpaccopbbffkaaaGreatDoor
open Go.RowKit Go.Shelf Go.Sort
attribute [local go_sem] Oper.semAt_some
theorem Bat:(prog.info? 3).map (fun i=>(i.zero,i.size,i.bytes))=some (some (.int .i64 0),1,8):=by kernel_rfl
set_option maxRecDepth 100000 in
set_option maxHeartbeats 2000000 in
theorem Awm(F:Fence)(n:Nat)(h3:F.fn 218)(h5:F.fn 176)(k:F.round=none)(hn:3<=n)(g:Addr)(sv:Value)(m:List Int)(ai:m.length<=maxLen)(f:m.length*8<=140737488351232)(w:World)
  (af:g.block<w.heap.size)(ab:w.cell? g=some sv)(hI:R8 w.heap.size w sv m):
  CallsIn F n prog 218 #[.slice none 0 0,.func (.func 176) #[] #[.pointer (some g)]] w fun e W'=>∃v,e=.returned v/\W'.ownsRow w.heap.size 3 1 v m.length (m.map (Value.int .i64))/\Below w.heap.size w W':=by
 have h1:1<=n:=by omega
 obtain⟨i0,hi,ag,z,ad⟩:=info_parts Bat
 refine callsIn_of_wp_marks func218 rfl h3 ?_ k
 simp only [ntmps218,C4,Ba,Bx,Nat.reduceAdd,Nat.reduceSub,K0,K1,Nc,Lr,Fm,Ch]
 gi_wp2
 have bO:=Boxed.new w 25 (.slice none 0 0)
 have j:Below w.heap.size w (w.alloc (.cells #[.slice none 0 0] 25)):=(Below.refl _ w).alloc (A9 _) _
 refine wpIn_rangeFunc_ownG k h1 (gf:=176) (lb:= #[.pointer (some g)]) rfl h5 (enters_of func176 (by kernel_rfl) rfl)
  (Akh F (n-1) h5 k Go.om g w.heap.size sv m f _ (by simp;omega) (by simp) ((j.cell (p:=g) af).trans ab) (hI.below j)) belowK_t (belowK_b (by simp)) (Below.refl _ _) (fun _ =>rfl)
  (fun pre W=>(∃v,Boxed W w.heap.size 25 v/\W.ownsRow w.heap.size 3 1 v pre.length (pre.map (Value.int .i64))/\True)/\Below w.heap.size w W)
  (fun _ _ _ =>False)
  (OwnFrom.and (Go.Own.from (holdsRow_own w.heap.size w.heap.size 25 3 1 (fun pre:List Int=>pre.length) (fun pre=>pre.map (Value.int .i64)) (fun _ _ =>True)) _) (ownFrom_below (A9 _) (by simp)))
  (fun _ _ _ _ _ hs _ _ =>hs)
  ⟨⟨_,bO,World.ownsRow_nil _ _ _ _,trivial⟩,j⟩
  (fun x=>{ tmps:= #[.slice none 0 0,(.func (.func 176) #[] #[.pointer (some g)]),.pointer (some ⟨w.heap.size,0,none⟩),undef,.slice none 0 0,.int .i64 x,(.func (.func 176) #[] #[.pointer (some g)]),.int .i64 x,undef,undef,undef,undef,undef],defers:=[]}) ?assign ?body ?done ?stop
 case assign=>
  intro l x W K o
  gi_wp2
  exact o
 case body=>
  rintro l pre x W⟨⟨v,u,a,_⟩,s⟩ak
  have hc:=u.cell
  gi_wp2_with (gi_at_builtin;refine wpListIn_append_own _ rfl _ _ 25 rfl w.heap.size 3 i0 (.int .i64 0) 1 8 underlying25 hi ag z ad rfl Go.dc _ _ _ rfl (a.alloc _) ⟨W.heap.size,0,none⟩ 1 1 [.int .i64 x] rfl rfl (cell_one_new _ _ _) (by simp [Value.oneCell']) Go.om Go.om (by have:=s.size;simp;omega) ?_;intro v' w1 d i _;obtain⟨g',ah,rfl⟩:=ownsRow_succ d;obtain⟨r,aa,y,ae,t⟩:=u.appended Go.dc a s.size (A9 _) d i;have aj:=r.cell;have al:=r.frozen)
  exact⟨ae.from _,t,⟨_,aa,by simpa using y,trivial⟩,s.trans t⟩
 case done=>
  rintro D ys W hD rfl⟨⟨v,u,a,_⟩,s⟩o
  have hc:=u.cell
  gi_wp2
  refine⟨by simp,.inl ⟨_,_,rfl,run_takeDeferred o,?_⟩⟩
  exact⟨_,results_tmp rfl _ _ _,v,rfl,ownsRow_putObj a _ o rfl,s.trans (belowK_b (w:=w) (A9 _) W D _ _ (by simp at hD;omega) o rfl rfl)⟩
 case stop=>
  rintro D c pre W _ _ h _
  exact h.elim
theorem Arc(F:Fence)(n:Nat)(h1:F.fn 175)(m:F.fn 218)(t:F.fn 176)(f:F.round=none)(hn:4<=n)(h:Addr)(k:Value)(c:List Int)(g:c.length<=maxLen)(a:c.length*8<=140737488351232)(w:World)
  (i:h.block<w.heap.size)(j:w.cell? h=some k)(s:R8 w.heap.size w k c):
  CallsIn F n prog 175 #[.func (.func 176) #[] #[.pointer (some h)]] w fun e l=>∃v,e=.returned v/\l.ownsRow w.heap.size 3 1 v c.length (c.map (Value.int .i64))/\Below w.heap.size w l:=by
 have r:1<=n:=om;have o:=Awm F (n-1) m t f om h k c g a w i j s;refine callsIn_of_wp func175 rfl h1 ?_ f;simp only [ntmps175,C4,Ba,Bx,Nat.reduceAdd,Nat.reduceSub,K0,K1,Nc,Lr,Fm,Ch]
 gi_wp2_with (gi_at_call 218;refine o.mono ?_;rintro e w'⟨v,rfl,d,u⟩)
 go_ret
 exact⟨v,rfl,d,u⟩
theorem Awn(l:Addr)(z:Value)(a:List Int)(k:a.length<=maxLen)(d:a.length*8<=140737488351232)(w:World)
  (t:l.block<w.heap.size)(o:w.cell? l=some z)(hI:R8 w.heap.size w z a):
  Calls prog 139 #[.func (.func 176) #[] #[.pointer (some l)]] w fun e W'=>∃v,e=.returned v/\W'.ownsRow w.heap.size 3 1 v a.length ((J5 a).map (Value.int .i64))/\Below w.heap.size w W':=by
 refine(callsIn_wide (n:=6)).1 ?_;have cC:=Arc Fence.wide 5 trivial trivial trivial rfl om l z a k d w t o hI;have ad:Fence.wide.fn 175:=trivial;have aa:Fence.wide.fn 101:=trivial;refine callsIn_of_wp func139 rfl trivial ?_ rfl;simp only [ntmps139,C4,Ba,Bx,Nat.reduceAdd,Nat.reduceSub,K0,K1,Nc,Lr,Fm,Ch]
 gi_wp2_with (gi_at_call 175;refine cC.mono ?_;rintro e W⟨v,rfl,f,s⟩)
 rcases f.2 with⟨rfl,hz⟩|⟨i,h,ab,rfl,c,g,r1,r2,r3,r4⟩
 ·have u:a= []:=Gf hz;subst u;have m:CallsIn Fence.wide 5 prog 101 #[.slice none 0 0] W fun e w'=>e=.returned (.tuple #[])/\w'=W:=callsIn_wide.2 (Vy none 0 W)
  gi_wp2_with (gi_at_call 101;refine m.mono ?_;rintro e w'⟨rfl,rfl⟩)
  go_ret
  exact⟨.slice none 0 0,rfl,by simpa [J5]using f,s⟩
 ·have hH:Holds (Value.int .i64) W i 0 a.toArray:=holds_of_block_i g (by simpa using r4);have r:i<W.heap.size:=(B2.1 g).1
  have m:CallsIn Fence.wide 5 prog 101 #[.slice (some ⟨i,0,none⟩) a.length h] W fun e w'=>e=.returned (.tuple #[])/\∃n os,w'=grow (putRow (Value.int .i64) (Sort.ahead W n) i 0 (a.mergeSort fun x y=>decide (x<=y)).toArray) os:=
   callsIn_wide.2 (slices_Sort_int i 0 h a W hH r om)
  gi_wp2_with (gi_at_call 101;refine m.mono ?_;rintro e w'⟨rfl,nn,os,rfl⟩)
  go_ret
  exact⟨_,rfl,ownsRow_sorted_i sm c g r1 r2 r3,s.grown (grownBy_sorted_i _) s.size (fun j hj=>by cases hj;exact c)⟩
end Go.Proofs.YtpaccopbbffkaaaGreatDoor
set_option linter.unusedSimpArgs false
namespace Go.Proofs.YtpaccopbbffkaaaGreatDoor
open Go.Eng Go.Eng.Limb Go.RowKit
theorem Aod{w:World}{d:Nat}{N:Nat->Prop}{v:Value}{a:List Int}(hN:∀b,d<=b->¬N b)(h:w.ownsRow d 3 1 v a.length (a.map (Value.int .i64))):Pur w N v (.ro 1 (As a)):=by
 rcases h.2 with⟨rfl,r⟩|⟨g,t,m,rfl,i,l,r1,r2,r3,r4⟩
 ·have:a= []:=Gf r;subst this;exact(Pur.nils none).nils_ro 1
 ·have u:=(B2.1 l).1
  have f:∀k,k<a.length->w.cell? ((⟨g,0,none⟩:Addr).add k)=some (.int .i64 (a.getD k 0)):=fun k n=>by
   have h1:m[k]? =some (.int .i64 (a.getD k 0)):=by
    have h2:(m.toList.take (a.length*1))[k]? =(a.map (Value.int .i64))[k]? :=by rw [r4]
    rw [List.getElem?_take,if_pos om,Bc,Al n]at h2;rw [Df,Al n];simpa using h2
   unfold Addr.add
   split
   ·rename_i h0;subst h0;simp [World.cell?,l,h1]
   ·simp [World.cell?,l,h1]
  refine .ro (some ⟨g,0,none⟩) ⟨g,0,none⟩ a.length t 1 (As a) (fun k _ =>.int .i64 (a.getD k 0)) (A4 a) r1 r2 (fun _ =>⟨rfl,u,hN g i⟩) (Ag9 a) (fun k e j c x o=>?_) fun k e j c x o=>?_
  all_goals
   simp only [As,Bc,A0]at x;obtain⟨z,r,rfl⟩:=x;have n:k<a.length:=(Ap.1 r).1
   have y:j=0:=by
    rcases j with _ |j
    ·rfl
    ·simp [V.cells]at o
   subst y;simp only [V.cells,Da,Au]at o;subst o;have s:a.getD k 0=z:=by rw [Df,r];rfl
  ·rw [F0,Dy];exact f k n
  ·rw [s];exact .int _ _
theorem Ath:Jh:=by
 intro l hl w N xs hN m hx
 obtain⟨i,rfl⟩:∃i,xs= [i]:=by
  match xs,m with
  | [i],_ =>exact⟨i,rfl⟩
 have h0:=hx 0 i _ rfl rfl;cases h0 with
 |fc f us ys ah ai ab u h k=>
  have t:us= []:=Gf ab;subst t
  obtain⟨y,rfl⟩:∃y,ys= [y]:=by
   match ys,u with
   | [y],_ =>exact⟨y,rfl⟩
  have hy:=k 0 y _ rfl rfl;cases hy with
  |rp ad sz e g z ak hf hc h=>
   have c:=hc 0 _ rfl;rw [show ad.add 0=ad from by unfold Addr.add;rw [if_pos rfl]]at c;have hp:=h 0 (.ro 1 (As l)) rfl;generalize g 0=sv at c hp
   have hI:R8 w.heap.size w sv l:=by
    cases hp with
    |ro A x n o sz2 es g2 hn ag af hA aj ae h2=>
     rw [A4]at hn;subst hn;refine⟨A,o,rfl,fun d=>?_⟩;obtain⟨a1,a2,a3⟩:=hA d;refine⟨x,a1,a2,fun j hj=>?_⟩;have he:(As l)[j]? =some (V.int .i64 l[j]):=by simp [As,hj]
     have h3:=ae j _ 0 (V.int .i64 l[j]) he rfl;have h4:=h2 j _ 0 (V.int .i64 l[j]) he rfl;rw [F0,Dy]at h3;rw [h3];generalize g2 j 0=gv at h4;cases h4
     simp [hj]
   refine(Awn ad sv l (Ai hl dc) om w z c hI).mono ?_;rintro e w'⟨v,rfl,a,r⟩;refine⟨v,_,rfl,rfl,?_,r⟩;have s:=N3 l;rw [<- s]at a;exact Aod (fun b z aa=>Nat.lt_irrefl _ (B6 (hN b aa) z)) a
end Go.Proofs.YtpaccopbbffkaaaGreatDoor
set_option linter.unusedSimpArgs false
set_option maxRecDepth 10000
namespace Go.Proofs.YtpaccopbbffkaaaGreatDoor
open Go.Eng Go.Eng.Limb Go.ChangeShapes Go.WideShapes Go.ChangeAt Go.RowKit
theorem A6m:laidOutB prog=true:=by kernel_rfl
theorem Ei{vs:List V}{n:Nat}(h:Rd prog n 3 vs):∃x:Int,vs= [.int .i64 x]:=by
 obtain⟨a,rfl,_⟩:=Ao8 underlying3 h;exact⟨a,rfl⟩
theorem A9b{vs:List V}{n:Nat}(h:Rd prog n 42 vs):∃x:Int,vs= [.int .u64 x]:=by
 obtain⟨a,rfl,_⟩:=Ao8 underlying42 h;exact⟨a,rfl⟩
theorem Aad{vs:List V}{n:Nat}(h:Rd prog n 9 vs):∃x:List UInt8,vs= [.str x]:=by
 obtain⟨a,rfl,_⟩:=A7k underlying9 h;exact⟨a,rfl⟩
theorem A2i{vs:List V}{n:Nat}(h:Rd prog n 4 vs):∃x:Bool,vs= [.bool x]:=A3g underlying4 h
theorem Aae{α:Type}{f:α->V}{t:TypeId}{l:List (List V)}(e:Ex prog t=some true)(h:∀x∈l,∃y,V.agg x=f y):∃l':List α,l.map (mkV (Ex prog t))=l'.map f:=by
 refine Ao7 fun v c=>?_;obtain⟨x,a,rfl⟩:=Bm.1 c;obtain⟨y,d⟩:=h x a;exact⟨y,by rw [e];exact d⟩
theorem Yz{α:Type}{f:α->V}{t:TypeId}{l:List (List V)}(d:Ex prog t=some false)(h:∀x∈l,∃y,x= [f y]):∃l':List α,l.map (mkV (Ex prog t))=l'.map f:=by
 refine Ao7 fun v c=>?_;obtain⟨x,a,rfl⟩:=Bm.1 c;obtain⟨y,rfl⟩:=h x a;exact⟨y,by rw [d];rfl⟩
theorem R9{vs:List V}{n:Nat}(h:Rd prog n 25 vs):∃x:List Int,vs= [.ro 1 (As x)]:=by
 obtain⟨es,rfl,_,a⟩:=Lt underlying25 h;obtain⟨l,d⟩:=Yz (f:=V.int .i64) (t:=3) kr (fun x c=>Ei (a x c));exact⟨l,by rw [d,show prog.cellsOf 3=1 by kernel_rfl];rfl⟩
theorem Ati{vs:List V}{n:Nat}(h:Rd prog n 91 vs):∃x:List (List UInt8),vs= [.ro 1 (Ed x)]:=by
 obtain⟨es,rfl,_,a⟩:=Lt underlying91 h;obtain⟨l,d⟩:=Yz (f:=V.str) (t:=9) kr (fun x c=>Aad (a x c));exact⟨l,by rw [d,show prog.cellsOf 9=1 by kernel_rfl];rfl⟩
theorem A6n{vs:List V}{n:Nat}(h:Rd prog n 111 vs):∃x:Mo,vs= [.ro 1 (Eb x)]:=by
 obtain⟨es,rfl,_,a⟩:=Lt underlying111 h;obtain⟨l,d⟩:=Yz (f:=fun r:List Int=>V.ro 1 (As r)) (t:=25) kr (fun x c=>R9 (a x c));exact⟨l,by rw [d,show prog.cellsOf 25=1 by kernel_rfl];rfl⟩
theorem Aoe{vs:List V}{n:Nat}(h:Rd prog n 30 vs):∃x:List Nat,vs= [.ro 1 (Av x)]/\D6 x:=by
 obtain⟨es,rfl,_,d⟩:=Lt underlying30 h
 have e:∀x∈es,∃y: { m:Nat // m<4294967296},x= [V.int .u32 (y.1:Int)]:=fun x c=>by
  obtain⟨a,rfl,g⟩:=Ao8 underlying149 (d x c);simp only [Lit.wf,Bk,decide_eq_true_eq]at g;have h1:IntKind.u32.min=0:=rfl;have h2:IntKind.u32.max=4294967295:=rfl;rw [h1,h2]at g;refine⟨⟨a.toNat,by omega⟩,?_⟩;rw [show((a.toNat:Nat):Int)=a by omega]
 obtain⟨l,i⟩:=Yz (f:=fun y: { m:Nat // m<4294967296}=>V.int .u32 (y.1:Int)) (t:=149) kr e
 refine⟨l.map (·.1),?_,fun x c=>?_⟩
 ·rw [i,show prog.cellsOf 149=1 by kernel_rfl];unfold Av;rw [O5];rfl
 ·obtain⟨y,_,rfl⟩:=Bm.1 c;exact y.2
theorem Aex{vs:List V}{n:Nat}(h:Rd prog n 34 vs):∃x:RR,vs= [.bool x.num.neg,.ro 1 (Av x.num.mag),.ro 1 (Av x.den)]/\D6 x.num.mag/\D6 x.den:=by
 obtain⟨l,f,rfl,c,k,t,rfl,e,rfl⟩:=G7 underlying34 h;obtain⟨r,i,rfl,a,m,j,rfl,d,rfl⟩:=G7 underlying32 c;obtain⟨o,rfl⟩:=A2i a;obtain⟨s,rfl,u⟩:=Aoe d;obtain⟨g,rfl,l2⟩:=Aoe e;exact⟨⟨⟨o,s⟩,g⟩,rfl,u,l2⟩
theorem A6o{vs:List V}{n:Nat}(h:Rd prog n 368 vs):∃x:(Int × Int),V.agg vs=V.agg [.int .i64 x.1,.int .i64 x.2]:=by
 obtain⟨g,d,rfl,a,f,j,rfl,c,rfl⟩:=G7 underlying368 h;obtain⟨i,rfl⟩:=Ei a;obtain⟨e,rfl⟩:=Ei c;exact⟨(i,e),rfl⟩
theorem A9c{vs:List V}{n:Nat}(h:Rd prog n 240 vs):∃x:(Int × Int),V.agg vs=V.agg [.int .i64 x.1,.int .i64 x.2]:=by
 obtain⟨g,d,rfl,a,f,j,rfl,c,rfl⟩:=G7 underlying240 h;obtain⟨i,rfl⟩:=Ei a;obtain⟨e,rfl⟩:=Ei c;exact⟨(i,e),rfl⟩
theorem A9d{vs:List V}{n:Nat}(h:Rd prog n 28 vs):∃x:List (Int × Int),vs= [.ro 2 (A2 x)]:=by
 obtain⟨es,rfl,_,a⟩:=Lt underlying28 h;obtain⟨l,d⟩:=Aae (f:=(fun p:Int × Int=>V.agg [.int .i64 p.1,.int .i64 p.2])) (t:=368) kr (fun x c=>A6o (a x c));exact⟨l,by rw [d,show prog.cellsOf 368=2 by kernel_rfl];rfl⟩
theorem A6p{vs:List V}{n:Nat}(h:Rd prog n 39 vs):∃x:List (Int × Int),vs= [.ro 2 (A2 x)]:=by
 obtain⟨es,rfl,_,a⟩:=Lt underlying39 h;obtain⟨l,d⟩:=Aae (f:=(fun p:Int × Int=>V.agg [.int .i64 p.1,.int .i64 p.2])) (t:=240) kr (fun x c=>A9c (a x c));exact⟨l,by rw [d,show prog.cellsOf 240=2 by kernel_rfl];rfl⟩
theorem A6q{vs:List V}{n:Nat}(h:Rd prog n 86 vs):∃x:Ru,V.agg vs=x.v:=by
 obtain⟨o,r,rfl,c,m,aa,rfl,e,u,k,rfl,d,l,y,rfl,a,i,w,rfl,f,rfl⟩:=G7 underlying86 h;obtain⟨z,rfl⟩:=Ei c;obtain⟨g,rfl⟩:=Ei e;obtain⟨t,rfl⟩:=Ei d;obtain⟨j,rfl⟩:=Ei a;obtain⟨s,rfl⟩:=Aad f;exact⟨⟨z,g,t,j,s⟩,rfl⟩
theorem A2j{vs:List V}{n:Nat}(h:Rd prog n 22 vs):∃x:List Ru,vs= [.ro 5 (Ey x)]:=by
 obtain⟨es,rfl,_,a⟩:=Lt underlying22 h;obtain⟨l,d⟩:=Aae (f:=Ru.v) (t:=86) kr (fun x c=>A6q (a x c));exact⟨l,by rw [d,show prog.cellsOf 86=5 by kernel_rfl];rfl⟩
theorem A6r{vs:List V}{n:Nat}(h:Rd prog n 93 vs):∃x:It,V.agg vs=x.v:=by
 obtain⟨bf,bh,rfl,w,be,bp,rfl,ab,bl,bb,rfl,z,bd,bn,rfl,o,ax,bj,rfl,af,bg,bk,rfl,j,bo,ay,rfl,y,ba,bc,rfl,k,bi,bm,rfl,r,az,bq,rfl,s,ah,an,rfl,a,aw,al,rfl,g,aq,av,rfl,i,am,ag,rfl,e,au,ao,rfl,f,ai,aj,rfl,d,ak,ar,rfl,c,rfl⟩:=G7 underlying93 h;obtain⟨a0,rfl⟩:=Ei w;obtain⟨a1,rfl⟩:=Ei ab;obtain⟨a2,rfl⟩:=Ei z;obtain⟨a3,rfl⟩:=Aad o;obtain⟨a4,rfl⟩:=Ati af;obtain⟨a5,rfl⟩:=R9 j;obtain⟨a6,rfl⟩:=Ei y;obtain⟨a7,rfl⟩:=Ei k;obtain⟨a8,rfl⟩:=Ati r;obtain⟨a9,rfl⟩:=Ei s;obtain⟨l,rfl⟩:=Aad a;obtain⟨aa,rfl⟩:=Ei g;obtain⟨ad,rfl⟩:=Ei i;obtain⟨u,rfl⟩:=Ei e;obtain⟨ae,rfl⟩:=Ei f;obtain⟨m,rfl⟩:=R9 d;obtain⟨t,rfl⟩:=Ei c;exact⟨⟨a0,a1,a2,a3,a4,a5,a6,a7,a8,a9,l,aa,ad,u,ae,m,t⟩,rfl⟩
theorem A2k{vs:List V}{n:Nat}(h:Rd prog n 38 vs):∃x:List It,vs= [.ro 17 (Ip x)]:=by
 obtain⟨es,rfl,_,a⟩:=Lt underlying38 h;obtain⟨l,d⟩:=Aae (f:=It.v) (t:=93) kr (fun x c=>A6r (a x c));exact⟨l,by rw [d,show prog.cellsOf 93=17 by kernel_rfl];rfl⟩
theorem A9e{vs:List V}{n:Nat}(h:Rd prog n 115 vs):∃x:Pit,V.agg vs=x.v:=by
 obtain⟨ad,af,rfl,g,ab,aq,rfl,k,ah,y,rfl,j,aa,an,rfl,e,r,ai,rfl,l,ae,aj,rfl,a,ao,u,rfl,i,w,z,rfl,c,ag,ak,rfl,f,rfl⟩:=G7 underlying115 h;obtain⟨a0,rfl⟩:=Ei g;obtain⟨o,rfl⟩:=Aad k;obtain⟨a2,rfl⟩:=Ei j;obtain⟨s,rfl⟩:=Ei e;obtain⟨a4,rfl⟩:=Ei l;obtain⟨a5,rfl⟩:=Ei a;obtain⟨t,rfl⟩:=Ei i;obtain⟨a7,rfl⟩:=Ei c;obtain⟨am,al,rfl,d,rfl⟩:=G7 underlying113 f;obtain⟨b0,rfl⟩:=A6n d;exact⟨{ id:=a0,code:=o,fam:=a2,st:=s,wo:=a4,se:=a5,pt:=t,ky:=a7,m:=b0},rfl⟩
theorem A6s{vs:List V}{n:Nat}(h:Rd prog n 37 vs):∃x:List Pit,vs= [.ro 9 (Ce x)]:=by
 obtain⟨es,rfl,_,a⟩:=Lt underlying37 h;obtain⟨l,d⟩:=Aae (f:=Pit.v) (t:=115) kr (fun x c=>A9e (a x c));exact⟨l,by rw [d,show prog.cellsOf 115=9 by kernel_rfl];rfl⟩
def A2l(p:Po):Prop:=(D6 p.var.num.mag/\D6 p.var.den)/\(D6 p.lvl.num.mag/\D6 p.lvl.den)/\(D6 p.rate.num.mag/\D6 p.rate.den)
theorem Aof{vs:List V}{n:Nat}(h:Rd prog n 44 vs):∃x:Dl,V.agg vs=x.v/\A2l x.p:=by
 obtain⟨ce,bk,rfl,j,bi,bq,rfl,af,ch,av,rfl,ae,aw,bc,rfl,aj,bs,a2,rfl,u,ax,bv,rfl,c,co,cb,rfl,ak,bf,bu,rfl,d,bm,ci,rfl,m,be,br,rfl,r,am,an,rfl,a,rfl⟩:=G7 underlying44 h;obtain⟨a0,rfl⟩:=Ei j;obtain⟨a1,rfl⟩:=Ei af;obtain⟨cn,bo,rfl,ai,ao,bb,rfl,ad,bz,b0,rfl,o,cf,cp,rfl,z,ar,bn,rfl,ag,cj,aq,rfl,w,ay,cd,rfl,k,b1,cg,rfl,f,cl,bg,rfl,i,ck,cm,rfl,y,rfl⟩:=G7 underlying36 ae;obtain⟨bd,bh,rfl,e,au,cc,rfl,l,rfl⟩:=G7 underlying24 ai;obtain⟨bl,a9,rfl,s,ba,bx,rfl,al,rfl⟩:=G7 underlying27 ad;obtain⟨c0,rfl⟩:=Ei e;obtain⟨c1,rfl⟩:=A2j l;obtain⟨g0,rfl⟩:=R9 s;obtain⟨g1,rfl⟩:=R9 al;obtain⟨b2,rfl⟩:=A9d o;obtain⟨b3,rfl⟩:=Ei z;obtain⟨b4,rfl,l4⟩:=Aex ag;obtain⟨b5,rfl⟩:=Ei w;obtain⟨b6,rfl,l6⟩:=Aex k;obtain⟨b7,rfl⟩:=Ei f;obtain⟨b8,rfl,l8⟩:=Aex i;obtain⟨b9,rfl⟩:=Ei y;obtain⟨a3,rfl⟩:=A6s aj;obtain⟨a4,rfl⟩:=A2k u;obtain⟨a5,rfl⟩:=R9 c;obtain⟨a6,rfl⟩:=A6p ak;obtain⟨a7,rfl⟩:=Ei d;obtain⟨a8,rfl⟩:=Ei m;obtain⟨bp,az,rfl,t,bw,ca,rfl,ah,bt,bj,rfl,ab,rfl⟩:=G7 underlying41 r;obtain⟨e0,rfl⟩:=Ei t;obtain⟨e1,rfl⟩:=Ei ah;obtain⟨e2,rfl⟩:=Ei ab;obtain⟨aa,rfl⟩:=A9b a;exact⟨{ ses:=a0,cand:=a1,p:={ len:=c0,rules:=c1,g:=⟨g0,g1⟩,en:=b2,mn:=b3,var:=b4,cut:=b5,lvl:=b6,top:=b7,rate:=b8,slack:=b9},pool:=a3,items:=a4,ess:=a5,uses:=a6,served:=a7,sec:=a8,nu:=e0,de:=e1,ex:=e2,seed:=aa},rfl,l4,l6,l8⟩
theorem A2m{vs:List V}{n:Nat}(h:Rd prog n 66 vs):∃x:Ev,V.agg vs=x.v/\vs= [.int .i64 x.kind,.int .i64 x.time,.int .i64 x.an.item,.ro 1 (As x.an.ch),.int .i64 x.an.val,.str x.an.txt,.bool x.an.om,.int .i64 x.inc.ki,.int .i64 x.inc.ti,.int .i64 x.inc.lo,.int .i64 x.inc.gr]:=by
 obtain⟨af,ai,rfl,j,ae,ay,rfl,l,aj,z,rfl,k,ad,av,rfl,f,rfl⟩:=G7 underlying66 h;obtain⟨a0,rfl⟩:=Ei j;obtain⟨s,rfl⟩:=Ei l;obtain⟨au,al,rfl,c,t,aq,rfl,g,am,ao,rfl,i,ag,aw,rfl,d,u,ak,rfl,m,rfl⟩:=G7 underlying62 k;obtain⟨b0,rfl⟩:=Ei c;obtain⟨b1,rfl⟩:=R9 g;obtain⟨b2,rfl⟩:=Ei i;obtain⟨b3,rfl⟩:=Aad d;obtain⟨b4,rfl⟩:=A2i m;obtain⟨az,ab,rfl,e,y,w,rfl,a,aa,ax,rfl,r,ar,ah,rfl,o,rfl⟩:=G7 underlying64 f;obtain⟨c0,rfl⟩:=Ei e;obtain⟨c1,rfl⟩:=Ei a;obtain⟨c2,rfl⟩:=Ei r;obtain⟨c3,rfl⟩:=Ei o;exact⟨⟨a0,s,⟨b0,b1,b2,b3,b4⟩,⟨c0,c1,c2,c3⟩⟩,rfl,rfl⟩
theorem Awo{vs:List V}{n:Nat}(h:Rd prog n 45 vs):∃x:List Ev,vs= [.ro 11 (He x)]:=by
 obtain⟨es,rfl,_,a⟩:=Lt underlying45 h;obtain⟨l,d⟩:=Aae (f:=Ev.v) (t:=66) kr (fun x c=>by obtain⟨y,e,_⟩:=A2m (a x c);exact⟨y,e⟩);exact⟨l,by rw [d,show prog.cellsOf 66=11 by kernel_rfl];rfl⟩
theorem Aki{v:V}(h:RdW prog 44 v):∃x:Dl,v=x.v/\A2l x.p:=by
 obtain⟨n,vs,d,rfl⟩:=h;obtain⟨x,a,c⟩:=Aof d;exact⟨x,by rw [show Ex prog 44=some true by kernel_rfl];exact a,c⟩
theorem Ard{v:V}(h:RdW prog 45 v):∃x:List Ev,v=.ro 11 (He x):=by
 obtain⟨n,vs,a,rfl⟩:=h;obtain⟨x,rfl⟩:=Awo a;exact⟨x,by rw [show Ex prog 45=some false by kernel_rfl];rfl⟩
theorem A9f{e:Ev}(h:SmlV 1048576 e.v):e.an.small:=by
 cases h with
 |agg h=>
  have h1:=h (.ro 1 (As e.an.ch)) sm;have h2:=h (.str e.an.txt) sm;cases h1 with
  |ro h1 _ =>cases h2 with
   |str h2=>rw [A4]at h1;exact⟨by omega,by omega⟩
theorem A6t{l:List Ev}(h:SmlV 1048576 (.ro 11 (He l))):l.length<=4000000/\∀e∈l,e.an.small:=by
 cases h with
 |ro h k=>rw [M6]at h;exact⟨by omega,fun e a=>A9f (k _ (Ls a))⟩
theorem Aog{l:List (List UInt8)}(h:SmlV 1048576 (.ro 1 (Ed l))):l.length<=2000000/\∀s∈l,s.length<=2000000:=by
 cases h with
 |ro h k=>
  rw [Eu]at h;refine⟨by omega,fun s hs=>?_⟩;have:=k (.str s) (Ls hs);cases this with
  |str h=>omega
theorem Li{sz:Nat}{es:List V}(h:SmlV 1048576 (.ro sz es)):es.length<=1048576:=by cases h with
 |ro h _ =>exact h
theorem A2n{it:It}(h:SmlV 1048576 it.v):it.small:=by
 cases h with
 |agg h=>
  have h1:=h (.str it.stem) sm;have h2:=Aog (h (.ro 1 (Ed it.opts)) sm);have a:=Aog (h (.ro 1 (Ed it.txts)) sm);have c:=Li (h (.ro 1 (As it.ch)) sm);have d:=Li (h (.ro 1 (As it.ass)) sm);rw [A4]at c d;cases h1 with
  |str h1=>exact⟨by omega,h2,a,by omega,by omega⟩
structure DlSm(d:Dl):Prop where
 b:d.p.rules.length<=4000000/\d.pool.length<=4000000/\d.items.length<=4000000/\d.p.en.length<=4000000/\d.uses.length<=4000000
 it:∀it∈d.items,it.small
 el:d.ess.length<=4000000
 m1:d.p.var.num.mag.length<=1048576/\d.p.var.den.length<=1048576
 m2:d.p.lvl.num.mag.length<=1048576/\d.p.lvl.den.length<=1048576
 m3:d.p.rate.num.mag.length<=1048576/\d.p.rate.den.length<=1048576
theorem Awp(l:List Nat):(Av l).length=l.length:=by simp [Av]
theorem A9g{d:Dl}(h:SmlV 1048576 d.v):DlSm d:=by
 cases h with
 |agg h=>
  have o:=Li (h (.ro 5 (Ey d.p.rules)) sm);have m:=Li (h (.ro 9 (Ce d.pool)) sm);have a:=h (.ro 17 (Ip d.items)) sm;have r:=Li (h (.ro 2 (A2 d.p.en)) sm);have n:=Li (h (.ro 2 (A2 d.uses)) sm);have s:=Li (h (.ro 1 (As d.ess)) sm);have i:=Li (h (.ro 1 (Av d.p.var.num.mag)) sm);have l:=Li (h (.ro 1 (Av d.p.var.den)) sm);have e:=Li (h (.ro 1 (Av d.p.lvl.num.mag)) sm);have f:=Li (h (.ro 1 (Av d.p.lvl.den)) sm);have g:=Li (h (.ro 1 (Av d.p.rate.num.mag)) sm);have j:=Li (h (.ro 1 (Av d.p.rate.den)) sm);rw [Pp]at o;rw [Dx]at m;rw [Du]at r n;rw [A4]at s;rw [Awp]at i l e f g j;cases a with
  |ro a k=>
   rw [Hj]at a;exact⟨⟨by omega,by omega,by omega,by omega,by omega⟩,fun it c=>A2n (k _ (Ls c)),by omega,⟨i,l⟩,⟨e,f⟩,⟨g,j⟩⟩
theorem A6u{d:Dl}(i:A2l d.p)(h:DlSm d)(hs:Awg d=true):DlOk d:=by
 obtain⟨⟨e,f⟩,⟨j,a⟩,k,g⟩:=i;unfold Awg at hs
 split at hs
 ·cases hs
 ·rename_i hn;have c:Fa d.p.rules<=3:=by simpa using hs
  have hb:=h.b;obtain⟨m1,m2⟩:=h.m1;obtain⟨m3,m4⟩:=h.m2;obtain⟨m5,m6⟩:=h.m3;exact⟨⟨⟨⟨e,by omega⟩,f,by omega⟩,⟨⟨j,by omega⟩,a,by omega⟩,⟨⟨k,by omega⟩,g,by omega⟩⟩,by omega,c,by omega,h.it,h.el⟩
theorem Aaf{H:Type}{d:DataW H}{l:List (DataW H)}(h:d∈l):Rows.uptoBulk d<=Rows.uptoBulkAll l:=by
 induction l with
 |nil=>cases h
 |cons x r ih=>
  simp only [Rows.uptoBulkAll];cases Cj.1 h with
  |inl e=>subst e;omega
  |inr e=>have:=ih e;omega
theorem A2o{H:Type}(d:DataW H):1<=Rows.uptoBulk d:=by
 cases d with
 |lit l=>cases l<;>simp [Rows.uptoBulk]
 |_ =>simp [Rows.uptoBulk]
theorem Aoh{H:Type}(l:List (DataW H)):l.length<=Rows.uptoBulkAll l:=by
 induction l with
 |nil=>simp [Rows.uptoBulkAll]
 |cons x r ih=>have:=A2o x;simp only [Rows.uptoBulkAll,Ba];omega
theorem A9h(H:Type):BulkOk (Rows.uptoBulk (H:=H))where
 str b:=by simp [Rows.uptoBulk]
 slice elems spare:=by
  refine⟨?_,fun e a=>?_⟩
  ·have:=Aoh elems;simp only [Rows.uptoBulk];omega
  ·have:=Aaf a;simp only [Rows.uptoBulk];omega
 agg parts e a:=by have:=Aaf a;simp only [Rows.uptoBulk];omega
theorem Are{H:Type}{l:List (DataW H)}(a:Rows.uptoSmall H l=true):∀d∈l,Rows.uptoBulk d<=1048576:=by
 have h:Rows.uptoBulkAll l<=1048576:=of_decide_eq_true a;exact fun d c=>Ai (Aaf c) h
abbrev A7h:List (String × DataW Unit):=Rows.sessionTimeRow.laid
theorem Bau{W:World}(hs:W.ShapedOpen prog):gv.P W:=
 Go.Proofs.cell_of_shapedOpen_int (zero:= #[.int .i64 0]) (t:=3) hs (of_decide_eq_true kr) kr rfl kr kr underlying3
def Bav:DataW Unit->Value
 | .lit (.int k n)=>.int k n
 |_ =>undef
def Bbl(l:List (DataW Unit)):List Value:=l.flatMap fun
 | .agg m=>m.map Bav
 |x=>[Bav x]
noncomputable def A9i(h:Array Obj)(x:String × DataW Unit):Array Obj:=match prog.globalNamed x.1,x.2 with
 |some g,.agg l=>h.modify g fun
   | .cells _ t a=>.cells (Bbl l).toArray t a
   |o=>o
 |_,_ =>h
noncomputable def Aag(a:Os):World:=
 { World.holding prog a ⟨#[],#[],[]⟩with heap:=A7h.foldl A9i (World.holding prog a ⟨#[],#[],[]⟩).heap}
def zI:Value:=.int .i64 0
def zS:Value:=.slice none 0 0
def zd:Value:=.agg #[zI,zI,zI,zS,zS,zS,zS,zI,.bool false,zS,zS,zI,.bool false,zS,zS,zI,.bool false,zS,zS,zI,zS,zS,zS,zS,zI,zI,zI,zI,zI,.int .u64 0]
def zl:Value:=.slice none 0 0
def zp:Value:=.agg #[zI,zI]
def dI{H:Type}:DataW H:=.lit (.int .i64 0)
def dR{H:Type}:DataW H:=.agg [.agg [.lit (.bool false),.nil],.nil]
def dD{H:Type}:DataW H:=.agg [dI,dI,.agg [.agg [dI,.nil],.agg [.nil,.nil],.nil,dI,dR,dI,dR,dI,dR,dI],.nil,.nil,.nil,.nil,dI,dI,.agg [dI,dI,dI],.lit (.int .u64 0)]
def dP{H:Type}:DataW H:=.agg [dI,dI]
end Go.Proofs.YtpaccopbbffkaaaGreatDoor
