/- Sessions: part 6 of the proof. No condition. -/
import Derived.Test.YtpaccopbbffkaaaGreatDoorB5
import Derived.RangeFuncBox
import Derived.RangeFuncLeaves
import Derived.Shelf.Abstract
import Derived.WalkKit
import Derived.OwnWalkIn
import Derived.TacticsInMore
import Derived.LoopNIn
import Derived.LoopIn
import Derived.Maps.AppendAt
import Derived.Shelf.SlIterI.Sorted
import Derived.Test.YtpaccopbbffkaaaGreatDoorRows
import Derived.Test.YtpaccopbbffkaaaGreatDoorCards
import Derived.Test.YtpaccopbbffkaaaGreatDoorTie
import Derived.ProofKit
import Derived.OpenShut
import Derived.Deep.DeepHandedRow
import Derived.Lib.LaidTab
import Derived.Stop.LaidErr
import Derived.SevenTiedAt
set_option maxHeartbeats 8000000
set_option linter.all false
open Go.Proofs.Tryz
set_option maxRecDepth 4000
namespace Go.Proofs.YtpaccopbbffkaaaGreatDoor
open Go.Eng Go.Eng.Limb
def Aib(s:Se):Int:=if Aqf s=false then 8 else 0
def Pe(t:Te):Te:=if t.stop=0 then { t with pend:=0,stop:=4}else t
def Vh(d:Dl)(s:Se)(n:Int):Se:={ s with st:=3,us:=Kl (Gk s n) (Ej d s),sh:=0,t:=Pe s.t}
theorem Ye{v:Nat}{s':Se}{r x:V}{o:List (Nat × Ob)}(a:s'.v=x)(d:r=.int .i64 0)(c:o= [(10,⟨v,12,58,[x]⟩)]):evR 0 v s' r o:=by
 rw [d,c,<- a];exact Atb
theorem Atc(d:Dl)(s:Se)(n:Int)(v aq iq:Nat)(ht:teOk s.t):
  Wt gv prog 46 [d.v,.bp 10 v 12 0 0,.int .i64 n] (Agx s v aq iq) (evR (Aib s) v (Vh d s n)):=by
 have ad:=Av4 s;have ab:=Bcn s.t ht;have aj:=Wq s n;have ae:=Ab4 d s;have i:=Wq { s with t:=Pe s.t} n;have e:=Ab4 d { s with t:=Pe s.t};change AC _ _ _ (fun r=>r=.int .i64 (Gk s n))at i;change AC _ _ _ (fun r=>r=.int .i64 (Ej d s))at e
 have f:∀r o,r=V.int .i64 0->o= [(10,(⟨v,12,58,[V.agg [.int .i64 3,.int .i64 (if Ej d s<Gk s n then Ej d s else Gk s n),.int .i64 s.la,.int .i64 0,.ro 1 (As (Pe s.t).elig),.ro 2 (A0 (Pe s.t).steps),.int .i64 (Pe s.t).pend,.ro 1 (Bv (Pe s.t).w),.int .u64 (Pe s.t).draw,.int .i64 (Pe s.t).stop,.ro 5 (E7 s.ans),.ro 4 (Dc s.inc)]]⟩:Ob))]->evR 0 v (Vh d s n) r o:=
  fun r o hr ho=>Ye rfl hr ho
 unfold Aib Agx seC;generalize Vh d s n=ps,Gk s n=uu,Ej d s=ll at*;have ak:Se.v { s with t:=Pe s.t}=V.agg [.int .i64 s.st,.int .i64 s.us,.int .i64 s.la,.int .i64 s.sh,.ro 1 (As (Pe s.t).elig),.ro 2 (A0 (Pe s.t).steps),.int .i64 (Pe s.t).pend,.ro 1 (Bv (Pe s.t).w),.int .u64 (Pe s.t).draw,.int .i64 (Pe s.t).stop,.ro 5 (E7 s.ans),.ro 4 (Dc s.inc)]:=rfl;rw [ak]at i e;have an:s.t.v=.agg [.ro 1 (As s.t.elig),.ro 2 (A0 s.t.steps),.int .i64 s.t.pend,.ro 1 (Bv s.t.w),.int .u64 s.t.draw,.int .i64 s.t.stop]:=rfl;rw [an]at ab;have hT:teR 0 { s.t with pend:=0,stop:=4}=.tup [.agg [.ro 1 (As s.t.elig),.ro 2 (A0 s.t.steps),.int .i64 0,.ro 1 (Bv s.t.w),.int .u64 s.t.draw,.int .i64 4],.int .i64 0]:=rfl;have ag:s.t.stop=0->Pe s.t= { s.t with pend:=0,stop:=4}:=fun h=>if_pos h
 have ah:¬s.t.stop=0->Pe s.t=s.t:=fun h=>if_neg h
 have am:s.v=V.agg [.int .i64 s.st,.int .i64 s.us,.int .i64 s.la,.int .i64 s.sh,.ro 1 (As s.t.elig),.ro 2 (A0 s.t.steps),.int .i64 s.t.pend,.ro 1 (Bv s.t.w),.int .u64 s.t.draw,.int .i64 s.t.stop,.ro 5 (E7 s.ans),.ro 4 (Dc s.inc)]:=rfl;have ai:d.v=V.agg [.int .i64 d.ses,.int .i64 d.cand,.int .i64 d.p.len,.ro 5 (Ee d.p.rules),.ro 1 (As d.p.g.pts),.ro 1 (As d.p.g.pri),.ro 2 (A0 d.p.en),.int .i64 d.p.mn,.bool d.p.var.num.neg,.ro 1 (Au d.p.var.num.mag),.ro 1 (Au d.p.var.den),.int .i64 d.p.cut,.bool d.p.lvl.num.neg,.ro 1 (Au d.p.lvl.num.mag),.ro 1 (Au d.p.lvl.den),.int .i64 d.p.top,.bool d.p.rate.num.neg,.ro 1 (Au d.p.rate.num.mag),.ro 1 (Au d.p.rate.den),.int .i64 d.p.slack,.ro 9 (B8 d.pool),.ro 17 (Hg d.items),.ro 1 (As d.ess),.ro 2 (A0 d.uses),.int .i64 d.served,.int .i64 d.sec,.int .i64 d.nu,.int .i64 d.de,.int .i64 d.ex,.int .u64 d.seed]:=rfl;rw [am]at ad aj ae;rw [ai]at ae e;rw [ai];have d0:=Cq d.p.rules;have d1:=Af d.p.g.pts;have d2:=Af d.p.g.pri;have d3:=A4 d.p.en;have d4:=Ah d.p.var.num.mag;have d5:=Ah d.p.var.den;have d6:=Ah d.p.lvl.num.mag;have d7:=Ah d.p.lvl.den;have d8:=Ah d.p.rate.num.mag;have d9:=Ah d.p.rate.den;have m:=B4 d.pool;have j:=Eu d.items;have u:=Af d.ess;have l:=A4 d.uses;generalize Ee d.p.rules=rv,As d.p.g.pts=pt,As d.p.g.pri=pr,A0 d.p.en=ev,Au d.p.var.num.mag=vm,Au d.p.var.den=vd,Au d.p.lvl.num.mag=lm,Au d.p.lvl.den=ld,Au d.p.rate.num.mag=rm,Au d.p.rate.den=rd at*;have au:=Da d.pool;have aw:=Fl d.items;have ax:=A5 d.ess;generalize B8 d.pool=lv,Hg d.items=ay,As d.ess=av,A0 d.uses=uv at*
 by_cases aa:s.t.stop=0
 ·rw [ag aa]at i e f;have ar:(if s.t.stop≠0 then(21:Int)else 0)=0:=if_neg (by simp [aa]);rw [ar,hT]at ab;clear ag ah;have z1:=Af s.t.elig;have z2:=A4 s.t.steps;have z3:=Br s.t.w;have y:=D0 s.ans;have x:=Dh s.inc;have c:=Fz s.ans;have a:=Ey s.inc;generalize As s.t.elig=ti,A0 s.t.steps=ts,Bv s.t.w=tw,E7 s.ans=ao,Dc s.inc=al at*;have af:=F4 x;refine Ig func46 (fun w0 N0 z hG=>?_);refine Aa [1,2,3] [3,10,73,85] sr (Bt 85 [1,2,3] [3,10,73] (by simp [y,c,af]<;>rfl) (Bt 73 [1,2,3] [3,10] (by simp [x,a]<;>rfl) (Ab (Ab (Ac (Am 3 sr ?_))))));refine Ai ad func77 ?_ (hp:=by simp);refine Ag [1,2,3,13] [3,10] sr ?_
  refine Ao (fun h1=>?_) (fun h1=>Ae ?_)
  ·refine Aa [6] [10] sr ?_;exact C7 z (Dz (Ba _ _) sr (by rw [if_pos (by simpa using h1)];exact Jf dc) Jg)
  rw [if_neg (by simpa using h1)];refine Ab (Aa [1,2,3,19] [3,10] sr ?_)
  refine A6 rfl (fun h2=>?_) (fun h2=>by simp [aa]at h2)
  ·refine Ab (Ac (Am 4 sr ?_));refine Ai ab func78 ?_ (hp:=by simp);refine Ag [1,2,3,7,8] [3,7,10] sr ?_;refine Ab (Aa [1,2,3,7,8,29] [3,7,10] sr ?_);refine A6 rfl (fun h3=>by simp at h3) (fun h3=>Ae (A2 [1,2,3] [3,10] sr (Ab (C4 [(0,[]),(1,[]),(2,[]),(4,[]),(7,[]),(8,[]),(3,[]),(5,[]),(6,[]),(9,[]),(10,[]),(11,[]),(12,[]),(13,[]),(14,[])] Dm kr ?_))));refine Ch 7 sr ?_;refine Bw (fun hg=>i) func32 rfl kr rfl rfl sr rfl rfl sr (by simp) sr ?_;refine Ch 2 sr ?_;refine Bw (fun hg=>e) func31 rfl kr rfl rfl sr rfl rfl sr (by simp) sr ?_;refine C5 [1] [10] sr ?_;refine Aa [1] [10] sr (Aa [] [10] sr (Aa [6] [10] sr ?_));exact C7 z (Dz (Ba _ _) sr (f _ _ rfl rfl) (fun k o hk=>Dt gt hk))
 ·rw [ah aa]at i e f;clear ag ah hT;have z1:=Af s.t.elig;have z2:=A4 s.t.steps;have z3:=Br s.t.w;have y:=D0 s.ans;have x:=Dh s.inc;have c:=Fz s.ans;have a:=Ey s.inc;generalize As s.t.elig=ti,A0 s.t.steps=ts,Bv s.t.w=tw,E7 s.ans=ao,Dc s.inc=al at*;have af:=F4 x;refine Ig func46 (fun w0 N0 z hG=>?_);refine Aa [1,2,3] [3,10,73,85] sr (Bt 85 [1,2,3] [3,10,73] (by simp [y,c,af]<;>rfl) (Bt 73 [1,2,3] [3,10] (by simp [x,a]<;>rfl) (Ab (Ab (Ac (Am 3 sr ?_))))));refine Ai ad func77 ?_ (hp:=by simp);refine Ag [1,2,3,13] [3,10] sr ?_
  refine Ao (fun h1=>?_) (fun h1=>Ae ?_)
  ·refine Aa [6] [10] sr ?_;exact C7 z (Dz (Ba _ _) sr (by rw [if_pos (by simpa using h1)];exact Jf dc) Jg)
  rw [if_neg (by simpa using h1)];refine Ab (Aa [1,2,3,19] [3,10] sr ?_);refine A6 rfl (fun h2=>absurd (by simpa using h2) aa) (fun h2=>Ae (Ab (C4 [(0,[]),(1,[]),(2,[]),(4,[]),(7,[]),(8,[]),(3,[]),(5,[]),(6,[]),(9,[]),(10,[]),(11,[]),(12,[]),(13,[]),(14,[])] Dm kr ?_)));refine Ch 7 sr ?_;refine Bw (fun hg=>aj) func32 rfl kr rfl rfl sr rfl rfl sr (by simp) sr ?_;refine Ch 2 sr ?_;refine Bw (fun hg=>ae) func31 rfl kr rfl rfl sr rfl rfl sr (by simp) sr ?_;refine C5 [1] [10] sr ?_;refine Aa [1] [10] sr (Aa [] [10] sr (Aa [6] [10] sr ?_));exact C7 z (Dz (Ba _ _) sr (f _ _ rfl rfl) (fun k o hk=>Dt gt hk))
structure Ev where
 kind:Int
 time:Int
 an:An
 inc:In4
def Ev.v(e:Ev):V:=V.agg [.int .i64 e.kind,.int .i64 e.time,.int .i64 e.an.item,.ro 1 (As e.an.ch),.int .i64 e.an.val,.str e.an.txt,.bool e.an.om,.int .i64 e.inc.ki,.int .i64 e.inc.ti,.int .i64 e.inc.lo,.int .i64 e.inc.gr]
def Agz(s:Se)(e:Ev):Int:=
 if Aqf s=false then 8 else if e.inc.ti≠e.time then 1 else if Ib e.inc≠0 then Ib e.inc else if(300:Int)<=s.inc.length then 5 else 0
def Pt(d:Dl)(s:Se)(e:Ev):Se:={ s with us:=Kl (Gk s e.time) (Ej d s),inc:=s.inc++[e.inc]}
theorem Atd(d:Dl)(s:Se)(e:Ev)(v aq iq:Nat)(al:s.inc.length<=1000):
  Wt gv prog 45 [d.v,.bp 10 v 12 0 0,e.v] (Agx s v aq iq) (evR (Agz s e) v (Pt d s e)):=by
 have af:=Av4 s;have ag:=Acz e.inc;have aa:=Wq s e.time;have y:=Ab4 d s
 have m:∀r o,r=V.int .i64 0->o= [(10,(⟨v,12,58,[V.agg [.int .i64 s.st,.int .i64 (if Ej d s<Gk s e.time then Ej d s else Gk s e.time),.int .i64 s.la,.int .i64 s.sh,.ro 1 (As s.t.elig),.ro 2 (A0 s.t.steps),.int .i64 s.t.pend,.ro 1 (Bv s.t.w),.int .u64 s.t.draw,.int .i64 s.t.stop,.ro 5 (E7 s.ans),.ro 4 (Dc (s.inc++[e.inc]))]]⟩:Ob))]->evR 0 v (Pt d s e) r o:=
  fun r o hr ho=>Ye rfl hr ho
 have ab:Dc s.inc++[V.agg [.int .i64 e.inc.ki,.int .i64 e.inc.ti,.int .i64 e.inc.lo,.int .i64 e.inc.gr]]=Dc (s.inc++[e.inc]):=by simp [Dc,In4.v]
 have ad:=Dh (s.inc++[e.inc]);have x:s.inc.length+1<=maxLen/\(s.inc.length+1)*32<=140737488355328:=⟨Aj (show s.inc.length+1<=1001 by omega) dc,by omega⟩;unfold Agz Agx seC;unfold In4.v at ag;generalize Pt d s e=ps,Gk s e.time=uu,Ej d s=ll,Ib e.inc=ie at*;have ai:e.v=V.agg [.int .i64 e.kind,.int .i64 e.time,.int .i64 e.an.item,.ro 1 (As e.an.ch),.int .i64 e.an.val,.str e.an.txt,.bool e.an.om,.int .i64 e.inc.ki,.int .i64 e.inc.ti,.int .i64 e.inc.lo,.int .i64 e.inc.gr]:=rfl;rw [ai];have i5:=Af e.an.ch;generalize As e.an.ch=hv at*;have ah:s.v=V.agg [.int .i64 s.st,.int .i64 s.us,.int .i64 s.la,.int .i64 s.sh,.ro 1 (As s.t.elig),.ro 2 (A0 s.t.steps),.int .i64 s.t.pend,.ro 1 (Bv s.t.w),.int .u64 s.t.draw,.int .i64 s.t.stop,.ro 5 (E7 s.ans),.ro 4 (Dc s.inc)]:=rfl;have ae:d.v=V.agg [.int .i64 d.ses,.int .i64 d.cand,.int .i64 d.p.len,.ro 5 (Ee d.p.rules),.ro 1 (As d.p.g.pts),.ro 1 (As d.p.g.pri),.ro 2 (A0 d.p.en),.int .i64 d.p.mn,.bool d.p.var.num.neg,.ro 1 (Au d.p.var.num.mag),.ro 1 (Au d.p.var.den),.int .i64 d.p.cut,.bool d.p.lvl.num.neg,.ro 1 (Au d.p.lvl.num.mag),.ro 1 (Au d.p.lvl.den),.int .i64 d.p.top,.bool d.p.rate.num.neg,.ro 1 (Au d.p.rate.num.mag),.ro 1 (Au d.p.rate.den),.int .i64 d.p.slack,.ro 9 (B8 d.pool),.ro 17 (Hg d.items),.ro 1 (As d.ess),.ro 2 (A0 d.uses),.int .i64 d.served,.int .i64 d.sec,.int .i64 d.nu,.int .i64 d.de,.int .i64 d.ex,.int .u64 d.seed]:=rfl;rw [ah]at af aa y;rw [ae]at y;rw [ae];have d0:=Cq d.p.rules;have d1:=Af d.p.g.pts;have d2:=Af d.p.g.pri;have d3:=A4 d.p.en;have d4:=Ah d.p.var.num.mag;have d5:=Ah d.p.var.den;have d6:=Ah d.p.lvl.num.mag;have d7:=Ah d.p.lvl.den;have d8:=Ah d.p.rate.num.mag;have d9:=Ah d.p.rate.den;have j:=B4 d.pool;have f:=Eu d.items;have l:=Af d.ess;have h:=A4 d.uses;generalize Ee d.p.rules=rv,As d.p.g.pts=pt,As d.p.g.pri=pr,A0 d.p.en=ev,Au d.p.var.num.mag=vm,Au d.p.var.den=vd,Au d.p.lvl.num.mag=lm,Au d.p.lvl.den=ld,Au d.p.rate.num.mag=rm,Au d.p.rate.den=rd at*;have am:=Da d.pool;have au:=Fl d.items;have av:=A5 d.ess;generalize B8 d.pool=lv,Hg d.items=aw,As d.ess=ar,A0 d.uses=uv at*;have z1:=Af s.t.elig;have z2:=A4 s.t.steps;have z3:=Br s.t.w;have u:=D0 s.ans;have z:=Dh s.inc;have c:=Fz s.ans;have a:=Ey s.inc;generalize As s.t.elig=ti,A0 s.t.steps=ts,Bv s.t.w=tw,E7 s.ans=ao,Dc s.inc=ak at*;have aj:=F4 z;refine Ig func45 (fun w0 N0 n hG=>?_);refine Aa [1,3,5] [3,5,10,73,85] sr (Bt 85 [1,3,5] [3,5,10,73] (by simp [u,c,aj]<;>rfl) (Ab (Ab (Ac (Am 3 sr ?_)))));refine Aer af func77 rfl kr rfl rfl rfl sr (by simp [AS.views,AS.view,AS.viewL,AS.viewC,z,a]<;>rfl) rfl sr ?_;refine Ag [1,3,5,12] [3,5,10,73] sr ?_
 refine Ao (fun h1=>?_) (fun h1=>Ae ?_)
 ·refine Aa [6] [10,73] sr ?_;exact C7 n (Dz (Ba _ _) sr (by rw [if_pos (by simpa using h1)];exact Jf dc) Jg)
 rw [if_neg (by simpa using h1)];refine Ab (Aa [1,3,5,18] [3,5,10,73] sr ?_)
 refine Ao (fun h2=>?_) (fun h2=>Ae ?_)
 ·refine Aa [6] [10,73] sr ?_;exact C7 n (Dz (Ba _ _) sr (by rw [if_pos (by simpa using h2)];exact Jf dc) Jg)
 rw [if_neg (by simpa using h2)];refine Ab (Ab (Ac (Am 2 sr ?_)));refine Ai ag func54 ?_ (hp:=by simp);refine Ag [1,3,5,7] [3,5,10,73] sr ?_;refine Aa [1,3,5,7,23] [3,5,10,73] sr ?_
 refine Ao (fun h3=>?_) (fun h3=>Ae ?_)
 ·refine Aa [6] [10,73] sr ?_;exact C7 n (Dz (Ba _ _) sr (by rw [if_pos (by simpa using h3)];exact Jf (by simpa using h3)) Jg)
 rw [if_neg (by simpa using h3)];refine Ab (Aa [1,3,5,30] [3,5,10,73] sr ?_)
 refine Ao (fun h4=>?_) (fun h4=>Ae ?_)
 ·refine Aa [6] [10,73] sr ?_;exact C7 n (Dz (Ba _ _) sr (by rw [if_pos (by simpa using h4)];exact Jf dc) Jg)
 rw [if_neg (by simpa using h4)];refine Ab (Mn [6,11] Dm ?_);refine I5 [(0,[]),(1,[]),(2,[]),(4,[]),(8,[]),(9,[]),(3,[]),(5,[])] kr sr ?_
 refine V4 [6,7,10] kr ?_;intro i hi;simp only [Cg,Gy,or_false]at hi
 rcases hi with rfl|rfl|rfl
 ·refine⟨_,_,rfl,I9 sm aa func32 rfl kr sr rfl rfl sr (by simp [AS.views,AS.view,AS.viewL,AS.viewC,z,a]<;>rfl) rfl sr,?_⟩;refine I5 [(7,[]),(10,[])] kr sr ?_
  refine Jn (i:=11) (ks:=[]) kr rfl sm (I9 sm y func31 rfl kr sr rfl rfl sr (by simp [AS.views,AS.view,AS.viewL,AS.viewC,z,a]<;>rfl) rfl sr) ?_;refine I5 [(12,[]),(13,[]),(14,[]),(15,[])] kr sr ?_
  refine Lh [1,5] [5,10,73] kr sr ?_;refine Di [(0,[]),(1,[]),(2,[]),(3,[]),(5,[]),(4,[53]),(6,[53]),(7,[]),(8,[]),(9,[]),(10,[]),(11,[])] [] [10,73] Dm kr (by simp [x,a]<;>rfl) ?_;rw [ab];refine Aa [6] [10,73] sr (Bt 73 [6] [10] (by simp [ad]<;>rfl) ?_);exact C7 n (Dz (Ba _ _) sr (m _ _ rfl rfl) (fun k o hk=>Dt gt hk))
 ·refine⟨_,_,rfl,Sa sr,?_⟩;refine V4 [6,10] kr ?_;intro i hi;simp only [Cg,Gy,or_false]at hi
  rcases hi with rfl|rfl
  ·refine⟨_,_,rfl,I9 sm aa func32 rfl kr sr rfl rfl sr (by simp [AS.views,AS.view,AS.viewL,AS.viewC,z,a]<;>rfl) rfl sr,?_⟩;refine I5 [(10,[])] kr sr ?_
   refine Jn (i:=11) (ks:=[]) kr rfl sm (I9 sm y func31 rfl kr sr rfl rfl sr (by simp [AS.views,AS.view,AS.viewL,AS.viewC,z,a]<;>rfl) rfl sr) ?_;refine I5 [(12,[]),(13,[]),(14,[]),(15,[])] kr sr ?_
   refine Lh [1,5] [5,10,73] kr sr ?_;refine Di [(0,[]),(1,[]),(2,[]),(3,[]),(5,[]),(4,[53]),(6,[53]),(7,[]),(8,[]),(9,[]),(10,[]),(11,[])] [] [10,73] Dm kr (by simp [x,a]<;>rfl) ?_;rw [ab];refine Aa [6] [10,73] sr (Bt 73 [6] [10] (by simp [ad]<;>rfl) ?_);exact C7 n (Dz (Ba _ _) sr (m _ _ rfl rfl) (fun k o hk=>Dt gt hk))
  ·refine⟨_,_,rfl,Sa sr,?_⟩;refine Jn (i:=6) (ks:=[]) kr rfl sm (I9 sm aa func32 rfl kr sr rfl rfl sr (by simp [AS.views,AS.view,AS.viewL,AS.viewC,z,a]<;>rfl) rfl sr) ?_;refine Jn (i:=11) (ks:=[]) kr rfl sm (I9 sm y func31 rfl kr sr rfl rfl sr (by simp [AS.views,AS.view,AS.viewL,AS.viewC,z,a]<;>rfl) rfl sr) ?_;refine I5 [(12,[]),(13,[]),(14,[]),(15,[])] kr sr ?_
   refine Lh [1,5] [5,10,73] kr sr ?_;refine Di [(0,[]),(1,[]),(2,[]),(3,[]),(5,[]),(4,[53]),(6,[53]),(7,[]),(8,[]),(9,[]),(10,[]),(11,[])] [] [10,73] Dm kr (by simp [x,a]<;>rfl) ?_;rw [ab];refine Aa [6] [10,73] sr (Bt 73 [6] [10] (by simp [ad]<;>rfl) ?_);exact C7 n (Dz (Ba _ _) sr (m _ _ rfl rfl) (fun k o hk=>Dt gt hk))
 ·refine⟨_,_,rfl,Sa sr,?_⟩;refine V4 [6,7] kr ?_;intro i hi;simp only [Cg,Gy,or_false]at hi
  rcases hi with rfl|rfl
  ·refine⟨_,_,rfl,I9 sm aa func32 rfl kr sr rfl rfl sr (by simp [AS.views,AS.view,AS.viewL,AS.viewC,z,a]<;>rfl) rfl sr,?_⟩;refine I5 [(7,[])] kr sr ?_
   refine Jn (i:=11) (ks:=[]) kr rfl sm (I9 sm y func31 rfl kr sr rfl rfl sr (by simp [AS.views,AS.view,AS.viewL,AS.viewC,z,a]<;>rfl) rfl sr) ?_;refine I5 [(12,[]),(13,[]),(14,[]),(15,[])] kr sr ?_
   refine Lh [1,5] [5,10,73] kr sr ?_;refine Di [(0,[]),(1,[]),(2,[]),(3,[]),(5,[]),(4,[53]),(6,[53]),(7,[]),(8,[]),(9,[]),(10,[]),(11,[])] [] [10,73] Dm kr (by simp [x,a]<;>rfl) ?_;rw [ab];refine Aa [6] [10,73] sr (Bt 73 [6] [10] (by simp [ad]<;>rfl) ?_);exact C7 n (Dz (Ba _ _) sr (m _ _ rfl rfl) (fun k o hk=>Dt gt hk))
  ·refine⟨_,_,rfl,Sa sr,?_⟩;refine Jn (i:=6) (ks:=[]) kr rfl sm (I9 sm aa func32 rfl kr sr rfl rfl sr (by simp [AS.views,AS.view,AS.viewL,AS.viewC,z,a]<;>rfl) rfl sr) ?_;refine Jn (i:=11) (ks:=[]) kr rfl sm (I9 sm y func31 rfl kr sr rfl rfl sr (by simp [AS.views,AS.view,AS.viewL,AS.viewC,z,a]<;>rfl) rfl sr) ?_;refine I5 [(12,[]),(13,[]),(14,[]),(15,[])] kr sr ?_
   refine Lh [1,5] [5,10,73] kr sr ?_;refine Di [(0,[]),(1,[]),(2,[]),(3,[]),(5,[]),(4,[53]),(6,[53]),(7,[]),(8,[]),(9,[]),(10,[]),(11,[])] [] [10,73] Dm kr (by simp [x,a]<;>rfl) ?_;rw [ab];refine Aa [6] [10,73] sr (Bt 73 [6] [10] (by simp [ad]<;>rfl) ?_);exact C7 n (Dz (Ba _ _) sr (m _ _ rfl rfl) (fun k o hk=>Dt gt hk))
theorem A89{p:Po}{pool:List Pit}{t:Te}{c:Int}(h:Ac9 p pool t c=0):Aad p pool t=0/\t.pend≠0/\Ahu (Ps pool t.pend) c=true:=by
 unfold Ac9 at h
 (repeat' split at h)<;>try omega
 rename_i h1 h2 a;exact⟨by omega,h2,by simpa using a⟩
theorem A42{p:Po}{pool:List Pit}{t:Te}{c:Int}(k:AdP p pool)(h:Ac9 p pool t c=0)(d:teOk t)(f:t.steps.length<=900){n:Nat}(hn:n<=998)(j:Ks t.w n):
  teOk (Mg p pool t c)/\Ks (Mg p pool t c).w (n+1)/\(Mg p pool t c).steps.length=t.steps.length+1:=by
 obtain⟨h1,h2,e⟩:=A89 h;obtain⟨r1,a,r3,i,r5,r6,r7⟩:=Akc k (Ags h1).1 h2 e (n:=n) om j;have l:(W5 pool t c).length=t.w.length:=by unfold W5;rw [Ad5,i]
 refine⟨⟨d.el,by simp [Mg];omega,by show(W5 pool t c).length<=1000;rw [l];exact d.wl,fun x g=>Aj (a x g) om⟩,a,by simp [Mg]⟩
def Pf(d:Dl)(s:Se)(c:Int):Te:=
 if(Mg d.p d.pool s.t c).stop=0 then Mf d.p d.pool (Mg d.p d.pool s.t c)else Mg d.p d.pool s.t c
def W7(d:Dl)(s:Se)(it:It)(a:An):Int:=
 if(F7 it a).2≠0 then(F7 it a).2 else if Ac9 d.p d.pool s.t (F7 it a).1≠0 then Ac9 d.p d.pool s.t (F7 it a).1
 else if(Mg d.p d.pool s.t (F7 it a).1).stop=0 then Ua d.p d.pool (Mg d.p d.pool s.t (F7 it a).1)else 0
def Bcy(d:Dl)(s:Se)(it:It)(a:An):Se:={ s with t:=Pf d s (F7 it a).1,sh:=(Pf d s (F7 it a).1).pend}
theorem Ate(hS:Ic)(d:Dl)(s:Se)(it:It)(a:An)(v:Nat)(hi:it.small)(ha:a.small)(h:AdP d.p d.pool)(ht:teOk s.t)(hw:Ks s.t.w 998)(aj:s.t.steps.length<=900):
  Wt gv prog 75 [d.v,.bp 10 v 12 0 0,it.v,a.v] [(10,⟨v,12,58,[s.v]⟩)] (evR (W7 d s it a) v (Bcy d s it a)):=by
 have al:=Akg hS it a hi ha ha.ch;unfold W7 Bcy Pf;generalize F7 it a=sc at*;have f:=As5 d.p d.pool s.t sc.1 h ht (fun x hx=>Aj (hw x hx) dc) aj;have ak:=fun h0=>A42 h h0 ht aj (c:=sc.1) (n:=998) dc hw
 have i:=fun h0=>Ap5 d.p d.pool (Mg d.p d.pool s.t sc.1) h (ak h0).1 (fun x hx=>Aj ((ak h0).2.1 x hx) dc)
 have hT:∀e x,teR e x=.tup [(if e=0 then x else W2).v,.int .i64 e]:=fun e x=>rfl
 rw [hT]at f;simp only [hT]at i;generalize Mg d.p d.pool s.t sc.1=rT at*;generalize bb:Ac9 d.p d.pool s.t sc.1=re at*;generalize Ua d.p d.pool rT=ne,Mf d.p d.pool rT=nT at*;generalize aa:(if re=0 then rT else W2)=t1 at*;generalize ab:(if ne=0 then nT else W2)=t2 at*;have an:∀x:Te,x.v=.agg [.ro 1 (As x.elig),.ro 2 (A0 x.steps),.int .i64 x.pend,.ro 1 (Bv x.w),.int .u64 x.draw,.int .i64 x.stop]:=fun x=>rfl
 simp only [an]at f i;have ah:∀x:Te,Se.v { s with t:=x,sh:=x.pend}=V.agg [.int .i64 s.st,.int .i64 s.us,.int .i64 s.la,.int .i64 x.pend,.ro 1 (As x.elig),.ro 2 (A0 x.steps),.int .i64 x.pend,.ro 1 (Bv x.w),.int .u64 x.draw,.int .i64 x.stop,.ro 5 (E7 s.ans),.ro 4 (Dc s.inc)]:=fun x=>rfl
 have l:∀(x:Te)r o,r=V.int .i64 0->o= [(10,(⟨v,12,58,[V.agg [.int .i64 s.st,.int .i64 s.us,.int .i64 s.la,.int .i64 x.pend,.ro 1 (As x.elig),.ro 2 (A0 x.steps),.int .i64 x.pend,.ro 1 (Bv x.w),.int .u64 x.draw,.int .i64 x.stop,.ro 5 (E7 s.ans),.ro 4 (Dc s.inc)]]⟩:Ob))]->evR 0 v { s with t:=x,sh:=x.pend} r o:=
  fun x r o hr ho=>Ye (ah x) hr ho
 have y:=fun x:Te=>Af x.elig
 have z:=fun x:Te=>A4 x.steps
 have u:=fun x:Te=>Br x.w
 have aw:d.p.v=.agg [.int .i64 d.p.len,.ro 5 (Ee d.p.rules),.ro 1 (As d.p.g.pts),.ro 1 (As d.p.g.pri),.ro 2 (A0 d.p.en),.int .i64 d.p.mn,.bool d.p.var.num.neg,.ro 1 (Au d.p.var.num.mag),.ro 1 (Au d.p.var.den),.int .i64 d.p.cut,.bool d.p.lvl.num.neg,.ro 1 (Au d.p.lvl.num.mag),.ro 1 (Au d.p.lvl.den),.int .i64 d.p.top,.bool d.p.rate.num.neg,.ro 1 (Au d.p.rate.num.mag),.ro 1 (Au d.p.rate.den),.int .i64 d.p.slack]:=rfl;rw [aw]at f i;have ao:it.v=V.agg [.int .i64 it.id,.int .i64 it.ver,.int .i64 it.kind,.str it.stem,.ro 1 (D6 it.opts),.ro 1 (As it.ch),.int .i64 it.val,.int .i64 it.tol,.ro 1 (D6 it.txts),.int .i64 it.pts,.str it.code,.int .i64 it.fam,.int .i64 it.set,.int .i64 it.wo,.int .i64 it.se,.ro 1 (As it.ass),.int .i64 it.rub]:=rfl;have am:a.v=V.agg [.int .i64 a.item,.ro 1 (As a.ch),.int .i64 a.val,.str a.txt,.bool a.om]:=rfl;have ar:s.v=V.agg [.int .i64 s.st,.int .i64 s.us,.int .i64 s.la,.int .i64 s.sh,.ro 1 (As s.t.elig),.ro 2 (A0 s.t.steps),.int .i64 s.t.pend,.ro 1 (Bv s.t.w),.int .u64 s.t.draw,.int .i64 s.t.stop,.ro 5 (E7 s.ans),.ro 4 (Dc s.inc)]:=rfl;have ax:d.v=V.agg [.int .i64 d.ses,.int .i64 d.cand,.int .i64 d.p.len,.ro 5 (Ee d.p.rules),.ro 1 (As d.p.g.pts),.ro 1 (As d.p.g.pri),.ro 2 (A0 d.p.en),.int .i64 d.p.mn,.bool d.p.var.num.neg,.ro 1 (Au d.p.var.num.mag),.ro 1 (Au d.p.var.den),.int .i64 d.p.cut,.bool d.p.lvl.num.neg,.ro 1 (Au d.p.lvl.num.mag),.ro 1 (Au d.p.lvl.den),.int .i64 d.p.top,.bool d.p.rate.num.neg,.ro 1 (Au d.p.rate.num.mag),.ro 1 (Au d.p.rate.den),.int .i64 d.p.slack,.ro 9 (B8 d.pool),.ro 17 (Hg d.items),.ro 1 (As d.ess),.ro 2 (A0 d.uses),.int .i64 d.served,.int .i64 d.sec,.int .i64 d.nu,.int .i64 d.de,.int .i64 d.ex,.int .u64 d.seed]:=rfl;rw [ao,am]at al;rw [ao,am,ax,ar];clear ah an;have d0:=Cq d.p.rules;have d1:=Af d.p.g.pts;have d2:=Af d.p.g.pri;have d3:=A4 d.p.en;have d4:=Ah d.p.var.num.mag;have d5:=Ah d.p.var.den;have d6:=Ah d.p.lvl.num.mag;have d7:=Ah d.p.lvl.den;have d8:=Ah d.p.rate.num.mag;have d9:=Ah d.p.rate.den;have af:=B4 d.pool;have ad:=Eu d.items;have ae:=Af d.ess;have ag:=A4 d.uses;generalize Ee d.p.rules=rv,As d.p.g.pts=pt,As d.p.g.pri=pr,A0 d.p.en=ev,Au d.p.var.num.mag=vm,Au d.p.var.den=vd,Au d.p.lvl.num.mag=lm,Au d.p.lvl.den=ld,Au d.p.rate.num.mag=rm,Au d.p.rate.den=rd at*;have a1:=Da d.pool;have a3:=Fl d.items;have a6:=A5 d.ess;generalize B8 d.pool=lv,Hg d.items=a7,As d.ess=be,A0 d.uses=uv at*;have z1:=Af s.t.elig;have z2:=A4 s.t.steps;have z3:=Br s.t.w;have z4:=D0 s.ans;have z5:=Dh s.inc;have a9:=Fz s.ans;have a5:=Ey s.inc;generalize As s.t.elig=ti,A0 s.t.steps=ts,Bv s.t.w=tw,E7 s.ans=a2,Dc s.inc=bd at*;have i1:=Ct it.opts;have i2:=Af it.ch;have i3:=Ct it.txts;have i4:=Af it.ass;have az:=Fb it.opts;have ay:=A5 it.ch;have au:=Fb it.txts;have ba:=A5 it.ass;generalize D6 it.opts=ov,As it.ch=cv,D6 it.txts=xv,As it.ass=av at*;have bc:ov= []↔it.opts= []:=by rw [<- Ar,az,Ar]
 have a0:cv= []↔it.ch= []:=by rw [<- Ar,ay,Ar]
 have a8:xv= []↔it.txts= []:=by rw [<- Ar,au,Ar]
 have i5:=Af a.ch;have a4:=A5 a.ch;generalize As a.ch=hv at*;refine Ig func75 (fun w0 N0 m hG=>?_);refine Aa [1,4,6,7] [4,6,7,10] sr (Ab (Ac (Am 2 sr ?_)));refine Be hG al func24 ?_ (hp:=by simp);refine Ag [1,4,9,10] [4,10] sr ?_;refine Ab (Aa [1,4,9,10,19] [4,10] sr ?_)
 refine Ao (fun h1=>?_) (fun h1=>Ae ?_)
 ·refine Aa [8] [10] sr ?_;exact C7 m (Dz (Ba _ _) sr (by rw [if_pos (by simpa using h1)];exact Jf (by simpa using h1)) Jg)
 rw [if_neg (by simpa using h1)];refine Ab (C4 [(0,[]),(2,[]),(4,[]),(5,[]),(6,[]),(8,[]),(1,[11]),(3,[11]),(7,[11]),(9,[]),(10,[]),(11,[]),(12,[]),(13,[]),(14,[]),(15,[])] Dm kr ?_);refine Ch 9 sr ?_;refine Sc hG (fun hg=>f) func117 rfl kr rfl rfl sr rfl rfl sr (by simp) sr ?_;refine C5 [1,4,10,11] [4,10,11] sr ?_;refine Ab (Aa [1,4,10,11,35] [4,10,11] sr ?_)
 refine Ao (fun h2=>?_) (fun h2=>Ae ?_)
 ·refine Aa [8] [10] sr ?_;exact C7 m (Dz (Ba _ _) sr (by rw [if_pos (by simpa using h2)];exact Jf (by simpa using h2)) Jg)
 have aq:re=0:=by simpa using h2
 rw [if_neg (by simpa using h2)];rw [if_pos aq]at aa;subst aa;replace i:=i aq;refine Ab (Aa [1,4,11,39] [4,10,11] sr ?_)
 refine Ao (fun h3=>?_) (fun h3=>Ae ?_)
 ·have j:rT.stop=0:=by simpa using h3
  rw [if_pos j,if_pos j];refine Ab (Ac (Am 5 sr ?_));refine Be hG i func74 ?_ (hp:=by simp);refine Ag [1,10,11] [10,11] (by simp<;>rfl) ?_;refine Aa [1,10,11,50] [10,11] sr ?_
  refine Ao (fun h4=>?_) (fun h4=>Ae ?_)
  ·refine Aa [8] [10] sr ?_;exact C7 m (Dz (Ba _ _) sr (Jf (by simpa using h4)) Jg)
  have ai:ne=0:=by simpa using h4
  rw [if_pos ai]at ab;subst ab;rw [ai];refine Aa [1,11] [10,11] (by simp<;>rfl) (Aa [] [10] (by simp<;>rfl) (Aa [8] [10] sr ?_));exact C7 m (Dz (Ba _ _) sr (l _ _ _ rfl rfl) (fun k o hk=>Dt gt hk))
 have j:¬rT.stop=0:=by simpa using h3
 rw [if_neg j,if_neg j];refine Aa [1,11] [10,11] (by simp<;>rfl) (Aa [] [10] (by simp<;>rfl) (Aa [8] [10] sr ?_));exact C7 m (Dz (Ba _ _) sr (l _ _ _ rfl rfl) (fun k o hk=>Dt gt hk))
theorem Ayy:it0.small:=⟨by decide,⟨by decide,fun s h=>by cases h⟩,⟨by decide,fun s h=>by cases h⟩,by decide,by decide⟩
theorem Ag0{l:List It}(h:∀it∈l,it.small)(id:Int):(Jd (Fr l id)).small:=by
 cases e:Fr l id with
 |none=>exact Ayy
 |some x=>exact h x (List.mem_of_find?_eq_some e)
def I4(d:Dl)(s:Se):It:=Jd (Fr d.items s.sh)
def Hl(d:Dl)(s:Se)(e:Ev):Te:=if s.t.pend=s.sh then Pf d s (F7 (I4 d s) e.an).1 else s.t
def Oe(d:Dl)(s:Se)(e:Ev):Int:=if(Hl d s e).stop≠0 then(Pd d.ess (s.ans++[e.an])).getD 0 else if s.t.pend=s.sh then(Hl d s e).pend else s.sh
def M1(d:Dl)(s:Se)(e:Ev):Se:={ st:=s.st,us:=Gk s e.time,la:=s.la,sh:=Oe d s e,t:=Hl d s e,ans:=s.ans++[e.an],inc:=s.inc}
def Nh(d:Dl)(s:Se)(e:Ev):Int:=
 if s.st≠1 then 8 else if Ej d s<Gk s e.time then 15 else if s.sh=0 then 21 else if e.an.item≠s.sh then 11
 else if Ab2 (I4 d s) e.an≠0 then Ab2 (I4 d s) e.an else if s.t.pend=s.sh then W7 d s (I4 d s) e.an else 0
theorem Atf(hS:Ic)(d:Dl)(s:Se)(e:Ev)(v aq iq:Nat)(hd:DlOk d)(ha:e.an.small)(h:AdP d.p d.pool)(ht:teOk s.t)(hw:Ks s.t.w 998)(a0:s.t.steps.length<=900)(bg:s.ans.length<=1000):
  Wt gv prog 43 [d.v,.bp 10 v 12 0 0,e.v] (Agx s v aq iq) (evR (Nh d s e) v (M1 d s e)):=by
 have au:=Ag0 hd.is s.sh;have ay:=Wq s e.time;have ai:=Ab4 d s;have av:=Agv d.items s.sh hd.il;have aj:=Aaf hS (Jd (Fr d.items s.sh)) e.an au ha;have am:=Aqg e.an ha.ch;have ao:=Ayu d.ess (s.ans++[e.an]) hd.el;have ab:=Ate hS d { s with ans:=s.ans++[e.an],us:=Gk s e.time} (Jd (Fr d.items s.sh)) e.an v au ha h ht hw a0;have e1:s.st≠1->Nh d s e=8:=fun a=>by unfold Nh;rw [if_pos a]
 have e2:s.st=1->Ej d s<Gk s e.time->Nh d s e=15:=fun a b=>by unfold Nh;rw [if_neg (by simp [a]),if_pos b]
 have e3:s.st=1->¬Ej d s<Gk s e.time->s.sh=0->Nh d s e=21:=fun a b c=>by unfold Nh;rw [if_neg (by simp [a]),if_neg b,if_pos c]
 have e4:s.st=1->¬Ej d s<Gk s e.time->¬s.sh=0->e.an.item≠s.sh->Nh d s e=11:=fun a b c f=>by unfold Nh;rw [if_neg (by simp [a]),if_neg b,if_neg c,if_pos f]
 have e5:s.st=1->¬Ej d s<Gk s e.time->¬s.sh=0->e.an.item=s.sh->Nh d s e=if Ab2 (I4 d s) e.an≠0 then Ab2 (I4 d s) e.an else if s.t.pend=s.sh then W7 d s (I4 d s) e.an else 0:=fun a b c f=>by unfold Nh;rw [if_neg (by simp [a]),if_neg b,if_neg c,if_neg (by simp [f])]
 have hI:I4 d s=Jd (Fr d.items s.sh):=rfl;rw [hI]at e5;have t1:s.t.pend=s.sh->Hl d s e=Pf d s (F7 (Jd (Fr d.items s.sh)) e.an).1:=fun a=>by unfold Hl;rw [if_pos a];rfl
 have t0:¬s.t.pend=s.sh->Hl d s e=s.t:=fun a=>by unfold Hl;rw [if_neg a]
 have ah:∀(x:Te)(z:Int),Hl d s e=x->Oe d s e=z->(M1 d s e).v=V.agg [.int .i64 s.st,.int .i64 (Gk s e.time),.int .i64 s.la,.int .i64 z,.ro 1 (As x.elig),.ro 2 (A0 x.steps),.int .i64 x.pend,.ro 1 (Bv x.w),.int .u64 x.draw,.int .i64 x.stop,.ro 5 (E7 (s.ans++[e.an])),.ro 4 (Dc s.inc)]:=fun x z a b=>by
  subst a;subst b;rfl
 have ak:Hl d s e≠Hl d s e\/(Hl d s e).stop≠0->Oe d s e=(Pd d.ess (s.ans++[e.an])).getD 0:=fun a=>by unfold Oe;rw [if_pos (a.resolve_left (fun n=>n rfl))]
 have a5:(Hl d s e).stop=0->s.t.pend=s.sh->Oe d s e=(Hl d s e).pend:=fun a b=>by unfold Oe;rw [if_neg (by simp [a]),if_pos b]
 have a4:(Hl d s e).stop=0->¬s.t.pend=s.sh->Oe d s e=s.sh:=fun a b=>by unfold Oe;rw [if_neg (by simp [a]),if_neg b]
 have aw:(Bcy d { s with ans:=s.ans++[e.an],us:=Gk s e.time} (Jd (Fr d.items s.sh)) e.an).v=V.agg [.int .i64 s.st,.int .i64 (Gk s e.time),.int .i64 s.la,.int .i64 (Pf d s (F7 (Jd (Fr d.items s.sh)) e.an).1).pend,.ro 1 (As (Pf d s (F7 (Jd (Fr d.items s.sh)) e.an).1).elig),.ro 2 (A0 (Pf d s (F7 (Jd (Fr d.items s.sh)) e.an).1).steps),.int .i64 (Pf d s (F7 (Jd (Fr d.items s.sh)) e.an).1).pend,.ro 1 (Bv (Pf d s (F7 (Jd (Fr d.items s.sh)) e.an).1).w),.int .u64 (Pf d s (F7 (Jd (Fr d.items s.sh)) e.an).1).draw,.int .i64 (Pf d s (F7 (Jd (Fr d.items s.sh)) e.an).1).stop,.ro 5 (E7 (s.ans++[e.an])),.ro 4 (Dc s.inc)]:=rfl;change Wt _ _ _ _ [(10,⟨v,12,58,[V.agg [.int .i64 s.st,.int .i64 (Gk s e.time),.int .i64 s.la,.int .i64 s.sh,.ro 1 (As s.t.elig),.ro 2 (A0 s.t.steps),.int .i64 s.t.pend,.ro 1 (Bv s.t.w),.int .u64 s.t.draw,.int .i64 s.t.stop,.ro 5 (E7 (s.ans++[e.an])),.ro 4 (Dc s.inc)]]⟩)] (evR (W7 d s (Jd (Fr d.items s.sh)) e.an) v _)at ab;unfold evR at ab;rw [aw]at ab;clear aw hI;generalize W7 d s (Jd (Fr d.items s.sh)) e.an=rE,Pf d s (F7 (Jd (Fr d.items s.sh)) e.an).1=rT at*;generalize bd:Ab2 (Jd (Fr d.items s.sh)) e.an=ve at*;generalize(Pd d.ess (s.ans++[e.an])).getD 0=un at*;have y1:=fun x:Te=>Af x.elig
 have y2:=fun x:Te=>A4 x.steps
 have y3:=fun x:Te=>Br x.w
 have az:E7 s.ans++[V.agg [.int .i64 e.an.item,.ro 1 (As e.an.ch),.int .i64 e.an.val,.str e.an.txt,.bool e.an.om]]=E7 (s.ans++[e.an]):=by simp [E7,An.v]
 have m:=D0 (s.ans++[e.an]);have ar:s.ans.length+1<=maxLen/\(s.ans.length+1)*64<=140737488355328:=⟨Aj (show s.ans.length+1<=1001 by omega) dc,by omega⟩;generalize Jd (Fr d.items s.sh)=it,(Fr d.items s.sh).isSome=fs at*;have ei:it.v=V.agg [.int .i64 it.id,.int .i64 it.ver,.int .i64 it.kind,.str it.stem,.ro 1 (D6 it.opts),.ro 1 (As it.ch),.int .i64 it.val,.int .i64 it.tol,.ro 1 (D6 it.txts),.int .i64 it.pts,.str it.code,.int .i64 it.fam,.int .i64 it.set,.int .i64 it.wo,.int .i64 it.se,.ro 1 (As it.ass),.int .i64 it.rub]:=rfl;have k1:=Ct it.opts;have k2:=Af it.ch;have k3:=Ct it.txts;have k4:=Af it.ass;have ea:e.an.v=V.agg [.int .i64 e.an.item,.ro 1 (As e.an.ch),.int .i64 e.an.val,.str e.an.txt,.bool e.an.om]:=rfl;have a2:e.v=V.agg [.int .i64 e.kind,.int .i64 e.time,.int .i64 e.an.item,.ro 1 (As e.an.ch),.int .i64 e.an.val,.str e.an.txt,.bool e.an.om,.int .i64 e.inc.ki,.int .i64 e.inc.ti,.int .i64 e.inc.lo,.int .i64 e.inc.gr]:=rfl;unfold Agx seC;rw [ei]at av aj ab;rw [ea]at aj am ab;rw [a2];have i5:=Af e.an.ch;generalize As e.an.ch=hv at*;have ag:=ah s.t;have a1:s.v=V.agg [.int .i64 s.st,.int .i64 s.us,.int .i64 s.la,.int .i64 s.sh,.ro 1 (As s.t.elig),.ro 2 (A0 s.t.steps),.int .i64 s.t.pend,.ro 1 (Bv s.t.w),.int .u64 s.t.draw,.int .i64 s.t.stop,.ro 5 (E7 s.ans),.ro 4 (Dc s.inc)]:=rfl;have ax:d.v=V.agg [.int .i64 d.ses,.int .i64 d.cand,.int .i64 d.p.len,.ro 5 (Ee d.p.rules),.ro 1 (As d.p.g.pts),.ro 1 (As d.p.g.pri),.ro 2 (A0 d.p.en),.int .i64 d.p.mn,.bool d.p.var.num.neg,.ro 1 (Au d.p.var.num.mag),.ro 1 (Au d.p.var.den),.int .i64 d.p.cut,.bool d.p.lvl.num.neg,.ro 1 (Au d.p.lvl.num.mag),.ro 1 (Au d.p.lvl.den),.int .i64 d.p.top,.bool d.p.rate.num.neg,.ro 1 (Au d.p.rate.num.mag),.ro 1 (Au d.p.rate.den),.int .i64 d.p.slack,.ro 9 (B8 d.pool),.ro 17 (Hg d.items),.ro 1 (As d.ess),.ro 2 (A0 d.uses),.int .i64 d.served,.int .i64 d.sec,.int .i64 d.nu,.int .i64 d.de,.int .i64 d.ex,.int .u64 d.seed]:=rfl;rw [a1]at ay ai;rw [ax]at ai ab;rw [ax];have d0:=Cq d.p.rules;have d1:=Af d.p.g.pts;have d2:=Af d.p.g.pri;have d3:=A4 d.p.en;have d4:=Ah d.p.var.num.mag;have d5:=Ah d.p.var.den;have d6:=Ah d.p.lvl.num.mag;have d7:=Ah d.p.lvl.den;have d8:=Ah d.p.rate.num.mag;have d9:=Ah d.p.rate.den;have ae:=B4 d.pool;have aa:=Eu d.items;have ad:=Af d.ess;have af:=A4 d.uses;generalize Ee d.p.rules=rv,As d.p.g.pts=pt,As d.p.g.pri=pr,A0 d.p.en=ev,Au d.p.var.num.mag=vm,Au d.p.var.den=vd,Au d.p.lvl.num.mag=lm,Au d.p.lvl.den=ld,Au d.p.rate.num.mag=rm,Au d.p.rate.den=rd at*;have a9:=Da d.pool;have bc:=Fl d.items;have be:=A5 d.ess;generalize B8 d.pool=lv,Hg d.items=bf,As d.ess=bi,A0 d.uses=uv at*;have z1:=Af s.t.elig;have z2:=A4 s.t.steps;have z3:=Br s.t.w;have z4:=D0 s.ans;have z5:=Dh s.inc;have y:=Fz s.ans;have u:=Ey s.inc;generalize As s.t.elig=ti,A0 s.t.steps=ts,Bv s.t.w=tw,E7 s.ans=bb,Dc s.inc=bh at*;have a6:=F4 z4;refine Ig func43 (fun w0 N0 j hG=>?_);refine Aa [1,3,5] [3,5,10,73,85] sr (Bt 73 [1,3,5] [3,5,10,85] (by simp [z5,u,a6]<;>rfl) (Ab (Aa [1,3,5,16] [3,5,10,85] sr ?_)))
 refine Ao (fun h1=>?_) (fun h1=>Ae ?_)
 ·refine Aa [6] [10,85] sr ?_;exact C7 j (Dz (Ba _ _) sr (by rw [e1 (by simpa using h1)];exact Jf dc) Jg)
 have s1:s.st=1:=by simpa using h1
 refine Ab (Mn [5] Dm ?_);refine I5 [(0,[]),(1,[]),(3,[]),(2,[]),(4,[])] kr sr ?_
 refine Jn (i:=5) (ks:=[]) kr rfl sm (I9 sm ay func32 rfl kr sr rfl rfl sr (by simp [AS.views,AS.view,AS.viewL,AS.viewC,z4,y]<;>rfl) rfl sr) ?_;refine I5 [(6,[])] kr sr ?_
 refine Lh [1,3,5,7] [3,5,10,85] kr sr ?_;refine Ab (Ab (Mn [5] Dm ?_));refine I5 [(0,[]),(2,[]),(3,[]),(1,[]),(4,[])] kr sr ?_
 refine Jn (i:=5) (ks:=[]) kr rfl sm (I9 sm ai func31 rfl kr sr rfl rfl sr (by simp [AS.views,AS.view,AS.viewL,AS.viewC,z4,y]<;>rfl) rfl sr) ?_;refine I5 [(6,[])] kr sr ?_
 refine Lh [1,3,5,7,29] [3,5,10,85] kr sr ?_
 refine Ao (fun h2=>?_) (fun h2=>Ae ?_)
 ·refine Aa [6] [10,85] sr ?_;exact C7 j (Dz (Ba _ _) sr (by rw [e2 s1 (by simpa using h2)];exact Jf dc) Jg)
 have s2:¬Ej d s<Gk s e.time:=by simpa using h2
 refine Ab (Aa [1,3,5,7,34] [3,5,10,85] sr ?_)
 refine Ao (fun h3=>?_) (fun h3=>Ae ?_)
 ·refine Aa [6] [10,85] sr ?_;exact C7 j (Dz (Ba _ _) sr (by rw [e3 s1 s2 (by simpa using h3)];exact Jf dc) Jg)
 have s3:¬s.sh=0:=by simpa using h3
 refine Ab (Di [(0,[]),(1,[]),(3,[]),(4,[]),(5,[]),(2,[]),(6,[]),(7,[])] [1,3,5,7,42] [3,5,10,85] Dm kr sr ?_)
 refine Ao (fun h4=>?_) (fun h4=>Ae ?_)
 ·refine Aa [6] [10,85] sr ?_;exact C7 j (Dz (Ba _ _) sr (by rw [e4 s1 s2 s3 (by simpa using h4)];exact Jf dc) Jg)
 have s4:e.an.item=s.sh:=by simpa using h4
 have l:=e5 s1 s2 s3 s4;refine Ab (C4 [(0,[]),(2,[]),(3,[]),(4,[]),(1,[8]),(5,[8]),(6,[]),(7,[]),(8,[]),(9,[]),(10,[]),(11,[]),(12,[])] Dm kr ?_);refine Ch 6 sr ?_;refine Bw (fun hg=>av) func62 rfl kr rfl rfl sr rfl rfl sr (by simp) sr ?_;refine C5 [1,3,5,7,8] [3,5,8,10,85] sr ?_;refine Ab (Ab (Ac (Am 3 sr ?_)));refine Be hG aj func47 ?_ (hp:=by simp);refine Ag [1,3,5,7,8,10] [3,5,8,10,85] sr ?_;refine Aa [1,3,5,7,8,10,58] [3,5,8,10,85] sr ?_
 refine Ao (fun h5=>?_) (fun h5=>Ae ?_)
 ·refine Aa [6] [10,85] sr ?_;exact C7 j (Dz (Ba _ _) sr (by rw [l,if_pos (by simpa using h5)];exact Jf (by simpa using h5)) Jg)
 rw [if_neg (by simpa using h5)]at l;refine Ab (C4 [(0,[]),(1,[]),(2,[]),(3,[]),(5,[]),(4,[68]),(6,[68]),(7,[]),(8,[]),(9,[]),(10,[]),(11,[]),(12,[])] Dm kr ?_);refine Ch 7 sr ?_;refine Bw (fun hg=>am) func72 rfl kr rfl rfl sr rfl rfl sr (by simp) sr ?_;refine C5 [1,3,5,7,8] [3,5,8,10,85] (by simp [ar,y]<;>rfl) ?_;rw [az];refine Bt 85 [1,3,5,7,8] [3,5,8,10] (by simp [m]<;>rfl) (Aa [1,3,5,8] [3,5,8,10] sr (Ab (Di [(0,[]),(1,[]),(2,[]),(3,[]),(5,[]),(6,[]),(7,[]),(4,[]),(8,[]),(9,[])] [1,3,5,8,85] [3,5,8,10] Dm kr sr ?_)))
 refine Ao (fun h6=>?_) (fun h6=>Ae ?_)
 ·have s6:s.t.pend=s.sh:=by simpa using h6
  rw [if_pos s6]at l;refine Ab (Ac (Am 5 sr ?_));refine Oo hG ab func75 rfl kr rfl rfl rfl sr (fun k o hk=>Dt gt hk) ?_;rintro r a7 ba⟨rfl,hh⟩a8
  rcases hh with⟨al,rfl⟩|⟨a3,rfl⟩
  ·refine⟨_,by simp [J9]<;>rfl,?_⟩;refine Ag [1,3,11] [3] sr ?_;refine Aa [1,3,11,93] [3] sr ?_;refine A6 rfl (fun h7=>?_) (fun h7=>by simp at h7;exact absurd h7 al);refine Aa [6] [] sr ?_;exact C7 j (Dz (Ba _ _) sr (by rw [l];exact Jf al) Jg)
  refine⟨_,by simp [J9]<;>rfl,?_⟩;subst a3;refine Ag [1,3,11] [3,10] sr ?_;refine Aa [1,3,11,93] [3,10] sr ?_;refine A6 rfl (fun h7=>by simp at h7) (fun h7=>Ae (Ab (Aa [1,3,100] [3,10] sr ?_)))
  refine Ao (fun h8=>?_) (fun h8=>Ae ?_)
  ·refine C4 [(0,[]),(1,[]),(3,[]),(4,[]),(5,[]),(2,[]),(6,[]),(7,[]),(8,[]),(9,[]),(10,[])] Dm kr ?_;refine Ch 7 sr ?_;refine Sc hG (fun hg=>ao) func76 rfl kr rfl rfl sr rfl rfl sr (by simp) sr ?_;refine C5 [] [10] sr ?_;refine Aa [6] [10] sr ?_;exact C7 j (Dz (Ba _ _) sr (by rw [l];exact Ye (ah _ _ (t1 s6) (ak (.inr (by rw [t1 s6];simpa using h8)))) rfl rfl) (fun k o hk=>Dt gt hk))
  refine Aa [6] [10] sr ?_;exact C7 j (Dz (Ba _ _) sr (by rw [l];exact Ye (ah _ _ (t1 s6) ((a5 (by rw [t1 s6];simpa using h8) s6).trans (by rw [t1 s6]))) rfl rfl) (fun k o hk=>Dt gt hk))
 have s6:¬s.t.pend=s.sh:=by simpa using h6
 rw [if_neg s6]at l;refine Ab (Aa [1,3,100] [3,10] sr ?_)
 refine Ao (fun h9=>?_) (fun h9=>Ae ?_)
 ·refine C4 [(0,[]),(1,[]),(3,[]),(4,[]),(5,[]),(2,[]),(6,[]),(7,[]),(8,[]),(9,[]),(10,[])] Dm kr ?_;refine Ch 7 sr ?_;refine Sc hG (fun hg=>ao) func76 rfl kr rfl rfl sr rfl rfl sr (by simp) sr ?_;refine C5 [] [10] sr ?_;refine Aa [6] [10] sr ?_;exact C7 j (Dz (Ba _ _) sr (by rw [l];exact Ye (ag _ (t0 s6) (ak (.inr (by rw [t0 s6];simpa using h9)))) rfl rfl) (fun k o hk=>Dt gt hk))
 refine Aa [6] [10] sr ?_;exact C7 j (Dz (Ba _ _) sr (by rw [l];exact Ye (ag _ (t0 s6) (a4 (by rw [t0 s6];simpa using h9) s6)) rfl rfl) (fun k o hk=>Dt gt hk))
def Vi:Se:=⟨0,0,0,0,W2,[],[]⟩
def seR(e:Int)(s:Se):V:=.tup [(if e=0 then s else Vi).v,.int .i64 e]
theorem L8{e:Int}(h:e≠0)(s:Se):Bl (.tup [.agg [.int .i64 0,.int .i64 0,.int .i64 0,.int .i64 0,.nils,.nils,.int .i64 0,.nils,.int .u64 0,.int .i64 0,.nils,.nils],.int .i64 e]) (seR e s):=by
 unfold seR;rw [if_neg h];have r:=fun x:V=>Bl.refl x
 exact Bl.tup (.cons (Bl.agg (.cons (r _) (.cons (r _) (.cons (r _) (.cons (r _) (.cons (Bl.nils 1) (.cons (Bl.nils 2) (.cons (r _) (.cons (Bl.nils 1) (.cons (r _) (.cons (r _) (.cons (Bl.nils 5) (.cons (Bl.nils 4) .nil))))))))))))) (.cons (r _) .nil))
theorem Qi{s:Se}{x:V}(h:s.v=x):Bl (.tup [x,.int .i64 0]) (seR 0 s):=by
 unfold seR;rw [if_pos rfl,h];exact Bl.refl _
def swE(d:Dl)(t:Te)(s:Se)(e:Ev):Int:=
 if e.kind=1 then Agy d t s else if e.kind=2 then Nh d s e else if e.kind=3 then Ab5 s else if e.kind=4 then(if s.st≠2 then 8 else 0)else if e.kind=5 then Agz s e else if e.kind=6 then Aib s else 0
def swS(d:Dl)(t:Te)(s:Se)(e:Ev):Se:=
 if e.kind=1 then Ub d t s else if e.kind=2 then M1 d s e else if e.kind=3 then Uc d s e.time else if e.kind=4 then { s with st:=1}else if e.kind=5 then Pt d s e else if e.kind=6 then Vh d s e.time else s
def Gw(d:Dl)(t:Te)(s:Se)(e:Ev):Int:=if e.kind<1\/6<e.kind then 1 else if Hw s e.time=false then 15 else swE d t s e
def H3(d:Dl)(t:Te)(s:Se)(e:Ev):Se:={ swS d t s e with la:=e.time}
theorem Ac1(hS:Ic)(d:Dl)(t:Te)(s:Se)(e:Ev)(hd:DlOk d)(ha:e.an.small)(h:AdP d.p d.pool)(ht:teOk t)(hw:Ks t.w 1000)(hs:SeOk s)(az:Ks s.t.w 998)(a0:s.t.steps.length<=900):
  Hm gv prog 22 [d.v,t.v,s.v,e.v] (fun r=>r=seR (Gw d t s e) (H3 d t s e)):=by
 refine Hm.relaxP ?_;have ao:=Akh s e.time;have ai:=Ayv s hs;have ab:=fun v aq iq=>Ayw d t s v aq iq h ht hw
 have aa:=fun v aq iq=>Atf hS d s e v aq iq hd ha h hs.t az a0 hs.al
 have ae:=fun v aq iq=>Ayx d s e.time v aq iq
 have ad:=fun v aq iq=>Atd d s e v aq iq hs.il
 have ag:=fun v aq iq=>Atc d s e.time v aq iq hs.t
 have e0:(e.kind<1\/6<e.kind)->Gw d t s e=1:=fun x=>by unfold Gw;rw [if_pos x]
 have e1:¬(e.kind<1\/6<e.kind)->Hw s e.time=false->Gw d t s e=15:=fun x y=>by unfold Gw;rw [if_neg x,if_pos y]
 have a8:¬(e.kind<1\/6<e.kind)->¬Hw s e.time=false->e.kind=1->Gw d t s e=Agy d t s:=fun x y c=>by unfold Gw swE;rw [if_neg x,if_neg y,if_pos c]
 have bo:¬(e.kind<1\/6<e.kind)->¬Hw s e.time=false->e.kind≠1->e.kind=2->Gw d t s e=Nh d s e:=fun x y c f=>by unfold Gw swE;rw [if_neg x,if_neg y,if_neg c,if_pos f]
 have a7:¬(e.kind<1\/6<e.kind)->¬Hw s e.time=false->e.kind≠1->e.kind≠2->e.kind=3->Gw d t s e=Ab5 s:=fun x y c f u=>by unfold Gw swE;rw [if_neg x,if_neg y,if_neg c,if_neg f,if_pos u]
 have br:¬(e.kind<1\/6<e.kind)->¬Hw s e.time=false->e.kind≠1->e.kind≠2->e.kind≠3->e.kind=4->Gw d t s e=(if s.st≠2 then 8 else 0):=fun x y c f u a4=>by unfold Gw swE;rw [if_neg x,if_neg y,if_neg c,if_neg f,if_neg u,if_pos a4]
 have bh:¬(e.kind<1\/6<e.kind)->¬Hw s e.time=false->e.kind≠1->e.kind≠2->e.kind≠3->e.kind≠4->e.kind=5->Gw d t s e=Agz s e:=fun x y c f u a4 a5=>by unfold Gw swE;rw [if_neg x,if_neg y,if_neg c,if_neg f,if_neg u,if_neg a4,if_pos a5]
 have a9:¬(e.kind<1\/6<e.kind)->¬Hw s e.time=false->e.kind≠1->e.kind≠2->e.kind≠3->e.kind≠4->e.kind≠5->e.kind=6->Gw d t s e=Aib s:=fun x y c f u a4 a5 a6=>by unfold Gw swE;rw [if_neg x,if_neg y,if_neg c,if_neg f,if_neg u,if_neg a4,if_neg a5,if_pos a6]
 have bk:e.kind=1->(H3 d t s e).v=V.agg [.int .i64 (Ub d t s).st,.int .i64 (Ub d t s).us,.int .i64 e.time,.int .i64 (Ub d t s).sh,.ro 1 (As (Ub d t s).t.elig),.ro 2 (A0 (Ub d t s).t.steps),.int .i64 (Ub d t s).t.pend,.ro 1 (Bv (Ub d t s).t.w),.int .u64 (Ub d t s).t.draw,.int .i64 (Ub d t s).t.stop,.ro 5 (E7 (Ub d t s).ans),.ro 4 (Dc (Ub d t s).inc)]:=fun c=>by unfold H3 swS;rw [if_pos c];rfl
 have be:e.kind≠1->e.kind=2->(H3 d t s e).v=V.agg [.int .i64 (M1 d s e).st,.int .i64 (M1 d s e).us,.int .i64 e.time,.int .i64 (M1 d s e).sh,.ro 1 (As (M1 d s e).t.elig),.ro 2 (A0 (M1 d s e).t.steps),.int .i64 (M1 d s e).t.pend,.ro 1 (Bv (M1 d s e).t.w),.int .u64 (M1 d s e).t.draw,.int .i64 (M1 d s e).t.stop,.ro 5 (E7 (M1 d s e).ans),.ro 4 (Dc (M1 d s e).inc)]:=fun c f=>by unfold H3 swS;rw [if_neg c,if_pos f];rfl
 have bd:e.kind≠1->e.kind≠2->e.kind=3->(H3 d t s e).v=V.agg [.int .i64 (Uc d s e.time).st,.int .i64 (Uc d s e.time).us,.int .i64 e.time,.int .i64 (Uc d s e.time).sh,.ro 1 (As (Uc d s e.time).t.elig),.ro 2 (A0 (Uc d s e.time).t.steps),.int .i64 (Uc d s e.time).t.pend,.ro 1 (Bv (Uc d s e.time).t.w),.int .u64 (Uc d s e.time).t.draw,.int .i64 (Uc d s e.time).t.stop,.ro 5 (E7 (Uc d s e.time).ans),.ro 4 (Dc (Uc d s e.time).inc)]:=fun c f u=>by unfold H3 swS;rw [if_neg c,if_neg f,if_pos u];rfl
 have bj:e.kind≠1->e.kind≠2->e.kind≠3->e.kind=4->(H3 d t s e).v=V.agg [.int .i64 1,.int .i64 s.us,.int .i64 e.time,.int .i64 s.sh,.ro 1 (As s.t.elig),.ro 2 (A0 s.t.steps),.int .i64 s.t.pend,.ro 1 (Bv s.t.w),.int .u64 s.t.draw,.int .i64 s.t.stop,.ro 5 (E7 s.ans),.ro 4 (Dc s.inc)]:=fun c f u a4=>by unfold H3 swS;rw [if_neg c,if_neg f,if_neg u,if_pos a4];rfl
 have bf:e.kind≠1->e.kind≠2->e.kind≠3->e.kind≠4->e.kind=5->(H3 d t s e).v=V.agg [.int .i64 (Pt d s e).st,.int .i64 (Pt d s e).us,.int .i64 e.time,.int .i64 (Pt d s e).sh,.ro 1 (As (Pt d s e).t.elig),.ro 2 (A0 (Pt d s e).t.steps),.int .i64 (Pt d s e).t.pend,.ro 1 (Bv (Pt d s e).t.w),.int .u64 (Pt d s e).t.draw,.int .i64 (Pt d s e).t.stop,.ro 5 (E7 (Pt d s e).ans),.ro 4 (Dc (Pt d s e).inc)]:=fun c f u a4 a5=>by unfold H3 swS;rw [if_neg c,if_neg f,if_neg u,if_neg a4,if_pos a5];rfl
 have bg:e.kind≠1->e.kind≠2->e.kind≠3->e.kind≠4->e.kind≠5->e.kind=6->(H3 d t s e).v=V.agg [.int .i64 (Vh d s e.time).st,.int .i64 (Vh d s e.time).us,.int .i64 e.time,.int .i64 (Vh d s e.time).sh,.ro 1 (As (Vh d s e.time).t.elig),.ro 2 (A0 (Vh d s e.time).t.steps),.int .i64 (Vh d s e.time).t.pend,.ro 1 (Bv (Vh d s e.time).t.w),.int .u64 (Vh d s e.time).t.draw,.int .i64 (Vh d s e.time).t.stop,.ro 5 (E7 (Vh d s e.time).ans),.ro 4 (Dc (Vh d s e.time).inc)]:=fun c f u a4 a5 a6=>by unfold H3 swS;rw [if_neg c,if_neg f,if_neg u,if_neg a4,if_neg a5,if_pos a6];rfl
 generalize Agy d t s=E1,Ub d t s=S1,Nh d s e=E2,M1 d s e=S2,Ab5 s=E3,Uc d s e.time=S3,Agz s e=E5,Pt d s e=S5,Aib s=E6,Vh d s e.time=S6,Gw d t s e=PE,H3 d t s e=PS at*;have m:∀x:Se,x.v=V.agg [.int .i64 x.st,.int .i64 x.us,.int .i64 x.la,.int .i64 x.sh,.ro 1 (As x.t.elig),.ro 2 (A0 x.t.steps),.int .i64 x.t.pend,.ro 1 (Bv x.t.w),.int .u64 x.t.draw,.int .i64 x.t.stop,.ro 5 (E7 x.ans),.ro 4 (Dc x.inc)]:=fun x=>rfl
 unfold evR Agx seC at ab aa ae ad ag;unfold seC at ai;rw [m S1]at ab;rw [m S2]at aa;rw [m S3]at ae;rw [m S5]at ad;rw [m S6]at ag;have y1:=fun x:Te=>Af x.elig
 have y2:=fun x:Te=>A4 x.steps
 have y3:=fun x:Te=>Br x.w
 have y4:=fun x:Se=>D0 x.ans
 have y5:=fun x:Se=>Dh x.inc
 have bi:t.v=.agg [.ro 1 (As t.elig),.ro 2 (A0 t.steps),.int .i64 t.pend,.ro 1 (Bv t.w),.int .u64 t.draw,.int .i64 t.stop]:=rfl;have bb:e.v=V.agg [.int .i64 e.kind,.int .i64 e.time,.int .i64 e.an.item,.ro 1 (As e.an.ch),.int .i64 e.an.val,.str e.an.txt,.bool e.an.om,.int .i64 e.inc.ki,.int .i64 e.inc.ti,.int .i64 e.inc.lo,.int .i64 e.inc.gr]:=rfl;rw [bi]at ab|-;rw [bb]at aa ad|-;have i5:=Af e.an.ch;have x1:=Af t.elig;have x2:=A4 t.steps;have x3:=Br t.w;generalize As e.an.ch=hv,As t.elig=xi,A0 t.steps=xs,Bv t.w=xw at*;have ba:s.v=V.agg [.int .i64 s.st,.int .i64 s.us,.int .i64 s.la,.int .i64 s.sh,.ro 1 (As s.t.elig),.ro 2 (A0 s.t.steps),.int .i64 s.t.pend,.ro 1 (Bv s.t.w),.int .u64 s.t.draw,.int .i64 s.t.stop,.ro 5 (E7 s.ans),.ro 4 (Dc s.inc)]:=rfl;have bn:d.v=V.agg [.int .i64 d.ses,.int .i64 d.cand,.int .i64 d.p.len,.ro 5 (Ee d.p.rules),.ro 1 (As d.p.g.pts),.ro 1 (As d.p.g.pri),.ro 2 (A0 d.p.en),.int .i64 d.p.mn,.bool d.p.var.num.neg,.ro 1 (Au d.p.var.num.mag),.ro 1 (Au d.p.var.den),.int .i64 d.p.cut,.bool d.p.lvl.num.neg,.ro 1 (Au d.p.lvl.num.mag),.ro 1 (Au d.p.lvl.den),.int .i64 d.p.top,.bool d.p.rate.num.neg,.ro 1 (Au d.p.rate.num.mag),.ro 1 (Au d.p.rate.den),.int .i64 d.p.slack,.ro 9 (B8 d.pool),.ro 17 (Hg d.items),.ro 1 (As d.ess),.ro 2 (A0 d.uses),.int .i64 d.served,.int .i64 d.sec,.int .i64 d.nu,.int .i64 d.de,.int .i64 d.ex,.int .u64 d.seed]:=rfl;rw [ba]at ao ai|-;rw [bn]at ab aa ae ad ag|-;have d0:=Cq d.p.rules;have d1:=Af d.p.g.pts;have d2:=Af d.p.g.pri;have d3:=A4 d.p.en;have d4:=Ah d.p.var.num.mag;have d5:=Ah d.p.var.den;have d6:=Ah d.p.lvl.num.mag;have d7:=Ah d.p.lvl.den;have d8:=Ah d.p.rate.num.mag;have d9:=Ah d.p.rate.den;have bl:=B4 d.pool;have ay:=Eu d.items;have bc:=Af d.ess;have bs:=A4 d.uses;generalize Ee d.p.rules=rv,As d.p.g.pts=pt,As d.p.g.pri=pr,A0 d.p.en=ev,Au d.p.var.num.mag=vm,Au d.p.var.den=vd,Au d.p.lvl.num.mag=lm,Au d.p.lvl.den=ld,Au d.p.rate.num.mag=rm,Au d.p.rate.den=rd at*;have bu:=Da d.pool;have bx:=Fl d.items;have bz:=A5 d.ess;generalize B8 d.pool=lv,Hg d.items=b0,As d.ess=b2,A0 d.uses=uv at*;have z1:=Af s.t.elig;have z2:=A4 s.t.steps;have z3:=Br s.t.w;have z4:=D0 s.ans;have z5:=Dh s.inc;have ax:=Fz s.ans;have au:=Ey s.inc;generalize As s.t.elig=ti,A0 s.t.steps=ts,Bv s.t.w=tw,E7 s.ans=bw,Dc s.inc=b1 at*;have bp:=F4 z4;have bq:=F4 z5;refine Bx func22 (fun w0 N0 hG=>?_);refine Aa [4,5,6,7,8] [4,5,6,7,8] sr (Ab (Aa [4,5,6,7,8,19] [4,5,6,7,8] sr ?_))
 refine Ao (fun h1=>?_) (fun h1=>Ae ?_)
 ·exact Aa [8,9] [8] sr (Ak (Ad sr (by rw [e0 (by simpa using h1)];exact L8 dc _)))
 have kk:¬(e.kind<1\/6<e.kind):=by simpa using h1
 refine Ab (Ab (Ac (Am 3 sr ?_)));refine Ai ao func29 ?_ (hp:=by simp);refine Ag [4,5,6,7,8,25] [4,5,6,7,8] sr ?_
 refine Ao (fun h2=>?_) (fun h2=>Ae ?_)
 ·exact Aa [8,9] [8] sr (Ak (Ad sr (by rw [e1 kk (by simpa using h2)];exact L8 dc _)))
 have tt:¬Hw s e.time=false:=by simpa using h2
 refine Ab (Ac (Am 1 sr ?_));refine Et ai func41 rfl kr rfl rfl rfl sr (fun k o hk=>by cases hk) ?_ (fun ch bm=>bm.elim);rintro r n bv⟨q1,q2,rfl,rfl⟩bt;refine⟨fun k hk=>rfl,_,by simp<;>rfl,?_⟩;refine Ag [4,5,6,7,8,10] [4,5,6,7,8,10,73,85] sr ?_;refine Aa [4,5,6,7,8,10,11] [4,5,6,7,8,10,73,85] sr (Ab (Aa [4,5,6,7,8,10,11,30] [4,5,6,7,8,10,73,85] sr (Ap (Aa [4,5,6,7,8,10,11,30,31] [4,5,6,7,8,10,73,85] sr ?_))))
 refine Ao (fun h3=>?_) (fun h3=>?_)
 ·have k1:e.kind=1:=by simpa using h3
  refine Ac (Am 2 sr ?_);refine Oo hG (ab _ q1 q2) func42 rfl kr rfl rfl rfl sr (fun k o hk=>Fk (by simp [Eng.get]<;>rfl) gt gt hk) ?_;rintro r n af⟨rfl,hh⟩z;have l:=a8 kk tt k1
  rcases hh with⟨a,rfl⟩|⟨i,rfl⟩
  ·refine⟨_,by simp [J9]<;>rfl,?_⟩;refine Ag [8,11] [8] sr ?_;refine Ab (Aa [8,11,65] [8] sr ?_);refine A6 rfl (fun j=>?_) (fun j=>by simp at j;exact absurd j a);exact Aa [8,9] [8] sr (Ak (Ad sr (by rw [l];exact L8 a _)))
  subst i;refine⟨_,by simp [J9]<;>rfl,?_⟩;refine Ag [7,8,10,11] [7,8,10] sr ?_;refine Ab (Aa [7,8,10,11,65] [7,8,10] sr ?_);refine A6 rfl (fun h4=>by simp at h4) (fun h4=>Ae (Aa [8,10] [8,10] sr ?_));exact Aa [8,9] [8] sr (Ak (Ad sr (by rw [l];exact Qi (bk k1))))
 ·have k1:e.kind≠1:=by simpa using h3
  refine Aa [4,6,7,8,10,11,30,36] [4,6,7,8,10,73,85] sr ?_
  refine Ao (fun h5=>?_) (fun h5=>?_)
  ·have k2:e.kind=2:=by simpa using h5
   refine Ac (Am 2 sr ?_);refine Oo hG (aa _ q1 q2) func43 rfl kr rfl rfl rfl sr (fun k o hk=>Fk (by simp [Eng.get]<;>rfl) gt gt hk) ?_;rintro r n af⟨rfl,hh⟩z;have l:=bo kk tt k1 k2
   rcases hh with⟨a,rfl⟩|⟨i,rfl⟩
   ·refine⟨_,by simp [J9]<;>rfl,?_⟩;refine Ag [8,11] [8] sr ?_;refine Ab (Aa [8,11,65] [8] sr ?_);refine A6 rfl (fun j=>?_) (fun j=>by simp at j;exact absurd j a);exact Aa [8,9] [8] sr (Ak (Ad sr (by rw [l];exact L8 a _)))
   subst i;refine⟨_,by simp [J9]<;>rfl,?_⟩;refine Ag [7,8,10,11] [7,8,10] sr ?_;refine Ab (Aa [7,8,10,11,65] [7,8,10] sr ?_);refine A6 rfl (fun h6=>by simp at h6) (fun h6=>Ae (Aa [8,10] [8,10] sr ?_));exact Aa [8,9] [8] sr (Ak (Ad sr (by rw [l];exact Qi (be k1 k2))))
  ·have k2:e.kind≠2:=by simpa using h5
   refine Aa [4,6,7,8,10,11,30,41] [4,6,7,8,10,73,85] sr ?_
   refine Ao (fun h7=>?_) (fun h7=>?_)
   ·have k3:e.kind=3:=by simpa using h7
    refine Ac (Am 3 sr ?_);refine Oo hG (ae _ q1 q2) func44 rfl kr rfl rfl rfl sr (fun k o hk=>Fk (by simp [Eng.get]<;>rfl) gt gt hk) ?_;rintro r n af⟨rfl,hh⟩z;have l:=a7 kk tt k1 k2 k3
    rcases hh with⟨a,rfl⟩|⟨i,rfl⟩
    ·refine⟨_,by simp [J9]<;>rfl,?_⟩;refine Ag [8,11] [8] sr ?_;refine Ab (Aa [8,11,65] [8] sr ?_);refine A6 rfl (fun j=>?_) (fun j=>by simp at j;exact absurd j a);exact Aa [8,9] [8] sr (Ak (Ad sr (by rw [l];exact L8 a _)))
    subst i;refine⟨_,by simp [J9]<;>rfl,?_⟩;refine Ag [7,8,10,11] [7,8,10] sr ?_;refine Ab (Aa [7,8,10,11,65] [7,8,10] sr ?_);refine A6 rfl (fun h8=>by simp at h8) (fun h8=>Ae (Aa [8,10] [8,10] sr ?_));exact Aa [8,9] [8] sr (Ak (Ad sr (by rw [l];exact Qi (bd k1 k2 k3))))
   ·have k3:e.kind≠3:=by simpa using h7
    refine Aa [4,6,7,8,10,11,30,47] [4,6,7,8,10,73,85] sr ?_
    refine Ao (fun h9=>?_) (fun h9=>?_)
    ·have k4:e.kind=4:=by simpa using h9
     have l:=br kk tt k1 k2 k3 k4;refine Ab (Aa [7,8,10,11,51] [7,8,10,73,85] sr ?_)
     refine Ao (fun ak=>?_) (fun ak=>Ae ?_)
     ·refine A2 [7,8,10,11] [7,8,10] sr (A2 [7,8,10,11] [7,8,10] sr (Ab (Aa [7,8,10,11,65] [7,8,10] sr ?_)))
      refine A6 rfl (fun am=>?_) (fun am=>by simp at am)
      ·exact Aa [8,9] [8] sr (Ak (Ad sr (by rw [l,if_pos (by simpa using ak)];exact L8 dc _)))
     refine A2 [7,8,10,11] [7,8,10,73,85] sr ?_;rw [if_neg (by simpa using ak)]at l;refine Bt 85 [7,8,10,11] [7,8,10,73] (by simp [z4,ax]<;>rfl) (Bt 73 [7,8,10,11] [7,8,10] (by simp [z5,au,bq]<;>rfl) (Ab (Aa [7,8,10,11,65] [7,8,10] sr ?_)));refine A6 rfl (fun av=>by simp at av) (fun av=>Ae (Aa [8,10] [8,10] sr ?_));exact Aa [8,9] [8] sr (Ak (Ad sr (by rw [l];exact Qi (bj k1 k2 k3 k4))))
    ·have k4:e.kind≠4:=by simpa using h9
     refine Aa [4,7,8,10,11,30,53] [4,7,8,10,73,85] sr ?_
     refine Ao (fun ah=>?_) (fun ah=>?_)
     ·have k5:e.kind=5:=by simpa using ah
      refine Ac (Am 2 sr ?_);refine Oo hG (ad _ q1 q2) func45 rfl kr rfl rfl rfl sr (fun k o hk=>Fk (by simp [Eng.get]<;>rfl) gt gt hk) ?_;rintro r n af⟨rfl,hh⟩z;have l:=bh kk tt k1 k2 k3 k4 k5
      rcases hh with⟨a,rfl⟩|⟨i,rfl⟩
      ·refine⟨_,by simp [J9]<;>rfl,?_⟩;refine Ag [8,11] [8] sr ?_;refine Ab (Aa [8,11,65] [8] sr ?_);refine A6 rfl (fun j=>?_) (fun j=>by simp at j;exact absurd j a);exact Aa [8,9] [8] sr (Ak (Ad sr (by rw [l];exact L8 a _)))
      subst i;refine⟨_,by simp [J9]<;>rfl,?_⟩;refine Ag [7,8,10,11] [7,8,10] sr ?_;refine Ab (Aa [7,8,10,11,65] [7,8,10] sr ?_);refine A6 rfl (fun ar=>by simp at ar) (fun ar=>Ae (Aa [8,10] [8,10] sr ?_));exact Aa [8,9] [8] sr (Ak (Ad sr (by rw [l];exact Qi (bf k1 k2 k3 k4 k5))))
     ·have k5:e.kind≠5:=by simpa using ah
      refine Aa [4,7,8,10,11,58] [4,7,8,10,73,85] sr ?_
      refine A6 rfl (fun aj=>?_) (fun aj=>absurd (show e.kind=6 by omega) (by simpa using aj))
      ·have k6:e.kind=6:=by simpa using aj
       refine Ac (Am 3 sr ?_);refine Oo hG (ag _ q1 q2) func46 rfl kr rfl rfl rfl sr (fun k o hk=>Fk (by simp [Eng.get]<;>rfl) gt gt hk) ?_;rintro r n af⟨rfl,hh⟩z;have l:=a9 kk tt k1 k2 k3 k4 k5 k6
       rcases hh with⟨a,rfl⟩|⟨i,rfl⟩
       ·refine⟨_,by simp [J9]<;>rfl,?_⟩;refine Ag [8,11] [8] sr ?_;refine Ab (Aa [8,11,65] [8] sr ?_);refine A6 rfl (fun j=>?_) (fun j=>by simp at j;exact absurd j a);exact Aa [8,9] [8] sr (Ak (Ad sr (by rw [l];exact L8 a _)))
       subst i;refine⟨_,by simp [J9]<;>rfl,?_⟩;refine Ag [7,8,10,11] [7,8,10] sr ?_;refine Ab (Aa [7,8,10,11,65] [7,8,10] sr ?_);refine A6 rfl (fun aw=>by simp at aw) (fun aw=>Ae (Aa [8,10] [8,10] sr ?_));exact Aa [8,9] [8] sr (Ak (Ad sr (by rw [l];exact Qi (bg k1 k2 k3 k4 k5 k6))))
set_option linter.unusedSimpArgs false
structure SeB(n:Nat)(s:Se):Prop where
 t:teOk s.t
 w:Ks s.t.w (n+1)
 st:s.t.steps.length<=n
 al:s.ans.length<=n
 ac:∀a∈s.ans,a.small
 il:s.inc.length<=n
theorem SeB.ok{n:Nat}{s:Se}(h:SeB n s)(hn:n<=800):SeOk s:=⟨h.t,Aj h.al om,h.ac,Aj h.il om⟩
theorem SeB.w998{n:Nat}{s:Se}(h:SeB n s)(hn:n<=800):Ks s.t.w 998:=fun x a=>Aj (h.w x a) om
theorem Aqk(m:Nat):Ks [] m:=fun x a=>by cases a
theorem SeB.new:SeB 0 Vi:=⟨⟨B6 _,B6 _,B6 _,Aqk _⟩,Aqk _,A8 _,A8 _,(fun a c=>by cases c),A8 _⟩
def teB(n:Nat)(t:Te):Prop:=teOk t/\Ks t.w (n+1)/\t.steps.length<=n
theorem Av6{n:Nat}{t:Te}(h:teB n t)(p d s:Int):teB n { t with pend:=p,draw:=d,stop:=s}:=⟨⟨h.1.el,h.1.sl,h.1.wl,h.1.wd⟩,h.2.1,h.2.2⟩
theorem Q3{n m:Nat}{t:Te}(h:teB n t)(a:n<=m):teB m t:=⟨h.1,fun x c=>Aj (h.2.1 x c) om,Aj h.2.2 a⟩
theorem Aql{n:Nat}{t:Te}(h:teB n t)(p:Po)(pool:List Pit):teB n (Mf p pool t):=by
 unfold Mf;split
 ·exact h
 ·exact Av6 h _ _ t.stop
theorem Ab6{d:Dl}(h:Gv d=0)(a:DlOk d):AdP d.p d.pool/\teB 0 (Cx d)/\(Cx d).steps= []:=by
 unfold Gv at h
 (repeat' split at h)<;>try omega
 have h2:U0 d.p=0:=om;have e:Kd d.pool d.p.g.pts.length=0:=om;refine⟨⟨a.pok,h2,e,a.pl,a.st⟩,?_,rfl⟩;obtain⟨j,c,p3⟩:=Ap1 (Yb h2).2.1;have i:(Qx (Ox d.p.g.pri)).length<=1000:=by rw [Ad5,j];have:=(J3 (Yb h2).2.1).len;omega
 refine⟨⟨Aj (by show(Zo d.pool d.uses d.served d.p.rate.val d.p.slack).length<=d.pool.length;exact Ajg _ _) (Aj a.pl dc),B6 _,i,fun x f=>Aj (Aac c x f) dc⟩,Aac c,A8 _⟩
theorem SeB.te{n:Nat}{s:Se}(h:SeB n s):teB n s.t:=⟨h.t,h.w,h.st⟩
theorem SeB.mk'{n:Nat}{s:Se}(h:teB n s.t)(c:s.ans.length<=n)(ac:∀a∈s.ans,a.small)(d:s.inc.length<=n):SeB n s:=⟨h.1,h.2.1,h.2.2,c,ac,d⟩
theorem Bcz{d:Dl}{s:Se}{e:Ev}{n:Nat}(k:AdP d.p d.pool)(h:Nh d s e=0)(hs:SeB n s)(hn:n<=800):teB (n+1) (Hl d s e):=by
 unfold Hl;split
 ·rename_i hp
  have c:W7 d s (I4 d s) e.an=0:=by
   unfold Nh at h
   (repeat' split at h)<;>first|exact h|omega
  unfold W7 at c
  have a:Ac9 d.p d.pool s.t (F7 (I4 d s) e.an).1=0:=by
   (repeat' split at c)<;>first|omega
  obtain⟨j,g,i⟩:=A42 k a hs.t (Aj hs.st om) (n:=n+1) om hs.w;have f:teB (n+1) (Mg d.p d.pool s.t (F7 (I4 d s) e.an).1):=⟨j,g,by rw [i];have:=hs.st;omega⟩
  unfold Pf;split
  ·exact Aql f _ _
  ·exact f
 ·exact Q3 hs.te (Nat.le_succ n)
theorem Amk{d:Dl}{t:Te}{s:Se}{e:Ev}{n:Nat}(r:AdP d.p d.pool)(m:teB 0 t)(o:e.an.small)(h:Gw d t s e=0)(hs:SeB n s)(l:n<=800):SeB (n+1) (H3 d t s e):=by
 have k:swE d t s e=0:=by
  unfold Gw at h
  (repeat' split at h)<;>first|omega
 have i:=hs.al;have f:=hs.il;have c:=Q3 hs.te (Nat.le_succ n)
 have g:SeB (n+1) (swS d t s e):=by
  unfold swS
  split
  ·exact SeB.mk' (Aql (Q3 m (B6 _)) _ _) (Eb i) hs.ac (Eb f)
  split
  ·rename_i h1 h2;have u:Nh d s e=0:=by unfold swE at k;rwa [if_neg h1,if_pos h2]at k
   refine SeB.mk' (Bcz r u hs l) (by show(s.ans++[e.an]).length<=n+1;simp;omega) (fun a j=>?_) (Eb f)
   rcases B3.1 j with j|j
   ·exact hs.ac a j
   ·rw [By.1 j];exact o
  split
  ·exact SeB.mk' c (Eb i) hs.ac (Eb f)
  split
  ·exact SeB.mk' c (Eb i) hs.ac (Eb f)
  split
  ·exact SeB.mk' c (Eb i) hs.ac (by show(s.inc++[e.inc]).length<=n+1;simp;omega)
  split
  ·refine SeB.mk' ?_ (Eb i) hs.ac (Eb f);show teB (n+1) (Pe s.t)
   unfold Pe;split
   ·exact Av6 c 0 s.t.draw 4
   ·exact c
  ·exact SeB.mk' c (Eb i) hs.ac (Eb f)
 exact⟨g.t,g.w,g.st,g.al,g.ac,g.il⟩
def K9(d:Dl)(s:Se)(e:Ev):Int:=if Gv d≠0 then Gv d else Gw d (Cx d) s e
def Sx(d:Dl)(s:Se)(e:Ev):Se:=H3 d (Cx d) s e
theorem Qj(hS:Ic)(d:Dl)(s:Se)(e:Ev)(z:DlOk d)(ha:e.an.small)(hs:SeOk s)(ae:Ks s.t.w 998)(af:s.t.steps.length<=900):
  Hm gv prog 12 [d.v,s.v,e.v] (fun r=>r=seR (K9 d s e) (Sx d s e)):=by
 refine Hm.relaxP ?_;have f:=Yc hS d z;unfold teR at f;obtain⟨tt,i⟩:∃tt,tt=(if Gv d=0 then Cx d else W2):=⟨_,rfl⟩;rw [<- i]at f
 have a:Gv d=0->Hm gv prog 22 [d.v,tt.v,s.v,e.v] (fun r=>r=.tup [(if Gw d (Cx d) s e=0 then H3 d (Cx d) s e else Vi).v,.int .i64 (Gw d (Cx d) s e)]):=fun h=>by
  rw [i,if_pos h];obtain⟨h1,h2,_⟩:=Ab6 h z;exact Ac1 hS d (Cx d) s e z ha h1 h2.1 (fun x hx=>Aj (h2.2.1 x hx) dc) hs ae af
 have hE:Gv d≠0->K9 d s e=Gv d:=fun h=>by unfold K9;rw [if_pos h]
 have c:Gv d=0->V.tup [(if Gw d (Cx d) s e=0 then H3 d (Cx d) s e else Vi).v,.int .i64 (Gw d (Cx d) s e)]=seR (K9 d s e) (Sx d s e):=fun h=>by
  unfold K9 Sx seR;rw [show(if Gv d≠0 then Gv d else Gw d (Cx d) s e)=Gw d (Cx d) s e from if_neg (by simp [h])]
 clear i;generalize Gw d (Cx d) s e=PE at*;generalize(if PE=0 then H3 d (Cx d) s e else Vi)=PS,Gv d=DE,K9 d s e=AE at*;generalize Sx d s e=ah at*;have y1:=fun x:Te=>Af x.elig
 have y2:=fun x:Te=>A4 x.steps
 have y3:=fun x:Te=>Br x.w
 have y4:=fun x:Se=>D0 x.ans
 have y5:=fun x:Se=>Dh x.inc
 have ab:∀x:Te,x.v=.agg [.ro 1 (As x.elig),.ro 2 (A0 x.steps),.int .i64 x.pend,.ro 1 (Bv x.w),.int .u64 x.draw,.int .i64 x.stop]:=fun x=>rfl
 have j:PS.v=V.agg [.int .i64 PS.st,.int .i64 PS.us,.int .i64 PS.la,.int .i64 PS.sh,.ro 1 (As PS.t.elig),.ro 2 (A0 PS.t.steps),.int .i64 PS.t.pend,.ro 1 (Bv PS.t.w),.int .u64 PS.t.draw,.int .i64 PS.t.stop,.ro 5 (E7 PS.ans),.ro 4 (Dc PS.inc)]:=rfl;have ad:e.v=V.agg [.int .i64 e.kind,.int .i64 e.time,.int .i64 e.an.item,.ro 1 (As e.an.ch),.int .i64 e.an.val,.str e.an.txt,.bool e.an.om,.int .i64 e.inc.ki,.int .i64 e.inc.ti,.int .i64 e.inc.lo,.int .i64 e.inc.gr]:=rfl;have i5:=Af e.an.ch;rw [ab]at f a;rw [j]at a c;rw [ad]at a|-;generalize As e.an.ch=hv at*;have aa:s.v=V.agg [.int .i64 s.st,.int .i64 s.us,.int .i64 s.la,.int .i64 s.sh,.ro 1 (As s.t.elig),.ro 2 (A0 s.t.steps),.int .i64 s.t.pend,.ro 1 (Bv s.t.w),.int .u64 s.t.draw,.int .i64 s.t.stop,.ro 5 (E7 s.ans),.ro 4 (Dc s.inc)]:=rfl;have y:d.v=V.agg [.int .i64 d.ses,.int .i64 d.cand,.int .i64 d.p.len,.ro 5 (Ee d.p.rules),.ro 1 (As d.p.g.pts),.ro 1 (As d.p.g.pri),.ro 2 (A0 d.p.en),.int .i64 d.p.mn,.bool d.p.var.num.neg,.ro 1 (Au d.p.var.num.mag),.ro 1 (Au d.p.var.den),.int .i64 d.p.cut,.bool d.p.lvl.num.neg,.ro 1 (Au d.p.lvl.num.mag),.ro 1 (Au d.p.lvl.den),.int .i64 d.p.top,.bool d.p.rate.num.neg,.ro 1 (Au d.p.rate.num.mag),.ro 1 (Au d.p.rate.den),.int .i64 d.p.slack,.ro 9 (B8 d.pool),.ro 17 (Hg d.items),.ro 1 (As d.ess),.ro 2 (A0 d.uses),.int .i64 d.served,.int .i64 d.sec,.int .i64 d.nu,.int .i64 d.de,.int .i64 d.ex,.int .u64 d.seed]:=rfl;rw [aa]at a|-;rw [y]at f a|-;have d0:=Cq d.p.rules;have d1:=Af d.p.g.pts;have d2:=Af d.p.g.pri;have d3:=A4 d.p.en;have d4:=Ah d.p.var.num.mag;have d5:=Ah d.p.var.den;have d6:=Ah d.p.lvl.num.mag;have d7:=Ah d.p.lvl.den;have d8:=Ah d.p.rate.num.mag;have d9:=Ah d.p.rate.den;have o:=B4 d.pool;have l:=Eu d.items;have u:=Af d.ess;have n:=A4 d.uses;generalize Ee d.p.rules=rv,As d.p.g.pts=pt,As d.p.g.pri=pr,A0 d.p.en=ev,Au d.p.var.num.mag=vm,Au d.p.var.den=vd,Au d.p.lvl.num.mag=lm,Au d.p.lvl.den=ld,Au d.p.rate.num.mag=rm,Au d.p.rate.den=rd at*;have aj:=Da d.pool;have am:=Fl d.items;have ao:=A5 d.ess;generalize B8 d.pool=lv,Hg d.items=ag,As d.ess=al,A0 d.uses=uv at*;have z1:=Af s.t.elig;have z2:=A4 s.t.steps;have z3:=Br s.t.w;have z4:=D0 s.ans;have z5:=Dh s.inc;have m:=Fz s.ans;have k:=Ey s.inc;generalize As s.t.elig=ti,A0 s.t.steps=ts,Bv s.t.w=tw,E7 s.ans=ak,Dc s.inc=ai at*;refine Bx func12 (fun w0 N0 hG=>?_);refine Aa [3,4,5,6] [3,4,5,6] sr (Ab (Ac (Am 1 sr ?_)));refine Be hG f func20 ?_ (hp:=by simp);refine Ag [3,4,5,6,8,9] [3,4,5,6,8] sr ?_;refine Ab (Aa [3,4,5,6,8,9,16] [3,4,5,6,8] sr ?_)
 refine Ao (fun h1=>?_) (fun h1=>Ae ?_)
 ·exact Aa [6,7] [6] sr (Ak (Ad sr (by rw [hE (by simpa using h1)];exact L8 (by simpa using h1) _)))
 have h:DE=0:=by simpa using h1
 replace a:=a h;replace c:=c h;refine Ab (Ac (Am 4 sr ?_));refine Be hG a func22 ?_ (hp:=by simp);refine Ag [6,7] [6] sr ?_;exact Ak (Ad sr (by rw [<- c];exact Bl.refl _))
theorem Akj:Bl (.agg [.int .i64 0,.int .i64 0,.int .i64 0,.int .i64 0,.nils,.nils,.int .i64 0,.nils,.int .u64 0,.int .i64 0,.nils,.nils]) Vi.v:=by
 have r:=fun x:V=>Bl.refl x
 exact(Bl.agg (.cons (r _) (.cons (r _) (.cons (r _) (.cons (r _) (.cons (Bl.nils 1) (.cons (Bl.nils 2) (.cons (r _) (.cons (Bl.nils 1) (.cons (r _) (.cons (r _) (.cons (Bl.nils 5) (.cons (Bl.nils 4) .nil)))))))))))))
theorem Ad6:AC prog 10 [] (fun r=>r=Vi.v):=by
 refine AC.relaxP ?_;refine Ay func10 (fun w0 N0=>?_);refine Aa [0] [0] sr (Aa [0] [0] sr ?_);exact Ak (Ad sr (Akj))
def Aml(d:Dl)(s:Se)(n:Int):Int:=if Gv d≠0 then Gv d else if Hw s n=false then 15 else 0
def Vj(d:Dl)(s:Se)(n:Int):Int:=if Gv d≠0\/Hw s n=false then 0 else if s.st=3 then 0 else Ada (Ej d s) (Gk s n)
theorem A9b(hS:Ic)(d:Dl)(s:Se)(n:Int)(hd:DlOk d):Hm gv prog 19 [d.v,s.v,.int .i64 n] (fun r=>r=.tup [.int .i64 (Vj d s n),.int .i64 (Aml d s n)]):=by
 have c8:=O0 hS d hd;have x:=Akh s n;have l:=Ab4 d s;have z:=Wq s n;have ad:=A8r (Ej d s) (Gk s n);unfold Vj Aml;generalize Gv d=m,Ej d s=lm,Gk s n=us at*;have ab:s.v=V.agg [.int .i64 s.st,.int .i64 s.us,.int .i64 s.la,.int .i64 s.sh,.ro 1 (As s.t.elig),.ro 2 (A0 s.t.steps),.int .i64 s.t.pend,.ro 1 (Bv s.t.w),.int .u64 s.t.draw,.int .i64 s.t.stop,.ro 5 (E7 s.ans),.ro 4 (Dc s.inc)]:=rfl;have aa:d.v=V.agg [.int .i64 d.ses,.int .i64 d.cand,.int .i64 d.p.len,.ro 5 (Ee d.p.rules),.ro 1 (As d.p.g.pts),.ro 1 (As d.p.g.pri),.ro 2 (A0 d.p.en),.int .i64 d.p.mn,.bool d.p.var.num.neg,.ro 1 (Au d.p.var.num.mag),.ro 1 (Au d.p.var.den),.int .i64 d.p.cut,.bool d.p.lvl.num.neg,.ro 1 (Au d.p.lvl.num.mag),.ro 1 (Au d.p.lvl.den),.int .i64 d.p.top,.bool d.p.rate.num.neg,.ro 1 (Au d.p.rate.num.mag),.ro 1 (Au d.p.rate.den),.int .i64 d.p.slack,.ro 9 (B8 d.pool),.ro 17 (Hg d.items),.ro 1 (As d.ess),.ro 2 (A0 d.uses),.int .i64 d.served,.int .i64 d.sec,.int .i64 d.nu,.int .i64 d.de,.int .i64 d.ex,.int .u64 d.seed]:=rfl;rw [ab]at x l z|-;rw [aa]at c8 l|-;have d0:=Cq d.p.rules;have d1:=Af d.p.g.pts;have d2:=Af d.p.g.pri;have d3:=A4 d.p.en;have d4:=Ah d.p.var.num.mag;have d5:=Ah d.p.var.den;have d6:=Ah d.p.lvl.num.mag;have d7:=Ah d.p.lvl.den;have d8:=Ah d.p.rate.num.mag;have d9:=Ah d.p.rate.den;have j:=B4 d.pool;have f:=Eu d.items;have k:=Af d.ess;have i:=A4 d.uses;generalize Ee d.p.rules=rv,As d.p.g.pts=pt,As d.p.g.pri=pr,A0 d.p.en=ev,Au d.p.var.num.mag=vm,Au d.p.var.den=vd,Au d.p.lvl.num.mag=lm,Au d.p.lvl.den=ld,Au d.p.rate.num.mag=rm,Au d.p.rate.den=rd at*;have af:=Da d.pool;have ai:=Fl d.items;have aj:=A5 d.ess;generalize B8 d.pool=lv,Hg d.items=ak,As d.ess=ah,A0 d.uses=uv at*;have z1:=Af s.t.elig;have z2:=A4 s.t.steps;have z3:=Br s.t.w;have z4:=D0 s.ans;have z5:=Dh s.inc;have h:=Fz s.ans;have e:=Ey s.inc;generalize As s.t.elig=ti,A0 s.t.steps=ts,Bv s.t.w=tw,E7 s.ans=ag,Dc s.inc=ae at*;refine Bx func19 (fun w0 N0 hG=>?_);refine Aa [2,3,4] [3,4] sr (Ab (Ab (Ac (Am 1 sr ?_))));refine Be hG c8 func8 ?_ (hp:=by simp);refine Ag [2,3,4,8] [3,4] sr ?_;refine Aa [2,3,4,8,12] [3,4] sr ?_
 refine Ao (fun h1=>?_) (fun h1=>Ae ?_)
 ·exact Aa [6,7] [] sr (Ak (Ad sr (by have y:m≠0:=(by simpa using h1);rw [if_pos (c:=m≠0\/Hw s n=false) (.inl y),if_pos y])))
 have h0:m=0:=by simpa using h1
 rw [if_neg (c:=m≠0) (by simp [h0])];refine Ab (Ab (Ac (Am 2 sr ?_)));refine Ai x func29 ?_ (hp:=by simp);refine Ag [2,3,4,17] [3,4] sr ?_
 refine Ao (fun h2=>?_) (fun h2=>Ae ?_)
 ·exact Aa [6,7] [] sr (Ak (Ad sr (by have u:Hw s n=false:=(by simpa using h2);rw [if_pos (c:=m≠0\/Hw s n=false) (.inr u),if_pos u])))
 have o:¬Hw s n=false:=by simpa using h2
 rw [if_neg (c:=m≠0\/Hw s n=false) (by rintro(a|a);exact a h0;exact o a),if_neg o];refine Ab (Aa [2,3,4,20] [3,4] sr ?_)
 refine Ao (fun h3=>?_) (fun h3=>Ae ?_)
 ·exact Aa [6,7] [] sr (Ak (Ad sr (by rw [if_pos (by simpa using h3)])))
 rw [if_neg (by simpa using h3)];refine Ab (C4 [(4,[]),(0,[]),(1,[]),(2,[]),(3,[]),(5,[]),(6,[]),(7,[]),(8,[])] Dm kr ?_);refine Ch 3 sr ?_;refine Bw (fun hg=>l) func31 rfl kr rfl rfl sr rfl rfl sr (by simp) sr ?_;refine Ch 1 sr ?_;refine Bw (fun hg=>z) func32 rfl kr rfl rfl sr rfl rfl sr (by simp) sr ?_;refine Bw (fun hg=>ad) func30 rfl kr rfl rfl sr rfl rfl sr sm sr ?_;refine C5 [6,7] [] sr ?_;exact Ak (Ad sr (by rfl))
section
def F0(l:List Ev):List V:=l.map Ev.v
@[simp]theorem Kx(l:List Ev):(F0 l).length=l.length:=by simp [F0]
theorem Q4{l:List Ev}{k:Nat}(h:k<l.length):Hs (F0 l) k=some l[k].v:=by rw [C1];simp [F0,h]
theorem Amm(e:Ev):(Ev.v e).pureE=true:=by
 have h:=Af e.an.ch;unfold Ev.v;simp [V.pureE,V.pureC]
theorem A9c(t:Te):(Te.v t).pureE=true:=by
 have h1:=Af t.elig;have h2:=A4 t.steps;have a:=Br t.w;unfold Te.v teV;simp [V.pureE,V.pureC]
theorem A9d(s:Se):(Se.v s).pureE=true:=by
 have h1:=Af s.t.elig;have h2:=A4 s.t.steps;have a:=Br s.t.w;have c:=D0 s.ans;have d:=Dh s.inc;unfold Se.v;simp [V.pureE,V.pureC]
theorem A9e(d:Dl):(Dl.v d).pureE=true:=by
 have m:=Cq d.p.rules;have r:=Af d.p.g.pts;have l:=Af d.p.g.pri;have n:=A4 d.p.en;have o:=Ah d.p.var.num.mag;have h:=Ah d.p.var.den;have k:=Ah d.p.lvl.num.mag;have j:=Ah d.p.lvl.den;have s:=Ah d.p.rate.num.mag;have i:=Ah d.p.rate.den;have e:=B4 d.pool;have f:=Eu d.items;have c:=Af d.ess;have a:=A4 d.uses;unfold Dl.v;simp [V.pureE,V.pureC]
theorem F8(l:List Ev):(F0 l).all V.pureE=true:=by
 rw [Ax];intro x a;simp only [F0,Bk]at a;obtain⟨n,_,rfl⟩:=a;exact Amm n
theorem Jv{S:AS}:∀ {cs:List V},cs.all V.pureC=true->S.viewL cs=some cs
 | [],_ =>rfl
 |v::r,h=>by
  rw [List.all_cons,Bm]at h
  have h1:S.viewC v=some v:=by
   have a:=h.1;clear h;unfold AS.viewC
   split
   ·exact absurd a (by simp [V.pureC])
   ·exact absurd a (by simp [V.pureC])
   ·rw [if_pos a]
  simp only [AS.viewL,h1,Jv h.2]
theorem Ba9{v:V}{cs:List V}(h:v.pureE=true)(e:v=.agg cs):cs.all V.pureC=true:=by subst e;exact h
theorem Aah{v:V}{cs:List V}{n:Nat}(h:v.pureE=true)(e:v=.agg cs)(d:cs.length=n):∃c,v=.agg c/\c.length=n/\c.take n=c/\c.all V.pureC=true/\c.all V.isCell=true:=
 ⟨cs,e,d,Bf om,Ba9 h e,Ax.2 fun x a=>Aep (Ax.1 (Ba9 h e) x a)⟩
theorem Aqm(d:Dl):∃c,d.v=.agg c/\c.length=30/\c.take 30=c/\c.all V.pureC=true/\c.all V.isCell=true:=Aah (A9e d) rfl rfl
theorem A43(t:Te):∃c,t.v=.agg c/\c.length=6/\c.take 6=c/\c.all V.pureC=true/\c.all V.isCell=true:=Aah (A9c t) rfl rfl
theorem Sy(s:Se):∃c,s.v=.agg c/\c.length=12/\c.take 12=c/\c.all V.pureC=true/\c.all V.isCell=true:=Aah (A9d s) rfl rfl
theorem Ag1(e:Ev):∃c,e.v=.agg c/\c.length=11/\c.take 11=c/\c.all V.pureC=true/\c.all V.isCell=true:=Aah (Amm e) rfl rfl
attribute [-simp] V.pureC V.isCell List.all_eq_true
@[simp]theorem Bd6(k:IntKind)(n:Int):(V.int k n).pureC=true:=rfl
@[simp]theorem Bc0:V.nils.pureC=true:=rfl
@[simp]theorem Bc1(k:IntKind)(n:Int):(V.int k n).isCell=true:=rfl
@[simp]theorem Bba:V.nils.isCell=true:=rfl
def Yf(d:Dl)(t:Te):Se->Nat->List Ev->Se × Nat × Int
 |s,k,[]=>(s,k,0)
 |s,k,e::l=>if Gw d t s e≠0 then(s,k,Gw d t s e)else Yf d t (H3 d t s e) (k+1) l
def Pg(d:Dl)(l:List Ev):Se × Nat × Int:=if Gv d≠0 then(Vi,0,Gv d)else Yf d (Cx d) Vi 0 l
def Atg(x:Se × Nat × Int):V:=.tup [x.1.v,.int .i64 x.2.1,.int .i64 x.2.2]
def ev0:Ev:=⟨0,0,⟨0,[],0,[],false⟩,⟨0,0,0,0⟩⟩
def Ec(d:Dl)(t:Te)(l:List Ev):Nat->Se
 |0=>Vi
 |k+1=>H3 d t (Ec d t l k) (l.getD k ev0)
theorem Ad7(hS:Ic)(d:Dl)(l:List Ev)(hd:DlOk d)(hl:l.length<=700)(ha:∀e∈l,e.an.small):
  Hm gv prog 15 [d.v,.ro 11 (F0 l)] (fun r=>r=Atg (Pg d l)):=by
 refine Hm.relaxP ?_;have af:=Yc hS d hd;unfold teR at af;have aq:=Ad6;obtain⟨tt,aj⟩:∃tt,tt=(if Gv d=0 then Cx d else W2):=⟨_,rfl⟩;rw [<- aj]at af;have hE:Gv d≠0->Pg d l=(Vi,0,Gv d):=fun h0=>by unfold Pg;rw [if_pos h0]
 have hG:Gv d=0->tt=Cx d/\Pg d l=Yf d tt Vi 0 l/\AdP d.p d.pool/\teB 0 tt:=fun h0=>by
  have:tt=Cx d:=by rw [aj,if_pos h0]
  refine⟨this,?_,(Ab6 h0 hd).1,this▸(Ab6 h0 hd).2.1⟩;unfold Pg;rw [if_neg (by simp [h0]),this]
 have ba:=Kx l;have qn:=fun(k:Nat)(h:k<l.length)=>Q4 h
 have pl:=F8 l;have a3:l.length<=700:=hl;clear aj;have ah:Ec d tt l 0=Vi:=rfl;have al:∀k,Ec d tt l (k+1)=H3 d tt (Ec d tt l k) (l.getD k ev0):=fun k=>rfl
 have a5:∀(s:Se)(e:Ev)(n:Nat),Gv d=0->e∈l->SeB n s->n<=800->Hm gv prog 22 [d.v,tt.v,s.v,e.v] (fun r=>r=.tup [(if Gw d tt s e=0 then H3 d tt s e else Vi).v,.int .i64 (Gw d tt s e)]):=fun s e n h0 he hs hn=>by
  obtain⟨_,_,h1,h2⟩:=hG h0;exact Ac1 hS d tt s e hd (ha e he) h1 h2.1 (fun x hx=>Aj (h2.2.1 x hx) dc) (hs.ok hn) (hs.w998 hn) (Aj hs.st om)
 have ai:∀k(hk:k<l.length),Pg d l=Yf d tt (Ec d tt l k) k (l.drop k)->Gw d tt (Ec d tt l k) l[k]=0->Pg d l=Yf d tt (Ec d tt l (k+1)) (k+1) (l.drop (k+1)):=fun k hk h1 h2=>by
  rw [h1,Bu hk,Yf,if_neg (by simp [h2]),al,Cv,Al hk];rfl
 have ak:∀k(hk:k<l.length),Pg d l=Yf d tt (Ec d tt l k) k (l.drop k)->Gw d tt (Ec d tt l k) l[k]≠0->Pg d l=(Ec d tt l k,k,Gw d tt (Ec d tt l k) l[k]):=fun k hk h1 h2=>by
  rw [h1,Bu hk,Yf,if_pos h2]
 have a0:Pg d l=Yf d tt (Ec d tt l l.length) l.length (l.drop l.length)->Pg d l=(Ec d tt l l.length,l.length,0):=fun h1=>by
  rw [h1,Ca,Yf]
 have hB:∀k(hk:k<l.length),Gv d=0->SeB k (Ec d tt l k)->Gw d tt (Ec d tt l k) l[k]=0->SeB (k+1) (Ec d tt l (k+1)):=fun k hk h0 hs h1=>by
  obtain⟨_,_,h2,h3⟩:=hG h0;rw [al,Cv,Al hk];exact Amk h2 h3 (ha _ (Aw hk)) h1 hs om
 obtain⟨dc,a2,d1,d2,i,j⟩:=Aqm d;obtain⟨tc,av,w,o,y,t⟩:=A43 tt;have ad:∀k,∃c,(Ec d tt l k).v=.agg c/\c.length=12/\c.take 12=c/\c.all V.pureC=true/\c.all V.isCell=true:=fun k=>Sy _
 obtain⟨sc,ad⟩:=Classical.axiomOfChoice ad;have bf:∀k,∃c,(l.getD k ev0).v=.agg c/\c.length=11/\c.take 11=c/\c.all V.pureC=true/\c.all V.isCell=true:=fun k=>Ag1 _
 obtain⟨z0,ao,u,g,f,z⟩:=Sy Vi;rw [a2]at af|-;rw [ao]at aq;rw [av]at af;generalize be:Pg d l=RF at*;generalize bd:Ec d tt l=K at*;generalize F0 l=lv at*;have m:=fun S:AS=>Jv (S:=S) f
 have a7:sc 0=z0:=by have h:=(ad 0).1;rw [ah,ao]at h;injection h with h;exact h.symm
 refine Bx func15 (fun w0 N0 au=>?_);refine Aa [1,2,4] [2,4] (by simp [ntmps15,d1,j]<;>rfl) (Ab (Ac (Am 1 (by simp [d1,d2]<;>rfl) ?_)));refine Ho au af func20 rfl kr sm rfl rfl rfl (by simp<;>rfl) (by simp [i]) (by simp<;>rfl) ?_;refine Ag [1,2,4,7,8] [2,4,7] (by simp [w,t]<;>rfl) ?_;refine Ab (Aa [1,2,4,7,8,20] [2,4,7] (by simp<;>rfl) ?_)
 refine Ao (fun h1=>?_) (fun h1=>Ae ?_)
 ·refine Aa [4,5,6] [4] (by simp<;>rfl) ?_;exact Ak (Ad (by simp [results15]<;>rfl) (by rw [hE (by simpa using h1)];exact Bl.tup (.cons Akj (.cons (Bl.refl _) (.cons (Bl.refl _) .nil)))))
 have h0:Gv d=0:=by simpa using h1
 obtain⟨_,a6,bc,bb⟩:=hG h0;refine Ab (Ac (Jk aq func10 rfl kr rfl rfl rfl (by simp<;>rfl) sm (by simp<;>rfl) ?_));refine Ag [1,2,4,7,9] [2,4,7,9] (by simp [u,z]<;>rfl) ?_;refine Ab (Aa [1,2,4,7,9,24,25,26] [2,4,7,9] (by simp<;>rfl) (Ap ?_));refine Bq (fun k nx=>⟨[(1,V.ro 11 lv),(2,V.bp 2 0 30 0 0),(4,V.bp 4 1 12 0 0),(7,V.bp 7 9 6 0 0),(9,V.bp 9 15 12 0 0),(24,V.ro 11 lv),(25,V.int .i64 lv.length),(26,V.int .i64 k)],[(2,⟨0,30,44,[V.agg dc]⟩),(4,⟨1,12,58,[V.agg [.int .i64 0,.int .i64 0,.int .i64 0,.int .i64 0,.nils,.nils,.int .i64 0,.nils,.int .u64 0,.int .i64 0,.nils,.nils]]⟩),(7,⟨9,6,54,[V.agg tc]⟩),(9,⟨15,12,58,[V.agg (sc k)]⟩)],nx,49⟩) (fun k=>RF=Yf d tt (K k) k (l.drop k)/\SeB k (K k)) l.length _ ⟨by rw [ah];exact a6,by rw [ah];exact SeB.new⟩ (by simp only [a7];exact AS.le_refl _) ?_;intro k nx hk hI;refine Aa [1,2,4,7,9,24,25,26,27] [2,4,7,9] (by simp<;>rfl) (Ab ?_)
 refine Ao (fun h2=>Ae ?_) (fun h2=>?_)
 ·have ab:k<l.length:=by simp at h2;omega
  have ga:=qn k ab;have ar:k<lv.length:=om;have C9:=A7 (k:=k) om;have ag:=a5 (K k) l[k] k h0 (Aw ab) hI.2 om;have ay:=ai k ab hI.1;have ax:=ak k ab hI.1;have a8:=hB k ab h0 hI.2;obtain⟨ec,a1,e1,e2,e3,e4⟩:=Ag1 l[k];have a:=ad k;have aa:(sc k).drop 12= []:=Fx (Js a.2.1);have vk:=fun S:AS=>Jv (S:=S) a.2.2.2.1
  have az:=ad (k+1);obtain⟨rc,ae,r1,r2,r3,r4⟩:=Sy (if Gw d tt (K k) l[k]=0 then H3 d tt (K k) l[k]else Vi);rw [a2,av,a.1,a1,ae]at ag;rw [a1]at ga;have aw:K (k+1)=H3 d tt (K k) l[k]:=by rw [al,Cv,Al ab];rfl
  generalize l[k]=e at*;generalize bg:Gw d tt (K k) e=PE at*;refine Ab (Ap (Aa [1,2,4,7,9,10,11,24,25,26] [2,4,7,9,11] (by simp [ga,ar,e1,e2,e4]<;>rfl) (Ab (Ac (Am 4 (by simp [e1,e2,a.2.1,a.2.2.1,d1,d2,w,o]<;>rfl) ?_)))));refine Ho au ag func22 rfl kr sm rfl rfl rfl (by simp<;>rfl) (by simp [i,y,e3,a.2.2.2.1]) (by simp<;>rfl) ?_;refine Ag [1,2,4,7,9,10,12,13,24,25,26] [2,4,7,9,12] (by simp [r1,r4]<;>rfl) ?_;refine Ab (Aa [1,2,4,7,9,10,12,13,24,25,26,40] [2,4,7,9,12] (by simp<;>rfl) ?_)
  refine Ao (fun h3=>?_) (fun h3=>Ae ?_)
  ·refine Aa [4,5,6] [4] (by simp [a.2.1,a.2.2.1,a.2.2.2.2]<;>rfl) ?_;exact Ak (Ad (by simp [results15,a.2.1,a.2.2.1,vk]<;>rfl) (by rw [ax (by simpa using h3)];unfold Atg;rw [a.1];exact Bl.refl _))
  have hz:PE=0:=by simpa using h3
  rw [if_pos hz,<- aw]at ae;have a4:rc=sc (k+1):=by rw [az.1]at ae;injection ae with ae;exact ae.symm
  subst a4;refine A2 [1,2,4,7,9,24,25,26] [2,4,7,9] (by simp [r1,r2,r4,aa,a.2.1]<;>rfl) (A2 [1,2,4,7,9,24,25,26] [2,4,7,9] (by simp [C9]<;>rfl) ?_);exact⟨ab,⟨ay hz,a8 hz⟩,_,AS.le_refl _⟩
 ·refine A9 ?_;have a:=ad k;have aa:(sc k).drop 12= []:=Fx (Js a.2.1);have vk:=fun S:AS=>Jv (S:=S) a.2.2.2.1
  have am:k=l.length:=by simp at h2;omega
  have a9:=a0 (am▸hI.1);refine Aa [4,5,6] [4] (by simp [a.2.1,a.2.2.1,a.2.2.2.2]<;>rfl) ?_;exact Ak (Ad (by simp [results15,a.2.1,a.2.2.1,vk]<;>rfl) (by rw [a9];unfold Atg;rw [<- am,a.1,am,<- ba];exact Bl.refl _))
end
section
theorem Vk{cs:List V}(h:cs.all V.pureC=true)(d v sz:Nat)(es:List V):cs.map (V.frzC d v sz es)=cs:=by
 have:=Ajo d v sz es (show(V.agg cs).pureE=true from h);injection this
@[simp]theorem Bez(sz:Nat)(es:List V):(V.ro sz es).pureC=true:=rfl
def Adf(d:Dl):Bool:=if 9<d.pool.length\/14<d.items.length\/20<d.p.en.length\/40<d.uses.length then false else decide (Fm d.p.rules<=3)
def Aqn(l:List Ru)(k:Nat):Nat:=Fm (l.take k)
theorem Ayz{l:List Ru}{k:Nat}(h:k<l.length):Aqn l (k+1)=Aqn l k+T8 l[k]:=by
 unfold Aqn;rw [A3 h,Zv];simp [Fm]
theorem Ph(d:Dl)(hb:d.p.rules.length<=4000000/\d.pool.length<=4000000/\d.items.length<=4000000/\d.p.en.length<=4000000/\d.uses.length<=4000000):AC prog 7 [d.v] (fun r=>r=.bool (Adf d)):=by
 obtain⟨b1,b2,b3,b4,b5⟩:=hb;have lr:=Qv d.p.rules;have qr:=fun(k:Nat)(h:k<d.p.rules.length)=>Sn h
 have hs:=fun(k:Nat)(h:k<d.p.rules.length)=>Ayz h
 have m:Aqn d.p.rules 0=0:=rfl;have n:Aqn d.p.rules d.p.rules.length=Fm d.p.rules:=by unfold Aqn;rw [Bo]
 have e:=fun k=>Aj (Zw (d.p.rules.take k)) (Dy k d.p.rules)
 have f:∀k,Aqn d.p.rules k<=k:=e;clear e;unfold Adf;rw [<- n];have x:=Dq d.p.en;have ab:=Dq d.uses;have j:d.v=V.agg [.int .i64 d.ses,.int .i64 d.cand,.int .i64 d.p.len,.ro 5 (Ee d.p.rules),.ro 1 (As d.p.g.pts),.ro 1 (As d.p.g.pri),.ro 2 (A0 d.p.en),.int .i64 d.p.mn,.bool d.p.var.num.neg,.ro 1 (Au d.p.var.num.mag),.ro 1 (Au d.p.var.den),.int .i64 d.p.cut,.bool d.p.lvl.num.neg,.ro 1 (Au d.p.lvl.num.mag),.ro 1 (Au d.p.lvl.den),.int .i64 d.p.top,.bool d.p.rate.num.neg,.ro 1 (Au d.p.rate.num.mag),.ro 1 (Au d.p.rate.den),.int .i64 d.p.slack,.ro 9 (B8 d.pool),.ro 17 (Hg d.items),.ro 1 (As d.ess),.ro 2 (A0 d.uses),.int .i64 d.served,.int .i64 d.sec,.int .i64 d.nu,.int .i64 d.de,.int .i64 d.ex,.int .u64 d.seed]:=rfl;rw [j];have d0:=Cq d.p.rules;have d1:=Af d.p.g.pts;have d2:=Af d.p.g.pri;have d3:=A4 d.p.en;have d4:=Ah d.p.var.num.mag;have d5:=Ah d.p.var.den;have d6:=Ah d.p.lvl.num.mag;have d7:=Ah d.p.lvl.den;have d8:=Ah d.p.rate.num.mag;have d9:=Ah d.p.rate.den;have aa:=B4 d.pool;have o:=Eu d.items;have ad:=Af d.ess;have y:=A4 d.uses;generalize Ee d.p.rules=l,As d.p.g.pts=pt,As d.p.g.pri=pr,A0 d.p.en=ev,Au d.p.var.num.mag=vm,Au d.p.var.den=vd,Au d.p.lvl.num.mag=lm,Au d.p.lvl.den=ld,Au d.p.rate.num.mag=rm,Au d.p.rate.den=rd at*;have s:=Da d.pool;have w:=Fl d.items;have z:=A5 d.ess;generalize B8 d.pool=lv,Hg d.items=ae,As d.ess=af,A0 d.uses=uv,Aqn d.p.rules=sk at*;refine Ay func7 (fun w0 N0=>?_);refine Aa [1] [1] sr (Ab (Aa [1,28] [1] (by simp [s,w,x,ab]<;>rfl) ?_))
 refine Ao (fun h1=>?_) (fun h1=>Ae ?_)
 ·exact Aa [2] [] sr (Ak (Ad sr (by rw [if_pos (by simp at h1;omega)])))
 rw [if_neg (by simp at h1;omega)];refine Aa [1,3] [1] sr (Ab (Aa [3,32,33,34] [] sr (Ap (Bq (fun k nx=>⟨[(3,V.int .i64 (sk k)),(32,V.ro 5 l),(33,V.int .i64 l.length),(34,V.int .i64 k)],[],nx,46⟩) (fun k=>True) d.p.rules.length _ trivial (by simp only [m];exact AS.le_refl _) ?_))));intro k nx hk hI;refine Aa [3,32,33,34,35] [] sr (Ab ?_)
 refine Ao (fun h2=>Ae ?_) (fun h2=>?_)
 ·have c:k<d.p.rules.length:=by simp at h2;omega
  have i:k<l.length:=om;have ga:=qr k c;have a:=hs k c;have C9:=A7 (k:=k) om;have Pq:=A7 (k:=sk k) (by have:=f k;omega);unfold Ru.v Ru.cs at ga;unfold T8 at a;generalize d.p.rules[k]=r at*;refine Ab (Ap (Aa [3,5,32,33,34] [5] (by simp [ga,i]<;>rfl) (Aa [3,32,33,34,40] [] sr ?_)))
  refine Ao (fun u=>?_) (fun u=>Ae ?_)
  ·rw [if_pos (by simpa using u)]at a;refine A2 [3,32,33,34] [] (by simp [Pq]<;>rfl) (A2 [3,32,33,34] [] (by simp [C9]<;>rfl) ?_);exact⟨c,trivial,_,by rw [a];exact AS.le_refl _⟩
  rw [if_neg (by simpa using u)]at a;refine A2 [3,32,33,34] [] (by simp [C9]<;>rfl) ?_;exact⟨c,trivial,_,by rw [a];exact AS.le_refl _⟩
 ·refine A9 ?_;have t:k=d.p.rules.length:=by simp at h2;omega
  subst t;exact Aa [2] [] sr (Ak (Ad sr (by congr 1;apply Mv.2;simp;omega)))
theorem Ath(l:List Ev)(hl:l.length<=4000000):AC prog 11 [.ro 11 (F0 l)] (fun r=>r=.ro 11 (F0 (l.take 14))):=by
 have ll:=Kx l;have pl:=F8 l;have d:F0 (l.take 14)=(F0 l).take 14:=Jz;rw [d];generalize F0 l=c at*;refine Ay func11 (fun w0 N0=>?_);refine Aa [0] [] sr (Ab (Aa [0,5] [] sr ?_))
 refine Ao (fun h1=>?_) (fun h1=>Ae ?_)
 ·have a:(14:Int)<=c.length:=by simp at h1;omega
  exact Aa [2] [] (by simp [a]<;>rfl) (Ak (Ad sr sm))
 have a:c.length<=14:=by simp at h1;omega
 exact Aa [2] [] sr (Ak (Ad sr (by rw [Bf a])))
attribute [-simp] V.pureC V.isCell List.all_eq_true
def Vl(d:Dl)(x:Se × List Ev)(e:Ev):Se × List Ev:=if K9 d x.1 e=0 then(Sx d x.1 e,x.2++[e])else x
def Gc(d:Dl)(l:List Ev):Se × List Ev:=l.foldl (Vl d) (Vi,[])
theorem Qk(d:Dl){l:List Ev}{k:Nat}(h:k<l.length):Gc d (l.take (k+1))=Vl d (Gc d (l.take k)) l[k]:=by
 unfold Gc;rw [A3 h,List.foldl_append];rfl
theorem A44{d:Dl}{s:Se}{e:Ev}{n:Nat}(c:DlOk d)(g:e.an.small)(h:K9 d s e=0)(hs:SeB n s)(f:n<=800):SeB (n+1) (Sx d s e):=by
 have a:Gv d=0/\Gw d (Cx d) s e=0:=by
  unfold K9 at h;split at h
  ·omega
  ·exact⟨by omega,h⟩
 obtain⟨h1,h2,_⟩:=Ab6 a.1 c;exact Amk h1 h2 g a.2 hs f
theorem Aai{d:Dl}(i:DlOk d):∀ {l:List Ev},l.length<=700->(∀e∈l,e.an.small)->(Gc d l).2.length<=l.length/\SeB l.length (Gc d l).1/\∀e∈(Gc d l).2,e∈l:=by
 intro l hl h
 have f:∀k,k<=l.length->(Gc d (l.take k)).2.length<=k/\SeB k (Gc d (l.take k)).1/\∀e∈(Gc d (l.take k)).2,e∈l:=by
  intro k
  induction k with
  |zero=>exact fun _ =>⟨A8 _,SeB.new,fun e a=>by cases a⟩
  |succ k ih=>
   intro hk;obtain⟨i1,c,g⟩:=ih om;rw [Qk d (by omega)]
   unfold Vl;split
   ·rename_i j;refine⟨by simp;omega,A44 i (h _ (Aw _)) j c om,fun e a=>?_⟩
    rcases B3.1 a with a|a
    ·exact g e a
    ·rw [By.1 a];exact Aw _
   ·refine⟨by omega,?_,g⟩;exact SeB.mk' (Q3 c.te (Nat.le_succ k)) (Eb c.al) c.ac (Eb c.il)
 have:=f l.length (A8 _)
 rwa [Bo]at this
set_option maxHeartbeats 16000000 in
theorem Aaj(hS:Ic)(d:Dl)(l:List Ev)(hd:DlOk d)(hl:l.length<=4000000)(ha:∀e∈l,e.an.small):
  Hm gv prog 14 [d.v,.ro 11 (F0 l)] (fun r=>r=.tup [(Gc d (l.take 14)).1.v,.ro 11 (F0 (Gc d (l.take 14)).2)]):=by
 have ar:=Ad6
 have a0:=Ath l hl
 have ay:∀e∈l.take 14,e.an.small:=fun e he=>ha e (Bz he)
 have a9:(l.take 14).length<=14:=Dy 14 l
 have a:=F8 l
 generalize F0 l=a8 at*
 generalize l.take 14=m at*
 have ag:∀k,(Gc d (m.take k)).2.length<=k/\SeB k (Gc d (m.take k)).1:=fun k=>by
  obtain⟨h1,h2,_⟩:=Aai hd (l:=m.take k) (by have:=Dy k m;have:=List.length_take_le' k m;omega) (fun e he=>ay e (Bz he))
  have hk:=Dy k m
  exact⟨Aj h1 hk,SeB.mk' (Q3 h2.te hk) (Aj h2.al hk) h2.ac (Aj h2.il hk)⟩
 have aq:=fun(k:Nat)(h:k<m.length)=>Qk d h
 have au:Gc d (m.take 0)=(Vi,[]):=by rw [H0];rfl
 have az:Gc d (m.take m.length)=Gc d m:=by rw [Bo]
 rw [<- az]
 have a4:∀k(h:k<m.length),Hm gv prog 12 [d.v,(Gc d (m.take k)).1.v,m[k].v] (fun r=>r=.tup [(if K9 d (Gc d (m.take k)).1 m[k]=0 then Sx d (Gc d (m.take k)).1 m[k]else Vi).v,.int .i64 (K9 d (Gc d (m.take k)).1 m[k])]):=fun k h=>
  Qj hS d _ _ hd (ay _ (Aw h)) ((ag k).2.ok (by omega)) ((ag k).2.w998 (by omega)) (Aj (ag k).2.st (by omega))
 generalize hA:(fun k=>Gc d (m.take k))=A
 have a1:∀k,Gc d (m.take k)=A k:=fun k=>by rw [<- hA]
 clear hA
 simp only [a1]at*
 have ah:∀k,∃c,(A k).1.v=.agg c/\c.length=12/\c.take 12=c/\c.all V.pureC=true/\c.all V.isCell=true:=fun k=>Sy _
 obtain⟨sc,ah⟩:=Classical.axiomOfChoice ah
 obtain⟨dc,de,i,z,f,s⟩:=Aqm d
 have o:=fun S:AS=>Jv (S:=S) f
 have w:dc.drop 30= []:=Fx (Js i)
 have t:=Vk f
 obtain⟨zc,ez,u,j,g,y⟩:=Sy Vi
 have n:=fun S:AS=>Jv (S:=S) g
 rw [ez]at ar
 rw [de]
 have a2:sc 0=zc:=by have h:=(ah 0).1;rw [au]at h;simp only [ez]at h;injection h with h;exact h.symm
 have lm:=Kx m
 have pm:=F8 m
 have qm:=fun(k:Nat)(h:k<m.length)=>Q4 h
 have fK:∀k,F0 (A k).2=F0 (A k).2:=fun k=>rfl
 have pK:=fun k=>F8 (A k).2
 have lK:=fun k=>Kx (A k).2
 generalize a3:(fun k=>F0 (A k).2)=EK
 have ad:∀k,F0 (A k).2=EK k:=fun k=>by rw [<- a3]
 have a5:EK 0= []:=by rw [<- ad,au];rfl
 generalize F0 m=mv at*
 refine Aix func14 rfl (by show(2:Nat)<=37;omega) (fun w0 N0 hG=>?_)
 refine Aa [1,2,4] [2,4] (by simp [ntmps14,i,s]<;>rfl) ?_
 refine Ab (Ac ?_)
 refine Jk ar func10 rfl (by kernel_rfl) rfl rfl rfl (by simp<;>rfl) (by simp) (by simp<;>rfl) ?_
 refine Ag [1,2,4,6] [2,4,6] (by simp [u,y]<;>rfl) ?_
 refine Aa [1,2,4,6,7] [2,4,6] (by simp<;>rfl) ?_
 refine Ab ?_
 refine Ab (Ac ?_)
 refine Am 1 (by simp<;>rfl) ?_
 refine Jk a0 func11 rfl (by kernel_rfl) rfl rfl rfl (by simp<;>rfl) (by simp) (by simp<;>rfl) ?_
 refine Ag [2,4,6,7,14,15,16] [2,4,6] (by simp<;>rfl) ?_
 refine F5 7 100 11 66 [2,4,6,7,14,15,16] [2,4,6,100] (by simp<;>rfl) (by simp<;>rfl) ?_
 refine Ap ?_
 refine Dr (fun x:Nat × Nat × Nat=>⟨[(2,V.bp 2 0 30 0 0),(4,V.bp 4 1 12 0 0),(6,V.bp 6 4 12 0 0),(7,V.sl 100 x.2.1 11 (EK x.1).length),(14,V.ro 11 mv),(15,V.int .i64 mv.length),(16,V.int .i64 x.1)],[(2,⟨0,30,44,[V.agg dc]⟩),(4,⟨1,12,58,[V.agg [.int .i64 0,.int .i64 0,.int .i64 0,.int .i64 0,.nils,.nils,.int .i64 0,.nils,.int .u64 0,.int .i64 0,.nils,.nils]]⟩),(6,⟨4,12,58,[V.agg (sc x.1)]⟩),(100,⟨x.2.1,11,66,EK x.1⟩)],x.2.2,37⟩) (fun x=>x.1<=m.length) (fun x=>m.length-x.1) (0,_,_) (B6 _) (by simp only [a2,a5];exact AS.le_refl _) ?_
 rintro⟨k,qv,nx⟩hk
 simp only at hk|-
 refine Aa [2,4,6,7,14,15,16,17] [2,4,6,100] (by simp<;>rfl) ?_
 refine Ab ?_
 refine A6 rfl (fun h1=>Ae ?_) (fun h1=>?_)
 ·have ai:k<m.length:=by simp at h1;omega
  have av:k<mv.length:=by omega
  have ga:=qm k ai
  have C9:=A7 (k:=k) (by omega)
  have am:=a4 k ai
  have ab:=aq k ai
  have aa:=ah k
  have ao:=ah (k+1)
  obtain⟨ec,ee,e1,e2,e3,e4⟩:=Ag1 m[k]
  have ev:=fun S:AS=>Jv (S:=S) e3
  have ed:ec.drop 11= []:=Fx (Js e1)
  have ef:=Vk e3
  obtain⟨rc,re,r1,r2,r3,r4⟩:=Sy (if K9 d (A k).1 m[k]=0 then Sx d (A k).1 m[k]else Vi)
  have rv:=fun S:AS=>Jv (S:=S) r3
  have rd:rc.drop 12= []:=Fx (Js r1)
  have rf:=Vk r3
  have s1:=aa.2.1
  have s2:=aa.2.2.1
  have s3:=aa.2.2.2.1
  have s4:=aa.2.2.2.2
  have sv:=fun S:AS=>Jv (S:=S) s3
  have sd:(sc k).drop 12= []:=Fx (Js s1)
  have sf:=Vk s3
  rw [de,aa.1,ee,re]at am
  rw [ee]at ga
  have aw:K9 d (A k).1 m[k]=0->EK (k+1)=EK k++[V.agg ec]/\sc (k+1)=rc:=fun h0=>by
   unfold Vl at ab
   rw [if_pos h0]at ab
   refine⟨?_,?_⟩
   ·rw [<- ad,<- ad,ab];simp [F0,ee]
   ·have h:=ao.1
    rw [ab]at h
    rw [if_pos h0]at re
    rw [re]at h
    injection h with h;exact h.symm
  have ax:¬K9 d (A k).1 m[k]=0->EK (k+1)=EK k/\sc (k+1)=sc k:=fun h0=>by
   unfold Vl at ab
   rw [if_neg h0]at ab
   refine⟨?_,?_⟩
   ·rw [<- ad,<- ad,ab]
   ·have h:=ao.1
    rw [ab,aa.1]at h
    injection h with h;exact h.symm
  generalize K9 d (A k).1 m[k]=ae at*
  have aj:=lK k
  rw [ad]at aj
  have a7:=(ag k).1
  have af:(EK k).length+1<=maxLen/\((EK k).length+1)*112<=140737488355328:=⟨Aj (show(EK k).length+1<=1001 by omega) (by decide),by omega⟩
  refine Ab ?_
  refine Ap ?_
  refine Aa [2,4,6,7,9,14,15,16] [2,4,6,9,100] (by simp [ga,av,e1,e2,e4]<;>rfl) ?_
  refine Ab (Ac ?_)
  refine Am 3 (by simp [e1,e2,s1,s2,i,z]<;>rfl) ?_
  refine Ho hG am func12 rfl (by kernel_rfl) (by simp) rfl rfl rfl (by simp<;>rfl) (by simp [e3,s3,f]) (by simp<;>rfl) ?_
  refine Ag [2,4,6,7,9,10,11,14,15,16] [2,4,6,9,10,100] (by simp [r1,r4]<;>rfl) ?_
  refine Aa [2,4,6,7,9,10,14,15,16,28] [2,4,6,9,10,100] (by simp<;>rfl) ?_
  refine A6 rfl (fun h2=>?_) (fun h2=>Ae ?_)
  ·obtain⟨g1,g2⟩:=aw (by simpa using h2)
   refine Aa [2,4,6,7,9,14,15,16] [2,4,6,9,100] (by simp [r1,r2,r4,s1,sd]<;>rfl) ?_
   refine A2 [2,4,6,7,14,15,16] [2,4,6,33,100] (by simp [af,e1,e2,e4]<;>rfl) ?_
   refine A2 [2,4,6,7,14,15,16] [2,4,6,33,100] (by simp [C9]<;>rfl) ?_
   exact⟨(k+1,_,_),ai,by simp only;omega,by simp only [g1,g2,Bi,List.length_singleton];exact AS.le_refl _⟩
  obtain⟨g1,g2⟩:=ax (by simpa using h2)
  refine A2 [2,4,6,7,14,15,16] [2,4,6,100] (by simp [C9]<;>rfl) ?_
  exact⟨(k+1,_,_),ai,by simp only;omega,by simp only [g1,g2];exact AS.le_refl _⟩
 ·refine A9 ?_
  have a6:k=m.length:=by simp at h1;omega
  subst a6
  have aa:=ah m.length
  have s1:=aa.2.1
  have s2:=aa.2.2.1
  have s3:=aa.2.2.2.1
  have s4:=aa.2.2.2.2
  have sv:=fun S:AS=>Jv (S:=S) s3
  have sd:(sc m.length).drop 12= []:=Fx (Js s1)
  have sf:=Vk s3
  have ak:=pK m.length
  have aj:=lK m.length
  rw [ad]at ak aj
  refine Bt 100 [4,6,7] [4,6] (by simp [ak,aj,sf,t]<;>rfl) ?_
  refine Aa [4,5] [4] (by simp [s1,s2,s4]<;>rfl) ?_
  exact Ak (Ad (by simp [results14,s1,s2,sv]<;>rfl) (by rw [ad,aa.1]))
end
theorem Ati{a b:List V}(h:RelaxL a b):a.length=b.length/\∀(j:Nat)c d,a[j]? =some c->b[j]? =some d->Bl c d:=
 ⟨h.length,fun j c d h1 h2=>by obtain⟨v,e,f⟩:=h.get j d h2;rw [h1]at e;injection e with e;rw [e];exact f⟩
inductive RelaxE:List V->List V->Prop
 |nil:RelaxE [] []
 |cons {a b:List V} {l m:List V} (h:RelaxL a b) (t:RelaxE l m):RelaxE (.agg a::l) (.agg b::m)
theorem RelaxE.toL{l m:List V}(h:RelaxE l m):RelaxL l m:=by
 induction h with
 |nil=>exact .nil
 |cons h _ ih=>exact .cons (Bl.agg h) ih
theorem RelaxE.get{l m:List V}(h:RelaxE l m):∀(k:Nat)e f,l[k]? =some e->m[k]? =some f->e.cells.length=f.cells.length/\(∀(j:Nat)c d,e.cells[j]? =some c->f.cells[j]? =some d->Bl c d):=by
 induction h with
 |nil=>intro k e f h;simp at h
 |cons h _ ih=>
  intro k e f h1 h2
  rcases k with _ |k
  ·simp at h1 h2;subst h1;subst h2;exact Ati h
  ·simp at h1 h2;exact ih k e f h1 h2
theorem Bl.roE{sz:Nat}{l m:List V}(h:RelaxE l m):Bl (.ro sz l) (.ro sz m):=Bl.ro h.toL h.get
def an0:An:=⟨0,[],0,[],false⟩
def in0:In4:=⟨0,0,0,0⟩
def rr0:RR:=⟨⟨false,[]⟩,[]⟩
def A45:Po:={ len:=1,rules:=[],g:=⟨[-100,100],[1,1]⟩,en:=[],mn:=0,var:=rr0,cut:=0,lvl:=rr0,top:=1,rate:=⟨⟨false,[1]⟩,[1]⟩,slack:=0}
def Yg:Pit:={ id:=3,code:=[65],fam:=0,st:=0,wo:=0,se:=1,pt:=1,ky:=0,m:=[[800,200],[200,800]]}
def Bc2:It:=⟨3,1,1,[79,110,101,32,97,110,100,32,111,110,101,63],[[50],[51]],[0],0,0,[],1,[65],0,0,5,60,[],0⟩
def Be0:It:=⟨4,1,6,[87,104,121,63],[],[],0,0,[],5,[65],0,0,5,60,[],1⟩
def Pj:Dl:={ ses:=1,cand:=1,p:=A45,pool:=[Yg],items:=[Bc2,Be0],ess:=[4],uses:=[],served:=0,sec:=60,nu:=3,de:=2,ex:=0,seed:=0}
def Aic:List Ev:=[⟨1,10,an0,in0⟩,⟨2,30,⟨3,[0],0,[],false⟩,in0⟩]
theorem Ay0:Gv Pj=0:=by decide+kernel
theorem A9f:(Pg Pj Aic).2=(2,0)/\(Pg Pj Aic).1.us=20/\(Pg Pj Aic).1.sh=4/\(Pg Pj Aic).1.st=1/\(Pg Pj Aic).1.ans.length=1:=by decide+kernel
def Bc3:V:=.agg [.int .i64 1,.nils,.ro 1 (As [-100,100]),.ro 1 (As [1,1]),.nils,.int .i64 0,.bool false,.nils,.nils,.int .i64 0,.bool false,.nils,.nils,.int .i64 1,.bool false,.ro 1 (Au [1]),.ro 1 (Au [1]),.int .i64 0,.ro 9 (B8 [Yg]),.nils,.int .i64 0,.int .u64 0]
theorem A46:AC prog 40 [] (fun r=>r=Bc3):=by
 unfold Bc3;refine Ay func40 (fun w0 N0=>?_);refine Aa [0] [0] sr (Aa [0,1] [0,5,6,1] sr (Bt 5 [0,1] [0,1,6] sr (Bt 6 [0,1] [0,1] sr (Aa [0,1,2] [0,1,2,8,9,10] sr (Bt 8 [0,1,2] [0,1,2,9,10] sr (Bt 9 [0,1,2] [0,1,2,10] sr (Bt 10 [0,1,2] [0,1,2] sr (Aa [0,1,2,3] [0,1,2,3,12,14] sr (Bt 12 [0,1,2,3] [0,1,2,3,14] sr (Bt 14 [0,1,2,3] [0,1,2,3] sr (Aa [0,2,4] [0,2,4] sr (Aa [0] [0,23] sr ?_))))))))))));exact Bt 23 [0] [0] sr (Ak (Ad sr (by rfl)))
def Aqo:V:=.agg [.int .i64 1,.int .i64 1,.int .i64 1,.nils,.ro 1 (As [-100,100]),.ro 1 (As [1,1]),.nils,.int .i64 0,.bool false,.nils,.nils,.int .i64 0,.bool false,.nils,.nils,.int .i64 1,.bool false,.ro 1 (Au [1]),.ro 1 (Au [1]),.int .i64 0,.ro 9 (B8 [Yg]),.ro 17 [V.agg [.int .i64 3,.int .i64 1,.int .i64 1,.str [79,110,101,32,97,110,100,32,111,110,101,63],.ro 1 [.str [50],.str [51]],.ro 1 [.int .i64 0],.int .i64 0,.int .i64 0,.nils,.int .i64 1,.str [65],.int .i64 0,.int .i64 0,.int .i64 5,.int .i64 60,.nils,.int .i64 0],V.agg [.int .i64 4,.int .i64 1,.int .i64 6,.str [87,104,121,63],.nils,.nils,.int .i64 0,.int .i64 0,.nils,.int .i64 5,.str [65],.int .i64 0,.int .i64 0,.int .i64 5,.int .i64 60,.nils,.int .i64 1]],.ro 1 (As [4]),.nils,.int .i64 0,.int .i64 60,.int .i64 3,.int .i64 2,.int .i64 0,.int .u64 0]
theorem A47:AC prog 21 [] (fun r=>r=Aqo):=by
 have c:=A46;unfold Bc3 at c;have a:=B4 [Yg];unfold Aqo;generalize B8 [Yg]=pv at*;refine Ay func21 (fun w0 N0=>?_);refine Aa [0] [0] sr (Ab (Ac (Ai c func40 ?_)));refine Ag [0,1] [0,1] (by simp<;>rfl) ?_;refine Aa [0,1,2] [0,1,2,5,6] (by simp<;>rfl) (Bt 5 [0,1,2] [0,1,2,6] (by simp<;>rfl) (Bt 6 [0,1,2] [0,1,2] (by simp<;>rfl) (Aa [0,1,2,3] [0,1,2,3] (by simp<;>rfl) (Aa [0] [0,15,16] (by simp<;>rfl) (Bt 15 [0] [0,16] (by simp<;>rfl) (Bt 16 [0] [0] (by simp<;>rfl) ?_))))));exact Ak (Ad (by simp [results21]<;>rfl) (by rfl))
theorem rcl{p:Prop}(h:p:=by repeat(first|exact RelaxL.nil|refine RelaxL.cons (Bl.refl _) ?_ |refine RelaxL.cons (Bl.nils _) ?_)):p:=h
theorem Ag2:Bl Aqo Pj.v:=by
 refine Bl.agg ?_
 have a:Bl (.ro 17 [V.agg [.int .i64 3,.int .i64 1,.int .i64 1,.str [79,110,101,32,97,110,100,32,111,110,101,63],.ro 1 [.str [50],.str [51]],.ro 1 [.int .i64 0],.int .i64 0,.int .i64 0,.nils,.int .i64 1,.str [65],.int .i64 0,.int .i64 0,.int .i64 5,.int .i64 60,.nils,.int .i64 0],V.agg [.int .i64 4,.int .i64 1,.int .i64 6,.str [87,104,121,63],.nils,.nils,.int .i64 0,.int .i64 0,.nils,.int .i64 5,.str [65],.int .i64 0,.int .i64 0,.int .i64 5,.int .i64 60,.nils,.int .i64 1]]) (.ro 17 (Hg Pj.items)):=by
  refine Bl.roE (.cons ?_ (.cons ?_ .nil))
  ·exact rcl
  ·exact rcl
 (repeat(first|exact RelaxL.nil|refine RelaxL.cons (Bl.refl _) ?_ |refine RelaxL.cons (Bl.nils _) ?_ |refine RelaxL.cons a ?_))
theorem A48:DlOk Pj where
 pok:=⟨⟨⟨(by intro x a;cases a),B6 _⟩,(by intro x a;cases a),B6 _⟩,⟨⟨(by intro x a;cases a),B6 _⟩,(by intro x a;cases a),B6 _⟩,⟨⟨by intro x a;simp [Pj,A45]at a;subst a;decide,by decide⟩,by intro x a;simp [Pj,A45]at a;subst a;decide,by decide⟩⟩
 pl:=by decide
 st:=by decide
 il:=by decide
 is:=by
  intro it c;have:it=Bc2\/it=Be0:=by simpa [Pj]using c
  rcases this with rfl|rfl
  ·exact⟨by decide,⟨by decide,by intro s hs;simp [Bc2]at hs;rcases hs with rfl|rfl<;>decide⟩,⟨by decide,by intro s hs;cases hs⟩,by decide,by decide⟩
  ·exact⟨by decide,⟨by decide,by intro s hs;cases hs⟩,⟨by decide,by intro s hs;cases hs⟩,by decide,by decide⟩
 el:=by decide
theorem Wr(x:Ic):Hm gv prog 9 [] (fun r=>r=.bool true):=by
 have j:=A47;have i:=O0 x Pj A48;rw [Ay0]at i;have i:=i.argsR (.cons Ag2 .nil)
 have d:=Ad7 x Pj Aic A48 dc (by
  intro e he;have:e=⟨1,10,an0,in0⟩\/e=⟨2,30,⟨3,[0],0,[],false⟩,in0⟩:=by simpa [Aic]using he
  rcases this with rfl|rfl<;>exact⟨by decide,by decide⟩)
 obtain⟨k,s3,s4,s5,s6⟩:=A9f;unfold Atg at d;rw [show(Pg Pj Aic).2.1=2 by rw [k],show(Pg Pj Aic).2.2=0 by rw [k]]at d;clear k;generalize(Pg Pj Aic).1=s at*;have l:s.v=V.agg [.int .i64 s.st,.int .i64 s.us,.int .i64 s.la,.int .i64 s.sh,.ro 1 (As s.t.elig),.ro 2 (A0 s.t.steps),.int .i64 s.t.pend,.ro 1 (Bv s.t.w),.int .u64 s.t.draw,.int .i64 s.t.stop,.ro 5 (E7 s.ans),.ro 4 (Dc s.inc)]:=rfl;rw [l]at d
 have d:=d.argsR (args:=[Aqo,.ro 11 [V.agg [.int .i64 1,.int .i64 10,.int .i64 0,.nils,.int .i64 0,.str [],.bool false,.int .i64 0,.int .i64 0,.int .i64 0,.int .i64 0],V.agg [.int .i64 2,.int .i64 30,.int .i64 3,.ro 1 [.int .i64 0],.int .i64 0,.str [],.bool false,.int .i64 0,.int .i64 0,.int .i64 0,.int .i64 0]]])
  (.cons Ag2 (.cons (Bl.roE (.cons rcl (.cons rcl .nil))) .nil))
 have m:=Af s.t.elig;have u:=A4 s.t.steps;have o:=Br s.t.w;have n:=D0 s.ans;have z:=Dh s.inc;have y7:=Fz s.ans;have f:=B4 [Yg];unfold Aqo at j i d;generalize B8 [Yg]=pv,E7 s.ans=aa at*;have h:(As [4]).all V.pureE=true:=Af _;have a:(As [-100,100]).all V.pureE=true:=Af _;have c:(As [1,1]).all V.pureE=true:=Af _;have g:(Au [1]).all V.pureE=true:=Ah _;generalize As [4]=p4,As [-100,100]=pa,As [1,1]=pb,Au [1]=pc at*;rw [s5]at d;refine Bx func9 (fun w0 N0 y=>?_);refine Aa [] [] sr (Ab (Ac (Jk j func21 rfl kr rfl rfl rfl (by simp<;>rfl) sm (by simp<;>rfl) ?_)));refine Ag [1] [1] (by simp<;>rfl) ?_;refine Ab (Ab (Ac (Am 1 (by simp<;>rfl) ?_)));refine Be y i func8 ?_ (hp:=by simp) (hs:=by simp<;>rfl);refine Ag [1,8] [1] (by simp<;>rfl) ?_;refine A6 rfl (fun h1=>by simp at h1) (fun h1=>Ae (Ab (Ac (Am 6 (by simp<;>rfl) ?_))));refine Ju 12 [10,15] [15] (by simp<;>rfl) ?_;refine Ju 15 [10,15] [] (by simp<;>rfl) ?_;refine Be y d func15 ?_ (hp:=by simp) (hs:=by simp<;>rfl);refine Ag [2,3,4] [2] (by simp<;>rfl) ?_;exact Aa [0] [] (by simp [y7,s3,s4,s6]<;>rfl) (Ak (Ad sr rf))
end Go.Proofs.YtpaccopbbffkaaaGreatDoor
set_option linter.unusedSimpArgs false
namespace Go.Proofs.YtpaccopbbffkaaaGreatDoor
open Go.RowKit Go.Shelf
attribute [local go_sem] Oper.semAt_some
def Pw(a:List Int)(k:Nat):List Int:=(List.range k).map fun j=>a[j]?.getD 0
theorem Atj(a:List Int)(k:Nat):Pw a (k+1)=Pw a k++[a[k]?.getD 0]:=by simp [Pw,List.range_succ]
theorem Ay1(a:List Int)(k:Nat):(Pw a k).length=k:=by simp [Pw]
theorem Ay2(a:List Int):Pw a a.length=a:=by
 apply List.ext_getElem
 ·simp [Pw]
 ·intro i h1 h2;simp [Pw,h2]
def Tq(f:Nat)(W:World)(e:Value)(a:List Int):Prop:=
 ∃A c,e=.slice A a.length c/\(0<a.length->∃d:Addr,A=some d/\d.block<f/\∀j,j<a.length->W.cell? (d.add j)=some (.int .i64 (a[j]?.getD 0)))
theorem Tq.below{c:Nat}{A B:World}(h:Below c A B){f:Value}{g:List Int}:Tq c A f g->Tq c B f g
 |⟨X,a,e,l⟩=>⟨X,a,e,fun n=>by
   obtain⟨d,k,i,h2⟩:=l n;exact⟨d,k,i,fun j m=>(h.cell (p:=d.add j) (by rw [Go.Eng.add_block];exact i)).trans (h2 j m)⟩⟩
set_option maxRecDepth 100000 in
theorem A9g(F:Fence)(n:Nat)(h7:F.fn 176)(hro:F.round=none)(hn:1<=n)(l n₀:Nat)(bd:Addr)(sv:Value)(zs:List Int)(hreach:zs.length*8<=140737488351232)(J Jx:List Int->World->Prop)
  (hY:∀pre x W,J pre W->pre.length<zs.length->YieldAt F (n-1) prog l #[.int .i64 x] W fun e W'=>
   (e=.returned (.bool true)/\J (pre++[x]) W'/\Below n₀ W W')\/(e=.returned (.bool false)/\Jx (pre++[x]) W'))
  (W:World)(hBs:W.cell? bd=some sv)(hI:Tq n₀ W sv zs)(h0:J [] W):
  CallsIn F n prog 176 #[.func (.yield l) #[] #[],.pointer (some bd)] W fun e W'=>(∃v,e=.returned v)/\
   ((∃ys,ys=zs/\J ys W')\/(∃pre,pre<+:zs/\Jx pre W')):=by
 obtain⟨A,cap,rfl,hc⟩:=hI;refine callsIn_of_wp func176 rfl h7 ?_ hro;simp only [ntmps176,C8,Bc,B0,Nat.reduceAdd,Nat.reduceSub,Lr,Ls,N9,Mj,F3,Ce]
 gi_wp2
 gi_loopw [7] (fun i wr=>∃k:Nat,k<=zs.length/\i=.int .i64 k/\J (Pw zs k) wr/\Below n₀ W wr)
  (fun i _ =>zs.length-(intOf i).toNat)
 case atStart=>exact⟨0,B6 _,rfl,h0,Below.refl _ _⟩
 case round=>
  obtain⟨k,hk,rfl,hJs,hnx⟩:=hrel
  by_cases hlt:k<zs.length
  ·obtain⟨ad,rfl,hb,hcs⟩:=hc om;have hcx':wr.cell? (ad.add k)=some (.int .i64 (zs[k]?.getD 0)):=(hnx.cell (p:=ad.add k) (by rw [Go.Eng.add_block];exact hb)).trans (hcs k hlt);have ex:zs[k]?.getD 0=zs[k]:=by simp [hlt]
   rw [ex]at hcx';have hup:Pw zs (k+1)=Pw zs k++[zs[k]]:=by rw [Atj,ex]
   obtain⟨fn,tmps,assign,body,hy,hR⟩:=hY _ zs[k] wr hJs (by rw [Ay1];exact hlt)
   gi_wp2
   refine hR.mono ?_
   rintro e W3(⟨rfl,hJ3,hk3⟩|⟨rfl,hJx3⟩)
   ·gi_wp2
    go_roundw
    case rel=>exact⟨k+1,by omega,by simp,by rw [hup];exact hJ3,hnx.trans hk3⟩
    case measure=>simp [intOf];omega
   ·gi_wp2
    refine bodyPost_ret (results_none rfl _ _ _) rfl ?_;refine⟨⟨_,rfl⟩,.inr ⟨Pw zs (k+1),?_,by rw [hup];exact hJx3⟩⟩
    have:Pw zs (k+1)=zs.take (k+1):=by
     apply List.ext_getElem
     ·simp [Pw];omega
     ·intro i h1 h2;have:i<zs.length:=by simp [Pw]at h1;omega
      simp [Pw,this]
    rw [this];exact List.take_prefix _ _
  ·obtain rfl:k=zs.length:=by omega
   gi_wp2
   go_end0
   exact⟨⟨_,rfl⟩,.inl ⟨_,Ay2 zs,hJs⟩⟩
theorem Amn(F:Fence)(n:Nat)(u:F.fn 176)(h:F.round=none)(m:1<=n)(d:Addr)(e:Nat)(i:Value)(c:List Int)(a:c.length*8<=140737488351232)(w:World)(f:d.block<w.heap.size)(g:e<=w.heap.size)
  (o:w.cell? d=some i)(y:Tq e w i c):
  SeqStopsK F n prog 176 #[.pointer (some d)] (fun x:Int=> #[Value.int .i64 x]) (Below e) (fun s=>s=c) (fun pre=>pre<+:c) c.length w:=fun l J r W j _ _ t k=>
 A9g F n u h m l e d i c a J r t W ((j.cell (p:=d) f).trans o) (y.below (j.mono g)) k
end Go.Proofs.YtpaccopbbffkaaaGreatDoor
set_option linter.unusedSimpArgs false
namespace Go.Proofs.YtpaccopbbffkaaaGreatDoor
open Go.RowKit Go.Shelf Go.Sort
attribute [local go_sem] Oper.semAt_some
theorem Be1:(prog.info? 3).map (fun i=>(i.zero,i.size,i.bytes))=some (some (.int .i64 0),1,8):=by kernel_rfl
set_option maxRecDepth 100000 in
set_option maxHeartbeats 2000000 in
theorem Ay3(F:Fence)(n:Nat)(h3:F.fn 218)(h5:F.fn 176)(k:F.round=none)(hn:3<=n)(g:Addr)(sv:Value)(m:List Int)(ai:m.length<=maxLen)(f:m.length*8<=140737488351232)(w:World)
  (af:g.block<w.heap.size)(ab:w.cell? g=some sv)(hI:Tq w.heap.size w sv m):
  CallsIn F n prog 218 #[.slice none 0 0,.func (.func 176) #[] #[.pointer (some g)]] w fun e W'=>∃v,e=.returned v/\W'.ownsRow w.heap.size 3 1 v m.length (m.map (Value.int .i64))/\Below w.heap.size w W':=by
 have h1:1<=n:=by omega
 obtain⟨i0,hi,ag,z,ad⟩:=info_parts Be1
 refine callsIn_of_wp_marks func218 rfl h3 ?_ k
 simp only [ntmps218,C8,Bc,B0,Nat.reduceAdd,Nat.reduceSub,Lr,Ls,N9,Mj,F3,Ce]
 gi_wp2
 have bO:=Boxed.new w 25 (.slice none 0 0)
 have j:Below w.heap.size w (w.alloc (.cells #[.slice none 0 0] 25)):=(Below.refl _ w).alloc (A8 _) _
 refine wpIn_rangeFunc_ownG k h1 (gf:=176) (lb:= #[.pointer (some g)]) rfl h5 (enters_of func176 (by kernel_rfl) rfl)
  (Amn F (n-1) h5 k (by omega) g w.heap.size sv m f _ (by simp;omega) (by simp) ((j.cell (p:=g) af).trans ab) (hI.below j)) belowK_t (belowK_b (by simp)) (Below.refl _ _) (fun _ =>rfl)
  (fun pre W=>(∃v,Boxed W w.heap.size 25 v/\W.ownsRow w.heap.size 3 1 v pre.length (pre.map (Value.int .i64))/\True)/\Below w.heap.size w W)
  (fun _ _ _ =>False)
  (OwnFrom.and (Go.Own.from (holdsRow_own w.heap.size w.heap.size 25 3 1 (fun pre:List Int=>pre.length) (fun pre=>pre.map (Value.int .i64)) (fun _ _ =>True)) _) (ownFrom_below (A8 _) (by simp)))
  (fun _ _ _ _ _ hs _ _ =>hs)
  ⟨⟨_,bO,World.ownsRow_nil _ _ _ _,trivial⟩,j⟩
  (fun x=>{ tmps:= #[.slice none 0 0,(.func (.func 176) #[] #[.pointer (some g)]),.pointer (some ⟨w.heap.size,0,none⟩),undef,.slice none 0 0,.int .i64 x,(.func (.func 176) #[] #[.pointer (some g)]),.int .i64 x,undef,undef,undef,undef,undef],defers:=[]}) ?assign ?body ?done ?stop
 case assign=>
  intro l x W K o
  gi_wp2
  exact o
 case body=>
  rintro l pre x W⟨⟨v,u,a,_⟩,s⟩ak
  have hc:=u.cell
  gi_wp2_with (gi_at_builtin;refine wpListIn_append_own _ rfl _ _ 25 rfl w.heap.size 3 i0 (.int .i64 0) 1 8 underlying25 hi ag z ad rfl (by decide) _ _ _ rfl (a.alloc _) ⟨W.heap.size,0,none⟩ 1 1 [.int .i64 x] rfl rfl (cell_one_new _ _ _) (by simp [Value.oneCell']) (by omega) (by omega) (by have:=s.size;simp;omega) ?_;intro v' w1 d i _;obtain⟨g',ah,rfl⟩:=ownsRow_succ d;obtain⟨r,aa,y,ae,t⟩:=u.appended (by decide) a s.size (A8 _) d i;have aj:=r.cell;have al:=r.frozen)
  exact⟨ae.from _,t,⟨_,aa,by simpa using y,trivial⟩,s.trans t⟩
 case done=>
  rintro D ys W hD rfl⟨⟨v,u,a,_⟩,s⟩o
  have hc:=u.cell
  gi_wp2
  refine⟨by simp,.inl ⟨_,_,rfl,run_takeDeferred o,?_⟩⟩
  exact⟨_,results_tmp rfl _ _ _,v,rfl,ownsRow_putObj a _ o rfl,s.trans (belowK_b (w:=w) (A8 _) W D _ _ (by simp at hD;omega) o rfl rfl)⟩
 case stop=>
  rintro D c pre W _ _ h _
  exact h.elim
theorem Atk(F:Fence)(n:Nat)(h1:F.fn 175)(m:F.fn 218)(t:F.fn 176)(f:F.round=none)(hn:4<=n)(h:Addr)(k:Value)(c:List Int)(g:c.length<=maxLen)(a:c.length*8<=140737488351232)(w:World)
  (i:h.block<w.heap.size)(j:w.cell? h=some k)(s:Tq w.heap.size w k c):
  CallsIn F n prog 175 #[.func (.func 176) #[] #[.pointer (some h)]] w fun e l=>∃v,e=.returned v/\l.ownsRow w.heap.size 3 1 v c.length (c.map (Value.int .i64))/\Below w.heap.size w l:=by
 have r:1<=n:=om;have o:=Ay3 F (n-1) m t f om h k c g a w i j s;refine callsIn_of_wp func175 rfl h1 ?_ f;simp only [ntmps175,C8,Bc,B0,Nat.reduceAdd,Nat.reduceSub,Lr,Ls,N9,Mj,F3,Ce]
 gi_wp2_with (gi_at_call 218;refine o.mono ?_;rintro e w'⟨v,rfl,d,u⟩)
 go_ret
 exact⟨v,rfl,d,u⟩
theorem Ay4(l:Addr)(z:Value)(a:List Int)(k:a.length<=maxLen)(d:a.length*8<=140737488351232)(w:World)
  (t:l.block<w.heap.size)(o:w.cell? l=some z)(hI:Tq w.heap.size w z a):
  Calls prog 139 #[.func (.func 176) #[] #[.pointer (some l)]] w fun e W'=>∃v,e=.returned v/\W'.ownsRow w.heap.size 3 1 v a.length ((Kw a).map (Value.int .i64))/\Below w.heap.size w W':=by
 refine(callsIn_wide (n:=6)).1 ?_;have cC:=Atk Fence.wide 5 trivial trivial trivial rfl om l z a k d w t o hI;have ad:Fence.wide.fn 175:=trivial;have aa:Fence.wide.fn 101:=trivial;refine callsIn_of_wp func139 rfl trivial ?_ rfl;simp only [ntmps139,C8,Bc,B0,Nat.reduceAdd,Nat.reduceSub,Lr,Ls,N9,Mj,F3,Ce]
 gi_wp2_with (gi_at_call 175;refine cC.mono ?_;rintro e W⟨v,rfl,f,s⟩)
 rcases f.2 with⟨rfl,hz⟩|⟨i,h,ab,rfl,c,g,r1,r2,r3,r4⟩
 ·have u:a= []:=Ha hz;subst u;have m:CallsIn Fence.wide 5 prog 101 #[.slice none 0 0] W fun e w'=>e=.returned (.tuple #[])/\w'=W:=callsIn_wide.2 (Xi none 0 W)
  gi_wp2_with (gi_at_call 101;refine m.mono ?_;rintro e w'⟨rfl,rfl⟩)
  go_ret
  exact⟨.slice none 0 0,rfl,by simpa [Kw]using f,s⟩
 ·have hH:Holds (Value.int .i64) W i 0 a.toArray:=holds_of_block_i g (by simpa using r4);have r:i<W.heap.size:=(B5.1 g).1
  have m:CallsIn Fence.wide 5 prog 101 #[.slice (some ⟨i,0,none⟩) a.length h] W fun e w'=>e=.returned (.tuple #[])/\∃n os,w'=grow (putRow (Value.int .i64) (Sort.ahead W n) i 0 (a.mergeSort fun x y=>decide (x<=y)).toArray) os:=
   callsIn_wide.2 (slices_Sort_int i 0 h a W hH r om)
  gi_wp2_with (gi_at_call 101;refine m.mono ?_;rintro e w'⟨rfl,nn,os,rfl⟩)
  go_ret
  exact⟨_,rfl,ownsRow_sorted_i sm c g r1 r2 r3,s.grown (grownBy_sorted_i _) s.size (fun j hj=>by cases hj;exact c)⟩
end Go.Proofs.YtpaccopbbffkaaaGreatDoor
set_option linter.unusedSimpArgs false
namespace Go.Proofs.YtpaccopbbffkaaaGreatDoor
open Go.Eng Go.Eng.Limb Go.RowKit
theorem Aqp{w:World}{d:Nat}{N:Nat->Prop}{v:Value}{a:List Int}(hN:∀b,d<=b->¬N b)(h:w.ownsRow d 3 1 v a.length (a.map (Value.int .i64))):Pur w N v (.ro 1 (As a)):=by
 rcases h.2 with⟨rfl,r⟩|⟨g,t,m,rfl,i,l,r1,r2,r3,r4⟩
 ·have:a= []:=Ha r;subst this;exact(Pur.nils none).nils_ro 1
 ·have u:=(B5.1 l).1
  have f:∀k,k<a.length->w.cell? ((⟨g,0,none⟩:Addr).add k)=some (.int .i64 (a.getD k 0)):=fun k n=>by
   have h1:m[k]? =some (.int .i64 (a.getD k 0)):=by
    have h2:(m.toList.take (a.length*1))[k]? =(a.map (Value.int .i64))[k]? :=by rw [r4]
    rw [List.getElem?_take,if_pos om,Bd,Al n]at h2;rw [Cv,Al n];simpa using h2
   unfold Addr.add
   split
   ·rename_i h0;subst h0;simp [World.cell?,l,h1]
   ·simp [World.cell?,l,h1]
  refine .ro (some ⟨g,0,none⟩) ⟨g,0,none⟩ a.length t 1 (As a) (fun k _ =>.int .i64 (a.getD k 0)) (A5 a) r1 r2 (fun _ =>⟨rfl,u,hN g i⟩) (Aje a) (fun k e j c x o=>?_) (fun k e j c x o=>?_)
  all_goals
   simp only [As,Bd,A1]at x;obtain⟨z,r,rfl⟩:=x;have n:k<a.length:=(Aq.1 r).1
   have y:j=0:=by
    rcases j with _ |j
    ·rfl
    ·simp [V.cells]at o
   subst y;simp only [V.cells,Dg,Av]at o;subst o;have s:a.getD k 0=z:=by rw [Cv,r];rfl
  ·rw [Gn,Ea];exact f k n
  ·rw [s];exact .int _ _
theorem Ro:Ic:=by
 intro l hl w N xs hN m hx
 obtain⟨i,rfl⟩:∃i,xs= [i]:=by
  match xs,m with
  | [i],_ =>exact⟨i,rfl⟩
 have h0:=hx 0 i _ rfl rfl;cases h0 with
 |fc f us ys ah ai ab u h k=>
  have t:us= []:=Ha ab;subst t
  obtain⟨y,rfl⟩:∃y,ys= [y]:=by
   match ys,u with
   | [y],_ =>exact⟨y,rfl⟩
  have hy:=k 0 y _ rfl rfl;cases hy with
  |rp ad sz e g z ak hf hc h=>
   have c:=hc 0 _ rfl;rw [show ad.add 0=ad from by unfold Addr.add;rw [if_pos rfl]]at c;have hp:=h 0 (.ro 1 (As l)) rfl;generalize g 0=sv at c hp
   have hI:Tq w.heap.size w sv l:=by
    cases hp with
    |ro A x n o sz2 es g2 hn ag af hA aj ae h2=>
     rw [A5]at hn;subst hn;refine⟨A,o,rfl,fun d=>?_⟩;obtain⟨a1,a2,a3⟩:=hA d;refine⟨x,a1,a2,fun j hj=>?_⟩;have he:(As l)[j]? =some (V.int .i64 l[j]):=by simp [As,hj]
     have h3:=ae j _ 0 (V.int .i64 l[j]) he rfl;have h4:=h2 j _ 0 (V.int .i64 l[j]) he rfl;rw [Gn,Ea]at h3;rw [h3];generalize g2 j 0=gv at h4;cases h4
     simp [hj]
   refine(Ay4 ad sv l (Aj hl dc) om w z c hI).mono ?_;rintro e w'⟨v,rfl,a,r⟩;refine⟨v,_,rfl,rfl,?_,r⟩;have s:=Oz l;rw [<- s]at a;exact Aqp (fun b z aa=>Nat.lt_irrefl _ (Cc (hN b aa) z)) a
end Go.Proofs.YtpaccopbbffkaaaGreatDoor
set_option linter.unusedSimpArgs false
set_option maxRecDepth 10000
namespace Go.Proofs.YtpaccopbbffkaaaGreatDoor
open Go.Eng Go.Eng.Limb Go.ChangeShapes Go.WideShapes Go.ChangeAt Go.RowKit
theorem Ad8:laidOutB prog=true:=by kernel_rfl
theorem Em{vs:List V}{n:Nat}(h:Rd prog n 3 vs):∃x:Int,vs= [.int .i64 x]:=by
 obtain⟨a,rfl,_⟩:=Arh underlying3 h;exact⟨a,rfl⟩
theorem Bc4{vs:List V}{n:Nat}(h:Rd prog n 42 vs):∃x:Int,vs= [.int .u64 x]:=by
 obtain⟨a,rfl,_⟩:=Arh underlying42 h;exact⟨a,rfl⟩
theorem Ab7{vs:List V}{n:Nat}(h:Rd prog n 9 vs):∃x:List UInt8,vs= [.str x]:=by
 obtain⟨a,rfl,_⟩:=Bbe underlying9 h;exact⟨a,rfl⟩
theorem A49{vs:List V}{n:Nat}(h:Rd prog n 4 vs):∃x:Bool,vs= [.bool x]:=A6c underlying4 h
theorem Ab8{α:Type}{f:α->V}{t:TypeId}{l:List (List V)}(e:E8 prog t=some true)(h:∀x∈l,∃y,V.agg x=f y):∃l':List α,l.map (mkV (E8 prog t))=l'.map f:=by
 refine Arg (fun v c=>?_);obtain⟨x,a,rfl⟩:=Bk.1 c;obtain⟨y,d⟩:=h x a;exact⟨y,by rw [e];exact d⟩
theorem Aak{α:Type}{f:α->V}{t:TypeId}{l:List (List V)}(d:E8 prog t=some false)(h:∀x∈l,∃y,x= [f y]):∃l':List α,l.map (mkV (E8 prog t))=l'.map f:=by
 refine Arg (fun v c=>?_);obtain⟨x,a,rfl⟩:=Bk.1 c;obtain⟨y,rfl⟩:=h x a;exact⟨y,by rw [d];rfl⟩
theorem Ts{vs:List V}{n:Nat}(h:Rd prog n 25 vs):∃x:List Int,vs= [.ro 1 (As x)]:=by
 obtain⟨es,rfl,_,a⟩:=Mk underlying25 h;obtain⟨l,d⟩:=Aak (f:=V.int .i64) (t:=3) kr (fun x c=>Em (a x c));exact⟨l,by rw [d,show prog.cellsOf 3=1 by kernel_rfl];rfl⟩
theorem Av7{vs:List V}{n:Nat}(h:Rd prog n 91 vs):∃x:List (List UInt8),vs= [.ro 1 (D6 x)]:=by
 obtain⟨es,rfl,_,a⟩:=Mk underlying91 h;obtain⟨l,d⟩:=Aak (f:=V.str) (t:=9) kr (fun x c=>Ab7 (a x c));exact⟨l,by rw [d,show prog.cellsOf 9=1 by kernel_rfl];rfl⟩
theorem A9h{vs:List V}{n:Nat}(h:Rd prog n 111 vs):∃x:Mo,vs= [.ro 1 (Ek x)]:=by
 obtain⟨es,rfl,_,a⟩:=Mk underlying111 h;obtain⟨l,d⟩:=Aak (f:=fun r:List Int=>V.ro 1 (As r)) (t:=25) kr (fun x c=>Ts (a x c));exact⟨l,by rw [d,show prog.cellsOf 25=1 by kernel_rfl];rfl⟩
theorem Aqq{vs:List V}{n:Nat}(h:Rd prog n 30 vs):∃x:List Nat,vs= [.ro 1 (Au x)]/\Ed x:=by
 obtain⟨es,rfl,_,d⟩:=Mk underlying30 h
 have e:∀x∈es,∃y: { m:Nat // m<4294967296},x= [V.int .u32 (y.1:Int)]:=fun x c=>by
  obtain⟨a,rfl,g⟩:=Arh underlying149 (d x c);simp only [Lit.wf,Bm,decide_eq_true_eq]at g;have h1:IntKind.u32.min=0:=rfl;have h2:IntKind.u32.max=4294967295:=rfl;rw [h1,h2]at g;refine⟨⟨a.toNat,by omega⟩,?_⟩;rw [show((a.toNat:Nat):Int)=a by omega]
 obtain⟨l,i⟩:=Aak (f:=fun y: { m:Nat // m<4294967296}=>V.int .u32 (y.1:Int)) (t:=149) kr e
 refine⟨l.map (·.1),?_,fun x c=>?_⟩
 ·rw [i,show prog.cellsOf 149=1 by kernel_rfl];unfold Au;rw [Qa];rfl
 ·obtain⟨y,_,rfl⟩:=Bk.1 c;exact y.2
theorem Ag3{vs:List V}{n:Nat}(h:Rd prog n 34 vs):∃x:RR,vs= [.bool x.num.neg,.ro 1 (Au x.num.mag),.ro 1 (Au x.den)]/\Ed x.num.mag/\Ed x.den:=by
 obtain⟨l,f,rfl,c,k,t,rfl,e,rfl⟩:=Hn underlying34 h;obtain⟨r,i,rfl,a,m,j,rfl,d,rfl⟩:=Hn underlying32 c;obtain⟨o,rfl⟩:=A49 a;obtain⟨s,rfl,u⟩:=Aqq d;obtain⟨g,rfl,l2⟩:=Aqq e;exact⟨⟨⟨o,s⟩,g⟩,rfl,u,l2⟩
theorem A9i{vs:List V}{n:Nat}(h:Rd prog n 368 vs):∃x:(Int × Int),V.agg vs=V.agg [.int .i64 x.1,.int .i64 x.2]:=by
 obtain⟨g,d,rfl,a,f,j,rfl,c,rfl⟩:=Hn underlying368 h;obtain⟨i,rfl⟩:=Em a;obtain⟨e,rfl⟩:=Em c;exact⟨(i,e),rfl⟩
theorem Bc5{vs:List V}{n:Nat}(h:Rd prog n 240 vs):∃x:(Int × Int),V.agg vs=V.agg [.int .i64 x.1,.int .i64 x.2]:=by
 obtain⟨g,d,rfl,a,f,j,rfl,c,rfl⟩:=Hn underlying240 h;obtain⟨i,rfl⟩:=Em a;obtain⟨e,rfl⟩:=Em c;exact⟨(i,e),rfl⟩
theorem Bc6{vs:List V}{n:Nat}(h:Rd prog n 28 vs):∃x:List (Int × Int),vs= [.ro 2 (A0 x)]:=by
 obtain⟨es,rfl,_,a⟩:=Mk underlying28 h;obtain⟨l,d⟩:=Ab8 (f:=(fun p:Int × Int=>V.agg [.int .i64 p.1,.int .i64 p.2])) (t:=368) kr (fun x c=>A9i (a x c));exact⟨l,by rw [d,show prog.cellsOf 368=2 by kernel_rfl];rfl⟩
theorem A9j{vs:List V}{n:Nat}(h:Rd prog n 39 vs):∃x:List (Int × Int),vs= [.ro 2 (A0 x)]:=by
 obtain⟨es,rfl,_,a⟩:=Mk underlying39 h;obtain⟨l,d⟩:=Ab8 (f:=(fun p:Int × Int=>V.agg [.int .i64 p.1,.int .i64 p.2])) (t:=240) kr (fun x c=>Bc5 (a x c));exact⟨l,by rw [d,show prog.cellsOf 240=2 by kernel_rfl];rfl⟩
theorem A9k{vs:List V}{n:Nat}(h:Rd prog n 86 vs):∃x:Ru,V.agg vs=x.v:=by
 obtain⟨o,r,rfl,c,m,aa,rfl,e,u,k,rfl,d,l,y,rfl,a,i,w,rfl,f,rfl⟩:=Hn underlying86 h;obtain⟨z,rfl⟩:=Em c;obtain⟨g,rfl⟩:=Em e;obtain⟨t,rfl⟩:=Em d;obtain⟨j,rfl⟩:=Em a;obtain⟨s,rfl⟩:=Ab7 f;exact⟨⟨z,g,t,j,s⟩,rfl⟩
theorem A5a{vs:List V}{n:Nat}(h:Rd prog n 22 vs):∃x:List Ru,vs= [.ro 5 (Ee x)]:=by
 obtain⟨es,rfl,_,a⟩:=Mk underlying22 h;obtain⟨l,d⟩:=Ab8 (f:=Ru.v) (t:=86) kr (fun x c=>A9k (a x c));exact⟨l,by rw [d,show prog.cellsOf 86=5 by kernel_rfl];rfl⟩
theorem A9l{vs:List V}{n:Nat}(h:Rd prog n 93 vs):∃x:It,V.agg vs=x.v:=by
 obtain⟨bf,bh,rfl,w,be,bp,rfl,ab,bl,bb,rfl,z,bd,bn,rfl,o,ax,bj,rfl,af,bg,bk,rfl,j,bo,ay,rfl,y,ba,bc,rfl,k,bi,bm,rfl,r,az,bq,rfl,s,ah,an,rfl,a,aw,al,rfl,g,aq,av,rfl,i,am,ag,rfl,e,au,ao,rfl,f,ai,aj,rfl,d,ak,ar,rfl,c,rfl⟩:=Hn underlying93 h;obtain⟨a0,rfl⟩:=Em w;obtain⟨a1,rfl⟩:=Em ab;obtain⟨a2,rfl⟩:=Em z;obtain⟨a3,rfl⟩:=Ab7 o;obtain⟨a4,rfl⟩:=Av7 af;obtain⟨a5,rfl⟩:=Ts j;obtain⟨a6,rfl⟩:=Em y;obtain⟨a7,rfl⟩:=Em k;obtain⟨a8,rfl⟩:=Av7 r;obtain⟨a9,rfl⟩:=Em s;obtain⟨l,rfl⟩:=Ab7 a;obtain⟨aa,rfl⟩:=Em g;obtain⟨ad,rfl⟩:=Em i;obtain⟨u,rfl⟩:=Em e;obtain⟨ae,rfl⟩:=Em f;obtain⟨m,rfl⟩:=Ts d;obtain⟨t,rfl⟩:=Em c;exact⟨⟨a0,a1,a2,a3,a4,a5,a6,a7,a8,a9,l,aa,ad,u,ae,m,t⟩,rfl⟩
theorem A5b{vs:List V}{n:Nat}(h:Rd prog n 38 vs):∃x:List It,vs= [.ro 17 (Hg x)]:=by
 obtain⟨es,rfl,_,a⟩:=Mk underlying38 h;obtain⟨l,d⟩:=Ab8 (f:=It.v) (t:=93) kr (fun x c=>A9l (a x c));exact⟨l,by rw [d,show prog.cellsOf 93=17 by kernel_rfl];rfl⟩
theorem Bc7{vs:List V}{n:Nat}(h:Rd prog n 115 vs):∃x:Pit,V.agg vs=x.v:=by
 obtain⟨ad,af,rfl,g,ab,aq,rfl,k,ah,y,rfl,j,aa,an,rfl,e,r,ai,rfl,l,ae,aj,rfl,a,ao,u,rfl,i,w,z,rfl,c,ag,ak,rfl,f,rfl⟩:=Hn underlying115 h;obtain⟨a0,rfl⟩:=Em g;obtain⟨o,rfl⟩:=Ab7 k;obtain⟨a2,rfl⟩:=Em j;obtain⟨s,rfl⟩:=Em e;obtain⟨a4,rfl⟩:=Em l;obtain⟨a5,rfl⟩:=Em a;obtain⟨t,rfl⟩:=Em i;obtain⟨a7,rfl⟩:=Em c;obtain⟨am,al,rfl,d,rfl⟩:=Hn underlying113 f;obtain⟨b0,rfl⟩:=A9h d;exact⟨{ id:=a0,code:=o,fam:=a2,st:=s,wo:=a4,se:=a5,pt:=t,ky:=a7,m:=b0},rfl⟩
theorem A9m{vs:List V}{n:Nat}(h:Rd prog n 37 vs):∃x:List Pit,vs= [.ro 9 (B8 x)]:=by
 obtain⟨es,rfl,_,a⟩:=Mk underlying37 h;obtain⟨l,d⟩:=Ab8 (f:=Pit.v) (t:=115) kr (fun x c=>Bc7 (a x c));exact⟨l,by rw [d,show prog.cellsOf 115=9 by kernel_rfl];rfl⟩
def A5c(p:Po):Prop:=(Ed p.var.num.mag/\Ed p.var.den)/\(Ed p.lvl.num.mag/\Ed p.lvl.den)/\(Ed p.rate.num.mag/\Ed p.rate.den)
theorem Aqr{vs:List V}{n:Nat}(h:Rd prog n 44 vs):∃x:Dl,V.agg vs=x.v/\A5c x.p:=by
 obtain⟨ce,bk,rfl,j,bi,bq,rfl,af,ch,av,rfl,ae,aw,bc,rfl,aj,bs,a2,rfl,u,ax,bv,rfl,c,co,cb,rfl,ak,bf,bu,rfl,d,bm,ci,rfl,m,be,br,rfl,r,am,an,rfl,a,rfl⟩:=Hn underlying44 h;obtain⟨a0,rfl⟩:=Em j;obtain⟨a1,rfl⟩:=Em af;obtain⟨cn,bo,rfl,ai,ao,bb,rfl,ad,bz,b0,rfl,o,cf,cp,rfl,z,ar,bn,rfl,ag,cj,aq,rfl,w,ay,cd,rfl,k,b1,cg,rfl,f,cl,bg,rfl,i,ck,cm,rfl,y,rfl⟩:=Hn underlying36 ae;obtain⟨bd,bh,rfl,e,au,cc,rfl,l,rfl⟩:=Hn underlying24 ai;obtain⟨bl,a9,rfl,s,ba,bx,rfl,al,rfl⟩:=Hn underlying27 ad;obtain⟨c0,rfl⟩:=Em e;obtain⟨c1,rfl⟩:=A5a l;obtain⟨g0,rfl⟩:=Ts s;obtain⟨g1,rfl⟩:=Ts al;obtain⟨b2,rfl⟩:=Bc6 o;obtain⟨b3,rfl⟩:=Em z;obtain⟨b4,rfl,l4⟩:=Ag3 ag;obtain⟨b5,rfl⟩:=Em w;obtain⟨b6,rfl,l6⟩:=Ag3 k;obtain⟨b7,rfl⟩:=Em f;obtain⟨b8,rfl,l8⟩:=Ag3 i;obtain⟨b9,rfl⟩:=Em y;obtain⟨a3,rfl⟩:=A9m aj;obtain⟨a4,rfl⟩:=A5b u;obtain⟨a5,rfl⟩:=Ts c;obtain⟨a6,rfl⟩:=A9j ak;obtain⟨a7,rfl⟩:=Em d;obtain⟨a8,rfl⟩:=Em m;obtain⟨bp,az,rfl,t,bw,ca,rfl,ah,bt,bj,rfl,ab,rfl⟩:=Hn underlying41 r;obtain⟨e0,rfl⟩:=Em t;obtain⟨e1,rfl⟩:=Em ah;obtain⟨e2,rfl⟩:=Em ab;obtain⟨aa,rfl⟩:=Bc4 a;exact⟨{ ses:=a0,cand:=a1,p:={ len:=c0,rules:=c1,g:=⟨g0,g1⟩,en:=b2,mn:=b3,var:=b4,cut:=b5,lvl:=b6,top:=b7,rate:=b8,slack:=b9},pool:=a3,items:=a4,ess:=a5,uses:=a6,served:=a7,sec:=a8,nu:=e0,de:=e1,ex:=e2,seed:=aa},rfl,l4,l6,l8⟩
theorem Aqs{vs:List V}{n:Nat}(h:Rd prog n 66 vs):∃x:Ev,V.agg vs=x.v/\vs= [.int .i64 x.kind,.int .i64 x.time,.int .i64 x.an.item,.ro 1 (As x.an.ch),.int .i64 x.an.val,.str x.an.txt,.bool x.an.om,.int .i64 x.inc.ki,.int .i64 x.inc.ti,.int .i64 x.inc.lo,.int .i64 x.inc.gr]:=by
 obtain⟨af,ai,rfl,j,ae,ay,rfl,l,aj,z,rfl,k,ad,av,rfl,f,rfl⟩:=Hn underlying66 h;obtain⟨a0,rfl⟩:=Em j;obtain⟨s,rfl⟩:=Em l;obtain⟨au,al,rfl,c,t,aq,rfl,g,am,ao,rfl,i,ag,aw,rfl,d,u,ak,rfl,m,rfl⟩:=Hn underlying62 k;obtain⟨b0,rfl⟩:=Em c;obtain⟨b1,rfl⟩:=Ts g;obtain⟨b2,rfl⟩:=Em i;obtain⟨b3,rfl⟩:=Ab7 d;obtain⟨b4,rfl⟩:=A49 m;obtain⟨az,ab,rfl,e,y,w,rfl,a,aa,ax,rfl,r,ar,ah,rfl,o,rfl⟩:=Hn underlying64 f;obtain⟨c0,rfl⟩:=Em e;obtain⟨c1,rfl⟩:=Em a;obtain⟨c2,rfl⟩:=Em r;obtain⟨c3,rfl⟩:=Em o;exact⟨⟨a0,s,⟨b0,b1,b2,b3,b4⟩,⟨c0,c1,c2,c3⟩⟩,rfl,rfl⟩
theorem Ay5{vs:List V}{n:Nat}(h:Rd prog n 45 vs):∃x:List Ev,vs= [.ro 11 (F0 x)]:=by
 obtain⟨es,rfl,_,a⟩:=Mk underlying45 h;obtain⟨l,d⟩:=Ab8 (f:=Ev.v) (t:=66) kr (fun x c=>by obtain⟨y,e,_⟩:=Aqs (a x c);exact⟨y,e⟩);exact⟨l,by rw [d,show prog.cellsOf 66=11 by kernel_rfl];rfl⟩
theorem P8{v:V}(h:RdW prog 44 v):∃x:Dl,v=x.v/\A5c x.p:=by
 obtain⟨n,vs,d,rfl⟩:=h;obtain⟨x,a,c⟩:=Aqr d;exact⟨x,by rw [show E8 prog 44=some true by kernel_rfl];exact a,c⟩
theorem Tt{v:V}(h:RdW prog 45 v):∃x:List Ev,v=.ro 11 (F0 x):=by
 obtain⟨n,vs,a,rfl⟩:=h;obtain⟨x,rfl⟩:=Ay5 a;exact⟨x,by rw [show E8 prog 45=some false by kernel_rfl];rfl⟩
theorem A5d{v:V}(h:RdW prog 79 v):∃(e:Ev)(n:Int),v=.agg [.int .i64 e.kind,.int .i64 e.time,.int .i64 e.an.item,.ro 1 (As e.an.ch),.int .i64 e.an.val,.str e.an.txt,.bool e.an.om,.int .i64 e.inc.ki,.int .i64 e.inc.ti,.int .i64 e.inc.lo,.int .i64 e.inc.gr,.int .i64 n]:=by
 obtain⟨m,vs,g,rfl⟩:=h;obtain⟨j,f,rfl,c,i,k,rfl,d,rfl⟩:=Hn underlying79 g;obtain⟨e,_,rfl⟩:=Aqs c;obtain⟨a,rfl⟩:=Em d;exact⟨e,a,by rw [show E8 prog 79=some true by kernel_rfl];rfl⟩
theorem Bc8{e:Ev}(h:SmlV 1048576 e.v):e.an.small:=by
 cases h with
 |agg h=>
  have h1:=h (.ro 1 (As e.an.ch)) sm;have h2:=h (.str e.an.txt) sm;cases h1 with
  |ro h1 _ =>cases h2 with
   |str h2=>rw [A5]at h1;exact⟨by omega,by omega⟩
theorem Ad9{l:List Ev}(h:SmlV 1048576 (.ro 11 (F0 l))):l.length<=4000000/\∀e∈l,e.an.small:=by
 cases h with
 |ro h k=>rw [Kx]at h;exact⟨by omega,fun e a=>Bc8 (k _ (I0 a))⟩
theorem Aqt{l:List (List UInt8)}(h:SmlV 1048576 (.ro 1 (D6 l))):l.length<=2000000/\∀s∈l,s.length<=2000000:=by
 cases h with
 |ro h k=>
  rw [Fb]at h;refine⟨by omega,fun s hs=>?_⟩;have:=k (.str s) (I0 hs);cases this with
  |str h=>omega
theorem L9{sz:Nat}{es:List V}(h:SmlV 1048576 (.ro sz es)):es.length<=1048576:=by cases h with
 |ro h _ =>exact h
theorem A5e{it:It}(h:SmlV 1048576 it.v):it.small:=by
 cases h with
 |agg h=>
  have h1:=h (.str it.stem) sm;have h2:=Aqt (h (.ro 1 (D6 it.opts)) sm);have a:=Aqt (h (.ro 1 (D6 it.txts)) sm);have c:=L9 (h (.ro 1 (As it.ch)) sm);have d:=L9 (h (.ro 1 (As it.ass)) sm);rw [A5]at c d;cases h1 with
  |str h1=>exact⟨by omega,h2,a,by omega,by omega⟩
structure DlSm(d:Dl):Prop where
 b:d.p.rules.length<=4000000/\d.pool.length<=4000000/\d.items.length<=4000000/\d.p.en.length<=4000000/\d.uses.length<=4000000
 it:∀it∈d.items,it.small
 el:d.ess.length<=4000000
 m1:d.p.var.num.mag.length<=1048576/\d.p.var.den.length<=1048576
 m2:d.p.lvl.num.mag.length<=1048576/\d.p.lvl.den.length<=1048576
 m3:d.p.rate.num.mag.length<=1048576/\d.p.rate.den.length<=1048576
theorem Ay6(l:List Nat):(Au l).length=l.length:=by simp [Au]
theorem Amo{d:Dl}(h:SmlV 1048576 d.v):DlSm d:=by
 cases h with
 |agg h=>
  have o:=L9 (h (.ro 5 (Ee d.p.rules)) sm);have m:=L9 (h (.ro 9 (B8 d.pool)) sm);have a:=h (.ro 17 (Hg d.items)) sm;have r:=L9 (h (.ro 2 (A0 d.p.en)) sm);have n:=L9 (h (.ro 2 (A0 d.uses)) sm);have s:=L9 (h (.ro 1 (As d.ess)) sm);have i:=L9 (h (.ro 1 (Au d.p.var.num.mag)) sm);have l:=L9 (h (.ro 1 (Au d.p.var.den)) sm);have e:=L9 (h (.ro 1 (Au d.p.lvl.num.mag)) sm);have f:=L9 (h (.ro 1 (Au d.p.lvl.den)) sm);have g:=L9 (h (.ro 1 (Au d.p.rate.num.mag)) sm);have j:=L9 (h (.ro 1 (Au d.p.rate.den)) sm);rw [Qv]at o;rw [Da]at m;rw [Dq]at r n;rw [A5]at s;rw [Ay6]at i l e f g j;cases a with
  |ro a k=>
   rw [Fl]at a;exact⟨⟨by omega,by omega,by omega,by omega,by omega⟩,fun it c=>A5e (k _ (I0 c)),by omega,⟨i,l⟩,⟨e,f⟩,⟨g,j⟩⟩
theorem Aea{d:Dl}(i:A5c d.p)(h:DlSm d)(hs:Adf d=true):DlOk d:=by
 obtain⟨⟨e,f⟩,⟨j,a⟩,k,g⟩:=i;unfold Adf at hs
 split at hs
 ·cases hs
 ·rename_i hn;have c:Fm d.p.rules<=3:=by simpa using hs
  have hb:=h.b;obtain⟨m1,m2⟩:=h.m1;obtain⟨m3,m4⟩:=h.m2;obtain⟨m5,m6⟩:=h.m3;exact⟨⟨⟨⟨e,by omega⟩,f,by omega⟩,⟨⟨j,by omega⟩,a,by omega⟩,⟨⟨k,by omega⟩,g,by omega⟩⟩,by omega,c,by omega,h.it,h.el⟩
theorem Ab9{H:Type}{d:DataW H}{l:List (DataW H)}(h:d∈l):Rows.uptoBulk d<=Rows.uptoBulkAll l:=by
 induction l with
 |nil=>cases h
 |cons x r ih=>
  simp only [Rows.uptoBulkAll];cases Cg.1 h with
  |inl e=>subst e;omega
  |inr e=>have:=ih e;omega
theorem A5f{H:Type}(d:DataW H):1<=Rows.uptoBulk d:=by
 cases d with
 |lit l=>cases l<;>simp [Rows.uptoBulk]
 |_ =>simp [Rows.uptoBulk]
theorem Aqu{H:Type}(l:List (DataW H)):l.length<=Rows.uptoBulkAll l:=by
 induction l with
 |nil=>simp [Rows.uptoBulkAll]
 |cons x r ih=>have:=A5f x;simp only [Rows.uptoBulkAll,Bc];omega
theorem Amp(H:Type):BulkOk (Rows.uptoBulk (H:=H))where
 str b:=by simp [Rows.uptoBulk]
 slice elems spare:=by
  refine⟨?_,fun e a=>?_⟩
  ·have:=Aqu elems;simp only [Rows.uptoBulk];omega
  ·have:=Ab9 a;simp only [Rows.uptoBulk];omega
 agg parts e a:=by have:=Ab9 a;simp only [Rows.uptoBulk];omega
theorem Tu{H:Type}{l:List (DataW H)}(a:Rows.uptoSmall H l=true):∀d∈l,Rows.uptoBulk d<=1048576:=by
 have h:Rows.uptoBulkAll l<=1048576:=of_decide_eq_true a;exact fun d c=>Aj (Ab9 c) h
abbrev Av8:List (String × DataW Unit):=Rows.sessionTimeRow.laid
theorem Av9{W:World}(hs:W.ShapedOpen prog):gv.P W:=
 Go.Proofs.cell_of_shapedOpen_int (zero:= #[.int .i64 0]) (t:=3) hs (of_decide_eq_true kr) kr rfl kr kr underlying3
def Be2:DataW Unit->Value
 | .lit (.int k n)=>.int k n
 |_ =>undef
def Bfq(l:List (DataW Unit)):List Value:=l.flatMap fun
 | .agg m=>m.map Be2
 |x=>[Be2 x]
noncomputable def Bc9(h:Array Obj)(x:String × DataW Unit):Array Obj:=match prog.globalNamed x.1,x.2 with
 |some g,.agg l=>h.modify g fun
   | .cells _ t a=>.cells (Bfq l).toArray t a
   |o=>o
 |_,_ =>h
noncomputable def Kf(a:Os):World:=
 { World.holding prog a ⟨#[],#[],[]⟩with heap:=Av8.foldl Bc9 (World.holding prog a ⟨#[],#[],[]⟩).heap}
def zI:Value:=.int .i64 0
def zS:Value:=.slice none 0 0
def zd:Value:=.agg #[zI,zI,zI,zS,zS,zS,zS,zI,.bool false,zS,zS,zI,.bool false,zS,zS,zI,.bool false,zS,zS,zI,zS,zS,zS,zS,zI,zI,zI,zI,zI,.int .u64 0]
def zl:Value:=.slice none 0 0
def zm:Value:=.agg #[zI,zI,zI,zS,zI,.string ⟨#[]⟩,.bool false,zI,zI,zI,zI,zI]
def zp:Value:=.agg #[zI,zI]
def dI{H:Type}:DataW H:=.lit (.int .i64 0)
def dR{H:Type}:DataW H:=.agg [.agg [.lit (.bool false),.nil],.nil]
def dD{H:Type}:DataW H:=.agg [dI,dI,.agg [.agg [dI,.nil],.agg [.nil,.nil],.nil,dI,dR,dI,dR,dI,dR,dI],.nil,.nil,.nil,.nil,dI,dI,.agg [dI,dI,dI],.lit (.int .u64 0)]
def dM{H:Type}:DataW H:=.agg [.agg [dI,dI,.agg [dI,.nil,dI,.lit (.string []),.lit (.bool false)],.agg [dI,dI,dI,dI]],dI]
def dP{H:Type}:DataW H:=.agg [dI,dI]
theorem Akk(a:Os):laidMet prog Av8 ((Kf a).forCall (fun _ _ =>0) ⟨#[],#[zd,zl],[]⟩).memory:=
 laidMet_of_run' 8 kr kr
end Go.Proofs.YtpaccopbbffkaaaGreatDoor
