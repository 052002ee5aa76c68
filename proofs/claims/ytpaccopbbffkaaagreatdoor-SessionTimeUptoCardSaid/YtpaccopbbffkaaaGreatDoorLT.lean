/- Sessions: SessionTime, the given statement (second form). No condition. -/
import Derived.Test.YtpaccopbbffkaaaGreatDoorB6
import Derived.Test.YtpaccopbbffkaaaGreatDoorFT
set_option maxHeartbeats 8000000
set_option linter.all false
open Go.Proofs.Tryz
set_option maxRecDepth 4000
namespace Go.Proofs.YtpaccopbbffkaaaGreatDoor
open Go.Eng Go.Eng.Limb
def Ma(d:Dl)(a:An):It:=Jd (Fr d.items a.item)
def Gl(d:Dl):List An->List (Int × Int)
 | []=>[]
 |a::l=>(if(Ma d a).kind=6 then []else [(a.item,(F7 (Ma d a) a).1)])++Gl d l
set_option linter.unusedSimpArgs false
theorem N4{l:List In4}(h:∀i∈l,Ib i=0)(c:l.length<=301):∀k,k<=l.length->0<=Hj l k/\Hj l k<=86400*k
 |0,_ =>by simp [Hj]
 |k+1,hk=>by
  obtain⟨h1,h2⟩:=N4 h c k om;have a:Ib (l.getD k ⟨0,0,0,0⟩)=0:=by rw [Cf (by omega)];exact h _ (Aw _)
  have hb:0<=(l.getD k ⟨0,0,0,0⟩).lo/\(l.getD k ⟨0,0,0,0⟩).lo<=86400:=by
   unfold Ib at a
   (repeat' split at a)<;>first|(exact absurd a dc)|omega
  unfold Hj
  split
  ·rw [Bb om (by omega)];omega
  ·omega
theorem Pk{l:List In4}(x:In4):∀k,k<=l.length->Hj (l++[x]) k=Hj l k
 |0,_ =>rfl
 |k+1,hk=>by
  have e:(l++[x]).getD k ⟨0,0,0,0⟩=l.getD k ⟨0,0,0,0⟩:=by
   simp only [Cv];rw [Bj (by omega)]
  unfold Hj;rw [e,Pk x k (by omega)]
theorem Aal{l:List In4}{x:In4}(h:∀i∈l++[x],Ib i=0)(c:(l++[x]).length<=301):Hj l l.length<=Hj (l++[x]) (l++[x]).length:=by
 have h1:=N4 h c l.length sm;have e:(l++[x]).length=l.length+1:=sm;rw [e,<- Pk x l.length (A8 _)];have a:Ib ((l++[x]).getD l.length ⟨0,0,0,0⟩)=0:=by rw [Cf (by simp)];exact h _ (Aw _)
 have hb:0<=((l++[x]).getD l.length ⟨0,0,0,0⟩).lo/\((l++[x]).getD l.length ⟨0,0,0,0⟩).lo<=86400:=by
  unfold Ib at a
  (repeat' split at a)<;>first|(exact absurd a dc)|omega
 have d:l.length<=300:=by rw [e]at c;omega
 show _ <=(if _ then _ else _)
 split
 ·rw [Bb om (by omega)];omega
 ·omega
theorem Lb{l:List In4}(h:∀i∈l,Ib i=0)(hl:l.length<=300):Q0 l=0:=by
 unfold Q0;rw [if_neg (by omega)];exact U6 h
structure TimeI(d:Dl)(s:Se):Prop where
 us:0<=s.us/\s.us<=Ej d s
 la:0<=s.la/\s.la<=1099511627776
 ic:∀i∈s.inc,Ib i=0
 il:s.inc.length<=300
structure DlT(d:Dl):Prop where
 sec:1<=d.sec/\d.sec<=9999999
 lim:W6 d.sec d.nu d.de d.ex=0
theorem Kg{d:Dl}(h:Gv d=0):DlT d:=by
 unfold Gv at h
 (repeat' split at h)<;>try omega
 rename_i h1 _ _ _ _ _ _ h8
 have hs:1<=d.sec/\d.sec<=9999999:=by
  have:Jj d.sec 1 9999999=true:=by
   cases e:Jj d.sec 1 9999999
   ·exact absurd (.inr (.inr e)) h1
   ·rfl
  unfold Jj at this;simp at this;exact this
 refine⟨hs,?_⟩;unfold W6;rw [if_neg (by omega)]
theorem Aam(l:List In4)(m:Int)(hm:0<=m)(h:∀i∈l,Ib i=0)(a:l.length<=300):0<=Ix l m/\Ix l m<=m:=by
 unfold Ix;rw [if_neg (by simp [Lb h a])];have:=N4 h om l.length (A8 _);have e:Lf m=m:=by unfold Lf;rw [if_neg (by omega)]
 rw [e];split<;>omega
theorem Kt{d:Dl}{s:Se}(a:DlT d)(h:∀i∈s.inc,Ib i=0)(f:s.inc.length<=300):
  Ej d s=R3 d.sec d.nu d.de d.ex+Ix s.inc d.sec/\0<=Ej d s/\Ej d s<=5000000000:=by
 obtain⟨b1,b2,b3,b4,b5,b6,b7⟩:=Amf a.lim;obtain⟨b8,b9⟩:=a.sec;obtain⟨c1,c2⟩:=Aam s.inc d.sec om h f;have c:R3 d.sec d.nu d.de d.ex=(d.sec*d.nu+d.de-1)/d.de+d.ex:=by unfold R3;rw [if_neg (by simp [a.lim])]
 have e:Ej d s=R3 d.sec d.nu d.de d.ex+Ix s.inc d.sec:=by
  unfold Ej;rw [c];exact Bb om om
 refine⟨e,?_,?_⟩<;>rw [e,c]<;>omega
theorem Sz{l:List In4}{x:In4}{m:Int}(hm:0<=m)(h:∀i∈l++[x],Ib i=0)(f:(l++[x]).length<=300):Ix l m<=Ix (l++[x]) m:=by
 have j:∀i∈l,Ib i=0:=fun i g=>h i (E4 _ g)
 have d:l.length<=300:=by simp at f;omega
 have hu:=Aal h om;unfold Ix;rw [if_neg (c:=Q0 l≠0) (by simp [Lb j d]),if_neg (c:=Q0 (l++[x])≠0) (by simp [Lb h f])];have e:Lf m=m:=by unfold Lf;rw [if_neg (by omega)]
 rw [e];generalize Hj l l.length=a,Hj (l++[x]) (l++[x]).length=b at*
 split
 ·split<;>omega
 ·split<;>omega
theorem Vm{d:Dl}{s:Se}{n:Int}(h:TimeI d s)(c:DlT d)(a:Hw s n=true):s.us<=Gk s n/\Gk s n<=2000000000000:=by
 obtain⟨h1,h2⟩:=h.us;obtain⟨h3,h4⟩:=h.la;have h5:=(Kt c h.ic h.il).2.2;unfold Hw at a;simp at a;unfold Gk
 split
 ·rw [Bb (x:=s.us+n) om om,Bb om (by omega)];omega
 ·omega
theorem Ag4{d:Dl}{s:Se}{n:Int}(h:TimeI d s)(a:DlT d)(c:Hw s n=true):s.us<=Kl (Gk s n) (Ej d s)/\Kl (Gk s n) (Ej d s)<=Ej d s:=by
 have h1:=Vm h a c;have h2:=h.us;unfold Kl;split<;>omega
theorem S0{d:Dl}{t:Te}{s:Se}{e:Ev}(l:DlT d)(h:TimeI d s)(hp:Gw d t s e=0):TimeI d (H3 d t s e)/\s.us<=(H3 d t s e).us:=by
 have n:Hw s e.time=true/\swE d t s e=0:=by
  unfold Gw at hp
  (repeat' split at hp)<;>try omega
  rename_i h2;exact⟨by cases e1:Hw s e.time<;>simp_all,hp⟩
 obtain⟨r,f⟩:=n;have u:0<=e.time/\e.time<=1099511627776:=by unfold Hw at r;simp at r;omega
 have a:∀s':Se,(s.us<=s'.us/\s'.us<=Ej d s')->(∀i∈s'.inc,Ib i=0)->s'.inc.length<=300->TimeI d { s' with la:=e.time}/\s.us<=s'.us:=fun s' h1 h2 o=>
  ⟨⟨⟨by have:=h.us;show 0<=s'.us;omega,h1.2⟩,u,h2,o⟩,h1.1⟩
 have x:=Ag4 h l r;have hu:=Vm h l r;have g:=h.us;unfold H3;unfold swE at f;unfold swS
 split at f
 ·rename_i h1;rw [if_pos h1];exact a _ ⟨Ft _,g.2⟩ h.ic h.il
 rename_i h1;rw [if_neg h1]
 split at f
 ·rename_i h2;rw [if_pos h2]
  have aa:¬Ej d s<Gk s e.time:=by
   unfold Nh at f
   (repeat' split at f)<;>first|omega|assumption
  exact a _ ⟨hu.1,by show Gk s e.time<=Ej d s;omega⟩ h.ic h.il
 rename_i h2;rw [if_neg h2]
 split at f
 ·rename_i o;rw [if_pos o];exact a _ x h.ic h.il
 rename_i o;rw [if_neg o]
 split at f
 ·rename_i w;rw [if_pos w];exact a _ ⟨Ft _,g.2⟩ h.ic h.il
 rename_i w;rw [if_neg w]
 split at f
 ·rename_i y;rw [if_pos y]
  have hi:Ib e.inc=0/\s.inc.length<300:=by
   unfold Agz at f
   (repeat' split at f)<;>try omega
  have k:∀i∈s.inc++[e.inc],Ib i=0:=fun i c=>by
   rcases B3.1 c with c|c
   ·exact h.ic i c
   ·rw [By.1 c];exact hi.1
  have j:(s.inc++[e.inc]).length<=300:=by simp;omega
  refine a _ ⟨x.1,?_⟩ k j;show Kl (Gk s e.time) (Ej d s)<=Ej d (Pt d s e)
  have e1:=(Kt l h.ic h.il).1;have e2:=(Kt (s:=Pt d s e) l k j).1;have e3:=Sz (m:=d.sec) (by have:=l.sec;omega) k j;have e4:(Pt d s e).inc=s.inc++[e.inc]:=rfl;rw [e4]at e2;omega
 rename_i y;rw [if_neg y]
 split at f
 ·rename_i z;rw [if_pos z];exact a _ x h.ic h.il
 rename_i z;rw [if_neg z];exact a _ ⟨Ft _,g.2⟩ h.ic h.il
theorem Vn{d:Dl}(c:DlT d):TimeI d Vi:=by
 have h:=(Kt (s:=Vi) c (fun i a=>by cases a) dc).2.1;exact⟨⟨Ft _,h⟩,⟨Ft _,by decide⟩,(fun i a=>by cases a),by decide⟩
structure TimeL(d:Dl)(s n:Se):Prop where
 e1:W6 d.sec d.nu d.de d.ex=0
 e2:Q0 n.inc=0
 e3:Aml d n n.la=0
 u1:s.us<=n.us
 lm:IntKind.i64.wrap (R3 d.sec d.nu d.de d.ex+Ix n.inc d.sec)=Ej d n
 u2:n.us<=Ej d n
 l3:n.st=3->Vj d n n.la=0
 l4:n.st≠3->Vj d n n.la=IntKind.i64.wrap (Ej d n-n.us)
theorem Ag5{d:Dl}{s n:Se}(f:Gv d=0)(a:TimeI d n)(j:s.us<=n.us):TimeL d s n:=by
 have i:=Kg f;obtain⟨l1,l2,l3⟩:=Kt i a.ic a.il;obtain⟨u1,l⟩:=a.us;obtain⟨a1,a2⟩:=a.la;have h:Hw n n.la=true:=by unfold Hw;simp;omega
 have c:Gk n n.la=n.us:=by
  unfold Gk;split
  ·rw [Bb (x:=n.us+n.la) om om,Bb om (by omega)];omega
  ·rfl
 have g:Vj d n n.la=if n.st=3 then 0 else Ada (Ej d n) n.us:=by
  unfold Vj;rw [if_neg (by simp [f,h]),c]
 have o:Ada (Ej d n) n.us=IntKind.i64.wrap (Ej d n-n.us):=by
  unfold Ada;have k:Lf (Ej d n)=Ej d n:=by unfold Lf;rw [if_neg (by omega)]
  have m:Lf n.us=n.us:=by unfold Lf;rw [if_neg (by omega)]
  rw [k,m,Bb om (by omega)];unfold Lf;rw [if_neg (by omega)]
 refine⟨i.lim,Lb a.ic a.il,?_,j,rfl,l,fun e=>by rw [g,if_pos e],fun e=>by rw [g,if_neg e,o]⟩;unfold Aml;rw [if_neg (by simp [f]),if_neg (by simp [h])]
theorem Amq(hS:Ic)(hW:Hm gv prog 9 [] (fun r=>r=.bool true))(d:Dl)(l:List Ev)(hd:DlOk d)(hb:d.p.rules.length<=4000000/\d.pool.length<=4000000/\d.items.length<=4000000/\d.p.en.length<=4000000/\d.uses.length<=4000000)
  (hl:l.length<=4000000)(ha:∀e∈l,e.an.small):Hm gv prog 6 [d.v,.ro 11 (F0 l)] (fun r=>r=.bool true):=by
 have c7:=Ph d hb;have c8:=O0 hS d hd;have c9:=hW;have am:=Ad6;have a4:=Ath l hl;have aw:∀e∈l.take 14,e.an.small:=fun e he=>ha e (Bz he)
 have bh:(l.take 14).length<=14:=Dy 14 l;have c:=F8 l;generalize F0 l=bf,l.take 14=m at*
 have ad:∀k,(Gc d (m.take k)).2.length<=k/\SeB k (Gc d (m.take k)).1:=fun k=>by
  obtain⟨h1,h2,_⟩:=Aai hd (l:=m.take k) (by have:=Dy k m;have:=List.length_take_le' k m;omega) (fun e he=>aw e (Bz he));have hk:=Dy k m;exact⟨Aj h1 hk,SeB.mk' (Q3 h2.te hk) (Aj h2.al hk) h2.ac (Aj h2.il hk)⟩
 have ab:=fun(k:Nat)(h:k<m.length)=>Qk d h
 have ao:Gc d (m.take 0)=(Vi,[]):=by rw [H0];rfl
 have au:∀k(h:k<m.length),Hm gv prog 12 [d.v,(Gc d (m.take k)).1.v,m[k].v] (fun r=>r=.tup [(if K9 d (Gc d (m.take k)).1 m[k]=0 then Sx d (Gc d (m.take k)).1 m[k]else Vi).v,.int .i64 (K9 d (Gc d (m.take k)).1 m[k])]):=fun k h=>
  Qj hS d _ _ hd (aw _ (Aw h)) ((ad k).2.ok om) ((ad k).2.w998 om) (Aj (ad k).2.st om)
 have af:Gv d=0->∀k(h:k<m.length),K9 d (Gc d (m.take k)).1 m[k]=0->TimeL d (Gc d (m.take k)).1 (Gc d (m.take (k+1))).1:=fun h0=>by
  have hT:∀k,k<=m.length->TimeI d (Gc d (m.take k)).1:=by
   intro k
   induction k with
   |zero=>exact fun _ =>by rw [ao];exact Vn (Kg h0)
   |succ k ih=>
    intro hk;rw [ab k (by omega)];unfold Vl
    split
    ·rename_i hz;exact(S0 (Kg h0) (ih om) (by unfold K9 at hz;rwa [if_neg (by simp [h0])]at hz)).1
    ·exact ih om
  intro k hk hz;have hp:Gw d (Cx d) (Gc d (m.take k)).1 m[k]=0:=by have ax:=hz;unfold K9 at ax;rwa [if_neg (by simp [h0])]at ax
  have h2:=S0 (Kg h0) (hT k om) hp;have e1:(Gc d (m.take (k+1))).1=H3 d (Cx d) (Gc d (m.take k)).1 m[k]:=by rw [ab k hk];unfold Vl;rw [if_pos hz];rfl
  rw [e1];exact Ag5 h0 h2.1 h2.2
 generalize hA:(fun k=>Gc d (m.take k))=A;have a5:∀k,Gc d (m.take k)=A k:=fun k=>by rw [<- hA]
 clear hA;simp only [a5]at*;have lm:=Kx m;have pm:=F8 m;have qm:=fun(k:Nat)(h:k<m.length)=>Q4 h
 generalize F0 m=mv at*;have y1:=fun x:Se=>Af x.t.elig
 have y2:=fun x:Se=>A4 x.t.steps
 have y:=fun x:Se=>Br x.t.w
 have o:=fun x:Se=>D0 x.ans
 have y5:=fun x:Se=>Dh x.inc
 have y6:=fun x:Se=>Ey x.inc
 have y7:=fun x:Se=>Fz x.ans
 have ai:∀x:Se,x.v=V.agg [.int .i64 x.st,.int .i64 x.us,.int .i64 x.la,.int .i64 x.sh,.ro 1 (As x.t.elig),.ro 2 (A0 x.t.steps),.int .i64 x.t.pend,.ro 1 (Bv x.t.w),.int .u64 x.t.draw,.int .i64 x.t.stop,.ro 5 (E7 x.ans),.ro 4 (Dc x.inc)]:=fun x=>rfl
 have a2:∀e:Ev,e.v=V.agg [.int .i64 e.kind,.int .i64 e.time,.int .i64 e.an.item,.ro 1 (As e.an.ch),.int .i64 e.an.val,.str e.an.txt,.bool e.an.om,.int .i64 e.inc.ki,.int .i64 e.inc.ti,.int .i64 e.inc.lo,.int .i64 e.inc.gr]:=fun e=>rfl
 have ag:d.v=V.agg [.int .i64 d.ses,.int .i64 d.cand,.int .i64 d.p.len,.ro 5 (Ee d.p.rules),.ro 1 (As d.p.g.pts),.ro 1 (As d.p.g.pri),.ro 2 (A0 d.p.en),.int .i64 d.p.mn,.bool d.p.var.num.neg,.ro 1 (Au d.p.var.num.mag),.ro 1 (Au d.p.var.den),.int .i64 d.p.cut,.bool d.p.lvl.num.neg,.ro 1 (Au d.p.lvl.num.mag),.ro 1 (Au d.p.lvl.den),.int .i64 d.p.top,.bool d.p.rate.num.neg,.ro 1 (Au d.p.rate.num.mag),.ro 1 (Au d.p.rate.den),.int .i64 d.p.slack,.ro 9 (B8 d.pool),.ro 17 (Hg d.items),.ro 1 (As d.ess),.ro 2 (A0 d.uses),.int .i64 d.served,.int .i64 d.sec,.int .i64 d.nu,.int .i64 d.de,.int .i64 d.ex,.int .u64 d.seed]:=rfl;rw [ai]at am;rw [ag]at c7 c8;simp only [ag,ai,a2]at au qm;rw [ag];have ay:=Ap6 d.sec d.nu d.de d.ex;have az:=fun(x:Se)=>A9b hS d x x.la hd
 simp only [ag,ai]at az;have d0:=Cq d.p.rules;have d1:=Af d.p.g.pts;have d2:=Af d.p.g.pri;have d3:=A4 d.p.en;have d4:=Ah d.p.var.num.mag;have d5:=Ah d.p.var.den;have z:=Ah d.p.lvl.num.mag;have d7:=Ah d.p.lvl.den;have u:=Ah d.p.rate.num.mag;have d9:=Ah d.p.rate.den;have i:=B4 d.pool;have a:=Eu d.items;have f:=Af d.ess;have j:=A4 d.uses;generalize Ee d.p.rules=rv,As d.p.g.pts=pt,As d.p.g.pri=pr,A0 d.p.en=ev,Au d.p.var.num.mag=vm,Au d.p.var.den=vd,Au d.p.lvl.num.mag=lm,Au d.p.lvl.den=ld,Au d.p.rate.num.mag=rm,Au d.p.rate.den=rd at*;have bc:=Da d.pool;have bd:=Fl d.items;have be:=A5 d.ess;generalize B8 d.pool=lv,Hg d.items=a3,As d.ess=ba,A0 d.uses=uv at*;refine Bx func6 (fun w0 N0 hG=>?_);refine Aa [1,2] [2] sr (Ab (Ab (Ac (Am 1 sr ?_))));refine Ai c7 func7 ?_ (hp:=by simp);refine Ag [1,2,18] [2] sr ?_
 refine Ao (fun h1=>?_) (fun h1=>Ae ?_)
 ·exact Aa [4] [] sr (Ak (Ad sr rf))
 refine Ab (Ab (Ac (Am 1 sr ?_)));refine Be hG c8 func8 ?_ (hp:=by simp);refine Ag [1,2,21] [2] sr ?_
 refine Ao (fun h2=>?_) (fun h2=>Ae ?_)
 ·refine Ab (Ac (Be hG c9 func9 ?_));refine Ag [4] [] sr ?_;exact Ak (Ad sr (rfl))
 have h0:Gv d=0:=by simpa using h2
 have a6:=af h0;refine Ab (Ac (Ai am func10 ?_));refine Ag [1,2,5] [2,5] sr ?_;refine Ab (Ab (Ac (Am 1 (by simp<;>rfl) ?_)));refine Jk a4 func11 rfl kr rfl rfl rfl (by simp<;>rfl) (by simp) (by simp<;>rfl) ?_;refine Ag [2,5,25,26,27] [2,5] sr ?_;refine Ap (Bq (fun k nx=>⟨[(2,V.bp 2 0 30 0 0),(5,V.bp 5 9 12 0 0),(25,V.ro 11 mv),(26,V.int .i64 mv.length),(27,V.int .i64 k)],[(2,⟨0,30,44,[V.agg [.int .i64 d.ses,.int .i64 d.cand,.int .i64 d.p.len,.ro 5 rv,.ro 1 pt,.ro 1 pr,.ro 2 ev,.int .i64 d.p.mn,.bool d.p.var.num.neg,.ro 1 vm,.ro 1 vd,.int .i64 d.p.cut,.bool d.p.lvl.num.neg,.ro 1 lm,.ro 1 ld,.int .i64 d.p.top,.bool d.p.rate.num.neg,.ro 1 rm,.ro 1 rd,.int .i64 d.p.slack,.ro 9 lv,.ro 17 a3,.ro 1 ba,.ro 2 uv,.int .i64 d.served,.int .i64 d.sec,.int .i64 d.nu,.int .i64 d.de,.int .i64 d.ex,.int .u64 d.seed]]⟩),(5,⟨9,12,58,[V.agg [.int .i64 (A k).1.st,.int .i64 (A k).1.us,.int .i64 (A k).1.la,.int .i64 (A k).1.sh,.ro 1 (As (A k).1.t.elig),.ro 2 (A0 (A k).1.t.steps),.int .i64 (A k).1.t.pend,.ro 1 (Bv (A k).1.t.w),.int .u64 (A k).1.t.draw,.int .i64 (A k).1.t.stop,.ro 5 (E7 (A k).1.ans),.ro 4 (Dc (A k).1.inc)]]⟩)],nx,114⟩) (fun k=>True) m.length _ trivial (by simp only [ao];exact AS.le_refl _) ?_);intro k nx hk hI;refine Aa [2,5,25,26,27,28] [2,5] sr (Ab ?_)
 refine Ao (fun h3=>Ae ?_) (fun h3=>?_)
 ·have aa:k<m.length:=by simp at h3;omega
  have ar:k<mv.length:=om;have ga:=qm k aa;have C9:=A7 (k:=k) om;have ak:=au k aa;have aq:=ab k aa;have a9:=a6 k aa;have bg:=(ad k).2;have pc:=Af m[k].an.ch;generalize bi:m[k]=e at*;generalize As e.an.ch=hv at*;refine Ab (Ap (Aa [2,5,7,25,26,27] [2,5,7] (by simp [ga,ar]<;>rfl) (Ab (Ac (Am 3 sr ?_)))));refine Be hG ak func12 ?_ (hp:=by simp);refine Ag [2,5,8,9,25,26,27] [2,5,8] sr ?_;refine Ab (Aa [2,5,8,25,26,27,39] [2,5,8] sr ?_)
  refine Ao (fun h4=>?_) (fun h4=>Ae ?_)
  ·have a1:¬K9 d (A k).1 e=0:=by simpa using h4
   have e1:A (k+1)=A k:=by rw [aq];unfold Vl;rw [if_neg a1]
   refine A9 ?_;refine A2 [2,5,25,26,27] [2,5] (by simp [C9]<;>rfl) ?_;exact⟨aa,trivial,_,by rw [e1];exact AS.le_refl _⟩
  have hz:K9 d (A k).1 e=0:=by simpa using h4
  have e1:(A (k+1)).1=Sx d (A k).1 e:=by rw [aq];unfold Vl;rw [if_pos hz]
  have TL:=a9 hz;rw [if_pos hz,<- e1];generalize(A (k+1)).1=n,(A k).1=s at*;have av:=Avv n.inc d.sec;have ah:=az n;rw [TL.e1]at ay;rw [TL.e2]at av;rw [TL.e3]at ah;have aj:=TL.lm;have a8:¬n.us<s.us:=Int.not_lt.2 TL.u1;have a0:¬Ej d n<n.us:=Int.not_lt.2 TL.u2;have a7:=TL.l3;have bb:=TL.l4;generalize R3 d.sec d.nu d.de d.ex=LV,Ix n.inc d.sec=LO,Ej d n=LM,Vj d n n.la=LN at*;refine Ab (Ac (Am 4 (by simp<;>rfl) ?_));refine Jk ay func17 rfl kr rfl rfl rfl (by simp<;>rfl) sm (by simp<;>rfl) ?_;refine Ag [2,5,8,10,11,25,26,27] [2,5,8] (by simp<;>rfl) ?_;refine Ab (Ac (Am 4 (by simp<;>rfl) ?_));refine Jk av func18 rfl kr rfl rfl rfl (by simp<;>rfl) (by simp) (by simp<;>rfl) ?_;refine Ag [2,5,8,10,11,12,13,25,26,27] [2,5,8] (by simp<;>rfl) ?_;refine Ab (Ac (Am 4 (by simp<;>rfl) ?_));refine Be hG ah func19 ?_ (hp:=by simp);refine Ag [2,5,8,10,11,12,13,14,15,25,26,27] [2,5,8] (by simp<;>rfl) ?_;refine Ab (Aa [2,5,8,10,12,14,25,26,27,88] [2,5,8] (by simp [aj,a8,a0]<;>rfl) ?_);refine A6 rfl (fun h5=>by simp at h5) (fun h5=>Ae (Ab ?_))
  by_cases ae:n.st=3
  ·have hL:=a7 ae;refine Aa [2,5,8,25,26,27,110] [2,5,8] (by simp [ae,hL,aj]<;>rfl) ?_;refine A6 rfl (fun h6=>by simp at h6) (fun h6=>Ae (A2 [2,5,25,26,27] [2,5] (by simp<;>rfl) (A2 [2,5,25,26,27] [2,5] (by simp [C9]<;>rfl) ?_)));exact⟨aa,trivial,_,by rw [<- ae];exact AS.le_refl _⟩
  have hL:=bb ae;refine Aa [2,5,8,25,26,27,110] [2,5,8] (by simp [ae,hL,aj]<;>rfl) ?_;refine A6 rfl (fun h6=>by simp at h6) (fun h6=>Ae (A2 [2,5,25,26,27] [2,5] (by simp<;>rfl) (A2 [2,5,25,26,27] [2,5] (by simp [C9]<;>rfl) ?_)));exact⟨aa,trivial,_,AS.le_refl _⟩
 ·refine A9 ?_;refine Ab (Ac (Be hG c9 func9 ?_));refine Ag [4] [] sr ?_;exact Ak (Ad sr (rfl))
def ShI(d:Dl)(s:Se):Prop:=
 (s.t.stop=0/\s.sh=s.t.pend/\s.sh∈I3 d.pool/\s.sh∉Gh s.t.steps)\/(s.t.stop≠0/\s.t.pend=0/\(s.sh=0\/(s.sh∈d.ess/\∀a∈s.ans,a.item≠s.sh)))
structure FaI(d:Dl)(s:Se):Prop where
 nd:(s.ans.map An.item).Nodup
 nz:∀a∈s.ans,a.item≠0
 fd:∀a∈s.ans,(Fr d.items a.item).isSome=true
 ok:∀a∈s.ans,(Ma d a).kind≠6->(F7 (Ma d a) a).2=0
 st:s.t.steps=Gl d s.ans
 run:s.st=1\/s.st=2->ShI d s
 off:¬(s.st=1\/s.st=2)->s.sh=0
 new:s.st=0->s.ans= []
theorem Amr(d:Dl)(l:List Ev)(hb:d.p.rules.length<=4000000/\d.pool.length<=4000000/\d.items.length<=4000000/\d.p.en.length<=4000000/\d.uses.length<=4000000)(hs:Adf d=false):Hm gv prog 6 [d.v,.ro 11 (F0 l)] (fun r=>r=.bool true):=by
 have i:=Ph d hb;rw [hs]at i;have pl:=F8 l;generalize F0 l=y at*;have h:d.v=V.agg [.int .i64 d.ses,.int .i64 d.cand,.int .i64 d.p.len,.ro 5 (Ee d.p.rules),.ro 1 (As d.p.g.pts),.ro 1 (As d.p.g.pri),.ro 2 (A0 d.p.en),.int .i64 d.p.mn,.bool d.p.var.num.neg,.ro 1 (Au d.p.var.num.mag),.ro 1 (Au d.p.var.den),.int .i64 d.p.cut,.bool d.p.lvl.num.neg,.ro 1 (Au d.p.lvl.num.mag),.ro 1 (Au d.p.lvl.den),.int .i64 d.p.top,.bool d.p.rate.num.neg,.ro 1 (Au d.p.rate.num.mag),.ro 1 (Au d.p.rate.den),.int .i64 d.p.slack,.ro 9 (B8 d.pool),.ro 17 (Hg d.items),.ro 1 (As d.ess),.ro 2 (A0 d.uses),.int .i64 d.served,.int .i64 d.sec,.int .i64 d.nu,.int .i64 d.de,.int .i64 d.ex,.int .u64 d.seed]:=rfl;rw [h]at i|-;have t:=Cq d.p.rules;have w:=Af d.p.g.pts;have x:=Af d.p.g.pri;have j:=A4 d.p.en;have m:=Ah d.p.var.num.mag;have o:=Ah d.p.var.den;have s:=Ah d.p.lvl.num.mag;have n:=Ah d.p.lvl.den;have k:=Ah d.p.rate.num.mag;have u:=Ah d.p.rate.den;have e:=B4 d.pool;have a:=Eu d.items;have f:=Af d.ess;have c:=A4 d.uses;generalize Ee d.p.rules=rv,As d.p.g.pts=pt,As d.p.g.pri=pr,A0 d.p.en=ev,Au d.p.var.num.mag=vm,Au d.p.var.den=vd,Au d.p.lvl.num.mag=lm,Au d.p.lvl.den=ld,Au d.p.rate.num.mag=rm,Au d.p.rate.den=rd at*;have z:=Da d.pool;have ab:=Fl d.items;have ad:=A5 d.ess;generalize B8 d.pool=lv,Hg d.items=ae,As d.ess=aa,A0 d.uses=uv at*;refine Bx func6 (fun w0 N0 hG=>?_);refine Aa [1,2] [2] (by simp [ntmps6]<;>rfl) (Ab (Ab (Ac (Am 1 sr ?_))));refine Ai i func7 ?_ (hp:=by simp);refine Ag [1,2,18] [2] sr ?_
 refine A6 rfl (fun h1=>?_) (fun h1=>by simp at h1)
 ·exact Aa [4] [] sr (Ak (Ad sr rf))
end Go.Proofs.YtpaccopbbffkaaaGreatDoor
set_option linter.unusedSimpArgs false
set_option maxRecDepth 10000
namespace Go.Proofs.YtpaccopbbffkaaaGreatDoor
open Go.Eng Go.Eng.Limb Go.ChangeShapes Go.WideShapes Go.ChangeAt Go.RowKit
theorem Ay9(os:Os){H:Type}(enc:TypeId × Value->H):∃ds places,DataW.whole enc prog ((Kf os).forCall (fun _ _ =>0) ⟨#[],#[zd,zl],[]⟩).memory Tryz.f6.params.toList Rows.sessionTimeSpec.vars false #[zd,zl].toList 8=some (ds,[],places)/\Rows.uptoSmall H (ds++[])=true:=
 ⟨[dD,.nil],[],by kernel_rfl,by kernel_rfl⟩
set_option maxRecDepth 100000 in
theorem Atl(os:Os)(started:os.Started)(H:Type)(enc:TypeId × Value->H)(F:Stop.Interp):
  ReturnsInHanded {} Tryz.checked os 6 .any ((Rows.OpenSpec.upto Rows.sessionTimeSpec).preRow enc prog Tryz.f6 Rows.sessionTimeUptoRow.domain false Rows.sessionTimeUptoRow.laid) (((Rows.OpenSpec.upto Rows.sessionTimeSpec).at F).post enc prog Tryz.f6 false true false false):=by
 obtain⟨ds,places,hx,hsm⟩:=Ay9 os enc
 refine returnsInHanded_of_row (C:=Tryz.checked) (s:=Rows.OpenSpec.upto Rows.sessionTimeSpec) (kr:ownKnob prog.godebug=none) started kr func6
  (witness_row_at (enc:=enc) (C:=Tryz.checked) false (Kf os) #[zd,zl] rfl kr kr kr
   (OpenSpec.preRow_of_cond 8 hx kr (fun k hk=>by cases hk;exact hsm) kr (Akk os))) ?_
 intro W base args ds gs before hval hW _ hcond _ hL hS _
 refine Qr (s:=Rows.sessionTimeSpec) (L:=[44,36,24,22,86,27,25,28,368,34,32,30,149,37,115,113,111,38,93,91,39,240,41,42,45,66,62,64,79,3,9,4]) (tb:=4) (ts:=[44,45]) (by rw [params6]) kr kr Ad8 rfl underlying4 rfl (fun ds hl=>?_) (fun vs hvs hsm=>?_) (Av9 hS) (Amp H) (fun d hd=>Tu (hcond _ rfl) d (E4 _ hd)) hval hW
 ·match ds,hl with
  | [d0,d1],_ =>rfl
 ·obtain⟨v0,r0,rfl,h0,v1,r1,rfl,h1,rfl⟩:=hvs;obtain⟨d,rfl,hlim⟩:=P8 h0;obtain⟨l,rfl⟩:=Tt h1;have hd:=Amo (hsm d.v sm);obtain⟨hl,ha⟩:=Ad9 (hsm (.ro 11 (F0 l)) sm);cases hs:Adf d with
  |false=>exact Amr d l hd.b hs
  |true=>exact Amq Ro (Wr Ro) d l (Aea hlim hd hs) hd.b hl ha
theorem Adg:Rows.SessionTimeUptoSaid:=
 OpenClaim.holds_of_cond 6 Tryz.f6 rfl rfl rfl rfl rfl rfl rfl ⟨rfl,rfl,rfl,rfl,rfl⟩ rfl rfl rfl rfl rfl Akl func6 Ay8
  (of_decide_eq_true kr) (by unfold Func.isWrapper;first|(rw [if_pos (by decide+kernel)];kernel_rfl)|(rw [if_neg (by decide+kernel)];exact⟨rfl,rfl⟩))
  (fun os started H enc _ F=>by rw [OpenClaim.pre_eq_preRow];exact Atl os started H enc F)
theorem Aza(f:FuncId)(fn:Func)(hf:Tryz.pinned.checked.prog.funcNamed "examboard/examboardlaw51.SessionTime" =some f)(hfn:Tryz.pinned.checked.prog.funcs[f]? =some fn):
  false=Tryz.pinned.checked.prog.looks []/\∀(j:Nat)t,fn.params[j]? =some t->Tryz.pinned.checked.prog.wantsStandIn t=false:=by
 obtain rfl:f=6:=Fh (Akl.symm.trans hf)|>.symm;obtain rfl:fn=Tryz.f6:=(Fh (func6.symm.trans hfn)).symm;refine⟨Ay7,fun j t ht=>?_⟩;rw [params6]at ht
 have h3:t=44\/t=45:=by
  have:=Array.mem_of_getElem? ht;simp at this;omega
 rcases h3 with rfl|rfl
 ·exact(show prog.wantsStandIn 44=false by kernel_rfl)
 ·exact(show prog.wantsStandIn 45=false by kernel_rfl)
theorem sessionTimeProved:Rows.SessionTimeUptoCardSaid:=
 Claim7.holds_tied_plain_at .later [] _ _ _ _ Adg (fun _ h=>by cases h) A99 (fun _ h=>by cases h) sessionTimeUpto_row_tie rfl ⟨rfl,rfl⟩ A5g rfl Aza A5h
end Go.Proofs.YtpaccopbbffkaaaGreatDoor
