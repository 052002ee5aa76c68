/- Sessions: part 5 of the proof. No condition. -/
import Derived.Test.YtpaccopbbffkaaaGreatDoorB4
import Derived.Lib.ReplaceLaws
import Derived.Lib.SplitLaws
set_option maxHeartbeats 8000000
set_option linter.all false
open Go.Proofs.Tryz
set_option maxRecDepth 4000
namespace Go.Proofs.YtpaccopbbffkaaaGreatDoor
open Go.Eng Go.Eng.Limb
instance:Inhabited Pit:=⟨⟨0,[],0,0,0,0,0,0,[]⟩⟩
theorem Apn{l:List Pit}{k:Nat}(h:k<l.length):Hs (B8 l) k=some (.agg (l.getD k default).cs):=by rw [Cf h];exact I7 h
def A3y(pool:List Pit)(id:Int):Nat:=(Ah6 pool id).toNat
def X9(pool:List Pit)(a giv:List Int):Nat->List Int
 |0=>a
 |k+1=>(X9 pool a giv k).set (A3y pool (giv.getD k 0)) 1
theorem Age(pool:List Pit)(a giv:List Int):∀k,(X9 pool a giv k).length=a.length
 |0=>rfl
 |k+1=>by rw [X9,H5,Age pool a giv k]
def Bch(pool:List Pit)(a giv:List Int)(k:Nat):Bool:=decide ((X9 pool a giv k).getD (A3y pool (giv.getD k 0)) 0=0)
def Abw(x:List Int)(pool:List Pit):Nat->List Int
 |0=>[]
 |k+1=>if x.getD k 0=1 then Abw x pool k++[(pool.getD k default).id]else Abw x pool k
theorem Agf(x:List Int)(pool:List Pit):∀k,(Abw x pool k).length<=k
 |0=>A8 _
 |k+1=>by have:=Agf x pool k;rw [Abw];split<;>simp<;>omega
theorem Aj0{P:Program}{w0:Bs}{N0:Nat->Prop}{Q:Exit->AS->Prop}{S:AS}{c:Code}(d sz:Nat)(ty:TypeId)(h:AW P w0 N0 c Q { S with objs:=(d,⟨S.nx,sz,ty,[]⟩)::S.objs,nx:=S.nx+1}):AW P w0 N0 c Q S:=
 Ui (fun _ _ _ _⟨_,hr⟩=>⟨_,hr.addRow d sz ty⟩) h
def A3z(c:List Int)(a:List Rw)(d:List Int):Int:=
 if Abt c a d≠0 then Abt c a d
 else if a.any (fun r=>decide (r.mx<r.mn))=true then 14
 else if(grD c a d).found=false then 14 else 0
def Wz(a:List Int)(c:List Rw)(d:List Int):List Int:=((Ayc a c d (grD a c d).most).best).getD []
def Avj(a:List Int)(c:List Rw)(d:List Int):Prop:=
 Abt a c d=0->c.any (fun r=>decide (r.mx<r.mn))=false->(grD a c d).found=true->∃b,(Ayc a c d (grD a c d).most).best=some b/\b.length=a.length
theorem Ass(a:List Int)(c:List Rw)(d:List Int)(h:Avj a c d):
  (A3z a c d≠0/\A3w a c d=.tup [.nils,.int .i64 0,.int .i64 (A3z a c d)])\/
  (A3z a c d=0/\(Wz a c d).length=a.length/\A3w a c d=.tup [.ro 1 (As (Wz a c d)),.int .i64 (grD a c d).most,.int .i64 0]):=by
 unfold A3z A3w
 by_cases h1:Abt a c d≠0
 ·left;simp only [if_pos h1];exact⟨h1,trivial⟩
 ·simp only [if_neg h1]
  by_cases h2:c.any (fun r=>decide (r.mx<r.mn))=true
  ·left;simp only [if_pos h2];exact⟨by decide,trivial⟩
  ·simp only [if_neg h2]
   by_cases e:(grD a c d).found=false
   ·left;simp only [if_pos e];exact⟨by decide,trivial⟩
   ·right
    obtain⟨b,g,f⟩:=h (by simpa using h1) (by simpa using h2) (by simpa using e);simp only [if_neg e];unfold Wz;rw [g];exact⟨trivial,f,rfl⟩
def shE(a:List Int)(c:List Rw)(pool:List Pit)(d giv:List Int):Int:=
 if(List.range giv.length).any (Bch pool d giv)=true then 14 else A3z a c (X9 pool d giv giv.length)
def shT(a:List Int)(c:List Rw)(pool:List Pit)(d giv:List Int):List Int:=Abw (Wz a c (X9 pool d giv giv.length)) pool pool.length
def Agg(e:Int)(l:List Int):V:=if e=0 then .tup [.ro 1 (As l),.int .i64 0]else .tup [.nils,.int .i64 e]
theorem Ast(a:List Int)(c:List Rw)(d:List Int)(pool:List Pit)(giv:List Int)(v:Nat)(hv:a.length<20)(hr:c.length<=1000)(hx:d.length=a.length)(bh:pool.length<=a.length)(hg:giv.length<=1000)
  (af:∀id∈giv,0<=Ah6 pool id)(ao:Avj a c (X9 pool d giv giv.length)):
  Wt gv prog 155 [.agg [.ro 1 (As a),.ro 3 (Hq c),.sl 78 v 1 d.length],.ro 9 (B8 pool),.ro 1 (As giv)] [(78,⟨v,1,3,As d⟩)]
   (fun r aj=>r=Agg (shE a c pool d giv) (shT a c pool d giv)/\∃q es,aj= [(78,⟨q,1,3,es⟩)]):=by
 have z:=Zr pool;change∀id,Hm gv prog 201 [.ro 9 (B8 pool),.int .i64 id] (fun r=>r=.int .i64 (Ah6 pool id))at z;have y:=fun id=>(Au4 (fun p:Pit=>decide (p.id=id)) pool 0).2.1
 change∀id,Ah6 pool id<_ at y;have i:=Ayd a c (X9 pool d giv giv.length) hv ⟨hr,by rw [Age];omega⟩;have an:=Ass a c _ ao;have al:=Age pool d giv;have a6:∀k,X9 pool d giv (k+1)=(X9 pool d giv k).set (A3y pool (giv.getD k 0)) 1:=fun k=>rfl
 have ay:X9 pool d giv 0=d:=rfl;have a9:∀k,Bch pool d giv k=decide ((X9 pool d giv k).getD (A3y pool (giv.getD k 0)) 0=0):=fun k=>rfl
 unfold Agg shE shT;generalize bd:X9 pool d giv=g at*;generalize Bch pool d giv=bg at*;have pl:=B4 pool;have pv:=Af a;have pr:=Hb c;have pg:=Af giv;have a1:=fun(k:Nat)(h:k<giv.length)=>Dj h
 have bn:=A5 giv;have a2:=fun(k:Nat)(h:k<pool.length)=>Apn h
 have bi:=Da pool;generalize As a=vv at*;generalize Hq c=rw at*;generalize As giv=ab at*;generalize bj:B8 pool=t at*;refine Ig func155 (fun w0 N0 s hG=>?_);refine Aa [1,2,3] [3,78] sr (Ab (Aa [1,3,17,18,19] [3,78] sr (Ap (Bq (fun k nx=>⟨[(1,V.ro 9 t),(3,V.bp 3 s 3 0 0),(17,.ro 1 ab),(18,.int .i64 ab.length),(19,V.int .i64 k)],[(3,⟨s,3,257,[V.agg [V.ro 1 vv,V.ro 3 rw,V.sl 78 v 1 d.length]]⟩),(78,⟨v,1,3,As (g k)⟩)],nx,65⟩) (fun k=>((List.range giv.length).take k).any bg=false) giv.length _ rfl (by simp only [ay];exact AS.le_refl _) ?_))));intro k nx hk hI;refine Aa [1,3,17,18,19,20] [3,78] sr (Ab ?_)
 refine Ao (fun h1=>Ae ?_) (fun h1=>?_)
 ·have e:k<giv.length:=by simp at h1;omega
  have n:k<ab.length:=om;have ga:=a1 k e;have C9:=A7 (k:=k) om;have au:=fun h=>Ii giv.length k bg e hI h
  have az:=fun h=>Nd (f:=bg) e h
  have a5:=He af e 0;have ad:=a6 k;have u:=a9 k;unfold A3y at ad u;have ae:=z (giv.getD k 0);have bf:=y (giv.getD k 0);generalize giv.getD k 0=id at*;generalize Ah6 pool id=px at*;obtain⟨pn,rfl⟩:=Co a5;simp only [Dv]at ad u;have bc:=al k;have a4:pn<(g k).length:=om;have am:pn<d.length:=om;have gp:=Dj a4;have ah:=A5 (g k);have aw:=Vd (g k) pn 1;generalize bb:As (g k)=ag at*;have ak:ag.length=d.length:=om;refine Ab (Ap (Aa [1,3,9,17,18,19] [3,78] (by simp [ga,n]<;>rfl) (Ab (Ac (Am 2 sr ?_)))));refine Ho hG ae func201 rfl kr (by simp) rfl rfl rfl sr (by simp) sr ?_;refine Ag [1,3,10,17,18,19] [3,78] sr ?_;refine Ab (Aa [1,3,10,17,18,19,31] [3,78] (by simp [gp,am]<;>rfl) ?_)
  refine Ao (fun h2=>?_) (fun h2=>Ae ?_)
  ·refine Aa [6,7] [78] sr ?_;have hA:=az (by rw [u];simpa using h2);simp only [hA,if_true];exact C7 s (Dz (Ba _ _) sr ⟨by simp,v,ag,rfl⟩ (fun k o hk=>Dt gt hk))
  refine A2 [1,3,17,18,19] [3,78] (by simp [gp,am]<;>rfl) (A2 [1,3,17,18,19] [3,78] (by simp [C9]<;>rfl) ?_);exact⟨e,au (by rw [u];simpa using h2),_,by rw [ad,aw];exact AS.le_refl _⟩
 ·refine A9 ?_;have w:k=giv.length:=by simp at h1;omega
  rw [w,Bf (by simp)]at hI;simp only [hI,Fv,if_false];rw [w];have l:=Af (g giv.length);have ah:(As (g giv.length)).length=d.length:=by rw [A5];exact al _
  generalize a0:As (g giv.length)=bk at*;refine Bt 78 [1,3] [3] (by simp [l,ah]<;>rfl) ?_
  rcases an with⟨ai,aa⟩|⟨he,be,aa⟩
  ·rw [aa]at i;refine Ab (Ac (Am 1 sr ?_));refine Ho hG i func202 rfl kr (by simp) rfl rfl rfl sr (by simp) sr ?_;refine Ag [1,11,13] [] sr ?_;refine Ab (Aa [1,11,13,44] [] sr ?_);refine A6 rfl (fun h3=>?_) (fun h3=>absurd h3 (by simpa using ai));refine Aa [6,7] [] sr ?_;refine Aj0 78 1 3 ?_;exact C7 s (Dz (Ba _ _) sr ⟨by rw [if_neg ai],_,[],rfl⟩ (fun k o hk=>Dt (by simp [Eng.get];rfl) hk))
  rw [aa]at i;have a8:=fun(k:Nat)(h:k<(Wz a c (g giv.length)).length)=>Dj h
  have bm:=A5 (Wz a c (g giv.length));have bq:=Af (Wz a c (g giv.length));have ar:∀k,Abw (Wz a c (g giv.length)) pool (k+1)=if(Wz a c (g giv.length)).getD k 0=1 then Abw (Wz a c (g giv.length)) pool k++[(pool.getD k default).id]else Abw (Wz a c (g giv.length)) pool k:=fun k=>rfl
  have a3:=Agf (Wz a c (g giv.length)) pool;have av:Abw (Wz a c (g giv.length)) pool 0= []:=rfl;simp only [he,if_true];generalize Abw (Wz a c (g giv.length)) pool=tk at*;generalize Wz a c (g giv.length)=xb at*;generalize As xb=xv at*;refine Ab (Ac (Am 1 sr ?_));refine Ho hG i func202 rfl kr (by simp) rfl rfl rfl sr (by simp) sr ?_;refine Ag [1,11,13] [] sr ?_;refine Ab (Aa [1,11,13,44] [] sr ?_);refine A6 rfl (fun h3=>absurd h3 sm) (fun h3=>Ae (Aa [1,11,14] [] sr (Ab (Aa [11,14,46,47,48] [] sr ?_))));refine F5 14 100 1 3 [11,14,46,47,48] [100] sr sr ?_;refine Ap ?_
  refine Dr (fun x:Nat × Nat × Nat=>⟨[(11,.ro 1 xv),(14,.sl 100 x.2.1 1 (tk x.1).length),(46,.ro 9 t),(47,.int .i64 t.length),(48,V.int .i64 (x.1:Nat))],[(100,⟨x.2.1,1,3,As (tk x.1)⟩)],x.2.2,65⟩)
   (fun x=>x.1<=pool.length) (fun x=>pool.length-x.1) (0,_,_) (B6 _) (by simp only [av];exact AS.le_refl _) ?_
  rintro⟨j,qv,bl⟩ax;simp only at ax|-;refine Aa [11,14,46,47,48,49] [100] sr (Ab ?_)
  refine Ao (fun h4=>Ae ?_) (fun h4=>?_)
  ·have e:j<pool.length:=by simp at h4;omega
   have n:j<t.length:=om;have ga:=a2 j e;have C9:=A7 (k:=j) om;have hs:=ar j;have bo:=a3 j;have a7:j<xb.length:=om;have gx:=a8 j a7;have ba:j<xv.length:=om;unfold Pit.cs at ga;generalize pool.getD j default=p at*;have pm:=Dw p.m;generalize tk j=Lk at*;have aq:Lk.length+1<=maxLen/\(Lk.length+1)*8<=140737488355328:=⟨Aj (show Lk.length+1<=30 by omega) dc,by omega⟩;refine Ab (Ap (Aa [11,14,15,16,46,47,48] [16,100] (by simp [ga,n]<;>rfl) (Aa [11,14,16,46,47,48,57] [16,100] (by simp [gx,ba]<;>rfl) ?_)))
   refine Ao (fun h5=>?_) (fun h5=>Ae ?_)
   ·rw [if_pos (by simpa using h5)]at hs;refine A2 [11,14,46,47,48] [100] (by simp [aq]<;>rfl) (A2 [11,14,46,47,48] [100] (by simp [C9]<;>rfl) ?_);exact⟨(j+1,_,_),e,by simp only;omega,by simp only [hs,Wh,Bi,Bc,B0];exact AS.le_refl _⟩
   rw [if_neg (by simpa using h5)]at hs;refine A2 [11,14,46,47,48] [100] (by simp [C9]<;>rfl) ?_;exact⟨(j+1,_,_),e,by simp only;omega,by simp only [hs];exact AS.le_refl _⟩
  ·refine A9 ?_;have w:j=pool.length:=by simp at h4;omega
   subst w;have pL:=Af (tk pool.length);have lL:=A5 (tk pool.length);refine Bt 100 [14] [] (by simp [pL,lL]<;>rfl) (Aa [6,7] [] sr ?_);refine Aj0 78 1 3 ?_;exact C7 s (Dz (Ba _ _) sr ⟨rfl,_,[],rfl⟩ (fun k o hk=>Dt (by simp [Eng.get];rfl) hk))
def A30(len:Int)(rs:List Ru)(pool:List Pit)(en:List (Int × Int))(giv a:List Int):Int:=
 if Agd len rs pool en giv≠0 then Agd len rs pool en giv else shE (X6 a rs) (T9 len rs pool en (pool.length+Fm rs)) pool (P7 rs pool) giv
def Ac7(len:Int)(rs:List Ru)(pool:List Pit)(en:List (Int × Int))(giv a:List Int):List Int:=
 shT (X6 a rs) (T9 len rs pool en (pool.length+Fm rs)) pool (P7 rs pool) giv
theorem A31{len:Int}{rs:List Ru}{pool:List Pit}{en:List (Int × Int)}{giv:List Int}(h:Agd len rs pool en giv=0):∀id∈giv,0<=Ah6 pool id:=by
 unfold Agd at h
 split at h
 ·omega
 ·split at h
  ·omega
  ·rename_i h2;intro id a
   by_cases e:Ah6 pool id<0
   ·exact absurd (Dp.2 ⟨id,a,by simpa using e⟩) h2
   ·omega
theorem A32(len:Int)(rs:List Ru)(pool:List Pit)(en:List (Int × Int))(giv a:List Int)(n:Int)(hs:Sp len rs=0)(hp:Kd pool n=0)(ae:pool.length+Fm rs<20)(he:en.length<=400)(hg:giv.length<=1000)
  (i:a.length=pool.length)(u:∀v∈a,-1000000<=v/\v<=1000000)
  (x:Avj (X6 a rs) (T9 len rs pool en (pool.length+Fm rs)) (X9 pool (P7 rs pool) giv giv.length))(e:pool.length<=18):
  Hm gv prog 108 [Qw len rs,.ro 9 (B8 pool),.ro 2 (A0 en),.ro 1 (As giv),.ro 1 (As a)] (fun r=>r=Agg (A30 len rs pool en giv a) (Ac7 len rs pool en giv a)):=by
 have c:=Al5 len rs pool en giv a n hs hp e he hg i u;have g:=fun h=>A31 (len:=len) (rs:=rs) (pool:=pool) (en:=en) (giv:=giv) h
 have ad:rs.length<=20:=(Alu hs).2.2.1
 have z:(T9 len rs pool en (pool.length+Fm rs)).length<=1000:=by
  have h1:=Ao9 len rs pool (pool.length+Fm rs) (Nx en (pool.map Pit.id)) (Nx en (pool.map Pit.id)).length e;have h2:(Nx en (pool.map Pit.id)).length<=400:=by unfold Nx;exact Aj (Gd _ _) (Aj (Abq en) he)
  unfold T9;omega
 have af:(X6 a rs).length=pool.length+Fm rs:=by unfold X6;simp [i]
 have m:=fun v h=>Ast (X6 a rs) (T9 len rs pool en (pool.length+Fm rs)) (P7 rs pool) pool giv v om z (by rw [Apa];omega) om hg (g h) x
 have pl:=B4 pool;have pr:=Cq rs;have pe:=A4 en;have pv:=Af a;have pg:=Af giv;unfold A30 Ac7;unfold Ajs Apc Ava at c;unfold Qw at c|-;generalize shE (X6 a rs) (T9 len rs pool en (pool.length+Fm rs)) pool (P7 rs pool) giv=se,shT (X6 a rs) (T9 len rs pool en (pool.length+Fm rs)) pool (P7 rs pool) giv=sT,As (X6 a rs)=xv,Hq (T9 len rs pool en (pool.length+Fm rs))=cv,As (P7 rs pool)=fv,(P7 rs pool).length=fl,Agd len rs pool en giv=w,As a=vv,As giv=ab,A0 en=ev at*;generalize B8 pool=ag at*;generalize Ee rs=rv at*
 by_cases s:w=0
 ·subst s;simp only [if_true,ne_eq,not_true_eq_false,if_false]at c|-;refine Bx func108 (fun w0 N0 t=>?_);refine Aa [1,2,3,4,5] [5] sr (Ab (Ac (Am 5 sr ?_)));refine Qq t c func154 rfl kr rfl rfl rfl sr (fun k o d=>by cases d) ?_;rintro r f y⟨v,rfl,rfl⟩j;refine⟨fun k d=>rfl,_,by simp<;>rfl,?_⟩;refine Ag [1,3,12,13] [12,78] sr ?_;refine Ab (Aa [1,3,12,13,24] [12,78] sr ?_);refine A6 rfl (fun h1=>absurd h1 sm) (fun h1=>Ae (Ab (Ac (Am 3 sr ?_))));refine Qq t (m v rfl) func155 rfl kr rfl rfl rfl sr (fun k o d=>Dt gt d) ?_;rintro r f ah⟨rfl,q,es,rfl⟩aa;unfold Agg
  by_cases l:se=0
  ·subst l;simp only [if_true];have pT:=Af sT;refine⟨fun k d=>Mt d,_,by simp<;>rfl,?_⟩;refine Ag [10,11] [] sr ?_;exact Ak (Ad (by simp [results108]<;>rfl) rfl)
  ·simp only [if_neg l];refine⟨fun k d=>Mt d,_,by simp<;>rfl,?_⟩;refine Ag [10,11] [] sr ?_;exact Ak (Ad sr rfl)
 ·simp only [if_neg s]at c;unfold Agg;simp only [ne_eq,s,not_false_eq_true,if_true,if_false];refine Bx func108 (fun w0 N0 t=>?_);refine Aa [1,2,3,4,5] [5] sr (Ab (Ac (Am 5 sr ?_)));refine Qq t c func154 rfl kr rfl rfl rfl sr (fun k o d=>by cases d) ?_;rintro r f y⟨rfl,rfl⟩j;refine⟨fun k d=>rfl,_,by simp<;>rfl,?_⟩;refine Ag [1,3,12,13] [12] sr ?_;refine Ab (Aa [1,3,12,13,24] [12] sr ?_)
  refine A6 rfl (fun h1=>?_) (fun h1=>absurd h1 (by simpa using s))
  ·exact Aa [10,11] [] sr (Ak (Ad sr rf))
structure Te where
 elig:List Int
 steps:List (Int × Int)
 pend:Int
 w:List Nat
 draw:Int
 stop:Int
def teV(t:Te)(a c:V):V:=.agg [.ro 1 (As t.elig),a,.int .i64 t.pend,c,.int .u64 t.draw,.int .i64 t.stop]
def Te.v(t:Te):V:=teV t (.ro 2 (A0 t.steps)) (.ro 1 (Bv t.w))
structure teOk(t:Te):Prop where
 el:t.elig.length<=1000
 sl:t.steps.length<=1000
 wl:t.w.length<=1000
 wd:Ks t.w 100000
theorem Aj1(n:Nat):(Fo n).all Ml=true:=by
 rw [Ax];intro x a;simp only [Fo,Au,Bk]at a;obtain⟨k,_,rfl⟩:=a;rfl
theorem Avk{a b k:Nat}{x y o:Ob}{l:List (Nat × Ob)}(h1:Eng.get l a=some x)(h2:Eng.get l b=some y)(c:Eng.get [(a,x),(b,y)] k=some o):Eng.get l k=some o:=by
 simp only [Eng.get]at c
 split at c
 ·rename_i e;subst e;injection c with c;subst c;exact h1
 ·split at c
  ·rename_i e;subst e;injection c with c;subst c;exact h2
  ·cases c
theorem Aj2(t:Te)(h:teOk t):
  ACS prog 161 [t.v] [] (fun r f=>∃q1 q2,r=teV t (.sl 101 q1 2 t.steps.length) (.sl 18 q2 1 t.w.length)/\f= [(101,⟨q1,2,98,A0 t.steps⟩),(18,⟨q2,1,30,Bv t.w⟩)]) (fun _ =>False):=by
 have he:=h.el;have ae:=h.sl;have af:=h.wl;have g:=Acv (As t.elig) (Af _) (Sq _) (by rw [A5];omega);have m:=Z1 (A0 t.steps) (A4 _) (flatP _) (by rw [Dq];omega);have j:=fun(n:Nat)(h:(Fo n).length<=100000)=>Acw (Fo n) (Ex n) (Aj1 n) h
 have aa:=fun(k:Nat)(u:k<t.w.length)=>h.wd _ (Aw u)
 have pe:=Af t.elig;have ps:=A4 t.steps;have pw:=Br t.w;have ls:=Dq t.steps;have lw:=H2 t.w;have hq:=fun(k:Nat)(h:k<t.w.length)=>Kb h
 have hg:=fun(k:Nat)(h:k<t.w.length)=>Qh h
 have y:(t.w.length:Int)<=9223372036854775807:=om;have z:24*(t.w.length:Int)<=281474976710656:=om;unfold Te.v teV;generalize As t.elig=ev,A0 t.steps=sv,Bv t.w=c at*;refine Hk func161 (fun w0 N0 a=>?_);refine Aa [1,2] [1,2] sr (Aa [1,2,3] [1,2,3] sr (Ab (Ac (Am 2 sr ?_))));refine Ai g func110 ?_ (hp:=by simp);refine Ag [1,2,3] [1,2,3] sr ?_;refine Ab (Ac (Am 2 sr ?_));refine My 101 m func111 rfl kr rfl rfl rfl sr (by simp [AS.views,AS.view,AS.viewC]<;>rfl) sr ?_;refine Ag [1,2,3] [1,2,3,101] sr ?_;refine Aa [1,2,3] [1,2,3,18,101] (by simp [y,z,lw]<;>rfl) (Ab (Aa [2,3,21,22,23] [2,3,18,101] sr (Ap (Bq (fun k nx=>⟨[(2,V.bp 2 (a+1) 6 0 0),(3,V.bp 3 (a+2+1) 6 0 0),(21,V.ro 1 c),(22,V.int .i64 c.length),(23,V.int .i64 k)],[(2,⟨a+1,6,54,[V.agg [V.nils,V.nils,V.int .i64 0,V.nils,V.int .u64 0,V.int .i64 0]]⟩),(3,⟨a+2+1,6,54,[V.agg [V.ro 1 ev,V.sl 101 (a+2+3+5+2) 2 sv.length,V.int .i64 t.pend,V.sl 18 (a+2+3+5+5+3) 1 t.w.length,V.int .u64 t.draw,V.int .i64 t.stop]]⟩),(18,⟨(a+2+3+5+5+3),1,30,Fy c .nils k⟩),(101,⟨(a+2+3+5+2),2,98,sv⟩)],nx,36⟩) (fun k=>True) t.w.length _ trivial (by rw [I8,lw];exact AS.le_refl _) ?_))));intro k nx u hI;have ad:=J6 c .nils k om;refine Aa [2,3,21,22,23,24] [2,3,18,101] sr (Ab ?_)
 refine Ao (fun h1=>Ae ?_) (fun h1=>?_)
 ·have d:k<t.w.length:=by simp at h1;omega
  have l:k<c.length:=om;have ga:=hq k d;have gg:=hg k d;have C9:=A7 (k:=k) om;have e:=j _ (show(Fo t.w[k]).length<=100000 by have:=aa k d;simpa [Fo]using this);have pn:=Ex t.w[k];change Hs c k=some (.ro 1 (Fo t.w[k]))at ga;generalize Fo t.w[k]=nv at*;have i:=J8 c .nils k om gg;have x:Hs (Fy c .nils k) k=some .nils:=J7 c _ k om;have s:(Fy c .nils k).length=t.w.length:=om;generalize Fy c .nils k=row at*;refine Ab (Ap (Aa [2,3,4,5,21,22,23] [2,3,18,101] (by simp [ga,l]<;>rfl) ?_));refine C4 [(0,[]),(2,[]),(3,[]),(4,[]),(1,[]),(5,[]),(6,[])] Dm kr ?_;refine Ch 3 sr ?_;refine Bw (fun hg=>e) func113 rfl kr rfl rfl sr rfl rfl sr (by simp) sr ?_;refine C5 [2,3,21,22,23] [2,3,18,101] (by simp [d,x,i]<;>rfl) ?_;refine A2 [2,3,21,22,23] [2,3,18,101] (by simp [C9]<;>rfl) ?_;exact⟨d,trivial,_,AS.le_refl _⟩
 ·refine A9 ?_;have ab:k=t.w.length:=by simp at h1;omega
  rw [ab,K1 c .nils t.w.length (by omega)];refine Aa [2] [2,18,101] sr ?_;exact C7 a (Dz (Ba _ _) sr ⟨(a+2+3+5+2),(a+2+3+5+5+3),by rw [ls],rfl⟩ (fun k o u=>Avk gt gt u))
theorem Agh{l:List V}{k:Nat}{x:V}(h:l[k]? =some x):l.set k x=l:=by
 apply Ld;intro i;rw [Le]
 by_cases e:k=i
 ·subst e;have a:=(Aq.1 h).1;rw [if_pos rfl,if_pos a,h]
 ·rw [if_neg e]
theorem Aj3(t:Te)(h:teOk t):AC prog 115 [t.v] (fun r=>r=t.v):=by
 have j:=Aj2 t h;have ae:=h.wl;have y:=fun(k:Nat)(f:k<t.w.length)=>h.wd _ (Aw f)
 have c:=fun(n:Nat)(hn:(B1 n).length<=100000)=>Zf (B1 n) (Cr n) om
 simp only [C2]at c;change∀n,_ ->AC prog 147 [.ro 1 (Fo n)] (fun r=>r=.ro 1 (Fo n))at c;have pe:=Af t.elig;have ps:=A4 t.steps;have m:=Br t.w;have ls:=Dq t.steps;have s:=H2 t.w;have hq:=fun(k:Nat)(h:k<t.w.length)=>Kb h
 have hg:=fun(k:Nat)(h:k<t.w.length)=>Qh h
 unfold Te.v teV at*;generalize As t.elig=ev,A0 t.steps=sv,Bv t.w=wv at*;refine Ay func115 (fun w0 N0=>?_);refine Aa [1,2] [1,2] sr (Ab (Ac (Am 1 sr ?_)));refine Et j func161 rfl kr rfl rfl rfl sr (fun k o f=>by cases f) ?_ (fun ch l=>l.elim);rintro r aa i⟨q1,x,rfl,rfl⟩ab;refine⟨fun k f=>rfl,_,by simp<;>rfl,?_⟩;refine Ag [2,3] [2,3,18,101] sr ?_;refine Ab (Aa [2,3,9,10,11] [2,3,18,101] sr (Ap (Bq (fun k nx=>⟨[(2,V.bp 2 1 6 0 0),(3,V.bp 3 (i+2) 6 0 0),(9,V.sl 18 x 1 t.w.length),(10,V.int .i64 t.w.length),(11,V.int .i64 k)],[(2,⟨1,6,54,[V.agg [V.nils,V.nils,V.int .i64 0,V.nils,V.int .u64 0,V.int .i64 0]]⟩),(3,⟨i+2,6,54,[V.agg [V.ro 1 ev,V.sl 101 q1 2 t.steps.length,V.int .i64 t.pend,V.sl 18 x 1 t.w.length,V.int .u64 t.draw,V.int .i64 t.stop]]⟩),(18,⟨x,1,30,wv⟩),(101,⟨q1,2,98,sv⟩)],nx,24⟩) (fun k=>True) t.w.length _ trivial (AS.le_refl _) ?_)));intro k nx f hI;refine Aa [2,3,9,10,11,12] [2,3,18,101] sr (Ab ?_)
 refine Ao (fun h1=>Ae ?_) (fun h1=>?_)
 ·have a:k<t.w.length:=by simp at h1;omega
  have d:k<wv.length:=om;have u:=hq k a;have gg:=hg k a;have C9:=A7 (k:=k) om;have e:=c t.w[k] (y k a);have pn:=Ex t.w[k];change Hs wv k=some (.ro 1 (Fo t.w[k]))at u;generalize Fo t.w[k]=nv at*;have g:=Agh gg;refine Ab (Ap (Aa [2,3,4,5,9,10,11] [2,3,18,101] (by simp [u,a]<;>rfl) ?_));refine C4 [(0,[]),(2,[]),(3,[]),(4,[]),(1,[]),(5,[]),(6,[])] Dm kr ?_;refine Ch 3 sr ?_;refine Bw (fun hg=>e) func147 rfl kr rfl rfl sr rfl rfl sr (by simp) sr ?_;refine C5 [2,3,9,10,11] [2,3,18,101] (by simp [a,u,g]<;>rfl) ?_;refine A2 [2,3,9,10,11] [2,3,18,101] (by simp [C9]<;>rfl) ?_;exact⟨a,trivial,_,AS.le_refl _⟩
 ·refine A9 ?_;refine Aa [2] [2,18,101] sr ?_;have ad:=F4 ps;have z:=F4 m;refine Bt 101 [2] [2,18] (by simp [ps,ls,z]<;>rfl) (Bt 18 [2] [2] (by simp [m,s]<;>rfl) ?_);exact Ak (Ad (by simp [results115]<;>rfl) (rfl))
set_option linter.unusedSimpArgs false
theorem Apo(a:Int):AC prog 204 [.int .i64 a] (fun r=>r=.bool false):=by
 refine Ay func204 (fun w0 N0=>?_);refine Aa [0] [] sr ?_;exact Aa [2] [] sr (Ak (Ad sr rf))
def cmpI(a b:Int):Int:=if a<b then -1 else if b<a then 1 else 0
theorem Agi(a b:Int):AC prog 159 [.int .i64 a,.int .i64 b] (fun r=>r=.int .i64 (cmpI a b)):=by
 have f:=Apo a;have g:=Apo b;unfold cmpI;refine Ay func159 (fun w0 N0=>?_);refine Aa [0,1] [] sr (Ab (Ac (Am 1 sr ?_)));refine Ai f func204 ?_;refine Ag [0,1,5] [] sr ?_;refine Ab (Ac (Am 1 sr ?_));refine Ai g func204 ?_;refine Ag [0,1,5,6] [] sr ?_;refine Ab (Aa [0,1,6,11] [] sr ?_);refine A6 rfl (fun h1=>absurd h1 sm) (fun h1=>Ae (Ab (Aa [0,1,13] [] sr ?_)));refine A6 rfl (fun e=>absurd e sm) (fun e=>Ae (Ab (Aa [0,1,16] [] sr ?_)))
 refine Ao (fun c=>?_) (fun c=>Ae ?_)
 ·exact Aa [4] [] sr (Ak (Ad sr (by rw [if_pos (by simpa using c)])))
 refine Ab (Aa [19] [] sr ?_)
 refine Ao (fun d=>?_) (fun d=>Ae ?_)
 ·exact Aa [4] [] sr (Ak (Ad sr (by rw [if_neg (by simpa using c),if_pos (by simpa using d)])))
 exact Aa [4] [] sr (Ak (Ad sr (by rw [if_neg (by simpa using c),if_neg (by simpa using d)])))
def orF:List Int->Int
 | []=>0
 |a::r=>if a≠0 then a else orF r
theorem A33{l:List Int}{k:Nat}(h:k<l.length):orF (l.drop k)=if l[k]≠0 then l[k]else orF (l.drop (k+1)):=by rw [Bu h,orF]
theorem Ber(l:List Int)(hl:l.length<=1000):AC prog 158 [.ro 1 (As l)] (fun r=>r=.int .i64 (orF l)):=by
 have j:=fun(k:Nat)(h:k<l.length)=>Fj h
 have lq:=A5 l;have pl:=Af l;have n:=fun(k:Nat)(h:k<l.length)=>A33 h
 generalize As l=g at*;refine Ay func158 (fun w0 N0=>?_);refine Aa [0] [] sr (Aa [0,3] [] sr (Ab (Aa [3,6,7,8] [] sr (Ap (Bq (fun k nx=>⟨[(3,V.int .i64 0),(6,V.ro 1 g),(7,V.int .i64 g.length),(8,V.int .i64 k)],[],nx,18⟩) (fun k=>orF (l.drop k)=orF l) l.length _ rfl (AS.le_refl _) ?_)))));intro k nx hk i;refine Aa [3,6,7,8,9] [] sr (Ab ?_)
 refine Ao (fun h1=>Ae ?_) (fun h1=>?_)
 ·have c:k<l.length:=by simp at h1;omega
  have d:k<g.length:=om;have m:=j k c;have C9:=A7 (k:=k) om;have e:=n k c;generalize l[k]=a at*;refine Ab (Ap (Aa [3,5,6,7,8] [] (by simp [m,d]<;>rfl) (Aa [3,5,6,7,8,14] [] sr ?_)))
  refine Ao (fun h2=>?_) (fun h2=>Ae ?_)
  ·exact Aa [2] [] sr (Ak (Ad sr (by rw [<- i,e,if_pos (by simpa using h2)])))
  refine A2 [3,6,7,8] [] (by simp [C9]<;>rfl) ?_;exact⟨c,by rw [<- i,e,if_neg (by simpa using h2)],_,AS.le_refl _⟩
 ·refine A9 ?_;have f:k=l.length:=by simp at h1;omega
  exact Aa [2] [] sr (Ak (Ad sr (by rw [<- i,f,Ca];rfl)))
def Abx(c:List (Int × Int))(a b:Int):Int:=orF [cmpI (Fc c b) (Fc c a),cmpI a b]
theorem A8b(bm:Nat)(m:List (Int × V))(c:List (Int × Int))(g:∀a,Nj false (.int .i64 0) (G8 a m)=.int .i64 (Fc c a))(a b:Int):
  AC prog 157 [.int .i64 a,.int .i64 b,.rm bm .i64 m] (fun r=>r=.int .i64 (Abx c a b)):=by
 have j:=Agi (Fc c b) (Fc c a);have h:=Agi a b;have d:=Ber [cmpI (Fc c b) (Fc c a),cmpI a b] sm;have f:=g a;have e:=g b;unfold Abx;have i:As [cmpI (Fc c b) (Fc c a),cmpI a b]= [.int .i64 (cmpI (Fc c b) (Fc c a)),.int .i64 (cmpI a b)]:=rfl;rw [i]at d;generalize orF [cmpI (Fc c b) (Fc c a),cmpI a b]=oo,cmpI (Fc c b) (Fc c a)=x1,cmpI a b=x2,Fc c a=la,Fc c b=lb at*;refine Ay func157 (fun w0 N0=>?_);refine Aa [0,1,2] [] sr (Ab (Ac (Am 6 (by simp [f,e,-Nj]<;>rfl) ?_)));refine Ai j func159 ?_;refine Am 2 sr ?_;refine Ai h func159 ?_;refine Am 1 sr ?_;refine Ju 16 [16] [] sr ?_;refine Ai d func158 ?_;refine Ag [5] [] sr ?_;exact Ak (Ad sr (rfl))
theorem Asu(x:Int)(a:0<=x)(h1:x<=18446744073709551615):AC prog 146 [.int .u64 x] (fun r=>r=.int .i64 (Lib.bitLen x.toNat)):=by
 intro w N xs hb c hp
 match xs,c with
 | [y],_ =>
  have:=hp 0 y _ rfl rfl;cases this with
  |int=>
   refine(bits_Len x w a h1).mono ?_;rintro e w'⟨rfl,rfl⟩;exact⟨_,_,rfl,rfl,.int _ _,Go.RowKit.Below.refl _ _⟩
theorem A8c(d v:Nat)(l:List Int)(g:Int)(f:FuncId)(us vs:List V)(e:Int->Int->Int)(hl:l.length<=12)
  (u:∀a∈l,∀b∈l,FCQ G0 prog (.fc f us vs) [.int .i64 a,.int .i64 b] (fun r=>r=.int .i64 (e a b))):
  ACS prog 203 [.sl d v 1 l.length,.int .i64 0,.int .i64 l.length,.int .i64 g,.fc f us vs] [(d,⟨v,1,3,As l⟩)] (fun r c=>r=.tup []/\c= [(d,⟨v,1,3,As (H4 e l)⟩)]) (fun _ =>False):=by
 have i:=Apk d v l f us vs e om u;have s:(l.length:Int)<=12:=om;have n:IntKind.i64.wrap (l.length:Int)=l.length:=Bb om om;refine Hk func203 (fun w0 N0 m=>?_);refine Aa [0,1,2,3,4,10] [d] sr (Aa [0,1,2,3,4,10,11] [d] sr (Ap (Dr (fun nx:Nat=>⟨[(0,V.sl d v 1 l.length),(1,V.int .i64 0),(2,V.int .i64 l.length),(3,V.int .i64 g),(4,.fc f us vs),(10,V.bool true),(11,V.bool true)],[(d,⟨v,1,3,As l⟩)],nx,148⟩) (fun _ =>True) (fun _ =>0) _ trivial (AS.le_refl _) ?_)));intro nx _;refine Ap (Aa [0,1,2,3,4,10,11,12] [d] (by simp [n]<;>rfl) (Ab (Aa [0,1,2,3,4,10,11,12,25] [d] sr ?_)))
 refine A6 rfl (fun h1=>?_) (fun h1=>absurd h1 (by simp [s]))
 ·refine Ab (Ac (Am 4 sr ?_));refine Et i func239 rfl kr rfl rfl rfl sr (fun k o h=>Dt gt h) ?_ (fun ch j=>j.elim);rintro r c w⟨rfl,rfl⟩t;refine⟨fun k h=>Mt h,_,by simp<;>rfl,?_⟩;refine Ag [] [d] sr ?_;exact C7 m (Dz (Ba _ _) sr ⟨rfl,rfl⟩ (fun k o h=>Dt gt h))
theorem Ayf(d v:Nat)(l:List Int)(f:FuncId)(us vs:List V)(e:Int->Int->Int)(u:l.length<=12)
  (w:∀a∈l,∀b∈l,FCQ G0 prog (.fc f us vs) [.int .i64 a,.int .i64 b] (fun r=>r=.int .i64 (e a b))):
  ACS prog 156 [.sl d v 1 l.length,.fc f us vs] [(d,⟨v,1,3,As l⟩)] (fun r c=>r=.tup []/\c= [(d,⟨v,1,3,As (H4 e l)⟩)]) (fun _ =>False):=by
 have i:=fun s=>A8c d v l s f us vs e u w
 have j:=Asu l.length om om;have n:IntKind.u64.wrap (l.length:Int)=l.length:=wrap_u64 om;refine Hk func156 (fun w0 N0 t=>?_);refine Aa [0,1,4] [d] sr (Ac (Am 4 (by simp [n]<;>rfl) ?_));refine Ai j func146 ?_;refine Am 1 sr ?_;refine Et (i _) func203 rfl kr rfl rfl rfl sr (fun k o h=>Dt gt h) ?_ (fun ch m=>m.elim);rintro r c x⟨rfl,rfl⟩g;refine⟨fun k h=>Mt h,_,by simp<;>rfl,?_⟩;refine Ag [] [d] sr ?_;exact⟨by simp only;simp at g;omega,.tup [],_,by simp [results156],fun k o h=>Dt gt h,rfl,rfl⟩
def N3(c:List (Int × Int))(a:Int):Bool:=c.any fun p=>decide (p.1=a)
theorem Avl(c:List (Int × Int))(a:Int):Nj true (.int .i64 0) (G8 a (mV c))=.tup [.int .i64 (Fc c a),.bool (N3 c a)]:=by
 induction c with
 |nil=>rfl
 |cons p r ih=>
  obtain⟨x,v⟩:=p;simp only [mV,Cw,G8,N3,Mr]at ih|-;rw [Fc]
  by_cases h:x=a
  ·rw [if_pos h,if_pos h];simp [Nj,h]
  ·rw [if_neg h,if_neg h,ih];simp [h]
def dlK(giv:List Int)(m:List (Int × V)):Nat->List (Int × V)
 |0=>m
 |k+1=>Xg (giv.getD k 0) (dlK giv m k)
theorem Aj4(giv:List Int)(m:List (Int × V))(a:Int):∀k,k<=giv.length->G8 a (dlK giv m k)=if a∈giv.take k then none else G8 a m
 |0,_ =>by simp [dlK]
 |k+1,h=>by
  have c:k<giv.length:=om;rw [dlK,Qt,Aj4 giv m a k om,A3 c,Cf c]
  by_cases h1:a=giv[k]
  ·rw [if_pos h1,if_pos (by rw [h1];exact List.mem_append_right _ (By.2 rfl))]
  ·rw [if_neg h1]
   by_cases h2:a∈giv.take k
   ·rw [if_pos h2,if_pos (E4 _ h2)]
   ·rw [if_neg h2,if_neg (fun e=>(B3.1 e).elim h2 (fun e=>h1 (By.1 e)))]
theorem App(a:Int):∀(l:List Int),(G8 a (mB l)).isSome=true↔a∈l
 | []=>by simp [mB,G8]
 |x::r=>by
  have ih:=App a r;simp only [mB,Cw,G8]at ih|-
  by_cases h:x=a
  ·rw [if_pos h];simp [h]
  ·rw [if_neg h,ih,Cg];exact⟨.inr,fun e=>e.elim (fun e=>absurd e.symm h) id⟩
theorem Aj5:∀ {C T:List Int},C.Nodup->(∀a∈C,a∈T)->C.length<=T.length
 | [],_,_,_ =>B6 _
 |c::r,T,d,hs=>by
  rw [Iu]at d;have h1:=Aj5 (T:=T.erase c) d.2 (fun a f=>(List.mem_erase_of_ne (fun e=>d.1 (by rw [<- e];exact f))).2 (hs a (D7 _ f)));have h2:=hs c (Fa ..);have h3:=List.length_erase_of_mem h2;have h4:=List.length_pos_of_mem h2;simp only [Bc];omega
def To(pool:List Pit)(a:List Int):Nat->List (Int × Int)
 |0=>[]
 |k+1=>if N3 (To pool a k) (pool.getD k default).id=true then To pool a k else((pool.getD k default).id,a.getD k 0)::To pool a k
def Agj(pool:List Pit)(a:List Int):List (Int × Int):=To pool a pool.length
def Bci(pool:List Pit)(c d giv:List Int)(r:V):Prop:=
 if d.any (fun id=> !N3 (Agj pool c) id)=true\/giv.any (fun id=> !N3 (Agj pool c) id)=true then r=.tup [.nils,.int .i64 6]
 else∃C:List Int,C.Nodup/\(∀a,a∈C↔a∈d/\a∉giv)/\r=.tup [.ro 1 (As (H4 (Abx (Agj pool c)) C)),.int .i64 0]
attribute [-simp] Xg in
theorem A34(pool:List Pit)(g d giv:List Int)(bs:pool.length<=18)(bx:g.length=pool.length)(ay:∀v∈g,-1000000<=v/\v<=1000000)(bf:d.length<=12)(bz:giv.length<=1000):
  AC prog 109 [.ro 9 (B8 pool),.ro 1 (As g),.ro 1 (As d),.ro 1 (As giv)] (Bci pool g d giv):=by
 have pl:=B4 pool;have pv:=Af g;have pt:=Af d;have pg:=Af giv;have be:=fun(k:Nat)(h:k<pool.length)=>Apn h
 have aw:=fun(k:Nat)(h:k<g.length)=>Dj h
 have bc:=fun(k:Nat)(h:k<d.length)=>Fj h
 have ba:=fun(k:Nat)(h:k<giv.length)=>Fj h
 have lp:=Da pool;have lv:=A5 g;have lt:=A5 d;have lg:=A5 giv;have bh:∀k,To pool g (k+1)=if N3 (To pool g k) (pool.getD k default).id=true then To pool g k else((pool.getD k default).id,g.getD k 0)::To pool g k:=fun k=>rfl
 have hw0:To pool g 0= []:=rfl;unfold Bci Agj;generalize To pool g=wk at*;generalize B8 pool=ab at*;generalize As g=vv at*;generalize As d=tv at*;generalize As giv=u at*;refine Ay func109 (fun w0 N0=>?_);refine Aa [0,1,2,3] [] sr ?_;refine Ab (Aa [0,1,2,3,32] [] sr ?_);refine A6 rfl (fun h1=>absurd h1 so) (fun h1=>Ae (Ab (Aa [0,1,2,3,33,34,35] [] sr ?_)));refine Ap (Bq (fun k nx=>⟨[(0,V.ro 9 ab),(1,V.ro 1 vv),(2,V.ro 1 tv),(3,V.ro 1 u),(33,V.ro 1 vv),(34,V.int .i64 vv.length),(35,V.int .i64 k)],[],nx,120⟩) (fun k=>True) g.length _ trivial (AS.le_refl _) ?_);intro k nx hk hI;refine Aa [0,1,2,3,33,34,35,36] [] sr ?_;refine Ab ?_
 refine Ao (fun h2=>Ae ?_) (fun h2=>?_)
 ·have i:k<g.length:=by simp at h2;omega
  have j:k<vv.length:=om;have ga:=aw k i;have C9:=A7 (k:=k) om;have a6:=He ay i 0;generalize g.getD k 0=v at ga a6;refine Ab (Ap (Aa [0,1,2,3,11,33,34,35] [] (by simp [ga,j]<;>rfl) ?_));refine Aa [0,1,2,3,33,34,35,44] [] sr ?_;refine A6 rfl (fun h3=>absurd h3 so) (fun h3=>Ae (A2 [0,1,2,3,33,34,35] [] (by simp [C9]<;>rfl) ?_));exact⟨i,trivial,_,AS.le_refl _⟩
 ·refine A9 ?_;refine Ab (Ac (Re .i64 rfl rfl (fun b hb _ =>⟨_,rfl,?_⟩)));refine Arr (b:=b) (k:=.i64) (m:=[]) rfl rfl rfl rfl rfl rfl kr sm sr dc sr ?_;refine Ag [0,1,2,3,12] [] sr ?_;refine Ab (Aa [1,2,3,12,47,48,49] [] sr ?_);refine Ap (Bq (fun k nx=>⟨[(1,V.ro 1 vv),(2,V.ro 1 tv),(3,V.ro 1 u),(12,.rm b .i64 (mV (wk k))),(47,V.ro 9 ab),(48,.int .i64 ab.length),(49,V.int .i64 k)],[],nx,120⟩) (fun k=>True) pool.length _ trivial (by simp only [hw0];exact AS.le_refl _) ?_);intro n bt br bu;refine Aa [1,2,3,12,47,48,49,50] [] sr ?_;refine Ab ?_
  refine Ao (fun h4=>Ae ?_) (fun h4=>?_)
  ·have i:n<pool.length:=by simp at h4;omega
   have j:n<ab.length:=om;have ga:=be n i;have gv:=aw n om;have a3:n<vv.length:=om;have C9:=A7 (k:=n) om;have aa:=bh n;have ad:=Avl (wk n) (pool.getD n default).id;unfold Pit.cs at ga;generalize pool.getD n default=p at*;have pm:=Dw p.m;generalize g.getD n 0=val at*;generalize N3 (wk n) p.id=hs at*;generalize an:mV (wk n)=l at*;refine Ab (Ap (Aa [1,2,3,12,13,14,47,48,49] [14] (by simp [ga,j]<;>rfl) ?_));refine Aa [1,2,3,12,13,14,16,47,48,49] [14] (by simp [ad,-Nj]<;>rfl) ?_;refine Aa [1,2,3,12,13,14,47,48,49,62] [14] sr ?_
   refine Ao (fun h5=>?_) (fun h5=>Ae ?_)
   ·rw [if_neg (by simpa using h5)]at aa;have a0:mV (wk (n+1))=(p.id,.int .i64 val)::l:=by rw [aa,<- an];rfl
    refine C4 [(1,[]),(3,[]),(4,[]),(5,[]),(0,[]),(2,[]),(6,[]),(7,[])] Dm kr ?_;refine Ch 7 (by simp [gv,a3,-Nj]<;>rfl) ?_;refine Xb (b:=b) hb rfl sm rfl rfl rfl sr sr sr rfl Asb rfl sr ?_;refine C5 [1,2,3,12,47,48,49] [] sr ?_;refine A2 [1,2,3,12,47,48,49] [] (by simp [C9]<;>rfl) ?_;exact⟨i,trivial,_,by rw [a0];exact AS.le_refl _⟩
   rw [if_pos (by simpa using h5)]at aa;refine A2 [1,2,3,12,47,48,49] [] (by simp [C9]<;>rfl) ?_;exact⟨i,trivial,_,by rw [aa,an];exact AS.le_refl _⟩
  ·refine A9 ?_;have s:n=pool.length:=by simp at h4;omega
   subst s;have ad:=fun a=>Avl (wk pool.length) a
   have a9:=fun a=>Adw (wk pool.length) a
   generalize wk pool.length=W at*;generalize mV W=l at*;refine Ab (Ac (Ak3 .i64 rfl rfl (fun b2 ao bk=>⟨_,rfl,?_⟩)));have aq:b≠b2:=bk 12 b .i64 l (.inr sr);refine Ag [2,3,12,17] [] sr ?_;refine Ab (Aa [3,12,17,72,73,74] [] sr ?_);refine Ap (Bq (fun k nx=>⟨[(3,V.ro 1 u),(12,.rm b .i64 l),(17,.mp b2 .i64 (mB (d.take k).reverse)),(72,V.ro 1 tv),(73,.int .i64 tv.length),(74,V.int .i64 k)],[],nx,120⟩) (fun k=>(d.take k).any (fun id=> !N3 W id)=false) d.length _ rfl (AS.le_refl _) ?_);intro k3 bq bo aj;refine Aa [3,12,17,72,73,74,75] [] sr ?_;refine Ab ?_
   refine Ao (fun h6=>Ae ?_) (fun h6=>?_)
   ·have i:k3<d.length:=by simp at h6;omega
    have j:k3<tv.length:=om;have ga:=bc k3 i;have C9:=A7 (k:=k3) om;have ah:=fun h=>Ny (f:=fun id=> !N3 W id) i aj h
    have ai:=fun h=>Rj (f:=fun id=> !N3 W id) i h
    have a8:mB (d.take (k3+1)).reverse=(d[k3],.bool true)::mB (d.take k3).reverse:=by rw [A3 i,List.reverse_append];rfl
    generalize d[k3]=id at*;have z:=ad id;generalize N3 W id=bd at*;generalize mB (d.take k3).reverse=mb at*;refine Ab (Ap (Aa [3,12,17,19,72,73,74] [] (by simp [ga,j]<;>rfl) ?_));refine Ab (Aa [3,12,17,19,21,72,73,74] [] (by simp [z,-Nj]<;>rfl) ?_);refine Aa [3,12,17,19,72,73,74,85] [] sr ?_
    refine Ao (fun h7=>?_) (fun h7=>Ae ?_)
    ·refine Aa [8,9] [] sr ?_;exact Ak (Ad sr (by rw [if_pos (.inl (ai (by simpa using h7)))]))
    refine Ac (Am 2 sr ?_);refine Rt (b:=b2) ao rfl rfl rfl sr sr sr rfl Als rfl (by simp [aq]<;>rfl) ?_;refine Ag [3,12,17,72,73,74] [] sr ?_;refine A2 [3,12,17,72,73,74] [] (by simp [C9]<;>rfl) ?_;exact⟨i,ah (by simpa using h7),_,by rw [a8];exact AS.le_refl _⟩
   ·refine A9 ?_;have s:k3=d.length:=by simp at h6;omega
    rw [s,Bo]at aj;rw [s,Bo];have az:∀k,dlK giv (mB d.reverse) (k+1)=Xg (giv.getD k 0) (dlK giv (mB d.reverse) k):=fun k=>rfl
    have ax:dlK giv (mB d.reverse) 0=mB d.reverse:=rfl;have a5:=fun a=>Aj4 giv (mB d.reverse) a giv.length (A8 _)
    have a7:=fun a=>App a d.reverse
    generalize bv:dlK giv (mB d.reverse)=dl at*;refine Ab (Aa [12,17,89,90,91] [] sr ?_);refine Ap (Bq (fun k nx=>⟨[(12,.rm b .i64 l),(17,.mp b2 .i64 (dl k)),(89,V.ro 1 u),(90,.int .i64 u.length),(91,V.int .i64 k)],[],nx,120⟩) (fun k=>(giv.take k).any (fun id=> !N3 W id)=false) giv.length _ rfl (by simp only [ax];exact AS.le_refl _) ?_);intro k4 b0 bw ak;refine Aa [12,17,89,90,91,92] [] sr ?_;refine Ab ?_
    refine Ao (fun h8=>Ae ?_) (fun h8=>?_)
    ·have i:k4<giv.length:=by simp at h8;omega
     have j:k4<u.length:=om;have ga:=ba k4 i;have C9:=A7 (k:=k4) om;have ah:=fun h=>Ny (f:=fun id=> !N3 W id) i ak h
     have ai:=fun h=>Rj (f:=fun id=> !N3 W id) i h
     have av:=az k4;rw [Cf i]at av;generalize giv[k4]=id at*;have z:=ad id;generalize N3 W id=bd at*;generalize dl k4=mb at*;refine Ab (Ap (Aa [12,17,23,89,90,91] [] (by simp [ga,j]<;>rfl) ?_));refine Ab (Aa [12,17,23,25,89,90,91] [] (by simp [z,-Nj]<;>rfl) ?_);refine Aa [12,17,23,89,90,91,102] [] sr ?_
     refine Ao (fun h9=>?_) (fun h9=>Ae ?_)
     ·refine Aa [8,9] [] sr ?_;exact Ak (Ad sr (by rw [if_pos (.inr (ai (by simpa using h9)))]))
     refine Ac (Am 2 sr ?_);refine Ahq (b:=b2) ao rfl rfl rfl sr sr Als rfl (by simp [aq]<;>rfl) ?_;refine Ag [12,17,89,90,91] [] sr ?_;refine A2 [12,17,89,90,91] [] (by simp [C9]<;>rfl) ?_;exact⟨i,ah (by simpa using h9),_,by rw [av];exact AS.le_refl _⟩
    ·refine A9 ?_;have s:k4=giv.length:=by simp at h8;omega
     rw [s,Bo]at ak;rw [s];simp only [aj,ak,Fv,or_self,if_false]
     have hK:∀a,(G8 a (dl giv.length)).isSome=true↔a∈d/\a∉giv:=fun a=>by
      rw [a5 a,Bo]
      by_cases h:a∈giv
      ·rw [if_pos h];simp [h]
      ·rw [if_neg h,a7 a];simp [h]
     generalize dl giv.length=dm at*;refine Aa [12,17,26] [] sr ?_;refine F5 26 100 1 3 [12,17,26] [100] sr sr ?_;refine Ab ?_;have ae:∀y:List Int × Nat × Nat,∀L:List Int,y.1.Nodup->(∀a,(a∈y.1\/a∈L)↔a∈d/\a∉giv)->y.1.length<=12:=fun y L h1 h2=>Aj (Aj5 h1 (fun a ha=>((h2 a).1 (.inl ha)).1)) bf
     refine An0 (bm:=b2) (k:=.i64) (m:=dm) (e0:=4) 107 (fun(y:List Int × Nat × Nat)=>⟨[(107,.bp 107 _ 0 0 0),(106,.mp b2 .i64 dm),(12,.rm b .i64 l),(17,.mp b2 .i64 dm),(26,.sl 100 y.2.1 1 y.1.length)],[(100,⟨y.2.1,1,3,As y.1⟩)],y.2.2,120⟩) (fun y L=>y.1.Nodup/\L.Nodup/\(∀a,(a∈y.1\/a∈L)↔a∈d/\a∉giv)/\(∀a,a∈y.1->a∉L)) ([],_,_) rfl rfl rfl rfl rfl rfl rfl rfl rfl rfl rfl rfl rfl rfl rfl rfl rfl rfl rfl rfl rfl sr Als sm (fun y=>by simp) dc (fun y=>rfl) ?_ (AS.le_refl _) ?_ ?_
     ·intro L hL bg;exact⟨List.nodup_nil,hL,fun a=>by rw [<- hK a,<- bg a];simp,fun a ha=>absurd ha (Gy)⟩
     ·rintro B N⟨C,qv,nx⟩L a v⟨hC,hL,w,al⟩au;have t:=ae (C,qv,nx) L hC w;simp only at hC w al t|-;have a2:C.length+1<=maxLen/\(C.length+1)*8<=140737488355328:=⟨Aj (show C.length+1<=1001 by omega) dc,by omega⟩;refine A2 [107,106,12,17,26] [100] (by simp [a2]<;>rfl) ?_
      refine⟨(C++[a],_,_),fun L' a4 af=>⟨?_,a4,?_,?_⟩,by simp only [Qy,Zn,Bi,Bc,B0];exact AS.le_refl _⟩
      ·exact Io.2 ⟨hC,Iu.2 ⟨Gy,List.nodup_nil⟩,fun x hx y hy=>by rw [By.1 hy];exact fun e=>al x hx (by rw [e];exact au)⟩
      ·intro c;rw [<- w c,af c,B3,By]
       by_cases am:c=a
       ·subst am;simp [au]
       ·simp [am]
      ·intro c hc ag;rw [af c]at ag
       rcases B3.1 hc with h|h
       ·exact al c h ag.1
       ·exact ag.2 (By.1 h)
     rintro⟨C,qv,nx⟩⟨hC,-,w,-⟩;have t:=ae (C,qv,nx) [] hC w;have bj:∀a,a∈C↔a∈d/\a∉giv:=fun a=>by rw [<- w a];simp
     simp only at hC t|-;have pC:=Af C;have lC:=A5 C;have ar:=Ayf 100 qv C 157 [] [.rm b .i64 l] (Abx W) t (fun x _ y _ =>Zt (args:=[.int .i64 x,.int .i64 y]) (us:=[]) (vs:=[.rm b .i64 l]) (r:=.int .i64 (Abx W x y)) (A8b b l W a9 x y) func157 kr rfl);have a1:=Af (H4 (Abx W) C)
     have bb:(As (H4 (Abx W) C)).length=C.length:=by rw [A5,Nc]
     ·skip
      refine Ab (Ac (Am 2 sr ?_));refine Et ar func156 rfl kr rfl rfl rfl sr (fun k o hk=>Dt gt hk) ?_ (fun ch bi=>bi.elim);rintro r bn b1⟨rfl,rfl⟩bl;refine⟨fun k hk=>Mt hk,_,by simp<;>rfl,?_⟩;refine Ag [26] [100] sr ?_;refine Bt 100 [26] [] (by simp [a1,bb]<;>rfl) ?_;refine Aa [8,9] [] sr ?_;exact Ak (Ad sr (⟨C,hC,bj,rfl⟩))
def A8d(l:List Nat):Bool:=decide (0<((bitLen (Bg l):Nat):Int))
theorem A8e(l:List Nat)(h:Ed l)(hs:l.length<=1099511627776):AC prog 205 [.ro 1 (Au l)] (fun r=>r=.bool (A8d l)):=by
 have a:=Aut l h hs;have pl:=Ah l;unfold A8d;generalize Au l=lv at*;refine Ay func205 (fun w0 N0=>?_);refine Aa [0] [] sr (Ab (Ac (Am 1 sr ?_)));refine Ai a func206 ?_ (hp:=by simp);refine Ag [2] [] sr ?_;exact Ak (Ad sr (rfl))
theorem Ve{w:List Nat}{m:Nat}(h:Ks w m):∀k,k<=w.length->(B1 (G5 (w.take k))).length<=m+k
 |0,_ =>by simp [G5,Ei]
 |k+1,hk=>by
  rw [Wb (by omega)];have:=Ads (Ve h k om) (h _ (Aw (show k<w.length by omega)));omega
theorem Al6(w:List Nat)(l:Ks w 1000000)(o:w.length<=1000000):AC prog 304 [.ro 1 (Bv w)] (fun r=>r=.ro 1 (Fo (G5 w))):=by
 have n:∀(k:Nat)(h:k<w.length),Hs (Bv w) k=some (.ro 1 (Fo w[k])):=fun k h=>Kb h
 have lq:=H2 w;have pw:=Br w;have f:=Ve l;generalize Bv w=e at*;refine Ay func304 (fun w0 N0=>?_);refine Aa [0] [] sr (Aa [0,3] [] sr ?_);refine Anq 3 (.ro 1 (Fo (G5 (w.take 0)))) [0,3] [] rfl rfl (by rw [H0,G5,Fo,Ei];exact Bl.nils 1) sr ?_;refine Ab (Aa [3,6,7,8] [] sr (Ap (Bq (fun k nx=>⟨[(3,V.ro 1 (Fo (G5 (w.take k)))),(6,V.ro 1 e),(7,V.int .i64 e.length),(8,V.int .i64 k)],[],nx,17⟩) (fun k=>True) w.length _ trivial (by simp only [H0];exact AS.le_refl _) ?_)));intro k nx hk hI;refine Aa [3,6,7,8,9] [] sr (Ab ?_)
 refine Ao (fun h1=>Ae ?_) (fun h1=>?_)
 ·have c:k<w.length:=by simp at h1;omega
  have d:k<e.length:=om;have j:=n k c;have C9:=A7 (k:=k) om;have hs:=Wb c;have t:=l _ (Aw c);have m:=f k om;generalize w[k]=x at j hs t;generalize G5 (w.take k)=g at hs m|-;have a:=Ar1 (B1 g) (B1 x) (Cr _) (Cr _) om om;rw [C2,C2,<- hs]at a;change AC _ _ [.ro 1 (Fo g),.ro 1 (Fo x)] (fun r=>r=.ro 1 (Fo (G5 (w.take (k+1)))))at a;have u:=Ex g;have s:=Ex x;refine Ab (Ap (Aa [3,5,6,7,8] [] (by simp [j,d]<;>rfl) (Ac (Am 2 sr ?_))));refine Ai a func257 ?_ (hp:=by simp);refine Ag [3,6,7,8] [] sr ?_;refine A2 [3,6,7,8] [] (by simp [C9]<;>rfl) ?_;exact⟨c,trivial,_,AS.le_refl _⟩
 ·refine A9 ?_;have i:k=w.length:=by simp at h1;omega
  subst i;rw [Bo];have pG:=Ex (G5 w);exact Aa [2] [] sr (Ak (Ad sr rf))
def Ayg(w:List Nat):Int:=if 21<(w.length:Int)then 5 else if((bitLen (G5 w):Nat):Int)=0 then 20 else 0
theorem Bcj(w:List Nat)(e:Ks w 1000000)(d:w.length<=1000000):AC prog 283 [.ro 1 (Bv w)] (fun r=>r=.int .i64 (Ayg w)):=by
 have c:=Al6 w e d;have a:=Aut (B1 (G5 w)) (Cr _) (by have:=Ve e w.length (A8 _);rw [Bo]at this;omega);rw [C2]at a;change AC _ _ [.ro 1 (Fo (G5 w))] _ at a;have f:=H2 w;have h:=Br w;have g:=Ex (G5 w);unfold Ayg;rw [<- f];generalize Bv w=wv,Fo (G5 w)=sv,((bitLen (G5 w):Nat):Int)=bl at*;refine Ay func283 (fun w0 N0=>?_);refine Aa [0] [] sr (Ab (Aa [0,5] [] sr ?_))
 refine Ao (fun h1=>?_) (fun h1=>Ae ?_)
 ·exact Aa [2] [] sr (Ak (Ad sr (by rw [if_pos (by simpa using h1)])))
 refine Ab (Ab (Ac (Am 1 sr ?_)));refine Ai c func304 ?_ (hp:=by simp);refine Ai a func206 ?_ (hp:=by simp);refine Ag [9] [] sr ?_
 refine Ao (fun h2=>?_) (fun h2=>Ae ?_)
 ·exact Aa [2] [] sr (Ak (Ad sr (by rw [if_neg (by simpa using h1),if_pos (by simpa using h2)])))
 exact Aa [2] [] sr (Ak (Ad sr (by rw [if_neg (by simpa using h1),if_neg (by simpa using h2)])))
def Ac8(a b:Int):Rat:=mkRat (a*Hp b) b.natAbs
theorem Avm(a b:Int)(h1: -9223372036854775808<=a)(h2:a<9223372036854775808)(d: -9223372036854775808<=b)(e:b<9223372036854775808)(f:b≠0):
  AC prog 284 [.int .i64 a,.int .i64 b] (fun r=>r=(nR (Ac8 a b)).v):=by
 have c:=Ux a b h1 h2 d e;rw [Ov,if_neg f]at c;change AC _ _ _ (fun r=>r=V.tup [(nR (Ac8 a b)).v,.bool true])at c;simp only [Ww]at c|-;have p1:=Jb;have p2:=Jc;refine Ay func284 (fun w0 N0=>?_);refine Aa [0,1,4] [4] sr (Ab (Ac (Am 2 sr ?_)));refine Ai c func88 ?_;refine Ag [4,5] [4,5] sr ?_;exact Aa [4] [4] sr (Ak (Ad sr rf))
def Apq(p q:List Nat):Rat:=mkRat (G5 p:Int) (G5 q)
theorem Bck(a b:Nat):∃f,Ov (Limb.sgn false a) (Limb.sgn false b)=.tup [(nR (mkRat (a:Int) b)).v,.bool f]:=by
 unfold Ov Limb.sgn
 by_cases h:b=0
 ·subst h;exact⟨false,by simp [Rat.mkRat_zero]⟩
 ·refine⟨true,?_⟩;have h2:((b:Nat):Int)≠0:=om;have c:Hp (b:Int)=1:=by unfold Hp;(repeat' split)<;>omega
  simp [h,c]
theorem Bcl(a b:Nat)(k:Nat)(h1:(B1 a).length<=k)(h2:(B1 b).length<=k)(c:1<=k):P1 (mkRat (a:Int) b)<=k:=by
 by_cases h:b=0
 ·subst h;rw [Rat.mkRat_zero];have e:(0:Rat)=mkRat (Limb.sgn false 0) 1:=by first|rfl|simp [Limb.sgn,Q5]
  rw [e];exact Abg dc (by simp [Ei]) (Aj (E0 (m:=1) dc) c)
 ·exact Abg (b:=false) h h1 h2
theorem A35(p q:List Nat)(a:RR)(hp:Ks p 1000000)(u:p.length<=1000000)(y:Ks q 1000000)(w:q.length<=1000000)(ha:a.ok 137438953472):
  AC prog 285 [.ro 1 (Bv p),.ro 1 (Bv q),a.v] (fun x=>x=.bool (decide (0<=Nt (Apq p q) a.val))):=by
 have t:=Al6 p hp u;have h:=Al6 q y w;have z:(B1 (G5 p)).length<=2000000:=by have:=Ve hp p.length (A8 _);rw [Bo]at this;omega
 have l2:(B1 (G5 q)).length<=2000000:=by have:=Ve y q.length (A8 _);rw [Bo]at this;omega
 have g:=Kc false (G5 p) om;have d:=Kc false (G5 q) om;have c:=Zj (nI (Limb.sgn false (G5 p))) (nI (Limb.sgn false (G5 q))) (Ht (Aj (show Oc (Limb.sgn false (G5 p))<=2000000 from z) dc)) (Ht (Aj (show Oc (Limb.sgn false (G5 q))<=2000000 from l2) dc));rw [I2,I2]at c;obtain⟨f,hf⟩:=Bck (G5 p) (G5 q);rw [hf]at c;have e:=Rg (nR (Apq p q)) a (Na (Aj (Bcl _ _ 2000000 z l2 dc) dc)) ha;rw [Me]at e;have ea:a.v=.agg [.bool a.num.neg,.ro 1 (Au a.num.mag),.ro 1 (Au a.den)]:=rfl;rw [ea]at e|-;change AC _ _ _ (fun r=>r=V.tup [(nR (Apq p q)).v,.bool f])at c;generalize Apq p q=s at*;simp only [Ww,Ar0]at g d c e|-;have l:=Uv;have i:=Jb;have j:=Jc;have m:=Br p;have o:=Br q;have k:=Ah a.num.mag;have n:=Ah a.den;generalize a.val=r,Au a.num.mag=am,Au a.den=ad,a.num.neg=ab at*;generalize Nt s r=cv at*;refine Ay func285 (fun w0 N0=>?_);refine Aa [0,1,5] [5] sr (Ab (Ac (Am 1 sr ?_)));refine Ai t func304 ?_ (hp:=by simp);refine Ai g func171 ?_ (hp:=by simp);refine Am 1 sr ?_;refine Ai h func304 ?_ (hp:=by simp);refine Ai d func171 ?_ (hp:=by simp);refine Ai c func130 ?_ (hp:=by simp);refine Ag [5,7] [5,7] sr ?_;refine Ab (Ac (Am 2 sr ?_));refine Ai e func89 ?_ (hp:=by simp);refine Ag [6] [] sr ?_;exact Ak (Ad sr (rfl))
def A8f(p:List Nat)(k:Int)(r:Rat):V:=
 if Ayg p≠0 then .tup [.int .i64 0,.int .i64 (Ayg p)]
 else if k<1\/(p.length:Int)-1<k\/Nt r (Ac8 1 2)<=0\/0<Nt r (Ac8 1 1)then .tup [.int .i64 0,.int .i64 3]
 else if 0<=Nt (Apq (p.drop k.toNat) p) r then .tup [.int .i64 1,.int .i64 0]
 else if 0<=Nt (Apq (p.take k.toNat) p) r then .tup [.int .i64 0,.int .i64 0]else .tup [.int .i64 (-1),.int .i64 0]
theorem A36(p:List Nat)(k:Int)(a:RR)(hp:Ks p 1000000)(j:p.length<=1000000)(u:a.ok 137438953472):
  AC prog 249 [.ro 1 (Bv p),.int .i64 k,a.v] (fun x=>x=A8f p k a.val):=by
 have t:=Bcj p hp j;have h:=Avm 1 2 dc dc dc dc dc;have d:=Avm 1 1 dc dc dc dc dc;have z1:P1 (Ac8 1 2)<=1:=Abg (b:=false) (n:=1) dc (E0 (m:=1) dc) (E0 (m:=1) dc);have z2:P1 (Ac8 1 1)<=1:=Abg (b:=false) (n:=1) dc (E0 (m:=1) dc) (E0 (m:=1) dc);have f:=Rg a (nR (Ac8 1 2)) u (Na (Aj z1 dc));have c:=Rg a (nR (Ac8 1 1)) u (Na (Aj z2 dc));rw [Me]at f c;have w:=Br p;have lp:=H2 p;have ae:IntKind.i64.wrap ((p.length:Int)-1)=(p.length:Int)-1:=Bb om om;have p1:=Jb;have p2:=Jc;have l:=fun(p q:List Nat)=>A35 p q a
 have ea:a.v=.agg [.bool a.num.neg,.ro 1 (Au a.num.mag),.ro 1 (Au a.den)]:=rfl;rw [ea]at f c l|-;have p6:=Ah a.num.mag;have p7:=Ah a.den;unfold A8f;generalize a.val=r,Au a.num.mag=am,Au a.den=ad,a.num.neg=ab,Ac8 1 2=aa,Ac8 1 1=z at*;simp only [Ww]at h d f c|-;refine Ay func249 (fun w0 N0=>?_);refine Aa [0,1,5] [5] sr (Ab (Ab (Ac (Am 1 sr ?_))));refine Ai t func283 ?_ (hp:=by simp);refine Ag [0,1,5,8] [5] sr ?_;refine Aa [0,1,5,8,12] [5] sr ?_
 refine Ao (fun h1=>?_) (fun h1=>Ae ?_)
 ·exact Aa [6,7] [] sr (Ak (Ad sr (by rw [if_pos (by simpa using h1)])))
 refine Ab (Ab (C4 [(0,[]),(1,[]),(2,[]),(3,[]),(4,[]),(5,[]),(6,[]),(7,[]),(8,[]),(9,[]),(11,[]),(10,[]),(12,[]),(13,[]),(14,[]),(15,[]),(17,[]),(16,[]),(18,[]),(19,[]),(20,[])] Dm kr ?_));refine Ch 10 sr ?_;refine Bw (fun o=>h) func284 rfl kr rfl rfl sr rfl rfl sr sm sr ?_;refine Ch 1 sr ?_;refine Bw (fun o=>f) func89 rfl kr rfl rfl sr rfl rfl sr sm sr ?_;refine Ch 3 sr ?_;refine Bw (fun o=>d) func284 rfl kr rfl rfl sr rfl rfl sr sm sr ?_;refine Ch 1 sr ?_;refine Bw (fun o=>c) func89 rfl kr rfl rfl sr rfl rfl sr sm sr ?_;refine C5 [0,1,5,34] [5] (by simp [ae]<;>rfl) ?_
 refine Ao (fun h2=>?_) (fun h2=>Ae ?_)
 ·exact Aa [6,7] [] sr (Ak (Ad sr (by rw [if_neg (by simpa using h1),if_pos (by simpa [or_assoc]using h2)])))
 have hk:¬(k<1\/(p.length:Int)-1<k\/Nt r aa<=0\/0<Nt r z):=by simpa [or_assoc,and_assoc]using h2
 rw [if_neg (by simpa using h1),if_neg hk];obtain⟨n,rfl⟩:∃n:Nat,k=n:=⟨k.toNat,by omega⟩;have hn:1<=n/\n<p.length:=om;have s:(0:Int)<=(n:Int)/\(n:Int)<=p.length:=om;have e1:(Bv p).drop n=Bv (p.drop n):=by simp [Bv]
 have e2:(Bv p).take n=Bv (p.take n):=by simp [Bv]
 have e3:(Bv (p.drop n)).take (p.length-n)=Bv (p.drop n):=Bf sm;have g:=l (p.drop n) p (fun x hx=>hp x (C3 hx)) so hp j u;have e:=l (p.take n) p (fun x hx=>hp x (Bz hx)) so hp j u;have i:=Br (p.drop n);have af:=Br (p.take n);simp only [Dv]at g e|-;refine Ab (Ab (C4 [(0,[]),(1,[]),(2,[]),(3,[]),(4,[]),(5,[])] Dm kr ?_));refine Ch 5 (by simp [s,e1,e3]<;>rfl) ?_;refine Bw (fun o=>g) func285 rfl kr rfl rfl (by simp<;>rfl) rfl rfl (by simp<;>rfl) sm (by simp<;>rfl) ?_;refine C5 [0,1,5,40] [5] sr ?_
 refine Ao (fun y=>?_) (fun y=>Ae ?_)
 ·exact Aa [6,7] [] sr (Ak (Ad sr (by rw [if_pos (by simpa using y)])))
 refine Ab (Ab (C4 [(0,[]),(1,[]),(2,[]),(3,[]),(4,[]),(5,[])] Dm kr ?_));refine Ch 5 (by simp [s,e2]<;>rfl) ?_;refine Bw (fun o=>e) func285 rfl kr rfl rfl sr rfl rfl sr sm sr ?_;refine C5 [46] [] sr ?_
 refine Ao (fun h4=>?_) (fun h4=>Ae ?_)
 ·exact Aa [6,7] [] sr (Ak (Ad sr (by rw [if_neg (by simpa using y),if_pos (by simpa using h4)])))
 exact Aa [6,7] [] sr (Ak (Ad sr (by rw [if_neg (by simpa using y),if_neg (by simpa using h4)])))
theorem A8g(g:Gr)(w:List Nat)(h:sumsOk g w):AC prog 208 [g.v,.ro 1 (Bv w)] (fun r=>r=.tup [(nR (X3 g w)).v,.int .i64 0]):=by
 have a:=Aoo g w h;have i:g.v=.agg [.ro 1 (As g.pts),.ro 1 (As g.pri)]:=rfl;rw [i]at a|-;have d:=Af g.pts;have j:=Af g.pri;have c:=Br w;simp only [Ww]at a|-;have p1:=Jb;have p2:=Jc;generalize X3 g w=q,As g.pts=f,As g.pri=e,Bv w=wv at*;refine Ay func208 (fun w0 N0=>?_);refine Aa [1,2,4] [2,4] sr (Ab (Ac (Am 2 sr ?_)));refine Ai a func248 ?_ (hp:=by simp);refine Ag [4,5] [4] sr ?_;exact Ak (Ad sr (rfl))
theorem Asv{l:List Int}{j:Nat}(h:j+1<l.length):(Rm l j).Perm l:=by
 have:= @List.set_set_perm Int l (j+1) j h om;unfold Rm
 rwa [Cf h,Cf (show j<l.length by omega)]
theorem Apr(a:Int->Int->Int):∀(j:Nat)(l:List Int),j<l.length->(bub a j l).Perm l
 |0,l,_ =>.refl _
 |j+1,l,h=>by
  rw [bub]
  split
  ·exact(Apr a j _ (by rw [St];omega)).trans (Asv h)
  ·exact .refl _
theorem Aj6(a:Int->Int->Int)(l:List Int):∀k,k<l.length->(Z3 a l k).Perm l
 |0,_ =>.refl _
 |k+1,h=>(Apr a (k+1) _ (by rw [Pc];exact h)).trans (Aj6 a l k om)
theorem M0(c:Int->Int->Int)(l:List Int):(H4 c l).Perm l:=by
 cases l with
 |nil=>exact .refl _
 |cons a t=>exact Aj6 c _ _ sm
def Bfp(c:Int->Int->Int)(l:List Int)(K j:Nat):Prop:=∀a b,a<b->b<=K->b≠j->¬c (l.getD b 0) (l.getD a 0)<0
structure CmpOk(cmp:Int->Int->Int)(P:Int->Prop):Prop where
 asym:∀x y,P x->P y->cmp x y<0->¬cmp y x<0
 trans:∀x y z,P x->P y->P z->¬cmp y x<0->¬cmp z y<0->¬cmp z x<0
theorem Aps{l:List Int}{j:Nat}(h:j+1<l.length)(i:Nat):(Rm l j).getD i 0=if i=j then l.getD (j+1) 0 else if i=j+1 then l.getD j 0 else l.getD i 0:=by
 unfold Rm;simp only [List.getD,Le,H5]
 by_cases h1:i=j
 ·subst h1;simp [show i<l.length by omega]
 ·rw [if_neg (Aax h1),if_neg h1]
  by_cases h2:i=j+1
  ·subst h2;simp [h]
  ·rw [if_neg (Aax h2),if_neg h2]
theorem Avn{c:Int->Int->Int}{P:Int->Prop}(r:CmpOk c P){K:Nat}:∀(j:Nat)(l:List Int),j<=K->K<l.length->(∀x∈l,P x)->Bfp c l K j->∀a b,a<b->b<=K->¬c ((bub c j l).getD b 0) ((bub c j l).getD a 0)<0
 |0,l,_,_,_,h=>fun a b d k=>h a b d k om
 |j+1,l,hj,hK,hp,h=>by
  have m:∀i,i<l.length->P (l.getD i 0):=fun i u=>He hp u 0
  rw [bub]
  by_cases e:c (l.getD (j+1) 0) (l.getD j 0)<0
  ·rw [if_pos e];have s:j+1<l.length:=om;refine Avn r j (Rm l j) om (by rw [St];omega) (fun x t=>hp x (Abv s t)) ?_;intro a b d k f;rw [Aps s,Aps s,if_neg f]
   by_cases n:b=j+1
   ·rw [if_pos n]
    by_cases g:a=j
    ·rw [if_pos g];exact r.asym _ _ (m _ om) (m _ om) e
    ·rw [if_neg g,if_neg (by omega)];exact h a j om om om
   ·rw [if_neg n]
    by_cases g:a=j
    ·rw [if_pos g];exact h (j+1) b om k om
    ·rw [if_neg g]
     by_cases o:a=j+1
     ·rw [if_pos o];exact h j b om k om
     ·rw [if_neg o];exact h a b d k om
  ·rw [if_neg e];intro a b d k
   by_cases f:b=j+1
   ·subst f
    by_cases g:a=j
    ·rw [g];exact e
    ·exact r.trans _ _ _ (m _ om) (m _ om) (m _ om) (h a j om om om) e
   ·exact h a b d k f
theorem Apt{c:Int->Int->Int}{P:Int->Prop}(e:CmpOk c P){l:List Int}(hp:∀x∈l,P x):∀k,k<l.length->∀a b,a<b->b<=k->¬c ((Z3 c l k).getD b 0) ((Z3 c l k).getD a 0)<0
 |0,_ =>fun a b d i=>by omega
 |k+1,g=>by
  rw [Z3];refine Avn e (k+1) _ (A8 _) (by rw [Pc];exact g) (fun x f=>hp x (Z4 k om f)) ?_;intro a b d i h;exact Apt e hp k om a b d om
theorem Aby{c:Int->Int->Int}{P:Int->Prop}(g:CmpOk c P){l:List Int}(hp:∀x∈l,P x):(H4 c l).Pairwise (fun a b=>¬c b a<0):=by
 rw [G6];intro i j e f d;rw [Nc]at e f;have:=Apt g hp (l.length-1) om i j d om;unfold H4
 rwa [Cf (by rw [Pc];exact f),Cf (by rw [Pc];exact e)]at this
theorem Ayh{c:Int->Int->Int}{P:Int->Prop}(f:CmpOk c P){l m:List Int}(hp:∀x∈l,P x)(e:l.Perm m)
  (j:∀x y,P x->P y->¬c x y<0->¬c y x<0->x=y):H4 c l=H4 c m:=by
 have d:∀x∈m,P x:=fun x h=>hp x (e.mem_iff.2 h)
 refine List.Perm.eq_of_pairwise (le:=fun a b=>¬c b a<0) ?_ (Aby f hp) (Aby f d) (((M0 c l).trans e).trans (M0 c m).symm);intro a b h1 h2 g i;exact j a b (hp a (Su h1)) (d b (Su h2)) i g
def L7(c x:List Int):Nat->Int
 |0=>0
 |k+1=>L7 c x k+c.getD k 0*x.getD k 0
def Agk(n:Nat)(x:List Int):Prop:=x.length=n/\∀i,x.getD i 0=0\/x.getD i 0=1
def Bnd(c:List Int):Prop:=∀i,-1000000<=c.getD i 0/\c.getD i 0<=1000000
theorem Tp{c x:List Int}{n:Nat}(d:Bnd c)(a:Agk n x):∀k:Nat,-1000000*(k:Int)<=L7 c x k/\L7 c x k<=1000000*(k:Int)
 |0=>by simp [L7]
 |k+1=>by
  have ih:=Tp d a k;have h1:=d k;rw [L7];rcases a.2 k with h|h<;>rw [h]<;>omega
theorem Agl{c x:List Int}{n:Nat}(d:Bnd c)(a:Agk n x):∀k,k<=1000->Zx c x k=L7 c x k
 |0,_ =>rfl
 |k+1,hk=>by
  have ih:=Agl d a k om;have hb:=Tp d a k;have h1:=d k;rw [Zx,ih,L7]
  rcases a.2 k with h|h<;>rw [h]
  ·rw [Int.mul_zero,Bb (x:=0) om om,Bb om (by omega)]
  ·rw [Int.mul_one,Bb (x:=c.getD k 0) om om,Bb om (by omega)]
theorem Ke(x:List Int)(i:Nat)(b:Int)(k:Nat):(x.set i b).getD k 0=if k=i/\i<x.length then b else x.getD k 0:=by
 simp only [List.getD,Le]
 by_cases h:i=k
 ·subst h
  by_cases h2:i<x.length
  ·simp [h2]
  ·simp [h2]
 ·rw [if_neg h,if_neg (fun a=>h a.1.symm)]
theorem Z9{x:List Int}{i:Nat}(c:List Int)(b:Int)(a:i<x.length):∀k,L7 c (x.set i b) k=L7 c x k+if i<k then c.getD i 0*(b-x.getD i 0)else 0
 |0=>by simp [L7]
 |k+1=>by
  rw [L7,L7,Z9 c b a k,Ke]
  by_cases h:k=i
  ·subst h;rw [if_neg (c:=k<k) om,if_pos (c:=k=k/\k<x.length) ⟨rfl,a⟩,if_pos (c:=k<k+1) om,Int.mul_sub];omega
  ·rw [if_neg (c:=k=i/\i<x.length) (fun h2=>h h2.1)]
   by_cases h2:i<k
   ·rw [if_pos (c:=i<k) h2,if_pos (c:=i<k+1) (by omega)];omega
   ·rw [if_neg (c:=i<k) h2,if_neg (c:=i<k+1) (by omega)];omega
theorem Agm{x y:List Int}(c:List Int)(h:∀i,y.getD i 0=x.getD i 0):∀k,L7 c y k=L7 c x k
 |0=>rfl
 |k+1=>by rw [L7,L7,Agm c h k,h k]
theorem Apu{n:Nat}{x:List Int}(a:Agk n x)(i:Nat){b:Int}(c:b=0\/b=1):Agk n (x.set i b):=
 ⟨by rw [H5];exact a.1,fun k=>by rw [Ke];split;exact c;exact a.2 k⟩
def Ir(f:Nat->Int):List Nat->Int
 | []=>0
 |i::t=>f i+Ir f t
theorem Apv(f:Nat->Int)(l m:List Nat):Ir f (l++m)=Ir f l+Ir f m:=by
 induction l with
 |nil=>simp [Ir]
 |cons a t ih=>simp only [Ce,Ir,ih];omega
theorem Aj7(f:Nat->Int){l m:List Nat}(h:l.Perm m):Ir f l=Ir f m:=by
 induction h with
 |nil=>rfl
 |cons a _ ih=>simp only [Ir,ih]
 |swap a b l=>simp only [Ir];omega
 |trans _ _ h1 h2=>rw [h1,h2]
theorem Ad3{f g:Nat->Int}{l:List Nat}(h:∀i∈l,f i<=g i):Ir f l<=Ir g l:=by
 induction l with
 |nil=>exact Ft _
 |cons a t ih=>
  have h1:=h a sm;have h2:=ih (fun i c=>h i (by simp [c]));simp only [Ir];omega
theorem Al7{f:Nat->Int}{l:List Nat}(h:∀i∈l,-1000000<=f i/\f i<=1000000): -1000000*(l.length:Int)<=Ir f l/\Ir f l<=1000000*(l.length:Int):=by
 induction l with
 |nil=>simp [Ir]
 |cons a t ih=>
  have h1:=h a sm;have h2:=ih (fun i c=>h i (by simp [c]));simp only [Ir,Bc];omega
theorem Avo(c:List Int){n:Nat}{y:List Int}(l:Agk n y):∀(t:List Nat){x:List Int},Agk n x->t.Nodup->(∀i∈t,i<n)->(∀i∈t,x.getD i 0=0)->(∀i,i∉t->y.getD i 0=x.getD i 0)->
  L7 c y n=L7 c x n+Ir (fun i=>c.getD i 0*y.getD i 0) t
 | [],x,_,_,_,_,h=>by rw [Agm c (fun i=>h i sm) n];simp [Ir]
 |i::t,x,j,g,o,r,h=>by
  have m:=o i sm;have f:i∉t:=(Iu.1 g).1;have d:i<x.length:=by rw [j.1];exact m
  have ih:=Avo c l t (x:=x.set i (y.getD i 0)) (Apu j i (l.2 i)) (Iu.1 g).2 (fun k a=>o k (by simp [a]))
   (fun k a=>by rw [Ke,if_neg (c:=k=i/\i<x.length) (fun e=>f (e.1▸a))];exact r k (by simp [a]))
   (fun k a=>by
    rw [Ke]
    by_cases e:k=i
    ·rw [if_pos (c:=k=i/\i<x.length) ⟨e,d⟩,e]
    ·rw [if_neg (c:=k=i/\i<x.length) (fun s=>e s.1)];exact h k (by simp [e,a]))
  rw [ih,Z9 c _ d n,if_pos m,r i sm,Ir,Int.sub_zero];omega
def gre(W:Nat->Bool)(v:Nat->Int):Int->List Nat->Int
 |_,[]=>0
 |r,i::t=>if W i=true then(if r<=0 then gre W v r t else v i+gre W v (r-1) t)else v i+gre W v r t
theorem Agn{W:Nat->Bool}{v:Nat->Int}{M:Int}(a:0<=M):∀(t:List Nat)(r:Int),0<r->(∀i∈t,v i<=M)->gre W v r t<=M+gre W v (r-1) t
 | [],r,_,_ =>by simp [gre];exact a
 |i::t,r,f,d=>by
  have h1:=d i sm;have h2:∀k∈t,v k<=M:=fun k g=>d k (by simp [g])
  rw [gre,gre]
  by_cases e:W i=true
  ·simp only [if_pos e];rw [if_neg (by omega)]
   by_cases c:r-1<=0
   ·rw [if_pos c];omega
   ·rw [if_neg c];have:=Agn (W:=W) a t (r-1) om h2;omega
  ·simp only [if_neg e];have:=Agn (W:=W) a t r f h2;omega
theorem A8i{f:Nat->Int}{l:List Nat}(h:∀i∈l,0<=f i):0<=Ir f l:=by
 induction l with
 |nil=>exact Ft _
 |cons a t ih=>
  have h1:=h a sm;have h2:=ih (fun i c=>h i (by simp [c]));simp only [Ir];omega
theorem Ago{W:Nat->Bool}{v y:Nat->Int}(d:∀i,y i=0\/y i=1):∀(t:List Nat)(r:Int),t.Pairwise (fun a b=>v b<=v a)->(∀i∈t,0<v i)->Ir (fun i=>if W i=true then y i else 0) t<=r->Ir (fun i=>v i*y i) t<=gre W v r t
 | [],r,_,_,_ =>by simp [gre,Ir]
 |i::t,r,hp,g,e=>by
  have h1:=g i sm;have h2:∀k∈t,0<v k:=fun k l=>g k (by simp [l])
  have c:=(M4.1 hp);have m:0<=Ir (fun i=>if W i=true then y i else 0) t:=A8i (fun k _ =>by split;rcases d k with h|h<;>omega;omega);simp only [Ir]at e|-;rw [gre]
  by_cases j:W i=true
  ·simp only [if_pos j]at e|-
   by_cases f:r<=0
   ·rw [if_pos f];have ih:=Ago (W:=W) d t r c.2 h2
    rcases d i with h|h<;>rw [h]at e|-
    ·have:=ih (by omega);omega
    ·omega
   ·rw [if_neg f]
    rcases d i with h|h<;>rw [h]at e|-
    ·have ih:=Ago (W:=W) d t r c.2 h2 om;have:=Agn (W:=W) (M:=v i) om t r om c.1;omega
    ·have ih:=Ago (W:=W) d t (r-1) c.2 h2 om;omega
  ·simp only [if_neg j]at e|-;have ih:=Ago (W:=W) d t r c.2 h2 om;rcases d i with h|h<;>rw [h]<;>omega
structure NumP(vals:List Int)(rows:List Rw):Prop where
 hn:vals.length<=24
 hr:rows.length<=60
 hv:Bnd vals
 hc:∀r∈rows,r.coef.length=vals.length/\Bnd r.coef
 hm:∀r∈rows,(-24000000<=r.mn/\r.mn<=24000000)/\(-24000000<=r.mx/\r.mx<=24000000)
def W0(free:List Int)(e:Nat):Nat:=(free.getD e 0).toNat
def Pp(free:List Int):Nat->Nat->List Nat
 |_,0=>[]
 |a,m+1=>W0 free a::Pp free (a+1) m
structure FrOk(free:List Int)(n:Nat):Prop where
 lt:∀e,e<free.length->W0 free e<n
 inj:∀e e',e<free.length->e'<free.length->W0 free e=W0 free e'->e=e'
 len:free.length<=24
theorem Ad4{free:List Int}{i:Nat}:∀ {m a:Nat},i∈Pp free a m->∃e,a<=e/\e<a+m/\i=W0 free e
 |0,_,h=>by simp [Pp]at h
 |m+1,a,h=>by
  rw [Pp]at h
  rcases Cg.1 h with h|h
  ·exact⟨a,A8 _,by omega,h⟩
  ·obtain⟨e,h1,h2,c⟩:=Ad4 h;exact⟨e,by omega,by omega,c⟩
theorem Bcm{free:List Int}{n:Nat}(f:FrOk free n){m a:Nat}(hd:a+m=free.length):∀i∈Pp free a m,i<n:=by
 intro i d;obtain⟨e,_,h2,c⟩:=Ad4 d;rw [c];exact f.lt e om
theorem Aaa{free:List Int}{n:Nat}(d:FrOk free n){m a:Nat}(hd:a+(m+1)=free.length):W0 free a∉Pp free (a+1) m:=by
 intro h;obtain⟨e,h1,h2,c⟩:=Ad4 h;have:=d.inj a e om om c;omega
theorem Aj8{free:List Int}{n:Nat}(c:FrOk free n):∀(m a:Nat),a+m=free.length->(Pp free a m).Nodup
 |0,_,_ =>by simp [Pp]
 |m+1,a,h=>by
  rw [Pp,Iu];exact⟨Aaa c h,Aj8 c m (a+1) om⟩
theorem Al8(free:List Int):∀(m a:Nat),(Pp free a m).length=m
 |0,_ =>rfl
 |m+1,a=>by rw [Pp,Bc,Al8 free m]
structure SsOk(s:Ss):Prop where
 num:NumP s.vals s.rows
 fr:FrOk s.free s.vals.length
 low:s.low=loL Z5 s.rows s.free
 high:s.high=loL Lf s.rows s.free
 wide:s.wide=A3l s.rows
 order:s.order=H4 (Ah5 s.vals s.free) (Sv s.vals s.free s.free.length)
structure OkD(s:Ss)(d:Sd):Prop where
 bits:Agk s.vals.length d.x
 val:d.value=L7 s.vals d.x s.vals.length
 len:d.sums.length=s.rows.length
 sums:∀k,k<s.rows.length->d.sums.getD k 0=L7 (s.rows.getD k default).coef d.x s.vals.length
def Apw(s:Ss)(y:List Int):Prop:=Agk s.vals.length y/\∀k,k<s.rows.length->(s.rows.getD k default).mn<=L7 (s.rows.getD k default).coef y s.vals.length/\L7 (s.rows.getD k default).coef y s.vals.length<=(s.rows.getD k default).mx
def A8j(s:Ss)(y x:List Int)(a m:Nat):Prop:=(∀i∈Pp s.free a m,x.getD i 0=0)/\(∀i,i∉Pp s.free a m->y.getD i 0=x.getD i 0)
theorem Asw{a:List Rw}{free:List Int}{g:Int->Int}{k:Nat}(d:k<a.length)(c:∀i,-1000000<=g ((a.getD k default).coef.getD i 0)/\g ((a.getD k default).coef.getD i 0)<=1000000)(e:free.length<=24):
  ∀m,m<=free.length->(X8 g a free m).getD k 0=Ir (fun i=>g ((a.getD k default).coef.getD i 0)) (Pp free (free.length-m) m)
 |0,_ =>by simp [X8,Pp,Ir,List.getD,d]
 |m+1,hm=>by
  have ih:=Asw d c e m om;have f:=Al7 (l:=Pp free (free.length-m) m) (fun i _ =>c i);rw [Al8]at f;have h1:free.length-(m+1)+1=free.length-m:=om
  have h2:(X8 g a free (m+1)).getD k 0=IntKind.i64.wrap ((X8 g a free m).getD k 0+g ((a.getD k default).coef.getD (free.getD (free.length-(m+1)) 0).toNat 0)):=by
   simp [X8,List.getD,d]
  rw [h2,ih,Pp,Ir,h1];have h3:=c (W0 free (free.length-(m+1)));show IntKind.i64.wrap (_ +g ((a.getD k default).coef.getD (W0 free (free.length-(m+1))) 0))=_
  rw [Bb om (by omega)];omega
theorem A37{c:List Int}(h:Bnd c)(i:Nat): -1000000<=Z5 (c.getD i 0)/\Z5 (c.getD i 0)<=1000000:=by
 have:=h i;unfold Z5;split<;>omega
theorem A38{c:List Int}(h:Bnd c)(i:Nat): -1000000<=Lf (c.getD i 0)/\Lf (c.getD i 0)<=1000000:=by
 have:=h i;unfold Lf;split<;>omega
theorem Apx{s:Ss}(hs:SsOk s){d:Sd}(g:OkD s d){a m k:Nat}(hm:a+m=s.free.length)(e:k<s.rows.length):
  Aly s d a k=(decide ((s.rows.getD k default).mx<L7 (s.rows.getD k default).coef d.x s.vals.length+Ir (fun i=>Z5 ((s.rows.getD k default).coef.getD i 0)) (Pp s.free a m))||
   decide (L7 (s.rows.getD k default).coef d.x s.vals.length+Ir (fun i=>Lf ((s.rows.getD k default).coef.getD i 0)) (Pp s.free a m)<(s.rows.getD k default).mn)):=by
 have c:=(He hs.num.hc e default).2;have f:=hs.fr.len;have hn:=hs.num.hn;have h1:=Asw (free:=s.free) e (A37 c) f m om;have h2:=Asw (free:=s.free) e (A38 c) f m om;have j:s.free.length-m=a:=om;have n:s.free.length-a=m:=om;rw [j]at h1 h2;unfold Aly;rw [hs.low,hs.high,Asr Z5 s.rows s.free om,Asr Lf s.rows s.free om,n,h1,h2,g.sums k e];have o:=Al7 (l:=Pp s.free a m) (fun i _ =>A37 c i);have h:=Al7 (l:=Pp s.free a m) (fun i _ =>A38 c i);have b3:=Tp c g.bits s.vals.length;rw [Al8]at o h;rw [Bb om om,Bb om (by omega)]
theorem Agp(s:Ss)(d:Sd)(a:Nat):∀k,Af9 s d a k=true↔∀j,j<k->Aly s d a j=false
 |0=>by simp [Af9]
 |k+1=>by
  rw [Af9,Bm,Agp s d a k]
  constructor
  ·intro⟨h1,h2⟩ j c
   by_cases e:j=k
   ·subst e;simpa using h2
   ·exact h1 j om
  ·intro h;exact⟨fun j c=>h j om,by rw [h k (by omega)];rfl⟩
theorem Al9{s:Ss}(hs:SsOk s){d:Sd}(h:OkD s d){y:List Int}(g:Agk s.vals.length y){a m:Nat}(e:a+m=s.free.length)(f:A8j s y d.x a m)(c:List Int):
  L7 c y s.vals.length=L7 c d.x s.vals.length+Ir (fun i=>c.getD i 0*y.getD i 0) (Pp s.free a m):=
 Avo c g _ h.bits (Aj8 hs.fr m a e) (Bcm hs.fr e) f.1 f.2
theorem Apy{s:Ss}(hs:SsOk s){d:Sd}(g:OkD s d){y:List Int}(c:Apw s y){a m:Nat}(f:a+m=s.free.length)(l:A8j s y d.x a m):Ah4 s d a=true:=by
 unfold Ah4;rw [Agp];intro k e;rw [Apx hs g f e];have j:=(He hs.num.hc e default).2;have h1:=Al9 hs g c.1 f l (s.rows.getD k default).coef;have h2:=c.2 k e
 have h3:Ir (fun i=>Z5 ((s.rows.getD k default).coef.getD i 0)) (Pp s.free a m)<=Ir (fun i=>(s.rows.getD k default).coef.getD i 0*y.getD i 0) (Pp s.free a m):=
  Ad3 fun i _ =>by rcases c.1.2 i with h|h<;>rw [h]<;>unfold Z5<;>split<;>omega
 have h4:Ir (fun i=>(s.rows.getD k default).coef.getD i 0*y.getD i 0) (Pp s.free a m)<=Ir (fun i=>Lf ((s.rows.getD k default).coef.getD i 0)) (Pp s.free a m):=
  Ad3 fun i _ =>by rcases c.1.2 i with h|h<;>rw [h]<;>unfold Lf<;>split<;>omega
 rw [Gs,decide_eq_false_iff_not,decide_eq_false_iff_not];omega
theorem Ayi{s:Ss}(hs:SsOk s){d:Sd}(c:OkD s d)(h:Ah4 s d s.free.length=true):Apw s d.x:=by
 unfold Ah4 at h;rw [Agp]at h;refine⟨c.bits,fun k a=>?_⟩;have:=h k a;rw [Apx hs c (m:=0) om a,Pp,Ir,Ir,Gs,decide_eq_false_iff_not,decide_eq_false_iff_not]at this;omega
theorem Aj9(a:List Rw):∀k,k<=a.length->0<=(R2 a k).2/\(0<=(R2 a k).1->∀i,(a.getD (R2 a k).1.toNat default).coef.getD i 0=0\/(a.getD (R2 a k).1.toNat default).coef.getD i 0=1)
 |0,_ =>by simp [R2]
 |k+1,h=>by
  have ih:=Aj9 a k om;rw [R2]
  split
  ·rename_i h1;refine⟨by simp only;omega,fun _ i=>?_⟩;simp only [Dv]
   by_cases e:(a.getD k default).coef.any Vb=true
   ·unfold Af7 at h1;rw [if_pos e]at h1;omega
   ·by_cases d:i<(a.getD k default).coef.length
    ·rw [Dp]at e
     have h2:∀c∈(a.getD k default).coef,c=0\/c=1:=fun c j=>by
      by_cases f:c=0
      ·exact .inl f
      ·by_cases g:c=1
       ·exact .inr g
       ·exact absurd ⟨c,j,by simp [Vb,f,g]⟩ e
     exact He h2 d 0
    ·left;generalize(a.getD k default).coef=c at d|-;simp [List.getD,Hd (O2 d)]
  ·exact ih
def LLF(free:List Int)(a:Nat)(c:List Int):List Nat:=(c.filter (fun e=>decide ((a:Int)<=e))).map (fun e=>W0 free e.toNat)
theorem A39(free:List Int)(a:Nat){l m:List Int}(h:l.Perm m):(LLF free a l).Perm (LLF free a m):=(h.filter _).map _
theorem Avp(free:List Int)(a:Nat)(l:List Int)(k:Nat):LLF free a (l++[(k:Int)])=LLF free a l++if a<=k then [W0 free k]else []:=by
 unfold LLF;rw [M5,Ck]
 by_cases h:a<=k
 ·rw [if_pos h];simp [show(a:Int)<=k by omega]
 ·rw [if_neg h];simp [show¬(a:Int)<=k by omega]
def pv(a:List Int)(f:Nat->Int)(i:Nat):Int:=if 0<a.getD i 0 then f i else 0
theorem Avq(d free:List Int)(f:Nat->Int)(a:Nat):∀k,Ir f (LLF free a (Sv d free k))=(if a<k then pv d f (W0 free a)else 0)+Ir f (LLF free (a+1) (Sv d free k))
 |0=>by simp [Sv,LLF,Ir]
 |k+1=>by
  have ih:=Avq d free f a k;rw [Sv]
  by_cases h:0<d.getD (free.getD k 0).toNat 0
  ·rw [if_pos h,Avp,Avp,Apv,Apv,ih]
   by_cases h1:a=k
   ·subst h1;rw [if_neg (c:=a<a) om,if_pos (c:=a<=a) om,if_pos (c:=a<a+1) om,if_neg (c:=a+1<=a) (by omega)];unfold pv;have e:0<d.getD (W0 free a) 0:=h;rw [if_pos e];simp only [Ir];omega
   ·by_cases h2:a<k
    ·rw [if_pos (c:=a<k) h2,if_pos (c:=a<=k) om,if_pos (c:=a<k+1) om,if_pos (c:=a+1<=k) (by omega)];omega
    ·rw [if_neg (c:=a<k) h2,if_neg (c:=a<=k) om,if_neg (c:=a<k+1) om,if_neg (c:=a+1<=k) (by omega)];omega
  ·rw [if_neg h,ih]
   by_cases h1:a=k
   ·subst h1;have e:¬0<d.getD (W0 free a) 0:=h;rw [if_neg (c:=a<a) om,if_pos (c:=a<a+1) (by omega)];unfold pv;rw [if_neg e]
   ·by_cases h2:a<k
    ·rw [if_pos (c:=a<k) h2,if_pos (c:=a<k+1) (by omega)]
    ·rw [if_neg (c:=a<k) h2,if_neg (c:=a<k+1) (by omega)]
theorem Asx(a free:List Int)(f:Nat->Int):∀(m c:Nat),c+m=free.length->Ir f (LLF free c (Sv a free free.length))=Ir (pv a f) (Pp free c m)
 |0,c,h=>by
  have:LLF free c (Sv a free free.length)= []:=by
   unfold LLF;rw [List.map_eq_nil_iff,List.filter_eq_nil_iff];intro e d;have:=Z8 a free free.length e d;simp;omega
  rw [this];rfl
 |m+1,c,h=>by
  rw [Avq,if_pos om,Asx a free f m (c+1) om,Pp,Ir]
theorem Ama{c free:List Int}(d:Bnd c)(a b:Int):Ah5 c free a b=c.getD (W0 free b.toNat) 0-c.getD (W0 free a.toNat) 0:=by
 have h1:=d (W0 free b.toNat);have h2:=d (W0 free a.toNat);show IntKind.i64.wrap (c.getD (W0 free b.toNat) 0-c.getD (W0 free a.toNat) 0)=_
 rw [Bb om (by omega)]
theorem A8k{a:List Int}(free:List Int)(c:Bnd a):CmpOk (Ah5 a free) (fun _ =>True):=
 ⟨fun x y _ _ h=>by rw [Ama c]at h|-;omega,fun x y z _ _ _ h1 h2=>by rw [Ama c]at h1 h2|-;omega⟩
def Acx(s:Ss)(d:Sd):Int:=if 0<=s.wide then(s.rows.getD s.wide.toNat default).mx-d.sums.getD s.wide.toNat 0 else 0
theorem A4a{s:Ss}(hs:SsOk s){d:Sd}(f:OkD s d)(c:Nat):(Od s d c 0).1=Acx s d/\ -48000000<=Acx s d/\Acx s d<=48000000:=by
 have hn:=hs.num.hn;show(if 0<=s.wide then IntKind.i64.wrap ((s.rows.getD s.wide.toNat default).mx-d.sums.getD s.wide.toNat 0)else 0)=_ /\_
 unfold Acx
 by_cases e:0<=s.wide
 ·have h:=Ad2 s.rows s.rows.length (A8 _);have i:s.wide=(R2 s.rows s.rows.length).1:=hs.wide;have a:s.wide.toNat<s.rows.length:=om;have h1:=(He hs.num.hm a default).2;have g:=Tp (He hs.num.hc a default).2 f.bits s.vals.length;rw [<- f.sums _ a]at g;simp only [if_pos e];rw [Bb om (by omega)];exact⟨rfl,by omega,by omega⟩
 ·simp only [if_neg e];exact⟨trivial,by omega,by omega⟩
theorem Avr{s:Ss}(hs:SsOk s){d:Sd}(h:OkD s d)(a:Nat)(n:∀e∈s.order,0<=e/\e<s.free.length)(l:s.order.length<=24):∀k,k<=s.order.length->
  ((-48000000-(k:Int)<=(Od s d a k).1/\(Od s d a k).1<=48000000)/\(-24000000-1000000*(k:Int)<=(Od s d a k).2/\(Od s d a k).2<=24000000+1000000*(k:Int)))/\
  (Od s d a k).2+gre (L6 s) (fun i=>s.vals.getD i 0) (Od s d a k).1 (LLF s.free a (s.order.drop k))=d.value+gre (L6 s) (fun i=>s.vals.getD i 0) (Acx s d) (LLF s.free a s.order)
 |0,_ =>by
  have hn:=hs.num.hn;have y:=Tp hs.num.hv h.bits s.vals.length;rw [<- h.val]at y;have z:=A4a hs h a;have g:(Od s d a 0).2=d.value:=rfl;rw [g,z.1];exact⟨⟨by omega,by omega⟩,rfl⟩
 |k+1,hk=>by
  have ih:=Avr hs h a n l k om;obtain⟨⟨hr,o⟩,c⟩:=ih;have f:k<s.order.length:=om;have m:s.order.drop k=s.order.getD k 0::s.order.drop (k+1):=by rw [Cf f];exact Bu f
  have r:=He n f 0;rw [m]at c;have w:=hs.num.hv (s.free.getD (s.order.getD k 0).toNat 0).toNat;rw [Od];generalize s.order.getD k 0=e,d.value+gre (L6 s) (fun i=>s.vals.getD i 0) (Acx s d) (LLF s.free a s.order)=u,Od s d a k=p at*
  by_cases h1:e<a
  ·rw [if_pos h1]
   have:LLF s.free a (e::s.order.drop (k+1))=LLF s.free a (s.order.drop (k+1)):=by
    unfold LLF;rw [Kj (by simpa using h1)]
   rw [this]at c;exact⟨⟨by omega,by omega⟩,c⟩
  ·rw [if_neg h1]
   have t:LLF s.free a (e::s.order.drop (k+1))=W0 s.free e.toNat::LLF s.free a (s.order.drop (k+1)):=by
    unfold LLF;rw [Ki so,Cw]
   rw [t,gre]at c;have j:W0 s.free e.toNat=(s.free.getD e.toNat 0).toNat:=rfl;rw [j]at c
   by_cases h2:L6 s (s.free.getD e.toNat 0).toNat=true
   ·rw [if_pos h2]at c|-
    by_cases g:p.1<=0
    ·rw [if_pos g]at c|-;exact⟨⟨by omega,by omega⟩,c⟩
    ·rw [if_neg g]at c|-;simp only;rw [Bb (x:=p.1-1) om om,Bb (x:=p.2+_) om (by omega)];exact⟨⟨by omega,by omega⟩,by omega⟩
   ·rw [if_neg h2]at c|-;simp only;rw [Bb (x:=p.2+_) om (by omega)];exact⟨⟨by omega,by omega⟩,by omega⟩
theorem A4b{s:Ss}(hs:SsOk s){d:Sd}(w:OkD s d){y:List Int}(r:Apw s y){f m:Nat}(hm:f+m=s.free.length)(he:A8j s y d.x f m):L7 s.vals y s.vals.length<=Asp s d f:=by
 have ah:=hs.fr.len;have ag:s.order.length<=24:=by rw [hs.order,Nc];have:=Z7 s.vals s.free s.free.length;omega
 have ho:∀e∈s.order,0<=e/\e<s.free.length:=by rw [hs.order];exact fun e h=>Z8 s.vals s.free _ e (Su h)
 have hE:=Avr hs w f ho ag s.order.length (A8 _);have hx:=Al9 hs w r.1 hm he s.vals;obtain⟨_,o⟩:=hE;rw [Ca]at o;have z:LLF s.free f []= []:=rfl;rw [z,gre,Int.add_zero]at o;unfold Asp;rw [o,hx,<- w.val];have g:(LLF s.free f s.order).Perm (LLF s.free f (Sv s.vals s.free s.free.length)):=A39 _ _ (by rw [hs.order];exact M0 _ _)
 have h1:Ir (fun i=>s.vals.getD i 0*y.getD i 0) (Pp s.free f m)<=Ir (fun i=>s.vals.getD i 0*y.getD i 0) (LLF s.free f s.order):=by
  rw [Aj7 _ g,Asx s.vals s.free _ m f hm];exact Ad3 fun i _ =>by unfold pv;dsimp only;split<;>rcases r.1.2 i with h|h<;>rw [h]<;>omega
 have h2:=Ago (W:=L6 s) (v:=fun i=>s.vals.getD i 0) (y:=fun i=>y.getD i 0) r.1.2 (LLF s.free f s.order) (Acx s d) ?_ ?_ ?_
 ·omega
 ·unfold LLF;rw [List.pairwise_map];refine List.Pairwise.filter _ ?_;have:=Aby (A8k s.free hs.num.hv) (l:=Sv s.vals s.free s.free.length) (fun _ _ =>trivial);rw [<- hs.order]at this;exact this.imp fun {a b}h=>by rw [Ama hs.num.hv]at h;omega
 ·intro i hi;have n:=g.mem_iff.1 hi;unfold LLF at n;rw [Bk]at n;obtain⟨e,ae,ab⟩:=n;have af:=(Iv.1 ae).1
  have:∀k,∀e∈Sv s.vals s.free k,0<s.vals.getD (W0 s.free e.toNat) 0:=by
   intro k
   induction k with
   |zero=>intro e h;simp [Sv]at h
   |succ k ih=>
    intro e h;rw [Sv]at h
    split at h
    ·rename_i hp
     rcases B3.1 h with h|h
     ·exact ih e h
     ·rw [By.1 h];exact hp
    ·exact ih e h
  have h4:=this _ e af;rw [ab]at h4;exact h4
 ·unfold Acx
  by_cases hw:0<=s.wide
  ·rw [if_pos hw];have ad:s.wide=(R2 s.rows s.rows.length).1:=hs.wide;have ai:=Ad2 s.rows s.rows.length (A8 _);have aa:s.wide.toNat<s.rows.length:=om;have j:=(Aj9 s.rows s.rows.length (A8 _)).2 om;rw [<- ad]at j;have h5:=Al9 hs w r.1 hm he (s.rows.getD s.wide.toNat default).coef;have h6:=(r.2 _ aa).2;rw [w.sums _ aa]
   have h7:Ir (fun i=>if L6 s i=true then y.getD i 0 else 0) (LLF s.free f s.order)<=Ir (fun i=>(s.rows.getD s.wide.toNat default).coef.getD i 0*y.getD i 0) (Pp s.free f m):=by
    rw [Aj7 _ g,Asx s.vals s.free _ m f hm];refine Ad3 fun i _ =>?_
    unfold pv L6;have hb:=j i;have h:=r.1.2 i
    dsimp only
    generalize(s.rows.getD s.wide.toNat default).coef.getD i 0=c at hb|-;generalize y.getD i 0=u at h|-;rcases hb with rfl|rfl<;>rcases h with rfl|rfl<;>split<;>simp [hw]
   omega
  ·rw [if_neg hw];have:∀i,L6 s i=false:=fun i=>by unfold L6;simp [hw]
   refine Int.le_of_eq ?_;generalize LLF s.free f s.order=t
   induction t with
   |nil=>rfl
   |cons a t ih=>rw [Ir,ih,this a];rfl
theorem Amb(d:List Rw)(i:Nat)(f:Int)(a:List Int):∀k j,j<a.length->(X7 d i f a k).getD j 0=if j<k then IntKind.i64.wrap (a.getD j 0+IntKind.i64.wrap (f*(d.getD j default).coef.getD i 0))else a.getD j 0
 |0,j,_ =>by rw [if_neg (by omega)];rfl
 |k+1,j,g=>by
  rw [X7,Ke,Vc]
  by_cases h:j=k
  ·subst h;rw [if_pos (c:=j=j/\j<a.length) ⟨rfl,g⟩,if_pos (c:=j<j+1) om,Amb d i f a j j g,if_neg (by omega)]
  ·rw [if_neg (c:=j=k/\k<a.length) (fun e=>h e.1),Amb d i f a k j g]
   by_cases h2:j<k
   ·rw [if_pos (c:=j<k) h2,if_pos (c:=j<k+1) (by omega)]
   ·rw [if_neg (c:=j<k) h2,if_neg (c:=j<k+1) (by omega)]
theorem Wj{s:Ss}(hs:SsOk s){d:Sd}(e:OkD s d){i:Nat}(l:i<s.vals.length){b:Int}(m:(b=1/\d.x.getD i 0=0)\/(b=0/\d.x.getD i 0=1)):OkD s (Im s d i b):=by
 have hn:=hs.num.hn;have j:b=0\/b=1:=om;have f:i<d.x.length:=by rw [e.bits.1];exact l
 have a:Agk s.vals.length (d.x.set i b):=Apu e.bits i j
 have g:∀c:Int,-1000000<=c/\c<=1000000->IntKind.i64.wrap (Proofs.YtpaccopbbffkaaaGreatDoor.sgn b*c)=c*(b-d.x.getD i 0):=by
  intro c hc
  rcases m with⟨h1,h2⟩|⟨h1,h2⟩
  ·rw [h1,h2,show Proofs.YtpaccopbbffkaaaGreatDoor.sgn 1=1 from by decide,Int.one_mul,Bb om (by omega)];omega
  ·rw [h1,h2,show Proofs.YtpaccopbbffkaaaGreatDoor.sgn 0= -1 from by decide,Bb om (by omega)];omega
 refine⟨a,?_,?_,?_⟩
 ·show IntKind.i64.wrap (d.value+IntKind.i64.wrap (Proofs.YtpaccopbbffkaaaGreatDoor.sgn b*s.vals.getD i 0))=L7 s.vals (d.x.set i b) s.vals.length
  have h1:=Tp hs.num.hv a s.vals.length;rw [Z9 s.vals b f,if_pos l]at h1|-;rw [g _ (hs.num.hv i),e.val,Bb om (by omega)]
 ·show(X7 s.rows i _ d.sums s.rows.length).length=_
  rw [Vc];exact e.len
 ·intro k h;show(X7 s.rows i (Proofs.YtpaccopbbffkaaaGreatDoor.sgn b) d.sums s.rows.length).getD k 0=L7 _ (d.x.set i b) _
  have hc:=(He hs.num.hc h default).2;have h1:=Tp hc a s.vals.length;rw [Amb _ _ _ _ _ _ (by rw [e.len];exact h),if_pos h,g _ (hc i),e.sums k h];rw [Z9 _ b f,if_pos l]at h1|-;rw [Bb om (by omega)]
theorem A4c{s:Ss}{d:Sd}(a:OkD s d):OkD s (Ajv s d):=⟨a.bits,a.val,a.len,a.sums⟩
theorem Agq{x:List Int}{i:Nat}{b:Int}(h:x.getD i 0=b)(c:Int)(a:i<x.length):(x.set i c).set i b=x:=by
 rw [List.set_set];apply Ld;intro k;rw [Le]
 by_cases e:i=k
 ·subst e;rw [if_pos rfl,if_pos a,<- h,Cf a];simp [a]
 ·rw [if_neg e]
theorem Wk{s:Ss}(hs:SsOk s):∀(m a:Nat)(d:Sd),a+m=s.free.length->OkD s d->(∀i∈Pp s.free a m,d.x.getD i 0=0)->OkD s (Hf s m a d)/\(Hf s m a d).x=d.x
 |0,a,d,_,h,_ =>by
  rw [Hf];split
  ·exact⟨h,rfl⟩
  ·exact⟨A4c h,rfl⟩
 |m+1,a,d,z,h,w=>by
  have r:vI s a=W0 s.free a:=rfl;have u:vI s a<s.vals.length:=by rw [r];exact hs.fr.lt a om
  have t:vI s a∉Pp s.free (a+1) m:=Aaa hs.fr z;have l:d.x.getD (vI s a) 0=0:=w _ (by rw [Pp];simp [r]);have g:∀i∈Pp s.free (a+1) m,d.x.getD i 0=0:=fun i f=>w i (by rw [Pp];simp [f])
  have n:vI s a<d.x.length:=by rw [h.bits.1];exact u
  have o:∀e:Sd,OkD s e->e.x=d.x->OkD s (Im s (Hf s m (a+1) (Im s e (vI s a) 1)) (vI s a) 0)/\(Im s (Hf s m (a+1) (Im s e (vI s a) 1)) (vI s a) 0).x=d.x:=by
   intro e he k;have h1:=Wj hs he u (b:=1) (.inl ⟨rfl,by rw [k];exact l⟩);have j:(Im s e (vI s a) 1).x=d.x.set (vI s a) 1:=by show e.x.set _ _ =_;rw [k]
   have h2:=Wk hs m (a+1) _ om h1 (fun i f=>by
    rw [j,Ke,if_neg (c:=i=vI s a/\_) (fun e=>t (e.1▸f))];exact g i f)
   have y:=Wj hs h2.1 u (b:=0) (.inr ⟨rfl,by rw [h2.2,j,Ke,if_pos ⟨rfl,n⟩]⟩);refine⟨y,?_⟩;show(Hf s m (a+1) (Im s e (vI s a) 1)).x.set _ _ =_
   rw [h2.2,j,Agq l 1 n]
  rw [Hf]
  split
  ·exact⟨h,rfl⟩
  ·split
   ·have h1:=Wk hs m (a+1) d om h g;exact o _ h1.1 h1.2
   ·have h1:=o d h rfl;have h2:=Wk hs m (a+1) _ om h1.1 (fun i f=>by rw [h1.2];exact g i f);exact⟨h2.1,by rw [h2.2,h1.2]⟩
def Avs(s:Ss)(a:Nat->Int)(d:Sd):Prop:=d.found=true->∃y,Apw s y/\(∀i,(∀e,e<s.free.length->i≠W0 s.free e)->y.getD i 0=a i)/\d.most=L7 s.vals y s.vals.length
theorem Wl{s:Ss}(hs:SsOk s)(k:Nat->Int):∀(m a:Nat)(d:Sd),a+m=s.free.length->OkD s d->(∀i∈Pp s.free a m,d.x.getD i 0=0)->(∀i,(∀e,e<s.free.length->i≠W0 s.free e)->d.x.getD i 0=k i)->Avs s k d->Avs s k (Hf s m a d)
 |0,a,d,hm,l,_,y,n=>by
  rw [Hf];split
  ·exact n
  ·rename_i h;intro _
   have hp:Ah4 s d s.free.length=true:=by
    unfold Xk at h;have:a=s.free.length:=om;rw [this]at h;simp at h;exact h.1
   exact⟨d.x,Ayi hs l hp,y,l.val⟩
 |m+1,a,d,hm,l,h0,y,n=>by
  have u:vI s a=W0 s.free a:=rfl;have hi:vI s a<s.vals.length:=by rw [u];exact hs.fr.lt a om
  have z:vI s a∉Pp s.free (a+1) m:=Aaa hs.fr hm;have w:d.x.getD (vI s a) 0=0:=h0 _ (by rw [Pp];simp [u]);have g:∀i∈Pp s.free (a+1) m,d.x.getD i 0=0:=fun i f=>h0 i (by rw [Pp];simp [f])
  have r:vI s a<d.x.length:=by rw [l.bits.1];exact hi
  have t:∀e:Sd,OkD s e->e.x=d.x->Avs s k e->OkD s (Im s (Hf s m (a+1) (Im s e (vI s a) 1)) (vI s a) 0)/\(Im s (Hf s m (a+1) (Im s e (vI s a) 1)) (vI s a) 0).x=d.x/\Avs s k (Im s (Hf s m (a+1) (Im s e (vI s a) 1)) (vI s a) 0):=by
   intro e he o aa;have h1:=Wj hs he hi (b:=1) (.inl ⟨rfl,by rw [o];exact w⟩);have j:(Im s e (vI s a) 1).x=d.x.set (vI s a) 1:=by show e.x.set _ _ =_;rw [o]
   have hz:∀i∈Pp s.free (a+1) m,(Im s e (vI s a) 1).x.getD i 0=0:=fun i f=>by
    rw [j,Ke,if_neg (c:=i=vI s a/\_) (fun e=>z (e.1▸f))];exact g i f
   have h2:=Wk hs m (a+1) _ om h1 hz;have h3:=Wj hs h2.1 hi (b:=0) (.inr ⟨rfl,by rw [h2.2,j,Ke,if_pos ⟨rfl,r⟩]⟩)
   refine⟨h3,?_,?_⟩
   ·show(Hf s m (a+1) (Im s e (vI s a) 1)).x.set _ _ =_
    rw [h2.2,j,Agq w 1 r]
   ·exact Wl hs k m (a+1) _ om h1 hz (fun i f=>by
     rw [j,Ke,if_neg (c:=i=vI s a/\_) (fun e=>f a om e.1)];exact y i f) aa
  rw [Hf]
  split
  ·exact n
  ·split
   ·have h1:=Wk hs m (a+1) d om l g;exact(t _ h1.1 h1.2 (Wl hs k m (a+1) d om l g y n)).2.2
   ·have h1:=t d l rfl n;exact Wl hs k m (a+1) _ om h1.1 (fun i f=>by rw [h1.2.1];exact g i f) (fun i f=>by rw [h1.2.1];exact y i f) h1.2.2
theorem Abz(s:Ss):∀(m a:Nat)(d:Sd),(d.best.isSome=true->(Hf s m a d).best.isSome=true)/\((Hf s m a d).best=none->(Hf s m a d).least=d.least)
 |0,a,d=>by
  rw [Hf];split
  ·exact⟨fun h=>h,fun _ =>rfl⟩
  ·exact⟨fun _ =>rfl,fun h=>by simp [Ajv]at h⟩
 |m+1,a,d=>by
  have c:=Abz s m (a+1)
  have f:∀e:Sd,(Hf s m (a+1) e).best=none->e.best=none:=fun e h=>by
   cases hb:e.best with
   |none=>rfl
   |some b=>have:=(c e).1 (by rw [hb];rfl);rw [h]at this;simp at this
  rw [Hf]
  split
  ·exact⟨fun h=>h,fun _ =>rfl⟩
  ·split
   ·refine⟨fun h=>(c (Im s (Hf s m (a+1) d) (vI s a) 1)).1 ((c d).1 h),fun h=>?_⟩;have g:(Hf s m (a+1) (Im s (Hf s m (a+1) d) (vI s a) 1)).best=none:=h;have h1:=(c _).2 g;have h2:(Hf s m (a+1) d).best=none:=f (Im s (Hf s m (a+1) d) (vI s a) 1) g;exact h1.trans ((c d).2 h2)
   ·refine⟨fun h=>(c _).1 ((c (Im s d (vI s a) 1)).1 h),fun h=>?_⟩;have h1:=(c _).2 h;have g:(Hf s m (a+1) (Im s d (vI s a) 1)).best=none:=f (Im s (Hf s m (a+1) (Im s d (vI s a) 1)) (vI s a) 0) h;exact h1.trans ((c _).2 g)
theorem Ya{s:Ss}(hs:SsOk s)(h1:s.one=true){y:List Int}(r:Apw s y):∀(m a:Nat)(d:Sd),a+m=s.free.length->OkD s d->A8j s y d.x a m->d.least<=L7 s.vals y s.vals.length->(Hf s m a d).best.isSome=true
 |0,a,d,t,j,h,hl=>by
  have hp:=Apy hs j r t h;have hb:=A4b hs j r t h;have n:Xk s d a=false:=by unfold Xk;rw [hp];simp;omega
  rw [Hf,n];rfl
 |m+1,a,d,t,j,h,hl=>by
  have hp:=Apy hs j r t h;have hb:=A4b hs j r t h;have n:Xk s d a=false:=by unfold Xk;rw [hp];simp;omega
  have aa:Apj s a=false:=by unfold Apj;rw [h1];rfl
  have w:vI s a=W0 s.free a:=rfl;have hi:vI s a<s.vals.length:=by rw [w];exact hs.fr.lt a om
  have ab:vI s a∉Pp s.free (a+1) m:=Aaa hs.fr t;have l:d.x.getD (vI s a) 0=0:=h.1 _ (by rw [Pp];simp [w]);have z:∀i∈Pp s.free (a+1) m,d.x.getD i 0=0:=fun i f=>h.1 i (by rw [Pp];simp [f])
  have k:vI s a<d.x.length:=by rw [j.bits.1];exact hi
  have o1:=Wj hs j hi (b:=1) (.inl ⟨rfl,l⟩);have g:(Im s d (vI s a) 1).x=d.x.set (vI s a) 1:=rfl
  have hz:∀i∈Pp s.free (a+1) m,(Im s d (vI s a) 1).x.getD i 0=0:=fun i f=>by
   rw [g,Ke,if_neg (c:=i=vI s a/\_) (fun e=>ab (e.1▸f))];exact z i f
  have o2:=Wk hs m (a+1) _ om o1 hz;have o3:=Wj hs o2.1 hi (b:=0) (.inr ⟨rfl,by rw [o2.2,g,Ke,if_pos ⟨rfl,k⟩]⟩)
  have u:(Im s (Hf s m (a+1) (Im s d (vI s a) 1)) (vI s a) 0).x=d.x:=by
   show(Hf s m (a+1) (Im s d (vI s a) 1)).x.set _ _ =_
   rw [o2.2,g,Agq l 1 k]
  rw [Hf,n,aa];simp only [Fv,if_false]
  by_cases hn:(Hf s m (a+1) (Im s d (vI s a) 1)).best.isSome=true
  ·exact(Abz s m (a+1) _).1 hn
  ·rcases r.1.2 (vI s a)with o|o
   ·refine Ya hs h1 r m (a+1) _ om o3 ⟨fun i f=>by rw [u];exact z i f,fun i f=>?_⟩ ?_
    ·rw [u]
     by_cases e:i=vI s a
     ·rw [e,o,l]
     ·exact h.2 i (by rw [Pp];simp [f];exact e)
    ·have h5:=(Abz s m (a+1) (Im s d (vI s a) 1)).2 (by simpa using hn);show(Hf s m (a+1) (Im s d (vI s a) 1)).least<=_
     rw [h5];exact hl
   ·refine absurd (Ya hs h1 r m (a+1) _ om o1 ⟨hz,fun i f=>?_⟩ hl) hn;rw [g,Ke]
    by_cases e:i=vI s a
    ·rw [if_pos ⟨e,k⟩,e,o]
    ·rw [if_neg (fun e2=>e e2.1)];exact h.2 i (by rw [Pp];simp [f];exact e)
theorem Vf(s:Ss)(n:Nat):∀(m c:Nat)(d:Sd),d.x.length=n->(∀b,d.best=some b->b.length=n)->(Hf s m c d).x.length=n/\(∀b,(Hf s m c d).best=some b->b.length=n)
 |0,c,d,h1,h2=>by
  rw [Hf];split
  ·exact⟨h1,h2⟩
  ·exact⟨h1,fun b f=>by simp only [Ajv,Av]at f;rw [<- f];exact h1⟩
 |m+1,c,d,h1,h2=>by
  have hs:∀(e:Sd)(i:Nat)(b:Int),e.x.length=n->(Im s e i b).x.length=n:=fun e i b h=>by simp [Im,h]
  rw [Hf]
  split
  ·exact⟨h1,h2⟩
  ·split
   ·have a:=Vf s n m (c+1) d h1 h2;have b:=Vf s n m (c+1) (Im s (Hf s m (c+1) d) (vI s c) 1) (hs _ _ _ a.1) a.2;exact⟨hs _ _ _ b.1,b.2⟩
   ·have a:=Vf s n m (c+1) (Im s d (vI s c) 1) (hs _ _ _ h1) h2;exact Vf s n m (c+1) _ (hs _ _ _ a.1) a.2
theorem Amc{c m:Int}(h:inB c m=true): -m<=c/\c<=m:=by unfold inB at h;simpa using h
theorem A4d{l:List Int}(h:l.any (fun c=> !inB c 1000000)≠true):Bnd l:=by
 intro i
 by_cases a:i<l.length
 ·have:inB (l.getD i 0) 1000000=true:=by
   cases e:inB (l.getD i 0) 1000000
   ·exact absurd (Dp.2 ⟨l.getD i 0,by rw [Cf a];exact Aw a,by rw [e];rfl⟩) h
   ·rfl
  exact Amc this
 ·simp [List.getD,Hd (O2 a)]
theorem A8l{a:List Int}{c:List Rw}{f:List Int}(h:Abt a c f=0):NumP a c/\f.length=a.length/\∀i,-1<=f.getD i 0/\f.getD i 0<=1:=by
 unfold Abt at h
 split at h
 ·omega
 ·rename_i h1
  split at h
  ·omega
  ·rename_i h2
   split at h
   ·omega
   ·rename_i k
    split at h
    ·omega
    ·rename_i l
     split at h
     ·omega
     ·rename_i n
      split at h
      ·omega
      ·rename_i m
       have g:∀r∈c,Ah3 r=false:=fun r g=>by
        cases e:Ah3 r
        ·rfl
        ·exact absurd (Dp.2 ⟨r,g,e⟩) n
       refine⟨⟨by omega,by omega,A4d l,fun r d=>⟨?_,?_⟩,fun r d=>?_⟩,by omega,fun i=>?_⟩
       ·by_cases e:r.coef.length=a.length
        ·exact e
        ·exact absurd (Dp.2 ⟨r,d,by simpa using e⟩) k
       ·have:=g r d;unfold Ah3 at this;simp only [Gs]at this;exact A4d (by rw [this.1];simp)
       ·have:=g r d;unfold Ah3 at this;simp only [Gs,Bool.not_eq_false']at this;exact⟨Amc this.2.1,Amc this.2.2⟩
       ·by_cases j:i<f.length
        ·by_cases e:f.getD i 0< -1\/1<f.getD i 0
         ·exact absurd (Dp.2 ⟨f.getD i 0,by rw [Cf j];exact Aw j,by simpa using e⟩) m
         ·omega
        ·simp [List.getD,Hd (O2 j)]
theorem Vg(c:List Int):∀k,(Nz c k).Nodup
 |0=>by simp [Nz]
 |k+1=>by
  rw [Nz];split
  ·rw [Io];refine⟨Vg c k,by simp,fun a d b e=>?_⟩;have:=Zy c k a d;have:=By.1 e;omega
  ·exact Vg c k
theorem Ab0(a:List Int):∀k,∀i∈Nz a k,a.getD i.toNat 0<0
 |0,i,h=>by simp [Nz]at h
 |k+1,i,h=>by
  rw [Nz]at h;split at h
  ·rename_i hp
   rcases B3.1 h with h|h
   ·exact Ab0 a k i h
   ·rw [By.1 h];exact hp
  ·exact Ab0 a k i h
theorem Avt{a free:List Int}{n:Nat}(hn:n<=24)(hx:a.length=n)(hp:free.Perm (Fq a)):FrOk free n:=by
 have d:∀e,e<free.length->0<=free.getD e 0/\free.getD e 0<n:=fun e c=>by
  have:=Zy a a.length (free.getD e 0) (hp.mem_iff.1 (by rw [Cf c];exact Aw c));omega
 have g:free.Nodup:=hp.nodup_iff.2 (Vg a _)
 refine⟨fun e c=>by have:=d e c;unfold W0;omega,fun e e' c f h=>?_,?_⟩
 ·have h1:=d e c;have h2:=d e' f;unfold W0 at h;have i:free.getD e 0=free.getD e' 0:=om;rw [Cf c,Cf f]at i;exact(List.getElem_inj g).1 i
 ·rw [hp.length_eq];have:=Wi a a.length;unfold Fq;omega
theorem A4e(a:List Int)(i:Nat):(xP a).getD i 0=Lf (a.getD i 0):=by
 unfold xP
 by_cases h:i<a.length
 ·rw [Cf (by simpa using h),Cf h];simp
 ·simp [List.getD,Hd (O2 h),Lf]
theorem Bes(a:List Int)(c:List Rw)(d:List Int):Avj a c d:=by
 intro hz _ o;obtain⟨g,t,aj⟩:=A8l hz;have hn:=g.hn;have j:Agk a.length (xP d):=⟨by simp [xP,t],fun i=>by rw [A4e];have:=aj i;unfold Lf;split<;>omega⟩;have x:=M0 (Tn a) (Fq d);have ag:=Avt hn t x;have ah:=Avt hn t (List.Perm.refl (Fq d));have sg:SsOk (grS a c d):=⟨g,ag,rfl,rfl,rfl,rfl⟩;have sf:SsOk (Agc a c d):=⟨g,ah,rfl,rfl,rfl,rfl⟩
 have aa:∀k,k<c.length->(smP c (xP d)).getD k 0=L7 (c.getD k default).coef (xP d) a.length:=by
  intro k z;have hc:=He g.hc z default;unfold smP;rw [Cf (by simpa using z),List.getElem_map,<- Cf z default];unfold Xj;rw [hc.1,Agl hc.2 j _ (by omega)]
 have r:Xj a (xP d)=L7 a (xP d) a.length:=by unfold Xj;exact Agl g.hv j _ om
 have l:∀(free:List Int)(m f:Nat),free.Perm (Fq d)->f+m=free.length->∀i∈Pp free f m,(xP d).getD i 0=0:=by
  intro free m f hp hm i hi;obtain⟨e,_,h2,h3⟩:=Ad4 hi;have he:e<free.length:=om;have:=Ab0 d d.length (free.getD e 0) (hp.mem_iff.1 (by rw [Cf he];exact Aw he));rw [A4e,h3];unfold W0 Lf;rw [if_pos this]
 have og:OkD (grS a c d) { nwD a c d with least:= -24000000}:=⟨j,r,by simp [nwD,smP,grS,nwS],aa⟩
 have s:=Wl sg (fun i=>(xP d).getD i 0) (H4 (Tn a) (Fq d)).length 0 _ (show 0+(H4 (Tn a) (Fq d)).length=(grS a c d).free.length from Ds _) og
  (l _ _ _ x (Ds _)) (fun i _ =>rfl) (fun h=>by simp [nwD]at h) o
 obtain⟨y,hy,ai,w⟩:=s;have n:(grD a c d).most=L7 a y a.length:=w;have off:OkD (Agc a c d) { nwD a c d with least:=(grD a c d).most}:=⟨j,r,by simp [nwD,smP,Agc,nwS],aa⟩
 have u:=Ya (y:=y) sf rfl hy (Fq d).length 0 { nwD a c d with least:=(grD a c d).most} (show 0+(Fq d).length=(Agc a c d).free.length from Ds _) off
  ⟨l _ _ _ (.refl _) (Ds _),fun i hi=>ai i (fun e he h=>hi ?_)⟩ (Int.le_of_eq n)
 ·have af:=Vf (Agc a c d) a.length (Fq d).length 0 { nwD a c d with least:=(grD a c d).most} j.1 (fun b hb=>by simp [nwD]at hb);obtain⟨b,hb⟩:=Cp.1 u;exact⟨b,hb,af.2 b hb⟩
 ·have ad:e<(H4 (Tn a) (Fq d)).length:=he;have ab:(H4 (Tn a) (Fq d)).getD e 0∈Fq d:=x.mem_iff.1 (by rw [Cf ad];exact Aw ad);have h:i=((H4 (Tn a) (Fq d)).getD e 0).toNat:=h
  have ae:∀(m f:Nat),f+m=(Fq d).length->∀e,f<=e->e<(Fq d).length->W0 (Fq d) e∈Pp (Fq d) f m:=by
   intro m
   induction m with
   |zero=>intro f h1 e h2 h3;omega
   |succ m ih=>
    intro f h1 e h2 h3;rw [Pp]
    by_cases h4:e=f
    ·rw [h4];simp
    ·exact D7 _ (ih (f+1) om e om h3)
  obtain⟨k,z,ak⟩:=Gq.1 ab;have h7:=ae (Fq d).length 0 om k om z;have h8:W0 (Fq d) k=i:=by unfold W0;rw [Cf z,ak,h]
  rw [h8]at h7;exact h7
theorem Amd(W:List (Int × Int))(a b:Int):Abx W a b<0↔Fc W b<Fc W a\/(Fc W b=Fc W a/\a<b):=by
 unfold Abx;simp only [orF,Go.Proofs.YtpaccopbbffkaaaGreatDoor.cmpI];generalize Fc W a=u;generalize Fc W b=v
 (repeat' split)<;>omega
theorem A8m(W:List (Int × Int)):CmpOk (Abx W) (fun _ =>True):=
 ⟨fun x y _ _ h=>by rw [Amd]at h|-;omega,fun x y z _ _ _ h1 h2=>by rw [Amd]at h1 h2|-;omega⟩
theorem A4f(W:List (Int × Int)){l m:List Int}(c:l.Nodup)(d:m.Nodup)(h:∀a,a∈l↔a∈m):H4 (Abx W) l=H4 (Abx W) m:=
 Ayh (A8m W) (fun _ _ =>trivial) ((List.perm_ext_iff_of_nodup c d).2 h) (fun x y _ _ h1 h2=>by rw [Amd]at h1 h2;omega)
theorem Apz(d:Int):∀(l e c:List Int)(t:Rat),0<=t->0<=Oh d l e c t
 |a::l,b::e,w::c,t,h=>by
  rw [Oh];refine Apz d l e c _ ?_
  have h1:(0:Rat)<=mkRat ((b-a)*(b-a)) (1000*d*d*w).natAbs:=by
   rw [<- Rat.divInt_ofNat];refine Rat.divInt_nonneg ?_ (Int.natCast_nonneg _)
   rcases Int.le_total 0 (b-a)with h|h
   ·exact Int.mul_nonneg h h
   ·exact Int.mul_nonneg_of_nonpos_of_nonpos h h
  exact Rat.add_nonneg h h1
 | [],_,_,t,h=>by unfold Oh;exact h
 |_ ::_,[],_,t,h=>by unfold Oh;exact h
 |_ ::_,_ ::_,[],t,h=>by unfold Oh;exact h
theorem Asy(a:List Int)(m:Mo)(q:Nat):0<=U3 (Pv a m q)/\U3 (Pv a m q)<=1000000:=by
 have c:0<=Pv a m q:=by
  unfold Pv;split
  ·exact Rat.le_refl
  ·exact Apz _ _ _ _ _ Rat.le_refl
 have h1:0<=(Pv a m q*(100000000:Int)).floor:=by
  rw [Rat.le_floor_iff];exact Rat.mul_nonneg c dc
 unfold U3;split<;>omega
def Asz(p:List Nat)(k:Int)(r:Rat):Int × Int:=
 if Ayg p≠0 then(0,Ayg p)
 else if k<1\/(p.length:Int)-1<k\/Nt r (Ac8 1 2)<=0\/0<Nt r (Ac8 1 1)then(0,3)
 else if 0<=Nt (Apq (p.drop k.toNat) p) r then(1,0)
 else if 0<=Nt (Apq (p.take k.toNat) p) r then(0,0)else(-1,0)
theorem A8n(p:List Nat)(k:Int)(r:Rat):A8f p k r=.tup [.int .i64 (Asz p k r).1,.int .i64 (Asz p k r).2]:=by
 unfold A8f Asz;(repeat' split)<;>rfl
def As0(p:Po)(w:List Nat):Bool × Int:=
 if p.cut=0 then(false,0)else if(Asz w p.cut p.lvl.val).2≠0 then(false,(Asz w p.cut p.lvl.val).2)else(decide ((Asz w p.cut p.lvl.val).1≠ -1),0)
theorem As1(p:Po)(w:List Nat)(d:p.ok)(n:Ks w 1000000)(c:w.length<=1000000):
  AC prog 209 [p.v,.ro 1 (Bv w)] (fun r=>r=.tup [.bool (As0 p w).1,.int .i64 (As0 p w).2]):=by
 have a:=A36 w p.cut p.lvl n c d.lvl;rw [A8n]at a;unfold As0;generalize Asz w p.cut p.lvl.val=cc at*;have x:p.lvl.v=.agg [.bool p.lvl.num.neg,.ro 1 (Au p.lvl.num.mag),.ro 1 (Au p.lvl.den)]:=rfl;rw [x]at a;have e:p.v=V.agg [.int .i64 p.len,.ro 5 (Ee p.rules),.ro 1 (As p.g.pts),.ro 1 (As p.g.pri),.ro 2 (A0 p.en),.int .i64 p.mn,.bool p.var.num.neg,.ro 1 (Au p.var.num.mag),.ro 1 (Au p.var.den),.int .i64 p.cut,.bool p.lvl.num.neg,.ro 1 (Au p.lvl.num.mag),.ro 1 (Au p.lvl.den),.int .i64 p.top,.bool p.rate.num.neg,.ro 1 (Au p.rate.num.mag),.ro 1 (Au p.rate.den),.int .i64 p.slack]:=rfl;rw [e]at|-;clear e;have l:=Cq p.rules;have s:=Af p.g.pts;have k:=Af p.g.pri;have m:=A4 p.en;have o:=Ah p.var.num.mag;have f:=Ah p.var.den;have j:=Ah p.lvl.num.mag;have i:=Ah p.lvl.den;have t:=Ah p.rate.num.mag;have h:=Ah p.rate.den;generalize Ee p.rules=rv,As p.g.pts=pt,As p.g.pri=pr,A0 p.en=ev,Au p.var.num.mag=vm,Au p.var.den=vd,Au p.lvl.num.mag=lm,Au p.lvl.den=ld,Au p.rate.num.mag=rm,Au p.rate.den=rd at*;have u:=Br w;generalize Bv w=wv at*;refine Ay func209 (fun w0 N0=>?_);refine Aa [1,2] [2] sr (Ab (Aa [1,2,10] [2] sr ?_))
 refine Ao (fun h1=>?_) (fun h1=>Ae ?_)
 ·exact Aa [4,5] [] sr (Ak (Ad sr (by rw [if_pos (by simpa using h1)])))
 rw [if_neg (by simpa using h1)];refine Ab (Ac (Am 5 sr ?_));refine Ai a func249 ?_ (hp:=by simp);refine Ag [6,7] [] sr ?_;refine Ab (Aa [6,7,21] [] sr ?_)
 refine Ao (fun h2=>?_) (fun h2=>Ae ?_)
 ·exact Aa [4,5] [] sr (Ak (Ad sr (by rw [if_pos (by simpa using h2)])))
 exact Aa [4,5] [] sr (Ak (Ad sr (by rw [if_neg (by simpa using h2)];simp)))
theorem A8o{g:Gr}{w:List Nat}(h:sumsOk g w):P1 (X3 g w)<=2047:=by
 unfold X3;refine Tj (Jl h.pos h.pos) ?_ (Aj (Ns (Abl h.sz0) (Abl h.sz0)) dc);have h1:=L3 h.sz0 h.sz2;have h2:=L3 h.sz1 h.sz1;have a:Oc (-(Mz g.pts w*Mz g.pts w))<=2044:=by unfold Oc at h2|-;rw [N8];omega
 rw [Int.sub_eq_add_neg];exact Aj (Ti (k:=2046) (Aj h1 dc) (Aj a dc)) dc
def Ayj(p:Po)(n:Nat)(w:List Nat):Int × Int:=
 if p.len<=n then(1,0)else if(n:Int)<p.mn then(0,0)
 else if 0<Acq p.var.val/\Nt (X3 p.g w) p.var.val<=0 then(2,0)
 else if(As0 p w).2≠0 then(0,(As0 p w).2)else if(As0 p w).1=true then(3,0)else(0,0)
theorem As2(p:Po)(n:Nat)(w:List Nat)(a:p.ok)(hp:U0 p=0)(hs:sumsOk p.g w):
  Hm gv prog 166 [p.v,.int .i64 n,.ro 1 (Bv w)] (fun r=>r=.tup [.int .i64 (Ayj p n w).1,.int .i64 (Ayj p n w).2]):=by
 have h:=P5 p a;rw [hp]at h;have aa:w.length<=1000000:=by have:=hs.len;have:=(J3 hs.grid).len;omega
 have e:=As1 p w a (fun x hx=>Aj (hs.sz x hx) dc) aa;have c:=A8g p.g w hs;have y:=Aof p.var a.var.lim a.var.num.lim;have d:=Rg (nR (X3 p.g w)) p.var (Na (Aj (A8o hs) dc)) a.var;rw [Me]at d;unfold Ayj;generalize As0 p w=dc,Acq p.var.val=sg at*;generalize ab:Nt (X3 p.g w) p.var.val=cv at*;generalize X3 p.g w=q at*;have eg:p.g.v=.agg [.ro 1 (As p.g.pts),.ro 1 (As p.g.pri)]:=rfl;have er:p.var.v=.agg [.bool p.var.num.neg,.ro 1 (Au p.var.num.mag),.ro 1 (Au p.var.den)]:=rfl;rw [eg]at c;simp only [Ww]at c d;rw [er]at y d;have ep:p.v=V.agg [.int .i64 p.len,.ro 5 (Ee p.rules),.ro 1 (As p.g.pts),.ro 1 (As p.g.pri),.ro 2 (A0 p.en),.int .i64 p.mn,.bool p.var.num.neg,.ro 1 (Au p.var.num.mag),.ro 1 (Au p.var.den),.int .i64 p.cut,.bool p.lvl.num.neg,.ro 1 (Au p.lvl.num.mag),.ro 1 (Au p.lvl.den),.int .i64 p.top,.bool p.rate.num.neg,.ro 1 (Au p.rate.num.mag),.ro 1 (Au p.rate.den),.int .i64 p.slack]:=rfl;rw [ep]at h e|-;clear ep;have q0:=Cq p.rules;have k:=Af p.g.pts;have q2:=Af p.g.pri;have t:=A4 p.en;have s:=Ah p.var.num.mag;have q5:=Ah p.var.den;have u:=Ah p.lvl.num.mag;have j:=Ah p.lvl.den;have l:=Ah p.rate.num.mag;have o:=Ah p.rate.den;generalize Ee p.rules=rv,As p.g.pts=pt,As p.g.pri=pr,A0 p.en=ev,Au p.var.num.mag=vm,Au p.var.den=vd,Au p.lvl.num.mag=lm,Au p.lvl.den=ld,Au p.rate.num.mag=rm,Au p.rate.den=rd at*;have p1:=Jb;have p2:=Jc;have m:=Br w;generalize Bv w=wv at*;have hn:¬(n:Int)<0:=om;refine Bx func166 (fun w0 N0 hG=>?_);refine Aa [1,2,3] [3] sr (Ab (Ab (Ac (Am 1 sr ?_))));refine Be hG h func34 ?_ (hp:=by simp);refine Ag [1,2,3,8] [3] sr ?_;refine Aa [1,2,3,8,15] [3] sr ?_;refine A6 rfl (fun h1=>by simp at h1) (fun h1=>Ae (Ab (Aa [1,2,3,18] [3] sr ?_)));refine A6 rfl (fun h2=>by simp at h2;omega) (fun h2=>Ae (Ab (Ac (Am 3 sr ?_))));refine Ai c func208 ?_ (hp:=by simp);refine Ag [1,2,3,9,10] [3,9] sr ?_;refine Ab (Aa [1,2,3,9,10,27] [3,9] sr ?_);refine A6 rfl (fun h3=>by simp at h3) (fun h3=>Ae (Ab (Aa [1,2,3,9,33] [3,9] sr ?_)))
 refine Ao (fun f=>?_) (fun f=>Ae ?_)
 ·exact Aa [6,7] [] sr (Ak (Ad sr (by rw [if_pos (by simpa using f)])))
 refine Ab (Aa [2,3,9,37] [3,9] sr ?_)
 refine Ao (fun i=>?_) (fun i=>Ae ?_)
 ·exact Aa [6,7] [] sr (Ak (Ad sr (by rw [if_neg (by simpa using f),if_pos (by simpa using i)])))
 refine Ab (Ab (Ac (Am 2 sr ?_)));refine Ai y func57 ?_ (hp:=by simp);refine Am 5 sr ?_;refine De (fun hg=>d) func89 rfl kr sr rfl rfl sr (by simp) sr ?_;refine Ag [2,3,48] [3] sr ?_
 refine Ao (fun z=>?_) (fun z=>Ae ?_)
 ·exact Aa [6,7] [] sr (Ak (Ad sr (by rw [if_neg (by simpa using f),if_neg (by simpa using i),if_pos (by simpa using z)])))
 refine Ab (Ac (Am 2 sr ?_));refine Ai e func209 ?_ (hp:=by simp);refine Ag [10,11] [] sr ?_;refine Ab (Aa [10,11,56] [] sr ?_)
 refine Ao (fun h7=>?_) (fun h7=>Ae ?_)
 ·exact Aa [6,7] [] sr (Ak (Ad sr (by rw [if_neg (by simpa using f),if_neg (by simpa using i),if_neg (by simpa using z),if_pos (by simpa using h7)])))
 refine Ab (Aa [58] [] sr ?_)
 refine Ao (fun h8=>?_) (fun h8=>Ae ?_)
 ·exact Aa [6,7] [] sr (Ak (Ad sr (by rw [if_neg (by simpa using f),if_neg (by simpa using i),if_neg (by simpa using z),if_neg (by simpa using h7),if_pos (by simpa using h8)])))
 exact Aa [6,7] [] sr (Ak (Ad sr (by rw [if_neg (by simpa using f),if_neg (by simpa using i),if_neg (by simpa using z),if_neg (by simpa using h7),if_neg (by simpa using h8)])))
theorem Yb{p:Po}(h:U0 p=0):Sp p.len p.rules=0/\Lm p.g=0/\p.en.length<=400/\A7o p=false:=by
 unfold U0 at h
 (repeat' split at h)<;>try omega
 rename_i h1 h2 h3 a;exact⟨by omega,by omega,by omega,by simpa using a⟩
structure AdP(p:Po)(pool:List Pit):Prop where
 ok:p.ok
 pe:U0 p=0
 le:Kd pool p.g.pts.length=0
 pl:pool.length<=9
 st:Fm p.rules<=3
def Ab1(pool:List Pit)(a c giv:List Int):Int:=
 if c.any (fun id=> !N3 (Agj pool a) id)=true\/giv.any (fun id=> !N3 (Agj pool a) id)=true then 6 else 0
def Ah7(pool:List Pit)(c d giv:List Int):List Int:=H4 (Abx (Agj pool c)) (d.filter fun a=> !decide (a∈giv))
theorem A4g(pool:List Pit)(c d giv:List Int)(i:pool.length<=18)(j:c.length=pool.length)(e:∀v∈c,-1000000<=v/\v<=1000000)(g:d.length<=12)(f:giv.length<=1000)(k:d.Nodup):
  AC prog 109 [.ro 9 (B8 pool),.ro 1 (As c),.ro 1 (As d),.ro 1 (As giv)] (fun r=>r=Agg (Ab1 pool c d giv) (Ah7 pool c d giv)):=by
 refine(A34 pool c d giv i j e g f).mono fun r h=>?_
 unfold Bci at h;unfold Agg Ab1 Ah7
 split at h
 ·rename_i h1;rw [if_pos h1];exact h
 ·rename_i h1;obtain⟨C,n,m,l⟩:=h;rw [if_neg h1,l,if_pos rfl];rw [A4f (Agj pool c) n (k.filter (fun a=> !decide (a∈giv))) (fun a=>by rw [m];simp [Iv])]
theorem Ap0(x:List Int)(pool:List Pit):∀k,k<=pool.length->(Abw x pool k).Sublist ((I3 pool).take k)
 |0,_ =>by simp [Abw]
 |k+1,h=>by
  have ih:=Ap0 x pool k om
  have e:(I3 pool).take (k+1)=(I3 pool).take k++[(pool.getD k default).id]:=by
   rw [A3 (by simp [I3];omega),Cf (show k<pool.length by omega)];simp [I3]
  rw [Abw,e]
  split
  ·exact ih.append (List.Sublist.refl _)
  ·exact ih.trans (List.sublist_append_left _ _)
theorem As3{l:List Int}(h:Sm 0 l=true):l.Nodup:=by
 have h1:=(Adx h).2;exact h1.imp fun h=>by omega
def Hv(pool:List Pit)(t:Te):List Pit:=Au5 pool t.elig
def Q8(p:Po)(pool:List Pit)(t:Te):Int:=
 if A30 p.len p.rules (Hv pool t) p.en (Gh t.steps) (Ge p.g t.w (Hv pool t))≠0 then A30 p.len p.rules (Hv pool t) p.en (Gh t.steps) (Ge p.g t.w (Hv pool t))
 else Ab1 (Hv pool t) (Ge p.g t.w (Hv pool t)) (Ac7 p.len p.rules (Hv pool t) p.en (Gh t.steps) (Ge p.g t.w (Hv pool t))) (Gh t.steps)
def K8(p:Po)(pool:List Pit)(t:Te):List Int:=
 Ah7 (Hv pool t) (Ge p.g t.w (Hv pool t)) (Ac7 p.len p.rules (Hv pool t) p.en (Gh t.steps) (Ge p.g t.w (Hv pool t))) (Gh t.steps)
theorem A4h(p:Po)(pool:List Pit)(t:Te)(h:AdP p pool)(hs:sumsOk p.g t.w)(ah:t.steps.length<=1000):
  Hm gv prog 69 [p.v,.ro 9 (B8 pool),t.v] (fun r=>r=Agg (Q8 p pool t) (K8 p pool t)):=by
 obtain⟨ak,ar,ao,-⟩:=Yb h.pe;have av:=h.pl;have aw:=h.st;have d:=Aow pool t.elig om;change AC _ _ _ (fun x=>x=.ro 9 (B8 (Hv pool t)))at d;have ad:(Hv pool t).Sublist pool:=Wg pool t.elig;have au:(Hv pool t).length<=pool.length:=ad.length_le;have ae:Kd (Hv pool t) p.g.pts.length=0:=Axv ad h.le;have aa:=Aox t.steps ah;have aj:(Gh t.steps).length<=1000:=by rw [Aft];exact ah
 have s:=Aoy p.g t.w (Hv pool t) hs ae;have ai:(Ge p.g t.w (Hv pool t)).length=(Hv pool t).length:=by simp [Ge,T4]
 have af:∀v∈Ge p.g t.w (Hv pool t),-1000000<=v/\v<=1000000:=by
  intro v hv;simp only [Ge,T4,Bk]at hv;obtain⟨x,_,rfl⟩:=hv;have:=Asy p.g.pts x.m (Afe p.g.pts (Pu p.g t.w));omega
 have a:=A32 p.len p.rules (Hv pool t) p.en (Gh t.steps) (Ge p.g t.w (Hv pool t)) p.g.pts.length ak ae om ao aj ai af (Bes _ _ _) om
 have am:(Ac7 p.len p.rules (Hv pool t) p.en (Gh t.steps) (Ge p.g t.w (Hv pool t))).Nodup:=by
  unfold Ac7 shT;exact((As3 (Zp ae).2.1).sublist (List.take_sublist _ _)).sublist (Ap0 _ _ _ (A8 _))
 have aq:(Ac7 p.len p.rules (Hv pool t) p.en (Gh t.steps) (Ge p.g t.w (Hv pool t))).length<=12:=by
  unfold Ac7 shT;have:=Agf (Wz (X6 (Ge p.g t.w (Hv pool t)) p.rules) (T9 p.len p.rules (Hv pool t) p.en ((Hv pool t).length+Fm p.rules)) (X9 (Hv pool t) (P7 p.rules (Hv pool t)) (Gh t.steps) (Gh t.steps).length)) (Hv pool t) (Hv pool t).length;omega
 have u:=A4g (Hv pool t) (Ge p.g t.w (Hv pool t)) _ (Gh t.steps) om ai af aq aj am;unfold Q8 K8;generalize A30 p.len p.rules (Hv pool t) p.en (Gh t.steps) (Ge p.g t.w (Hv pool t))=te,Ac7 p.len p.rules (Hv pool t) p.en (Gh t.steps) (Ge p.g t.w (Hv pool t))=tt at*;generalize Ab1 (Hv pool t) (Ge p.g t.w (Hv pool t)) tt (Gh t.steps)=fe,Ah7 (Hv pool t) (Ge p.g t.w (Hv pool t)) tt (Gh t.steps)=fl at*;have pf:=Af fl;unfold Agg at*;have an:t.v=.agg [.ro 1 (As t.elig),.ro 2 (A0 t.steps),.int .i64 t.pend,.ro 1 (Bv t.w),.int .u64 t.draw,.int .i64 t.stop]:=rfl;have al:Qw p.len p.rules=.agg [.int .i64 p.len,.ro 5 (Ee p.rules)]:=rfl;have eg:p.g.v=.agg [.ro 1 (As p.g.pts),.ro 1 (As p.g.pri)]:=rfl;rw [eg]at s;rw [al]at a;rw [an];have ep:p.v=V.agg [.int .i64 p.len,.ro 5 (Ee p.rules),.ro 1 (As p.g.pts),.ro 1 (As p.g.pri),.ro 2 (A0 p.en),.int .i64 p.mn,.bool p.var.num.neg,.ro 1 (Au p.var.num.mag),.ro 1 (Au p.var.den),.int .i64 p.cut,.bool p.lvl.num.neg,.ro 1 (Au p.lvl.num.mag),.ro 1 (Au p.lvl.den),.int .i64 p.top,.bool p.rate.num.neg,.ro 1 (Au p.rate.num.mag),.ro 1 (Au p.rate.den),.int .i64 p.slack]:=rfl;rw [ep]at|-;clear ep;have q0:=Cq p.rules;have f:=Af p.g.pts;have q2:=Af p.g.pri;have n:=A4 p.en;have l:=Ah p.var.num.mag;have q5:=Ah p.var.den;have o:=Ah p.lvl.num.mag;have c:=Ah p.lvl.den;have e:=Ah p.rate.num.mag;have k:=Ah p.rate.den;generalize Ee p.rules=rv,As p.g.pts=pt,As p.g.pri=pr,A0 p.en=ev,Au p.var.num.mag=vm,Au p.var.den=vd,Au p.lvl.num.mag=lm,Au p.lvl.den=ld,Au p.rate.num.mag=rm,Au p.rate.den=rd at*;have s1:=Af t.elig;have i:=A4 t.steps;have j:=Br t.w;have s4:=B4 pool;have y:=B4 (Hv pool t);have s6:=Af (Gh t.steps);have z:=Af (Ge p.g t.w (Hv pool t));have s8:=Af tt;generalize As t.elig=ti,A0 t.steps=ts,Bv t.w=tw,B8 pool=lv,B8 (Hv pool t)=iv,As (Gh t.steps)=gi,As (Ge p.g t.w (Hv pool t))=vv,As tt=tv at*
 by_cases ab:te=0
 ·subst ab;simp only [if_true,ne_eq,not_true_eq_false,if_false]at a|-
  by_cases ag:fe=0
  ·subst ag;simp only [if_true]at u|-;refine Bx func69 (fun w0 N0 hG=>?_);refine Aa [1,3,5] [3,5] sr (Ab (Ac (Am 3 sr ?_)));refine Ai d func105 ?_ (hp:=by simp);refine Ag [3,5,8] [3,5] sr ?_;refine Ab (Ac (Am 2 sr ?_));refine Ai aa func106 ?_ (hp:=by simp);refine Ag [3,5,8,9] [3,5] sr ?_;refine Ab (Ac (Am 5 sr ?_));refine Be hG s func107 ?_ (hp:=by simp);refine Ag [3,8,9,10,11] [3] sr ?_;refine Ab (Aa [3,8,9,10,11,30] [3] sr ?_);refine A6 rfl (fun h1=>by simp at h1) (fun h1=>Ae (Ab (Ac (Am 7 sr ?_))));refine Be hG a func108 ?_ (hp:=by simp);refine Ag [8,9,10,11,12] [] sr ?_;refine Ab (Aa [8,9,10,11,12,44] [] sr ?_);refine A6 rfl (fun h2=>by simp at h2) (fun h2=>Ae (Ab (Ac (Am 4 sr ?_))));refine Ai u func109 ?_ (hp:=by simp);refine Ag [6,7] [] sr ?_;exact Ak (Ad sr (rfl))
  ·simp only [if_neg ag]at u|-;refine Bx func69 (fun w0 N0 hG=>?_);refine Aa [1,3,5] [3,5] sr (Ab (Ac (Am 3 sr ?_)));refine Ai d func105 ?_ (hp:=by simp);refine Ag [3,5,8] [3,5] sr ?_;refine Ab (Ac (Am 2 sr ?_));refine Ai aa func106 ?_ (hp:=by simp);refine Ag [3,5,8,9] [3,5] sr ?_;refine Ab (Ac (Am 5 sr ?_));refine Be hG s func107 ?_ (hp:=by simp);refine Ag [3,8,9,10,11] [3] sr ?_;refine Ab (Aa [3,8,9,10,11,30] [3] sr ?_);refine A6 rfl (fun h1=>by simp at h1) (fun h1=>Ae (Ab (Ac (Am 7 sr ?_))));refine Be hG a func108 ?_ (hp:=by simp);refine Ag [8,9,10,11,12] [] sr ?_;refine Ab (Aa [8,9,10,11,12,44] [] sr ?_);refine A6 rfl (fun h2=>by simp at h2) (fun h2=>Ae (Ab (Ac (Am 4 sr ?_))));refine Ai u func109 ?_ (hp:=by simp);refine Ag [6,7] [] sr ?_;exact Ak (Ad sr (rfl))
 ·simp only [if_neg ab,if_pos ab,ne_eq]at a|-;refine Bx func69 (fun w0 N0 hG=>?_);refine Aa [1,3,5] [3,5] sr (Ab (Ac (Am 3 sr ?_)));refine Ai d func105 ?_ (hp:=by simp);refine Ag [3,5,8] [3,5] sr ?_;refine Ab (Ac (Am 2 sr ?_));refine Ai aa func106 ?_ (hp:=by simp);refine Ag [3,5,8,9] [3,5] sr ?_;refine Ab (Ac (Am 5 sr ?_));refine Be hG s func107 ?_ (hp:=by simp);refine Ag [3,8,9,10,11] [3] sr ?_;refine Ab (Aa [3,8,9,10,11,30] [3] sr ?_);refine A6 rfl (fun h1=>by simp at h1) (fun h1=>Ae (Ab (Ac (Am 7 sr ?_))));refine Be hG a func108 ?_ (hp:=by simp);refine Ag [8,9,10,11,12] [] sr ?_;refine Ab (Aa [8,9,10,11,12,44] [] sr ?_)
  refine A6 rfl (fun h2=>?_) (fun h2=>by simp at h2;exact absurd h2 ab)
  ·exact Aa [6,7] [] sr (Ak (Ad sr rf))
theorem Xm:∀(l:List Nat)(a:Nat),l.foldl Nat.gcd a∣a/\∀x∈l,l.foldl Nat.gcd a∣x
 | [],a=>⟨Nat.dvd_refl _,fun x c=>by cases c⟩
 |y::r,a=>by
  have ih:=Xm r (Nat.gcd a y);rw [List.foldl_cons];refine⟨Nat.dvd_trans ih.1 (Nat.gcd_dvd_left a y),fun x c=>?_⟩
  rcases Cg.1 c with h|h
  ·rw [h];exact Nat.dvd_trans ih.1 (Nat.gcd_dvd_right a y)
  ·exact ih.2 x h
theorem Wm{w:List Nat}:G5 w≠0↔∃x∈w,x≠0:=by
 induction w with
 |nil=>simp [G5]
 |cons a r ih=>
  rw [G5]
  constructor
  ·intro h
   by_cases ha:a=0
   ·obtain⟨x,hx,h2⟩:=ih.1 om;exact⟨x,D7 _ hx,h2⟩
   ·exact⟨a,Fa ..,ha⟩
  ·rintro⟨x,hx,h2⟩
   rcases Cg.1 hx with h|h
   ·omega
   ·have:=ih.2 ⟨x,h,h2⟩;omega
theorem Ad5(w:List Nat):(Qx w).length=w.length:=by simp [Qx]
theorem Aac{w:List Nat}{m:Nat}(h:Ks w m):Ks (Qx w) m:=by
 intro x a;simp only [Qx,Bk]at a;obtain⟨y,c,rfl⟩:=a;exact Aj (Abj (H6 _ _)) (h y c)
theorem A4i{w:List Nat}(h:G5 w≠0):G5 (Qx w)≠0:=by
 obtain⟨x,f,h2⟩:=Wm.1 h
 refine Wm.2 ⟨x/Wy w,?_,?_⟩
 ·simp only [Qx,Bk];exact⟨x,f,rfl⟩
 ·have d:=(Xm w 0).2 x f;change Wy w∣x at d;obtain⟨c,a⟩:=d;have g:0<Wy w:=Ia (fun e=>by rw [e,P9]at a;exact h2 a);rw [a,Kh _ g];intro e;rw [e,Ty]at a;exact h2 a
theorem Ap1{g:Gr}(d:Lm g=0):(Ox g.pri).length=g.pts.length/\Ks (Ox g.pri) 1/\G5 (Ox g.pri)≠0:=by
 have h:=J3 d
 refine⟨by simp [Ox,h.same],fun x c=>?_,Wm.2 ?_⟩
 ·simp only [Ox,Bk]at c;obtain⟨y,e,rfl⟩:=c;have:=h.pri y e;exact E0 (m:=1) om
 ·have h1:=h.pos;have h2:=h.same;cases hp:g.pri with
  |nil=>rw [hp]at h2;simp at h2;omega
  |cons a r=>
   refine⟨a.toNat,by simp [Ox],?_⟩;have:=h.pri a (by rw [hp];simp);omega
theorem A4j{w:List Nat}{m:Mo}{k n:Nat}(r:Ln m w.length=0)(hk:k<Wv m)(o:Ks w n)(t:G5 w≠0):
  (P6 w m k).length=w.length/\Ks (P6 w m k) (n+1)/\G5 (P6 w m k)≠0:=by
 have l:=Ze r;have s:m.length=w.length:=l.len
 have c:∀i,i<m.length->1<=(m.getD i []).getD k 0/\(m.getD i []).getD k 0<=1000:=by
  intro i e;have h1:=l.row (m.getD i []) (by rw [Cf e];exact Aw e);have h2:k<(m.getD i []).length:=om;exact h1.2.1 _ (by rw [Cf h2];exact Aw h2)
 have f:(P6 w m k).length=w.length:=by simp [P6,s]
 have a:∀i(h:i<(P6 w m k).length),(P6 w m k)[i]=w[i]'(by omega)*((m.getD i []).getD k 0).toNat:=by
  intro i h;have e:i<m.length:=om;rw [Cf (d:=[]) e];simp [P6]
 refine⟨f,fun x g=>?_,Wm.2 ?_⟩
 ·obtain⟨i,e,rfl⟩:=Gq.1 g;rw [a i e];have h1:=c i om;exact Ns (o _ (Aw _)) (E0 (m:=1) om)
 ·obtain⟨x,g,j⟩:=Wm.1 t;obtain⟨i,e,rfl⟩:=Gq.1 g;refine⟨(P6 w m k)[i]'(by omega),Aw _,?_⟩;rw [a i (by omega)];have h1:=c i om;exact Jl j om
def Ame(e:Int)(l:List Int):List Int:=if e=0 then l else []
theorem As4(e:Int)(l:List Int):Bl (Agg e l) (.tup [.ro 1 (As (Ame e l)),.int .i64 e]):=by
 unfold Agg Ame;split
 ·rename_i h;rw [h];exact Bl.refl _
 ·exact Bl.tup (.cons (Bl.nils 1) (.cons (Bl.refl _) .nil))
theorem Aka(p:Po)(pool:List Pit)(t:Te)(h:AdP p pool)(hs:sumsOk p.g t.w)(a:t.steps.length<=1000):
  Hm gv prog 69 [p.v,.ro 9 (B8 pool),t.v] (fun r=>r=.tup [.ro 1 (As (Ame (Q8 p pool t) (K8 p pool t))),.int .i64 (Q8 p pool t)]):=
 Hm.relaxP ((A4h p pool t h hs a).mono fun r c=>by rw [c];exact As4 _ _)
def W2:Te:=⟨[],[],0,[],0,0⟩
def Ap2(p:Po)(pool:List Pit)(a:List (Int × Int))(d c:Int):Te:=⟨Zo pool a d p.rate.val p.slack,[],0,Qx (Ox p.g.pri),T7 c,0⟩
def A4k(p:Po)(pool:List Pit)(a:List (Int × Int))(c d:Int):Int:=
 if U0 p≠0 then U0 p else if Kd pool p.g.pts.length≠0 then Kd pool p.g.pts.length else if c<0\/1000000<c then 3 else Q8 p pool (Ap2 p pool a c d)
def teR(e:Int)(t:Te):V:=.tup [(if e=0 then t else W2).v,.int .i64 e]
theorem Ayk:Bl (.agg [.nils,.nils,.int .i64 0,.nils,.int .u64 0,.int .i64 0]) W2.v:=
 Bl.agg (.cons (Bl.nils 1) (.cons (Bl.nils 2) (.cons (Bl.refl _) (.cons (Bl.nils 1) (.cons (Bl.refl _) (.cons (Bl.refl _) .nil))))))
theorem F6{e:Int}(h:e≠0)(t:Te):Bl (.tup [.agg [.nils,.nils,.int .i64 0,.nils,.int .u64 0,.int .i64 0],.int .i64 e]) (teR e t):=by
 unfold teR;rw [if_neg h];exact Bl.tup (.cons Ayk (.cons (Bl.refl _) .nil))
theorem Agr(a:List Int)(w:List Nat)(d:Int):Bl (.agg [.ro 1 (As a),.nils,.int .i64 0,.ro 1 (Bv w),.int .u64 d,.int .i64 0]) (Te.v ⟨a,[],0,w,d,0⟩):=
 Bl.agg (.cons (Bl.refl _) (.cons (Bl.nils 2) (.cons (Bl.refl _) (.cons (Bl.refl _) (.cons (Bl.refl _) (.cons (Bl.refl _) .nil))))))
theorem Ayl(p:Po)(pool:List Pit)(a:List (Int × Int))(c d:Int)(n:p.ok)(am:pool.length<=9)(an:U0 p=0->Fm p.rules<=3):
  Hm gv prog 39 [p.v,.ro 9 (B8 pool),.ro 2 (A0 a),.int .i64 c,.int .u64 d] (fun r=>r=teR (A4k p pool a c d) (Ap2 p pool a c d)):=by
 refine Hm.relaxP ?_;have ab:=P5 p n;have ad:=Mq pool p.g.pts.length;have l:=fun h=>A2g p.g h
 have k:U0 p=0->Lm p.g=0:=fun h=>(Yb h).2.1
 have i:=fun h=>Ap1 (g:=p.g) h
 have al:Lm p.g=0->p.g.pts.length<=21:=fun h=>(J3 h).len
 have j:=fun h=>Axr pool a c p.rate p.slack n.rate h om
 have ah:Kd pool p.g.pts.length=0->(I3 pool).Pairwise (·< ·):=fun h=>(Adx (Zp h).2.1).2
 have z:=fun h1 h2=>Afn (Ox p.g.pri) h1 h2
 have ag:=A2j d
 have ai:U0 p=0->sumsOk p.g (Qx (Ox p.g.pri)):=fun h=>
  have hg:=k h
  ⟨hg,by rw [Ad5];exact(i hg).1,Aac (fun x hx=>Aj ((i hg).2.1 x hx) dc),A4i (i hg).2.2⟩
 have e:=fun h h2=>(Aka p pool (Ap2 p pool a c d) h h2 (by simp [Ap2])).argsR (.cons (Bl.refl _) (.cons (Bl.refl _) (.cons (Agr (Zo pool a c p.rate.val p.slack) (Qx (Ox p.g.pri)) (T7 d)) .nil)))
 unfold A4k;have hT:Ap2 p pool a c d=⟨Zo pool a c p.rate.val p.slack,[],0,Qx (Ox p.g.pri),T7 d,0⟩:=rfl;have ae:=Af (Ame (Q8 p pool (Ap2 p pool a c d)) (K8 p pool (Ap2 p pool a c d)));rw [hT]at e ae|-;have aj:U0 p=0->Kd pool p.g.pts.length=0->AdP p pool:=fun h1 h2=>⟨n,h1,h2,am,an h1⟩
 have u:=Af (Zo pool a c p.rate.val p.slack);have w2:=Br (Qx (Ox p.g.pri));have w3:=Br (Ox p.g.pri);have ak:=Agr (Zo pool a c p.rate.val p.slack) (Qx (Ox p.g.pri)) (T7 d);generalize Q8 p pool _ =ce at*;generalize Ame ce (K8 p pool _)=cl,Zo pool a c p.rate.val p.slack=el,Qx (Ox p.g.pri)=av,T7 d=nd at*;have s4:=B4 pool;have s5:=A4 a;have af:=A5 p.g.pts;have eg:p.g.v=.agg [.ro 1 (As p.g.pts),.ro 1 (As p.g.pri)]:=rfl;have er:p.rate.v=.agg [.bool p.rate.num.neg,.ro 1 (Au p.rate.num.mag),.ro 1 (Au p.rate.den)]:=rfl;rw [eg]at l;rw [er]at j;have ep:p.v=V.agg [.int .i64 p.len,.ro 5 (Ee p.rules),.ro 1 (As p.g.pts),.ro 1 (As p.g.pri),.ro 2 (A0 p.en),.int .i64 p.mn,.bool p.var.num.neg,.ro 1 (Au p.var.num.mag),.ro 1 (Au p.var.den),.int .i64 p.cut,.bool p.lvl.num.neg,.ro 1 (Au p.lvl.num.mag),.ro 1 (Au p.lvl.den),.int .i64 p.top,.bool p.rate.num.neg,.ro 1 (Au p.rate.num.mag),.ro 1 (Au p.rate.den),.int .i64 p.slack]:=rfl;rw [ep]at ab e|-;clear ep;have q0:=Cq p.rules;have s:=Af p.g.pts;have q2:=Af p.g.pri;have y:=A4 p.en;have w:=Ah p.var.num.mag;have q5:=Ah p.var.den;have q6:=Ah p.lvl.num.mag;have m:=Ah p.lvl.den;have o:=Ah p.rate.num.mag;have t:=Ah p.rate.den;generalize Ee p.rules=rv,As p.g.pts=pt,As p.g.pri=pr,A0 p.en=ev,Au p.var.num.mag=vm,Au p.var.den=vd,Au p.lvl.num.mag=lm,Au p.lvl.den=ld,Au p.rate.num.mag=rm,Au p.rate.den=rd,B8 pool=lv,A0 a=uv at*;generalize aq:U0 p=pe at*;generalize au:Kd pool p.g.pts.length=qe at*;rw [<- af]at ad;refine Bx func39 (fun w0 N0 hG=>?_);refine Aa [1,2,3,4,5,10] [5,10] sr (Ab (Ab (Ac (Am 1 sr ?_))));refine Be hG ab func34 ?_ (hp:=by simp);refine Ag [1,2,3,4,5,10,12] [5,10] sr ?_;refine Aa [1,2,3,4,5,10,12,22] [5,10] sr ?_
 refine Ao (fun h1=>?_) (fun h1=>Ae ?_)
 ·exact Aa [10,11] [10] sr (Ak (Ad sr (by rw [if_pos (by simpa using h1)];exact F6 (by simpa using h1) _)))
 have f:pe=0:=by simpa using h1
 rw [if_neg (by simpa using h1)];refine Ab (Ab (Ac (Am 5 sr ?_)));refine Be hG ad func35 ?_ (hp:=by simp);refine Ag [1,2,3,4,5,10,13] [5,10] sr ?_;refine Aa [1,2,3,4,5,10,13,32] [5,10] sr ?_
 refine Ao (fun h2=>?_) (fun h2=>Ae ?_)
 ·exact Aa [10,11] [10] sr (Ak (Ad sr (by rw [if_pos (by simpa using h2)];exact F6 (by simpa using h2) _)))
 have aa:qe=0:=by simpa using h2
 rw [if_neg (by simpa using h2)];refine Ab (Aa [1,2,3,4,5,10,40] [5,10] sr ?_)
 refine Ao (fun h3=>?_) (fun h3=>Ae ?_)
 ·exact Aa [10,11] [10] sr (Ak (Ad sr (by rw [if_pos (by simpa using h3)];exact F6 dc _)))
 rw [if_neg (by simpa using h3)];replace l:=l (k f);replace j:=j (ah aa);obtain⟨ar,ao,-⟩:=i (k f);replace z:=z (fun x hx=>Aj (ao x hx) dc) (by have:=al (k f);omega);replace e:=e (aj f aa) (ai f);refine Ab (Ac (Am 2 sr ?_));refine Ai l func65 ?_ (hp:=by simp);refine Ag [1,2,3,4,5,10,14,15] [5,10] sr ?_;refine Ab (Aa [1,2,3,4,5,10,14,15,49] [5,10] sr ?_);refine A6 rfl (fun h4=>by simp at h4) (fun h4=>Ae (Ab (Ac (Am 7 sr ?_))));refine Ai j func66 ?_ (hp:=by simp);refine Am 1 sr ?_;refine Ai z func67 ?_ (hp:=by simp);refine Am 1 sr ?_;refine Ai ag func68 ?_ (hp:=by simp);refine Ag [1,5,10,16] [5,10,16] sr ?_;refine Ab (Ab (Ac (Am 3 sr ?_)));refine Be hG e func69 ?_ (hp:=by simp);refine Ag [10,16,18] [10,16] sr ?_;refine Aa [10,16,18,73] [10,16] sr ?_
 refine Ao (fun h5=>?_) (fun h5=>Ae ?_)
 ·refine Aa [10,11] [10] sr ?_;exact Ak (Ad sr (F6 (by simpa using h5) _))
 refine Aa [10,11] [10] sr ?_;exact Ak (Ad sr ((fun h6:ce=0=>(by unfold teR;subst h6;rw [if_pos rfl];exact Bl.tup (.cons ak (.cons (Bl.refl _) .nil)):Bl _ _)) (by simpa using h5)))
def Avu(pool:List Pit)(a:List Int)(k:Nat):Bool:= !(Mb pool (a.getD k 0)).isSome||(decide (0<k)&&decide (a.getD k 0<=a.getD (k-1) 0))
def A4l(pool:List Pit)(c:List Int)(a:List (Int × Int))(k:Nat):Bool:=
 !(Mb pool (a.getD k (0,0)).1).isSome||(!decide ((a.getD k (0,0)).1∈c)||decide ((a.getD k (0,0)).1∈(Gh a).take k))|| !Ahu (Ahv (Mb pool (a.getD k (0,0)).1)).m (a.getD k (0,0)).2
def Ap3(n:Nat):Bool:=A8d (B1 n)
def Ah9(p:Po)(pool:List Pit)(t:Te):Bool:=
 if(List.range t.elig.length).any (Avu pool t.elig)=true then false
 else if p.len<t.steps.length then false
 else if(List.range t.steps.length).any (A4l pool t.elig t.steps)=true then false
 else if t.pend≠0/\(t.pend∉t.elig\/t.pend∈Gh t.steps)then false
 else if t.w.length≠p.g.pts.length\/t.w.any Ap3=false then false
 else decide (0<=t.stop)&&decide (t.stop<=4)
theorem Aym{l:List (Int × Int)}{k:Nat}(h:k<l.length):Hs (A0 l) k=some (.agg [.int .i64 (l.getD k (0,0)).1,.int .i64 (l.getD k (0,0)).2]):=by rw [Cf h];exact Hu h
theorem A4m(p:Po)(pool:List Pit)(t:Te)(h:teOk t):Hm gv prog 160 [p.v,.ro 9 (B8 pool),t.v] (fun r=>r=.bool (Ah9 p pool t)):=by
 have ba:=h.el;have a0:=h.sl;have a7:=h.wd;have ad:=Au7 pool;have au:=Aox t.steps a0;have az:=Rh;have ab:=Au6;have al:=(A2t t.w 205 [] [] Ap3 (fun n hn=>Afw ((A8e (B1 n) (Cr _) (Aj (a7 n hn) dc)).q gv) func205 kr rfl)).argsR (args:=[.ro 1 (Bv t.w),.fn 205]) (.cons (Bl.refl _) (.cons (Qz 205) .nil));have bb:(Gh t.steps).length=t.steps.length:=Aft _;have a1:∀k,(As (Gh t.steps)).take k=As ((Gh t.steps).take k):=fun k=>by simp [As]
 have a3:=fun k=>Af ((Gh t.steps).take k)
 have a9:=Af (Gh t.steps);have bc:=A5 (Gh t.steps);unfold Ah9;have a2:∀k,Avu pool t.elig k=(!(Mb pool (t.elig.getD k 0)).isSome||(decide (0<k)&&decide (t.elig.getD k 0<=t.elig.getD (k-1) 0))):=fun k=>rfl
 have ay:∀k,A4l pool t.elig t.steps k=(!(Mb pool (t.steps.getD k (0,0)).1).isSome||(!decide ((t.steps.getD k (0,0)).1∈t.elig)||decide ((t.steps.getD k (0,0)).1∈(Gh t.steps).take k))|| !Ahu (Ahv (Mb pool (t.steps.getD k (0,0)).1)).m (t.steps.getD k (0,0)).2):=fun k=>rfl
 have qe:=fun(k:Nat)(h:k<t.elig.length)=>Dj h
 have qs:=fun(k:Nat)(h:k<t.steps.length)=>Aym h
 have le:=A5 t.elig;have ls:=Dq t.steps;have lw:=H2 t.w;have an:=A5 p.g.pts;have ar:∀x,AC prog 64 [.ro 1 (As t.elig),.int .i64 x] (fun r=>r=.bool (decide (x∈t.elig))):=fun x=>Rh t.elig x
 have a6:∀k x,AC prog 64 [.ro 1 (As ((Gh t.steps).take k)),.int .i64 x] (fun r=>r=.bool (decide (x∈(Gh t.steps).take k))):=fun k x=>Rh _ x
 have ao:∀x,AC prog 64 [.ro 1 (As (Gh t.steps)),.int .i64 x] (fun r=>r=.bool (decide (x∈Gh t.steps))):=fun x=>Rh _ x
 have am:t.v=.agg [.ro 1 (As t.elig),.ro 2 (A0 t.steps),.int .i64 t.pend,.ro 1 (Bv t.w),.int .u64 t.draw,.int .i64 t.stop]:=rfl;rw [am];clear am az;have ep:p.v=V.agg [.int .i64 p.len,.ro 5 (Ee p.rules),.ro 1 (As p.g.pts),.ro 1 (As p.g.pri),.ro 2 (A0 p.en),.int .i64 p.mn,.bool p.var.num.neg,.ro 1 (Au p.var.num.mag),.ro 1 (Au p.var.den),.int .i64 p.cut,.bool p.lvl.num.neg,.ro 1 (Au p.lvl.num.mag),.ro 1 (Au p.lvl.den),.int .i64 p.top,.bool p.rate.num.neg,.ro 1 (Au p.rate.num.mag),.ro 1 (Au p.rate.den),.int .i64 p.slack]:=rfl;rw [ep]at|-;clear ep;have q0:=Cq p.rules;have q1:=Af p.g.pts;have q2:=Af p.g.pri;have q3:=A4 p.en;have q4:=Ah p.var.num.mag;have q5:=Ah p.var.den;have q6:=Ah p.lvl.num.mag;have z:=Ah p.lvl.den;have o:=Ah p.rate.num.mag;have q9:=Ah p.rate.den;generalize Ee p.rules=rv at*;generalize As p.g.pts=pt at*;generalize As p.g.pri=pr at*;generalize A0 p.en=ev at*;generalize Au p.var.num.mag=vm at*;generalize Au p.var.den=vd at*;generalize Au p.lvl.num.mag=lm at*;generalize Au p.lvl.den=ld at*;generalize Au p.rate.num.mag=rm at*;generalize Au p.rate.den=rd at*;have s1:=Af t.elig;have s:=A4 t.steps;have u:=Br t.w;have s4:=B4 pool;have pF:=fun(x:Int)=>G9 (Ahv (Mb pool x))
 have ak:=fun(x:Int)=>Dw (Ahv (Mb pool x)).m
 have ax:∀m:Mo,moV m=.agg [.ro 1 (Ek m)]:=fun m=>rfl
 simp only [ax]at ab;generalize a8:As t.elig=ti at*;generalize A0 t.steps=ts at*;generalize Bv t.w=tw at*;generalize B8 pool=lv at*;generalize As (Gh t.steps)=gi at*;generalize Avu pool t.elig=be at*;generalize A4l pool t.elig t.steps=bs at*;refine Bx func160 (fun w0 N0 hG=>?_);refine Aa [1,3,5] [3,5] sr ?_;refine Ab (Aa [1,3,5,18,19,20] [3,5] sr ?_);refine Ap (Bq (fun k nx=>⟨[(1,V.ro 9 lv),(3,V.bp 3 (0) 18 0 0),(5,V.bp 5 (1) 6 0 0),(18,.ro 1 ti),(19,_),(20,V.int .i64 k)],[(3,{ v:=0,sz:=18,ty:=36,es:=[V.agg [.int .i64 p.len,.ro 5 rv,.ro 1 pt,.ro 1 pr,.ro 2 ev,.int .i64 p.mn,.bool p.var.num.neg,.ro 1 vm,.ro 1 vd,.int .i64 p.cut,.bool p.lvl.num.neg,.ro 1 lm,.ro 1 ld,.int .i64 p.top,.bool p.rate.num.neg,.ro 1 rm,.ro 1 rd,.int .i64 p.slack]]}),(5,{ v:=1,sz:=6,ty:=54,es:=[V.agg [.ro 1 ti,.ro 2 ts,.int .i64 t.pend,.ro 1 tw,.int .u64 t.draw,.int .i64 t.stop]]})],nx,138⟩) (fun k=>((List.range t.elig.length).take k).any be=false) t.elig.length _ sm (AS.le_refl _) ?_);intro k nx hk hI;refine Aa [1,3,5,18,19,20,21] [3,5] sr ?_;refine Ab ?_
 refine Ao (fun h1=>Ae ?_) (fun h1=>?_)
 ·have d:k<t.elig.length:=by simp at h1;omega
  have e:k<ti.length:=om;have ga:=qe k d;have hb:=a2 k;have C9:=A7 (k:=k) om;have aa:=fun h=>Ii t.elig.length k be d hI h
  have i:=fun h=>Nd (f:=be) d h
  have a:=ad (t.elig.getD k 0);rw [pF]at a;have pm:=ak (t.elig.getD k 0);have a4:∀j,k=j+1->be k=(!(Mb pool (t.elig.getD k 0)).isSome||decide (t.elig.getD k 0<=t.elig.getD j 0)):=fun j hj=>by rw [hb,hj];simp
  generalize t.elig.getD k 0=x at*;generalize Ek (Ahv (Mb pool x)).m=mv at*;refine Ab (Ap (Aa [1,3,5,7,8,18,19,20] [3,5] (by simp [ga,e]<;>rfl) ?_));refine Ab (Ac (Am 2 sr ?_));refine Ai a func163 ?_ (hp:=by simp);refine Ag [1,3,5,7,8,10,18,19,20] [3,5] sr ?_
  cases hfd:(Mb pool x).isSome
  ·refine Ab (Ac (Am 3 (by simp<;>rfl) ?_));refine M8 12 sr ?_;refine Ag [1,3,5,18,19,20,46] [3,5] sr ?_;refine A6 rfl (fun h2=>?_) (fun h2=>by simp at h2);refine Aa [6] [] sr ?_;exact Ak (Ad sr (by rw [if_pos (i (by rw [hb,hfd];rfl))]))
  rcases k with _ |j
  ·refine Ab (Ac (Am 6 (by simp<;>rfl) ?_));refine M8 8 sr ?_;refine Ag [1,3,5,18,19,20,46] [3,5] sr ?_;refine A6 rfl (fun h2=>by simp at h2) (fun h2=>Ae (A2 [1,3,5,18,19,20] [3,5] (by simp<;>rfl) ?_));exact⟨d,aa (by rw [hb,hfd];simp),_,AS.le_refl _⟩
  ·have gp:=qe j om;have aw:j<ti.length:=om;have a5:IntKind.i64.wrap (((j+1:Nat):Int)-1)=(j:Int):=by rw [Bb om (by omega)];omega
   have ai:=a4 j rfl;generalize t.elig.getD j 0=y at*;refine Aa [1,3,5,18,19,20,46] [3,5] (by simp [gp,aw,a5,-Int.natCast_add]<;>rfl) ?_
   refine Ao (fun h2=>?_) (fun h2=>Ae ?_)
   ·refine Aa [6] [] sr ?_;exact Ak (Ad sr (by rw [if_pos (i (by rw [ai,hfd];simpa using h2))]))
   refine A2 [1,3,5,18,19,20] [3,5] (by simp [C9,-Int.natCast_add]<;>rfl) ?_;exact⟨d,aa (by rw [ai,hfd];simpa using h2),_,AS.le_refl _⟩
 ·refine A9 ?_;have af:k=t.elig.length:=by simp at h1;omega
  rw [af,Bf (by simp)]at hI;simp only [hI,Fv,if_false];refine Ab (Aa [1,3,5,54] [3,5] sr ?_)
  refine Ao (fun h3=>?_) (fun h3=>Ae ?_)
  ·refine Aa [6] [] sr ?_;exact Ak (Ad sr (by rw [if_pos (by simpa [ls]using h3)]))
  rw [if_neg (by simpa [ls]using h3)];refine Ab (Ac (Am 2 sr ?_));refine Ai au func106 ?_ (hp:=by simp);refine Ag [1,3,5,11] [3,5] sr ?_;refine Ab (Aa [1,3,5,11,59,60,61] [3,5] sr ?_);refine Ap (Bq (fun k nx=>⟨[(1,V.ro 9 lv),(3,V.bp 3 (0) 18 0 0),(5,V.bp 5 (1) 6 0 0),(11,_),(59,.ro 2 ts),(60,_),(61,V.int .i64 k)],[(3,{ v:=0,sz:=18,ty:=36,es:=[V.agg [.int .i64 p.len,.ro 5 rv,.ro 1 pt,.ro 1 pr,.ro 2 ev,.int .i64 p.mn,.bool p.var.num.neg,.ro 1 vm,.ro 1 vd,.int .i64 p.cut,.bool p.lvl.num.neg,.ro 1 lm,.ro 1 ld,.int .i64 p.top,.bool p.rate.num.neg,.ro 1 rm,.ro 1 rd,.int .i64 p.slack]]}),(5,{ v:=1,sz:=6,ty:=54,es:=[V.agg [.ro 1 ti,.ro 2 ts,.int .i64 t.pend,.ro 1 tw,.int .u64 t.draw,.int .i64 t.stop]]})],nx,138⟩) (fun k=>((List.range t.steps.length).take k).any bs=false) t.steps.length _ sm (AS.le_refl _) ?_);intro k nx hk ae;refine Aa [1,3,5,11,59,60,61,62] [3,5] sr ?_;refine Ab ?_
  refine Ao (fun h4=>Ae ?_) (fun h4=>?_)
  ·have d:k<t.steps.length:=by simp at h4;omega
   have e:k<ts.length:=om;have ga:=qs k d;have hb:=ay k;have C9:=A7 (k:=k) om;have aa:=fun h=>Ii t.steps.length k bs d ae h
   have i:=fun h=>Nd (f:=bs) d h
   have a:=ad (t.steps.getD k (0,0)).1;rw [pF]at a;have pm:=ak (t.steps.getD k (0,0)).1;have l:=ab (Ahv (Mb pool (t.steps.getD k (0,0)).1)).m (t.steps.getD k (0,0)).2;have av:=ar (t.steps.getD k (0,0)).1;have ah:=a6 k (t.steps.getD k (0,0)).1;have gt:=a1 k;have aq:=a3 k;have aj:(0:Int)<=(k:Int)/\(k:Int)<=gi.length:=om;generalize t.steps.getD k (0,0)=sp at*;obtain⟨x,y⟩:=sp;simp only at hb ga a pm l av ah;generalize Ek (Ahv (Mb pool x)).m=mv at*;refine Ab (Ap (Aa [1,3,5,11,12,13,59,60,61] [3,5,13] (by simp [ga,e]<;>rfl) ?_));refine Ab (Ac (Am 3 sr ?_));refine Ai a func163 ?_ (hp:=by simp);refine Ag [1,3,5,11,12,13,14,15,59,60,61] [3,5,13,14] sr ?_;refine Ab (Ab (C4 [(0,[]),(1,[]),(2,[]),(3,[]),(5,[]),(4,[]),(6,[]),(7,[]),(8,[]),(9,[]),(10,[]),(11,[]),(12,[]),(13,[]),(14,[]),(15,[]),(16,[]),(17,[])] Dm kr ?_));refine Ch 7 (by simp<;>rfl) ?_;refine Bw (fun hg=>av) func64 rfl kr rfl rfl sr rfl rfl sr (by simp) sr ?_;refine Ch 8 (by simp [aj,gt]<;>rfl) ?_;refine Bw (fun hg=>ah) func64 rfl kr rfl rfl sr rfl rfl sr (by simp) sr ?_;refine C5 [1,3,5,11,13,14,59,60,61,90] [3,5,13,14] sr ?_
   refine Ao (fun h5=>?_) (fun h5=>Ae ?_)
   ·refine Aa [6] [] sr ?_;exact Ak (Ad sr (by rw [if_pos (i (by rw [hb];simp at h5|-;exact .inl (by simpa [or_assoc]using h5)))]))
   refine Ab (Ac (Am 4 sr ?_));refine Ai l func164 ?_ (hp:=by simp);refine Ag [1,3,5,11,59,60,61,96] [3,5] sr ?_;have ag:(!(Mb pool x).isSome||(!decide (x∈t.elig)||decide (x∈(Gh t.steps).take k)))=false:=by simpa [and_assoc]using h5
   refine Ao (fun h6=>?_) (fun h6=>Ae ?_)
   ·refine Aa [6] [] sr ?_;exact Ak (Ad sr (by rw [if_pos (i (by rw [hb,ag];simpa using h6))]))
   refine A2 [1,3,5,11,59,60,61] [3,5] (by simp [C9]<;>rfl) ?_;exact⟨d,aa (by rw [hb,ag];simpa using h6),_,AS.le_refl _⟩
  ·refine A9 ?_;have af:k=t.steps.length:=by simp at h4;omega
   rw [af,Bf (by simp)]at ae;simp only [ae,Fv,if_false];refine Ab (Ab (Ac (Am 8 sr ?_)));refine De (c:= !decide (t.pend=0)) (fun hg=>ar t.pend) func64 rfl kr sr rfl rfl sr (by simp) sr ?_;refine Am 5 sr ?_;refine De (c:= !decide (t.pend=0)&&decide (t.pend∈t.elig)) (fun hg=>ao t.pend) func64 rfl kr sr rfl rfl sr (by simp) sr ?_;refine Ag [3,5,114] [3,5] sr ?_
   refine Ao (fun h7=>?_) (fun h7=>Ae ?_)
   ·refine Aa [6] [] sr ?_;exact Ak (Ad sr (by rw [if_pos (by simpa using h7)]))
   rw [if_neg (by simpa using h7)];refine Aa [3,5,16] [3,5] sr ?_;refine Ab (Ab (Ac (Am 12 sr ?_)));refine On hG (fun hg=>al) func207 rfl kr sr rfl rfl sr (by simp) sr ?_;refine Ag [5,129] [5] sr ?_
   refine Ao (fun h8=>?_) (fun h8=>Ae ?_)
   ·refine Aa [6] [] sr ?_;exact Ak (Ad sr (by rw [if_pos (by simpa [lw,an,Int.natCast_inj]using h8)]))
   rw [if_neg (by simpa [lw,an,Int.natCast_inj]using h8)];refine Aa [6] [] sr ?_;exact Ak (Ad sr (rfl))
def Aad(p:Po)(pool:List Pit)(t:Te):Int:=if Ah9 p pool t=false then 1 else if t.stop≠0 then 21 else 0
theorem Ap4{p:Po}{pool:List Pit}{t:Te}(a:Ah9 p pool t=true)(f:Lm p.g=0)(j:Ks t.w 1000):sumsOk p.g t.w:=by
 unfold Ah9 at a
 (repeat' split at a)<;>try(cases a)
 rename_i _ _ _ _ d
 have c:t.w.length=p.g.pts.length/\t.w.any Ap3=true:=by
  refine⟨H8 fun h=>d (.inl h),?_⟩
  cases e:t.w.any Ap3
  ·exact absurd (.inr e) d
  ·rfl
 refine⟨f,c.1,j,Wm.2 ?_⟩;obtain⟨x,i,hp⟩:=Dp.1 c.2;refine⟨x,i,fun e=>?_⟩;subst e;revert hp;simp [Ap3,A8d,C2,bitLen]
theorem Akb(p:Po)(pool:List Pit)(t:Te)(h:AdP p pool)(ht:teOk t):Hm gv prog 114 [p.v,.ro 9 (B8 pool),t.v] (fun r=>r=.int .i64 (Aad p pool t)):=by
 have c:=P5 p h.ok;have d:=Mq pool p.g.pts.length;have a:=A4m p pool t ht;rw [h.pe]at c;rw [h.le]at d;unfold Aad;generalize Ah9 p pool t=fb at*;have f:=A5 p.g.pts;rw [<- f]at d;have u:t.v=.agg [.ro 1 (As t.elig),.ro 2 (A0 t.steps),.int .i64 t.pend,.ro 1 (Bv t.w),.int .u64 t.draw,.int .i64 t.stop]:=rfl;rw [u]at a|-;have ep:p.v=V.agg [.int .i64 p.len,.ro 5 (Ee p.rules),.ro 1 (As p.g.pts),.ro 1 (As p.g.pri),.ro 2 (A0 p.en),.int .i64 p.mn,.bool p.var.num.neg,.ro 1 (Au p.var.num.mag),.ro 1 (Au p.var.den),.int .i64 p.cut,.bool p.lvl.num.neg,.ro 1 (Au p.lvl.num.mag),.ro 1 (Au p.lvl.den),.int .i64 p.top,.bool p.rate.num.neg,.ro 1 (Au p.rate.num.mag),.ro 1 (Au p.rate.den),.int .i64 p.slack]:=rfl;rw [ep]at c a|-;clear ep;have q0:=Cq p.rules;have k:=Af p.g.pts;have z:=Af p.g.pri;have y:=A4 p.en;have s:=Ah p.var.num.mag;have q5:=Ah p.var.den;have x:=Ah p.lvl.num.mag;have i:=Ah p.lvl.den;have l:=Ah p.rate.num.mag;have o:=Ah p.rate.den;generalize Ee p.rules=rv,As p.g.pts=pt,As p.g.pri=pr,A0 p.en=ev,Au p.var.num.mag=vm,Au p.var.den=vd,Au p.lvl.num.mag=lm,Au p.lvl.den=ld,Au p.rate.num.mag=rm,Au p.rate.den=rd at*;have s1:=Af t.elig;have m:=A4 t.steps;have n:=Br t.w;have s4:=B4 pool;have aa:=Dq t.steps;generalize As t.elig=ti,A0 t.steps=ts,Bv t.w=tw,B8 pool=lv at*;refine Bx func114 (fun w0 N0 hG=>?_);refine Aa [1,3,5] [3,5] sr (Ab (Ab (Ac (Am 1 sr ?_))));refine Be hG c func34 ?_ (hp:=by simp);refine Ag [1,3,5,7] [3,5] sr ?_;refine Aa [1,3,5,7,12] [3,5] sr ?_;refine A6 rfl (fun h1=>by simp at h1) (fun h1=>Ae (Ab (Ab (Ac (Am 5 sr ?_)))));refine Be hG d func35 ?_ (hp:=by simp);refine Ag [1,3,5,8] [3,5] sr ?_;refine Aa [1,3,5,8,21] [3,5] sr ?_;refine A6 rfl (fun h2=>by simp at h2) (fun h2=>Ae (Ab (Ab (Ac (Am 3 sr ?_)))));refine Be hG a func160 ?_ (hp:=by simp);refine Ag [5,27] [5] sr ?_
 refine Ao (fun e=>?_) (fun e=>Ae ?_)
 ·exact Aa [6] [] sr (Ak (Ad sr (by rw [if_pos (by simpa using e)])))
 refine Ab (Aa [30] [] sr ?_)
 refine Ao (fun j=>?_) (fun j=>Ae ?_)
 ·exact Aa [6] [] sr (Ak (Ad sr (by rw [if_neg (by simpa using e),if_pos (by simpa using j)])))
 exact Aa [6] [] sr (Ak (Ad sr (by rw [if_neg (by simpa using e),if_neg (by simpa using j)])))
def W4(p:Po)(n:Nat):Nat:=min p.top.toNat n
def Ua(p:Po)(pool:List Pit)(t:Te):Int:=
 if Aad p pool t≠0 then Aad p pool t else if t.pend≠0 then 0 else if(t.steps.length:Int)=p.len then 21
 else if Q8 p pool t≠0 then Q8 p pool t else if W4 p (K8 p pool t).length=0 then 14 else 0
def Mf(p:Po)(pool:List Pit)(t:Te):Te:=
 if t.pend≠0 then t else { t with pend:=(K8 p pool t).getD (Nu t.draw (W4 p (K8 p pool t).length)) 0,draw:=T7 t.draw}
theorem Ags{p:Po}{pool:List Pit}{t:Te}(h:Aad p pool t=0):Ah9 p pool t=true/\t.stop=0:=by
 unfold Aad at h
 (repeat' split at h)<;>try omega
 rename_i h1 h2;exact⟨by simpa using h1,by simpa using h2⟩
theorem Ap5(p:Po)(pool:List Pit)(t:Te)(h:AdP p pool)(ht:teOk t)(hw:Ks t.w 1000):Hm gv prog 74 [p.v,.ro 9 (B8 pool),t.v] (fun r=>r=teR (Ua p pool t) (Mf p pool t)):=by
 refine Hm.relaxP ?_;have f:=Akb p pool t h ht;have i:=Aj3 t ht;have ag:=fun(hc:Aad p pool t=0)=>Ap4 (Ags hc).1 (Yb h.pe).2.1 hw
 have j:=fun(hc:Aad p pool t=0)=>Aka p pool t h (ag hc) ht.sl
 have hb:=(Yb h.pe).2.2.2
 have aq:1<=p.top/\p.top<=5:=by
  unfold A7o at hb;simp only [Gs,decide_eq_false_iff_not]at hb;omega
 unfold Ua Mf;have pL:=Af (Ame (Q8 p pool t) (K8 p pool t));have u:Q8 p pool t=0->Ame (Q8 p pool t) (K8 p pool t)=K8 p pool t:=fun e=>by unfold Ame;rw [if_pos e]
 have ah:=fun(l:List Int)(k:Nat)(h:k<l.length)=>Dj (l:=l) h
 generalize aw:Q8 p pool t=ce at*;generalize Ame ce (K8 p pool t)=a at*;generalize K8 p pool t=L at*;generalize Aad p pool t=ck at*;obtain⟨o,aa⟩:=Co (show 0<=p.top by omega);have ak:W4 p L.length=min o L.length:=by unfold W4;rw [aa];rfl
 rw [ak];have s:∀(pd d:Int),Bl (.agg [.ro 1 (As t.elig),.ro 2 (A0 t.steps),.int .i64 pd,.ro 1 (Bv t.w),.int .u64 d,.int .i64 t.stop]) (Te.v { t with pend:=pd,draw:=d}):=fun pd d=>Bl.refl _
 have x:Bl (.agg [.ro 1 (As t.elig),.ro 2 (A0 t.steps),.int .i64 t.pend,.ro 1 (Bv t.w),.int .u64 t.draw,.int .i64 t.stop]) (Te.v t):=Bl.refl _;have ab:t.v=.agg [.ro 1 (As t.elig),.ro 2 (A0 t.steps),.int .i64 t.pend,.ro 1 (Bv t.w),.int .u64 t.draw,.int .i64 t.stop]:=rfl;rw [ab]at f i j;rw [ab];have ep:p.v=V.agg [.int .i64 p.len,.ro 5 (Ee p.rules),.ro 1 (As p.g.pts),.ro 1 (As p.g.pri),.ro 2 (A0 p.en),.int .i64 p.mn,.bool p.var.num.neg,.ro 1 (Au p.var.num.mag),.ro 1 (Au p.var.den),.int .i64 p.cut,.bool p.lvl.num.neg,.ro 1 (Au p.lvl.num.mag),.ro 1 (Au p.lvl.den),.int .i64 p.top,.bool p.rate.num.neg,.ro 1 (Au p.rate.num.mag),.ro 1 (Au p.rate.den),.int .i64 p.slack]:=rfl;rw [ep]at f j|-;clear ep;have q0:=Cq p.rules;have q1:=Af p.g.pts;have q2:=Af p.g.pri;have q3:=A4 p.en;have q4:=Ah p.var.num.mag;have q5:=Ah p.var.den;have q6:=Ah p.lvl.num.mag;have y:=Ah p.lvl.den;have q8:=Ah p.rate.num.mag;have q9:=Ah p.rate.den;generalize Ee p.rules=rv at*;generalize As p.g.pts=pt at*;generalize As p.g.pri=pr at*;generalize A0 p.en=ev at*;generalize Au p.var.num.mag=vm at*;generalize Au p.var.den=vd at*;generalize Au p.lvl.num.mag=lm at*;generalize Au p.lvl.den=ld at*;generalize Au p.rate.num.mag=rm at*;generalize Au p.rate.den=rd at*;have s1:=Af t.elig;have s2:=A4 t.steps;have s3:=Br t.w;have s4:=B4 pool;have ad:=Dq t.steps;generalize As t.elig=ti at*;generalize A0 t.steps=ts at*;generalize Bv t.w=tw at*;generalize B8 pool=lv at*;refine Bx func74 (fun w0 N0 hG=>?_);refine Aa [1,3,5,6] [3,5,6] sr (Ab (Ab (Ac (Am 3 sr ?_))));refine Be hG f func114 ?_ (hp:=by simp);refine Ag [1,3,5,6,8] [3,5,6] sr ?_;refine Aa [1,3,5,6,8,20] [3,5,6] sr ?_
 refine Ao (fun h1=>?_) (fun h1=>Ae ?_)
 ·exact Aa [6,7] [6] sr (Ak (Ad sr (by rw [if_pos (by simpa using h1)];exact F6 (by simpa using h1) _)))
 have ai:ck=0:=by simpa using h1
 replace j:=j ai;rw [if_neg (by simpa using h1)];refine Ab (Aa [1,3,5,6,25] [3,5,6] sr ?_)
 refine Ao (fun h2=>?_) (fun h2=>Ae ?_)
 ·refine Ab (Ac (Am 1 sr ?_));refine Ai i func115 ?_ (hp:=by simp);refine Ag [6,7] [6] sr ?_;exact Ak (Ad sr (by rw [if_pos (by simpa using h2)];unfold teR;rw [if_pos rfl,if_pos (by simpa using h2)];exact Bl.tup (.cons x (.cons (Bl.refl _) .nil))))
 rw [if_neg (by simpa using h2)];refine Ab (Aa [1,3,5,6,34] [3,5,6] sr ?_)
 refine Ao (fun h3=>?_) (fun h3=>Ae ?_)
 ·exact Aa [6,7] [6] sr (Ak (Ad sr (by rw [if_pos (by simpa [ad]using h3)];exact F6 dc _)))
 rw [if_neg (by simpa [ad]using h3)];refine Ab (Ac (Am 3 sr ?_));refine Be hG j func69 ?_ (hp:=by simp);refine Ag [3,5,6,9,10] [3,5,6] sr ?_;refine Ab (Aa [3,5,6,9,10,44] [3,5,6] sr ?_)
 refine Ao (fun z=>?_) (fun z=>Ae ?_)
 ·exact Aa [6,7] [6] sr (Ak (Ad sr (by rw [if_pos (by simpa using z)];exact F6 (by simpa using z) _)))
 have ao:ce=0:=by simpa using z
 rw [if_neg (by simpa using z)];replace u:=u ao;subst u;have an:=ah a;have aj:=A5 a;rw [aa];generalize As a=cv at*;have c:(if cv.length<o then(cv.length:Int)else(o:Int))=((min o a.length:Nat):Int):=by rw [aj];split<;>omega
 refine Aa [5,6,9,11] [5,6] sr (Ab (Aa [5,6,9,11,53] [5,6] sr ?_))
 refine Ao (fun h5=>?_) (fun h5=>Ae ?_)
 ·exact Aa [6,7] [6] sr (Ak (Ad sr (by rw [c]at h5;rw [if_pos (show min o a.length=0 by simpa using h5)];exact F6 dc _)))
 have am:¬min o a.length=0:=fun e=>by rw [c,e]at h5;simp at h5
 rw [if_neg am,c];have ar:min o a.length<=a.length:=Kk _ _;have ax:min o a.length<=5:=om;generalize min o a.length=m at*;have af:=A2k t.draw m om om;have av:=We t.draw (n:=m) om;have gk:=an (Nu t.draw m) om;have al:Nu t.draw m<cv.length:=om;have s:=s (a.getD (Nu t.draw m) 0) (T7 t.draw);have ae:(if t.pend≠0 then t else { t with pend:=a.getD (Nu t.draw m) 0,draw:=T7 t.draw})= { t with pend:=a.getD (Nu t.draw m) 0,draw:=T7 t.draw}:=if_neg (by simpa using h2);rw [ae];unfold teR;rw [if_pos rfl];generalize Nu t.draw m=bk at*;generalize a.getD bk 0=au at*;refine Ab (Ac (Am 1 sr ?_));refine Ai i func115 ?_ (hp:=by simp);refine Ag [5,6,9,11,12] [5,6,12] sr ?_;refine Ab (Ac (Am 3 sr ?_));refine Ai af func116 ?_ (hp:=by simp);refine Ag [6,9,12,13,14] [6,12] sr ?_;refine Aa [6,12] [6,12] (by simp [gk,al]<;>rfl) (Aa [6,7] [6] sr ?_);exact Ak (Ad sr (Bl.tup (.cons s (.cons (Bl.refl _) .nil))))
theorem Bcn(t:Te)(g:teOk t):AC prog 78 [t.v] (fun r=>r=teR (if t.stop≠0 then 21 else 0) { t with pend:=0,stop:=4}):=by
 refine AC.relaxP ?_;have a:=Aj3 t g;have d:Bl (.agg [.ro 1 (As t.elig),.ro 2 (A0 t.steps),.int .i64 0,.ro 1 (Bv t.w),.int .u64 t.draw,.int .i64 4]) (Te.v { t with pend:=0,stop:=4}):=Bl.refl _;have c:t.v=.agg [.ro 1 (As t.elig),.ro 2 (A0 t.steps),.int .i64 t.pend,.ro 1 (Bv t.w),.int .u64 t.draw,.int .i64 t.stop]:=rfl;rw [c]at a;rw [c];have f:=Af t.elig;have h:=A4 t.steps;have e:=Br t.w;generalize As t.elig=ti,A0 t.steps=ts,Bv t.w=tw at*;refine Ay func78 (fun w0 N0=>?_);refine Aa [1,2] [1,2] sr (Ab (Aa [1,2,7] [1,2] sr ?_))
 refine Ao (fun h1=>?_) (fun h1=>Ae ?_)
 ·exact Aa [2,3] [2] sr (Ak (Ad sr (by rw [if_pos (by simpa using h1)];exact F6 dc _)))
 refine Ab (Ac (Am 1 sr ?_));refine Ai a func115 ?_ (hp:=by simp);refine Ag [2,4] [2,4] sr ?_;refine Aa [2,4] [2,4] sr ?_;exact Aa [2,3] [2] sr (Ak (Ad sr (by rw [if_neg (by simpa using h1)];unfold teR;rw [if_pos rfl];exact Bl.tup (.cons d (.cons (Bl.refl _) .nil)))))
theorem A4n{p:Po}{pool:List Pit}{t:Te}(c:Ah9 p pool t=true):(∀id∈t.elig,(Mb pool id).isSome=true)/\(t.pend≠0->t.pend∈t.elig/\t.pend∉Gh t.steps):=by
 unfold Ah9 at c
 (repeat' split at c)<;>try(cases c)
 rename_i h1 _ _ d _
 refine⟨fun id a=>?_,fun g=>?_⟩
 ·obtain⟨k,f,rfl⟩:=Gq.1 a
  cases e:(Mb pool t.elig[k]).isSome
  ·exact absurd (Dp.2 ⟨k,Ij.2 f,by unfold Avu;rw [Cf f,e];rfl⟩) h1
  ·rfl
 ·constructor
  ·exact H8 fun h=>d ⟨g,.inl h⟩
  ·exact fun h=>d ⟨g,.inr h⟩
def Ps(pool:List Pit)(id:Int):Mo:=(Ahv (Mb pool id)).m
theorem A8p{pool:List Pit}{n:Int}{id:Int}(h:Kd pool n=0)(hs:(Mb pool id).isSome=true):Ln (Ps pool id) n=0:=by
 obtain⟨x,a⟩:=Cp.1 hs;unfold Ps;rw [a];exact(Zp h).2.2 x (List.mem_of_find?_eq_some a)
def W5(pool:List Pit)(t:Te)(c:Int):List Nat:=Qx (P6 t.w (Ps pool t.pend) c.toNat)
def Ac9(p:Po)(pool:List Pit)(t:Te)(c:Int):Int:=
 if Aad p pool t≠0 then Aad p pool t else if t.pend=0 then 8 else if Ahu (Ps pool t.pend) c=false then 3
 else(Ayj p (t.steps.length+1) (W5 pool t c)).2
def Mg(p:Po)(pool:List Pit)(t:Te)(c:Int):Te:=
 { elig:=t.elig,steps:=t.steps++[(t.pend,c)],pend:=0,w:=W5 pool t c,draw:=t.draw,stop:=(Ayj p (t.steps.length+1) (W5 pool t c)).1}
theorem Akc{p:Po}{pool:List Pit}{t:Te}{c:Int}(h:AdP p pool)(r:Ah9 p pool t=true)(u:t.pend≠0)(i:Ahu (Ps pool t.pend) c=true){n:Nat}(hn:n<=999)(l:Ks t.w n):
  sumsOk p.g (W5 pool t c)/\Ks (W5 pool t c) (n+1)/\Ks (P6 t.w (Ps pool t.pend) c.toNat) (n+1)/\(P6 t.w (Ps pool t.pend) c.toNat).length=t.w.length/\Ln (Ps pool t.pend) t.w.length=0/\c.toNat<Wv (Ps pool t.pend)/\0<=c:=by
 have hs:=Ap4 r (Yb h.pe).2.1 (fun x d=>Aj (l x d) om);have a:=A4n r;have m:Ln (Ps pool t.pend) t.w.length=0:=by rw [hs.len];exact A8p h.le (a.1 _ (a.2 u).1)
 have e:0<=c/\c<Wv (Ps pool t.pend):=by unfold Ahu at i;simpa using i
 have k:c.toNat<Wv (Ps pool t.pend):=om;obtain⟨o,j,s⟩:=A4j m k l hs.pos;have f:=Aac j;exact⟨⟨hs.grid,by unfold W5;rw [Ad5,o,hs.len],fun x d=>Aj (f x d) om,A4i s⟩,f,j,o,m,k,e.1⟩
theorem As5(p:Po)(pool:List Pit)(t:Te)(c:Int)(h:AdP p pool)(ht:teOk t)(hw:Ks t.w 999)(av:t.steps.length<=900):
  Hm gv prog 117 [p.v,.ro 9 (B8 pool),t.v,.int .i64 c] (fun r=>r=teR (Ac9 p pool t c) (Mg p pool t c)):=by
 refine Hm.relaxP ?_;have e:=Akb p pool t h ht;have i:=Aj2 t ht;have f:=Au7 pool t.pend;have l:=Au6 (Ps pool t.pend) c;have ak:=fun(hc:Aad p pool t=0)(h0:t.pend≠0)(hh:Ahu (Ps pool t.pend) c=true)=>Akc h (Ags hc).1 h0 hh (A8 999) hw
 have ar:=ht.wl;have a:=fun h1 h2=>Axo t.w (Ps pool t.pend) c.toNat h1 h2 (fun x hx=>Aj (hw x hx) dc)
 have j:=fun h1=>Afn (P6 t.w (Ps pool t.pend) c.toNat) h1
 have d:=fun h1=>As2 p (t.steps.length+1) (W5 pool t c) h.ok h.pe h1
 change∀h1 h2,AC prog 67 _ (fun r=>r=.ro 1 (Bv (W5 pool t c)))at j;unfold Ac9 Mg;have pu:=Br (P6 t.w (Ps pool t.pend) c.toNat);have pw:=Br (W5 pool t c);have pm:=Dw (Ps pool t.pend);have ag:=G9 (Ahv (Mb pool t.pend));rw [ag]at f;change AC _ _ _ (fun r=>r=V.tup [V.agg [_,_,_,_,_,_,_,_,V.ro 1 (Ek (Ps pool t.pend))],_])at f;have al:moV (Ps pool t.pend)=.agg [.ro 1 (Ek (Ps pool t.pend))]:=rfl;rw [al]at l a;have ah:A0 t.steps++[V.agg [.int .i64 t.pend,.int .i64 c]]=A0 (t.steps++[(t.pend,c)]):=by simp [A0]
 have ab:=A4 (t.steps++[(t.pend,c)]);have aj:∀st:Int,Bl (.agg [.ro 1 (As t.elig),.ro 2 (A0 (t.steps++[(t.pend,c)])),.int .i64 0,.ro 1 (Bv (W5 pool t c)),.int .u64 t.draw,.int .i64 st]) (Te.v { elig:=t.elig,steps:=t.steps++[(t.pend,c)],pend:=0,w:=W5 pool t c,draw:=t.draw,stop:=st}):=fun st=>Bl.refl _
 have ai:t.steps.length+1<=maxLen/\(t.steps.length+1)*16<=140737488355328:=by unfold maxLen;omega
 generalize(Ayj p (t.steps.length+1) (W5 pool t c))=rs,Bv (W5 pool t c)=rwv,Bv (P6 t.w (Ps pool t.pend) c.toNat)=uv,Ek (Ps pool t.pend)=mv,Ahu (Ps pool t.pend) c=hb,Aad p pool t=ck at*;unfold teV at i;have aa:t.v=.agg [.ro 1 (As t.elig),.ro 2 (A0 t.steps),.int .i64 t.pend,.ro 1 (Bv t.w),.int .u64 t.draw,.int .i64 t.stop]:=rfl;rw [aa]at e i;rw [aa];have ep:p.v=V.agg [.int .i64 p.len,.ro 5 (Ee p.rules),.ro 1 (As p.g.pts),.ro 1 (As p.g.pri),.ro 2 (A0 p.en),.int .i64 p.mn,.bool p.var.num.neg,.ro 1 (Au p.var.num.mag),.ro 1 (Au p.var.den),.int .i64 p.cut,.bool p.lvl.num.neg,.ro 1 (Au p.lvl.num.mag),.ro 1 (Au p.lvl.den),.int .i64 p.top,.bool p.rate.num.neg,.ro 1 (Au p.rate.num.mag),.ro 1 (Au p.rate.den),.int .i64 p.slack]:=rfl;rw [ep]at e d|-;clear ep;have q0:=Cq p.rules;have s:=Af p.g.pts;have q2:=Af p.g.pri;have q3:=A4 p.en;have q4:=Ah p.var.num.mag;have q5:=Ah p.var.den;have q6:=Ah p.lvl.num.mag;have m:=Ah p.lvl.den;have n:=Ah p.rate.num.mag;have z:=Ah p.rate.den;generalize Ee p.rules=rv,As p.g.pts=pt,As p.g.pri=pr,A0 p.en=ev,Au p.var.num.mag=vm,Au p.var.den=vd,Au p.lvl.num.mag=lm,Au p.lvl.den=ld,Au p.rate.num.mag=rm,Au p.rate.den=rd at*;have s1:=Af t.elig;have u:=A4 t.steps;have y:=Br t.w;have s4:=B4 pool;have am:=Dq t.steps;generalize As t.elig=ti,A0 t.steps=ts,Bv t.w=tw,B8 pool=lv at*;refine Bx func117 (fun w0 N0 hG=>?_);refine Aa [1,3,4,6,8] [4,6,8] sr (Ab (Ab (Ac (Am 3 sr ?_))));refine Be hG e func114 ?_ (hp:=by simp);refine Ag [1,3,4,6,8,10] [4,6,8] sr ?_;refine Aa [1,3,4,6,8,10,21] [4,6,8] sr ?_
 refine Ao (fun h1=>?_) (fun h1=>Ae ?_)
 ·exact Aa [8,9] [8] sr (Ak (Ad sr (by rw [if_pos (by simpa using h1)];exact F6 (by simpa using h1) _)))
 have af:ck=0:=by simpa using h1
 rw [if_neg (by simpa using h1)];refine Ab (Aa [1,3,4,6,8,26] [4,6,8] sr ?_)
 refine Ao (fun h2=>?_) (fun h2=>Ae ?_)
 ·exact Aa [8,9] [8] sr (Ak (Ad sr (by rw [if_pos (by simpa using h2)];exact F6 dc _)))
 rw [if_neg (by simpa using h2)];refine Ab (Ac (Am 3 sr ?_));refine Ai f func163 ?_ (hp:=by simp);refine Ag [3,4,6,8,11] [4,6,8,11] sr ?_;refine Ab (Ab (Ac (Am 3 sr ?_)));refine Ai l func164 ?_ (hp:=by simp);refine Ag [3,4,6,8,11,39] [4,6,8,11] sr ?_
 refine Ao (fun h3=>?_) (fun h3=>Ae ?_)
 ·exact Aa [8,9] [8] sr (Ak (Ad sr (by rw [if_pos (by simpa using h3)];exact F6 dc _)))
 have ae:hb=true:=by simpa using h3
 rw [if_neg (by simpa using h3)];obtain⟨r1,r2,r3,r4,r5,r6,r7⟩:=ak af (show t.pend≠0 by simpa using h2) ae;replace a:=a r5 r6;replace j:=j (fun x hx=>Aj (r3 x hx) dc) om;replace d:=d r1;have an:((c.toNat:Nat):Int)=c:=om;rw [an]at a;refine Ab (Ac (Am 5 sr ?_));refine Ai a func165 ?_ (hp:=by simp);refine Ag [3,4,6,8,13,14] [4,6,8] sr ?_;refine Ab (Aa [3,4,6,8,13,14,51] [4,6,8] sr ?_);refine A6 rfl (fun h4=>by simp at h4) (fun h4=>Ae (Ab (Ac (Am 1 sr ?_))));refine Et i func161 rfl kr rfl rfl rfl sr (fun k o hk=>by cases hk) ?_ (fun ch ad=>ad.elim);rintro r ao au⟨y1,y2,rfl,rfl⟩aq;refine⟨fun k hk=>rfl,_,by simp<;>rfl,?_⟩;refine Ag [3,4,6,8,13,15] [4,6,8,15,18,101] sr ?_;refine Aa [4,8,13,15] [4,8,15,101] (by simp [am,ai]<;>rfl) ?_;rw [ah];refine Bt 101 [4,8,13,15] [4,8,15] (by simp [ab]<;>rfl) (Ab (Ac (Am 1 sr ?_)));refine Ai j func67 ?_ (hp:=by simp);refine Ag [4,8,15] [4,8,15] sr ?_;refine Aa [4,8,15] [4,8,15] sr (Ab (Ac (Am 6 sr ?_)));refine Be hG d func166 ?_ (hp:=by simp);refine Ag [8,14,15] [8,15] sr ?_;refine Ab (Aa [8,14,15,81] [8,15,63] sr ?_)
 refine Ao (fun h5=>?_) (fun h5=>Ae ?_)
 ·refine Aa [8,9] [8] sr ?_;exact Ak (Ad sr (F6 (by simpa using h5) _))
 refine Aa [8,9] [8] sr ?_;exact Ak (Ad sr ((fun h6:rs.2=0=>(by unfold teR;rw [h6,if_pos rfl];exact Bl.tup (.cons (aj rs.1) (.cons (Bl.refl _) .nil)):Bl _ _)) (by simpa using h5)))
def Agt(nu de ex:Int):Int:=if de<1\/100<de then 3 else if nu<de\/4*de<nu then 3 else if ex<0\/86400<ex then 3 else 0
theorem Acy(nu de ex:Int):AC prog 27 [.agg [.int .i64 nu,.int .i64 de,.int .i64 ex]] (fun r=>r=.int .i64 (Agt nu de ex)):=by
 unfold Agt;refine Ay func27 (fun w0 N0=>?_);refine Aa [1] [1] sr (Ab (Aa [1,10] [1] sr ?_))
 refine Ao (fun h1=>?_) (fun h1=>Ae ?_)
 ·exact Aa [2] [] sr (Ak (Ad sr (by rw [if_pos (by simpa using h1)])))
 rw [if_neg (by simpa using h1)];have hd:1<=de/\de<=100:=by simp at h1;omega
 have c:IntKind.i64.wrap (4*de)=4*de:=Bb om om;refine Ab (Aa [1,23] [1] (by simp [c]<;>rfl) ?_)
 refine Ao (fun h2=>?_) (fun h2=>Ae ?_)
 ·exact Aa [2] [] sr (Ak (Ad sr (by rw [if_pos (by simpa using h2)])))
 rw [if_neg (by simpa using h2)];refine Ab (Aa [31] [] sr ?_)
 refine Ao (fun a=>?_) (fun a=>Ae ?_)
 ·exact Aa [2] [] sr (Ak (Ad sr (by rw [if_pos (by simpa using a)])))
 exact Aa [2] [] sr (Ak (Ad sr (by rw [if_neg (by simpa using a)])))
def W6(sc nu de ex:Int):Int:=if Agt nu de ex≠0\/sc<0\/9999999<sc then 3 else 0
def R3(sc nu de ex:Int):Int:=if W6 sc nu de ex≠0 then 0 else(sc*nu+de-1)/de+ex
theorem A8q{nu de ex:Int}(h:Agt nu de ex=0):(1<=de/\de<=100)/\(de<=nu/\nu<=4*de)/\0<=ex/\ex<=86400:=by
 unfold Agt at h
 (repeat' split at h)<;>omega
theorem Amf{sc nu de ex:Int}(h:W6 sc nu de ex=0):0<=sc*nu+de-1/\sc*nu+de-1<=4000000099/\0<=sc*nu/\(0<=(sc*nu+de-1)/de/\(sc*nu+de-1)/de<=4000000099)/\1<=de/\0<=ex/\ex<=86400:=by
 unfold W6 at h
 split at h
 ·omega
 rename_i h2;have c:Agt nu de ex=0:=H8 fun e=>h2 (.inl e)
 have hs:0<=sc/\sc<=9999999:=by
  constructor
  ·exact H8 fun e=>h2 (.inr (.inl om))
  ·exact H8 fun e=>h2 (.inr (.inr om))
 obtain⟨a,h4,d⟩:=A8q c;have f:0<=sc*nu:=Int.mul_nonneg hs.1 om;have m2:sc*nu<=9999999*400:=Int.mul_le_mul hs.2 om om om;refine⟨by omega,by omega,f,⟨Int.ediv_nonneg om om,?_⟩,a.1,d⟩;exact Int.le_trans (Int.ediv_le_self _ om) om
theorem Ap6(sc nu de ex:Int):AC prog 17 [.int .i64 sc,.agg [.int .i64 nu,.int .i64 de,.int .i64 ex]] (fun r=>r=.tup [.int .i64 (R3 sc nu de ex),.int .i64 (W6 sc nu de ex)]):=by
 have e:=Acy nu de ex;have d:=Amf (sc:=sc) (nu:=nu) (de:=de) (ex:=ex);have a:W6 sc nu de ex=if Agt nu de ex≠0\/sc<0\/9999999<sc then 3 else 0:=rfl
 unfold R3;generalize W6 sc nu de ex=le,Agt nu de ex=ae at*;refine Ay func17 (fun w0 N0=>?_);refine Aa [0,3] [3] sr (Ab (Ab (Ac (Am 1 sr ?_))));refine Ai e func27 ?_;refine Ag [0,3,16] [3] sr ?_
 refine Ao (fun h1=>?_) (fun h1=>Ae ?_)
 ·exact Aa [4,5] [] sr (Ak (Ad sr (by rw [a.trans (if_pos (by simpa [or_assoc]using h1))];rfl)))
 rw [if_neg (by simpa [or_assoc,and_assoc]using h1)]at a;subst a;obtain⟨k,b2,b3,b4,b5,b6⟩:=d rfl;have j:IntKind.i64.wrap (sc*nu)=sc*nu:=Bb om om;have g:IntKind.i64.wrap (sc*nu+de)=sc*nu+de:=Bb om om;have l:IntKind.i64.wrap (sc*nu+de-1)=sc*nu+de-1:=Bb om om;have f:(sc*nu+de-1).tdiv de=(sc*nu+de-1)/de:=Int.tdiv_eq_ediv_of_nonneg k;have h:IntKind.i64.wrap ((sc*nu+de-1)/de)=(sc*nu+de-1)/de:=Bb om om;have i:IntKind.i64.wrap ((sc*nu+de-1)/de+ex)=(sc*nu+de-1)/de+ex:=Bb om om;have c:¬de=0:=om;refine Di [(0,[]),(1,[]),(4,[]),(8,[]),(11,[]),(2,[]),(3,[]),(5,[]),(6,[]),(7,[]),(9,[]),(10,[]),(12,[]),(13,[]),(14,[]),(15,[])] [4,5] [] Dm kr (by simp [j,g,l,f,h,i,c]<;>rfl) ?_;exact Ak (Ad sr sm)
def Ada(a us:Int):Int:=Lf (IntKind.i64.wrap (Lf a-Lf us))
theorem A8r(a us:Int):AC prog 30 [.int .i64 a,.int .i64 us] (fun r=>r=.int .i64 (Ada a us)):=by
 unfold Ada Lf;refine Ay func30 (fun w0 N0=>?_);refine Aa [0,1] [] sr ?_;exact Aa [4] [] sr (Ak (Ad sr rf))
structure In4 where
 ki:Int
 ti:Int
 lo:Int
 gr:Int
def In4.v(i:In4):V:=.agg [.int .i64 i.ki,.int .i64 i.ti,.int .i64 i.lo,.int .i64 i.gr]
def Dc(l:List In4):List V:=l.map In4.v
@[simp]theorem Ey(l:List In4):(Dc l).length=l.length:=by simp [Dc]
theorem Wn{l:List In4}{k:Nat}(h:k<l.length):Hs (Dc l) k=some l[k].v:=by rw [C1];simp [Dc,h]
theorem Dh(l:List In4):(Dc l).all V.pureE=true:=by
 rw [Ax];intro x a;simp only [Dc,Bk]at a;obtain⟨n,_,rfl⟩:=a;rfl
def Ib(i:In4):Int:=
 if i.ki<1\/6<i.ki then 1
 else if i.ti<0\/1099511627776<i.ti\/i.lo<0\/86400<i.lo\/i.gr<0\/3<i.gr then 3 else 0
theorem Acz(i:In4):AC prog 54 [i.v] (fun r=>r=.int .i64 (Ib i)):=by
 obtain⟨ki,ti,lo,gr⟩:=i;unfold Ib In4.v;simp only;refine Ay func54 (fun w0 N0=>?_);refine Aa [1] [1] sr (Ab (Aa [1,10] [1] sr ?_))
 refine Ao (fun h1=>?_) (fun h1=>Ae ?_)
 ·exact Aa [2] [] sr (Ak (Ad sr (by rw [if_pos (by simpa using h1)])))
 rw [if_neg (by simpa using h1)];refine Ab (Aa [38] [] sr ?_)
 refine Ao (fun h2=>?_) (fun h2=>Ae ?_)
 ·exact Aa [2] [] sr (Ak (Ad sr (by rw [if_pos (by simpa [or_assoc]using h2)])))
 exact Aa [2] [] sr (Ak (Ad sr (by rw [if_neg (by simpa [or_assoc,and_assoc]using h2)])))
def Q0(l:List In4):Int:=if 300<l.length then 5 else Kr Ib l
theorem Ap7(l:List In4):AC prog 28 [.ro 4 (Dc l)] (fun r=>r=.int .i64 (Q0 l)):=by
 have s:=Acz;have w:=fun(k:Nat)(h:k<l.length)=>Wn h
 have u:=Ey l;have pl:=Dh l;have n:=fun(k:Nat)(h:k<l.length)=>Ou Ib h
 unfold Q0;generalize Dc l=j at*;refine Ay func28 (fun w0 N0=>?_);refine Aa [0] [] sr (Ab (Aa [0,8] [] sr ?_))
 refine Ao (fun h1=>?_) (fun h1=>Ae ?_)
 ·exact Aa [2] [] sr (Ak (Ad sr (by rw [if_pos (by simp [u]at h1;omega)])))
 have m:¬300<l.length:=by simp [u]at h1;omega
 rw [if_neg m];refine Ab (Aa [9,10,11] [] sr (Ap (Bq (fun k nx=>⟨[(9,V.ro 4 j),(10,V.int .i64 j.length),(11,V.int .i64 k)],[],nx,21⟩) (fun k=>Kr Ib (l.drop k)=Kr Ib l) l.length _ rfl (AS.le_refl _) ?_)));intro k nx hk d;refine Aa [9,10,11,12] [] sr (Ab ?_)
 refine Ao (fun h2=>Ae ?_) (fun h2=>?_)
 ·have c:k<l.length:=by simp at h2;omega
  have e:k<j.length:=om;have t:=w k c;have o:=n k c;have a:=s l[k];have C9:=A7 (k:=k) om;rw [o]at d;unfold In4.v at t a;generalize l[k]=i at*;refine Ab (Ap (Aa [4,9,10,11] [4] (by simp [t,e]<;>rfl) (Ab (Ac (Am 1 sr ?_)))));refine Ai a func54 ?_;refine Ag [5,9,10,11] [] sr ?_;refine Aa [5,9,10,11,18] [] sr ?_
  refine Ao (fun f=>?_) (fun f=>Ae ?_)
  ·exact Aa [2] [] sr (Ak (Ad sr (by rw [<- d,if_pos (by simpa using f)])))
  rw [if_neg (by simpa using f)]at d;refine A2 [9,10,11] [] (by simp [C9]<;>rfl) ?_;exact⟨c,d,_,AS.le_refl _⟩
 ·refine A9 ?_;have g:k=l.length:=by simp at h2;omega
  rw [g,Ca]at d;exact Aa [2] [] sr (Ak (Ad sr (by rw [<- d];rfl)))
def Hj(l:List In4):Nat->Int
 |0=>0
 |k+1=>if(l.getD k ⟨0,0,0,0⟩).ki=1\/(l.getD k ⟨0,0,0,0⟩).ki=2\/(l.getD k ⟨0,0,0,0⟩).ki=3 then IntKind.i64.wrap (Hj l k+(l.getD k ⟨0,0,0,0⟩).lo)else Hj l k
def Ix(l:List In4)(a:Int):Int:=if Q0 l≠0 then 0 else if Lf a<Hj l l.length then Lf a else Hj l l.length
theorem Avv(l:List In4)(a:Int):AC prog 18 [.ro 4 (Dc l),.int .i64 a] (fun r=>r=.tup [.int .i64 (Ix l a),.int .i64 (Q0 l)]):=by
 have n:=Ap7 l;have w:∀k,k<l.length->Hs (Dc l) k=some (l.getD k ⟨0,0,0,0⟩).v:=fun(k:Nat)(h:k<l.length)=>by rw [Cf h];exact Wn h
 have lq:=Ey l;have pl:=Dh l;have j:Q0 l=0->l.length<=300:=fun h=>by unfold Q0 at h;split at h;omega;omega
 have s:∀k,Hj l (k+1)=if(l.getD k ⟨0,0,0,0⟩).ki=1\/(l.getD k ⟨0,0,0,0⟩).ki=2\/(l.getD k ⟨0,0,0,0⟩).ki=3 then IntKind.i64.wrap (Hj l k+(l.getD k ⟨0,0,0,0⟩).lo)else Hj l k:=fun k=>rfl
 have o:Hj l 0=0:=rfl;unfold Ix;generalize Hj l=x,Q0 l=y,Dc l=m at*;refine Ay func18 (fun w0 N0=>?_);refine Aa [0,1] [] sr (Ab (Ab (Ac (Am 1 sr ?_))));refine Ai n func28 ?_ (hp:=by simp);refine Ag [0,1,6] [] sr ?_;refine Aa [0,1,6,13] [] sr ?_
 refine Ao (fun h1=>?_) (fun h1=>Ae ?_)
 ·exact Aa [4,5] [] sr (Ak (Ad sr (by rw [if_pos (by simpa using h1)])))
 have f:y=0:=by simpa using h1
 have z:=j f;rw [if_neg (by simpa using h1)];refine Aa [0,1,7] [] sr (Ab (Aa [1,7,15,16,17] [] sr (Ap (Bq (fun k nx=>⟨[(1,V.int .i64 a),(7,V.int .i64 (x k)),(15,V.ro 4 m),(16,V.int .i64 m.length),(17,V.int .i64 k)],[],nx,43⟩) (fun k=>True) l.length _ trivial (by simp only [o];exact AS.le_refl _) ?_))));intro k nx hk hI;refine Aa [1,7,15,16,17,18] [] sr (Ab ?_)
 refine Ao (fun h2=>Ae ?_) (fun h2=>?_)
 ·have c:k<l.length:=by simp at h2;omega
  have e:k<m.length:=om;have u:=w k c;have d:=s k;have C9:=A7 (k:=k) om;unfold In4.v at u;generalize l.getD k ⟨0,0,0,0⟩=i at*;refine Ab (Ap (Aa [1,7,9,15,16,17] [9] (by simp [u,e]<;>rfl) (Aa [1,7,9,15,16,17,33] [9] sr ?_)))
  refine Ao (fun g=>?_) (fun g=>Ae ?_)
  ·refine A2 [1,7,15,16,17] [] sr (A2 [1,7,15,16,17] [] (by simp [C9]<;>rfl) ?_);exact⟨c,trivial,_,by rw [d,if_pos (by simpa [or_assoc]using g)];exact AS.le_refl _⟩
  refine A2 [1,7,15,16,17] [] (by simp [C9]<;>rfl) ?_;exact⟨c,trivial,_,by rw [d,if_neg (by simpa [or_assoc,and_assoc]using g)];exact AS.le_refl _⟩
 ·refine A9 ?_;have t:k=l.length:=by simp at h2;omega
  subst t;exact Aa [4,5] [] sr (Ak (Ad sr (by unfold Lf;simp [f])))
structure It where
 id:Int
 ver:Int
 kind:Int
 stem:List UInt8
 opts:List (List UInt8)
 ch:List Int
 val:Int
 tol:Int
 txts:List (List UInt8)
 pts:Int
 code:List UInt8
 fam:Int
 set:Int
 wo:Int
 se:Int
 ass:List Int
 rub:Int
def D6(l:List (List UInt8)):List V:=l.map V.str
@[simp]theorem Fb(l:List (List UInt8)):(D6 l).length=l.length:=by simp [D6]
theorem Aae{l:List (List UInt8)}{k:Nat}(h:k<l.length):Hs (D6 l) k=some (.str (l.getD k [])):=by rw [C1,Cf h];simp [D6,h]
theorem Ct(l:List (List UInt8)):(D6 l).all V.pureE=true:=by
 rw [Ax];intro x a;simp only [D6,Bk]at a;obtain⟨n,_,rfl⟩:=a;rfl
def It.v(it:It):V:=V.agg [.int .i64 it.id,.int .i64 it.ver,.int .i64 it.kind,.str it.stem,.ro 1 (D6 it.opts),.ro 1 (As it.ch),.int .i64 it.val,.int .i64 it.tol,.ro 1 (D6 it.txts),.int .i64 it.pts,.str it.code,.int .i64 it.fam,.int .i64 it.set,.int .i64 it.wo,.int .i64 it.se,.ro 1 (As it.ass),.int .i64 it.rub]
def Jj(n c a:Int):Bool:=decide (c<=n)&&decide (n<=a)
theorem Q1(n c a:Int):AC prog 93 [.int .i64 n,.int .i64 c,.int .i64 a] (fun r=>r=.bool (Jj n c a)):=by
 unfold Jj;refine Ay func93 (fun w0 N0=>?_);refine Aa [0,1,2] [] sr ?_;exact Aa [6] [] sr (Ak (Ad sr rf))
def Avw(it:It):Bool:=
 Jj it.id 1 9999999&&Jj it.ver 1 50&&Jj it.pts 1 5&&Jj it.wo 0 2000&&Jj it.se 1 2000&&Jj it.fam 0 9999999&&Jj it.set 0 9999999&&Jj it.rub 0 9999999
theorem A8s(it:It):AC prog 92 [it.v] (fun r=>r=.bool (Avw it)):=by
 have a:=Q1;unfold Avw;have d:it.v=V.agg [.int .i64 it.id,.int .i64 it.ver,.int .i64 it.kind,.str it.stem,.ro 1 (D6 it.opts),.ro 1 (As it.ch),.int .i64 it.val,.int .i64 it.tol,.ro 1 (D6 it.txts),.int .i64 it.pts,.str it.code,.int .i64 it.fam,.int .i64 it.set,.int .i64 it.wo,.int .i64 it.se,.ro 1 (As it.ass),.int .i64 it.rub]:=rfl;rw [d];have i1:=Ct it.opts;have i2:=Af it.ch;have i3:=Ct it.txts;have i4:=Af it.ass;have e:=Fb it.opts;have g:=A5 it.ch;have f:=Fb it.txts;have m:=A5 it.ass;generalize D6 it.opts=k,As it.ch=h,D6 it.txts=n,As it.ass=av at*;have j:k= []↔it.opts= []:=by rw [<- Ar,e,Ar]
 have i:h= []↔it.ch= []:=by rw [<- Ar,g,Ar]
 have l:n= []↔it.txts= []:=by rw [<- Ar,f,Ar]
 generalize Jj=wi at*;refine Ay func92 (fun w0 N0=>?_);refine Aa [1] [1] sr (Ab (Ac (Am 2 sr ?_)));refine Ai (a it.id 1 9999999) func93 ?_;refine Am 3 sr ?_;refine De (fun c=>a it.ver 1 50) func93 rfl kr sr rfl rfl sr sm sr ?_;refine Am 4 sr ?_;refine De (fun c=>a it.pts 1 5) func93 rfl kr sr rfl rfl sr sm sr ?_;refine Am 4 sr ?_;refine De (fun c=>a it.wo 0 2000) func93 rfl kr sr rfl rfl sr sm sr ?_;refine Am 4 sr ?_;refine De (fun c=>a it.se 1 2000) func93 rfl kr sr rfl rfl sr sm sr ?_;refine Am 4 sr ?_;refine De (fun c=>a it.fam 0 9999999) func93 rfl kr sr rfl rfl sr sm sr ?_;refine Am 4 sr ?_;refine De (fun c=>a it.set 0 9999999) func93 rfl kr sr rfl rfl sr sm sr ?_;refine Am 4 sr ?_;refine De (fun c=>a it.rub 0 9999999) func93 rfl kr sr rfl rfl sr sm sr ?_;refine Ag [2] [] sr ?_;exact Ak (Ad sr (rfl))
def prb(b:UInt8):Bool:=decide (32<=b.toNat)&&decide (b.toNat<=126)
def prB(s:List UInt8)(a:Int):Bool:=s.all prb&&decide ((1:Int)<=s.length)&&decide ((s.length:Int)<=a)
theorem As6(s:List UInt8)(a:Int)(hs:s.length<=4000000000):AC prog 137 [.str s,.int .i64 a] (fun r=>r=.bool (prB s a)):=by
 unfold prB;refine Ay func137 (fun w0 N0=>?_);refine Aa [0,1] [] sr (Ab (Aa [0,1,5] [] sr (Ap (Bq (fun k nx=>⟨[(0,V.str s),(1,V.int .i64 a),(5,V.int .i64 k)],[],nx,31⟩) (fun k=>(s.take k).all prb=true) s.length _ sm (AS.le_refl _) ?_))));intro k nx hk i;refine Ab (Aa [0,1,5,9] [] sr ?_)
 refine Ao (fun h1=>Ae ?_) (fun h1=>?_)
 ·have c:k<s.length:=by simp at h1;omega
  have C9:=A7 (k:=k) om;have j:Hs s k=some s[k]:=by rw [C1];simp [c]
  have g:prb s[k]=true->(s.take (k+1)).all prb=true:=fun h=>by rw [A3 c,Iw,i];simp [h]
  have f:prb s[k]=false->s.all prb=false:=fun h=>by rw [Jr];exact⟨s[k],Aw c,by rw [h];simp⟩
  have d:prb s[k]=(decide (32<=s[k].toNat)&&decide (s[k].toNat<=126)):=rfl;generalize s[k]=b at*;refine Ab (Ap (Aa [0,1,5,21] [] (by simp [c,j]<;>rfl) ?_))
  refine Ao (fun h2=>?_) (fun h2=>Ae ?_)
  ·exact Aa [4] [] sr (Ak (Ad sr (by rw [f (by rw [d];simp at h2|-;omega)];rfl)))
  refine A2 [0,1,5] [] (by simp [C9]<;>rfl) ?_;exact⟨c,g (by rw [d];simp at h2|-;omega),_,AS.le_refl _⟩
 ·refine A9 ?_;have e:k=s.length:=by simp at h1;omega
  rw [e,Bo]at i;exact Aa [4] [] sr (Ak (Ad sr (by rw [i];simp)))
def A4o(l:List Int)(c a:Int)(k:Nat):Bool:= !Jj (l.getD k 0) c a||(decide (0<k)&&decide (l.getD k 0<=l.getD (k-1) 0))
def Ap8(l:List Int)(c a:Int):Bool:= !(List.range l.length).any (A4o l c a)
theorem As7(l:List Int)(e d:Int)(hl:l.length<=4000000000):AC prog 97 [.ro 1 (As l),.int .i64 e,.int .i64 d] (fun r=>r=.bool (Ap8 l e d)):=by
 have ad:=fun n=>Q1 n e d
 have qe:=fun(k:Nat)(h:k<l.length)=>Dj h
 have le:=A5 l;have pl:=Af l;unfold Ap8;have ab:∀k,A4o l e d k=(!Jj (l.getD k 0) e d||(decide (0<k)&&decide (l.getD k 0<=l.getD (k-1) 0))):=fun k=>rfl
 generalize As l=s,A4o l e d=u at*;refine Ay func97 (fun w0 N0=>?_);refine Aa [0,1,2] [] sr (Ab (Aa [0,1,2,9,10,11] [] sr (Ap (Bq (fun k nx=>⟨[(0,V.ro 1 s),(1,V.int .i64 e),(2,V.int .i64 d),(9,V.ro 1 s),(10,V.int .i64 s.length),(11,V.int .i64 k)],[],nx,35⟩) (fun k=>((List.range l.length).take k).any u=false) l.length _ sm (AS.le_refl _) ?_))));intro k nx hk hI;refine Aa [0,1,2,9,10,11,12] [] sr (Ab ?_)
 refine Ao (fun h1=>Ae ?_) (fun h1=>?_)
 ·have c:k<l.length:=by simp at h1;omega
  have t:k<s.length:=om;have ga:=qe k c;have hb:=ab k;have C9:=A7 (k:=k) om;have o:=fun h=>Ii l.length k u c hI h
  have i:=fun h=>Nd (f:=u) c h
  have z:∀j,k=j+1->u k=(!Jj (l.getD k 0) e d||decide (l.getD k 0<=l.getD j 0)):=fun j hj=>by rw [hb,hj];simp
  generalize l.getD k 0=x at*;have a:=ad x;refine Ab (Ap (Aa [0,1,2,7,8,9,10,11] [] (by simp [ga,t]<;>rfl) ?_))
  cases hfd:Jj x e d
  ·rw [hfd]at a;refine Ab (Ac (Am 3 sr ?_));refine Ai a func93 ?_;refine Am 2 sr ?_;refine M8 11 sr ?_;refine Ag [0,1,2,9,10,11,33] [] sr ?_;refine A6 rfl (fun h2=>?_) (fun h2=>by simp at h2);exact Aa [6] [] sr (Ak (Ad sr (by rw [i (by rw [hb,hfd];rfl)];rfl)))
  rw [hfd]at a
  rcases k with _ |j
  ·refine Ab (Ac (Am 3 sr ?_));refine Ai a func93 ?_;refine Am 5 sr ?_;refine M8 7 sr ?_;refine Ag [0,1,2,9,10,11,33] [] sr ?_;refine A6 rfl (fun h2=>by simp at h2) (fun h2=>Ae (A2 [0,1,2,9,10,11] [] (by simp<;>rfl) ?_));exact⟨c,o (by rw [hb,hfd];simp),_,AS.le_refl _⟩
  ·have gp:=qe j om;have aa:j<s.length:=om;have w:IntKind.i64.wrap (((j+1:Nat):Int)-1)=(j:Int):=by rw [Bb om (by omega)];omega
   have m:IntKind.i64.wrap (j:Int)=(j:Int):=Bb om om;have g:=z j rfl;generalize l.getD j 0=y at*;refine Ab (Ac (Am 3 sr ?_));refine Ai a func93 ?_;refine Ag [0,1,2,9,10,11,33] [] (by simp [gp,aa,m,-Int.natCast_add]<;>rfl) ?_
   refine Ao (fun h2=>?_) (fun h2=>Ae ?_)
   ·exact Aa [6] [] sr (Ak (Ad sr (by rw [i (by rw [g,hfd];simpa using h2)];rfl)))
   have Pq:IntKind.i64.wrap ((j:Int)+1+1)=((j+1+1:Nat):Int):=by rw [Bb om (by omega)];omega
   refine A2 [0,1,2,9,10,11] [] (by simp [Pq,-Int.natCast_add]<;>rfl) ?_;exact⟨c,o (by rw [g,hfd];simpa using h2),_,AS.le_refl _⟩
 ·refine A9 ?_;have ae:k=l.length:=by simp at h1;omega
  rw [ae,Bf (by simp)]at hI;exact Aa [6] [] sr (Ak (Ad sr (by rw [hI];rfl)))
def Avx(it:It):Bool:=
 if 3<it.kind/\(it.opts≠ []\/it.ch≠ [])then false
 else if it.kind≠4/\(it.val≠0\/it.tol≠0)then false
 else(decide (it.kind=5)||decide (it.txts= []))&&(decide (it.kind=6)||decide (it.rub=0))
theorem A8t(it:It):AC prog 95 [it.v] (fun r=>r=.bool (Avx it)):=by
 unfold Avx;have d:it.v=V.agg [.int .i64 it.id,.int .i64 it.ver,.int .i64 it.kind,.str it.stem,.ro 1 (D6 it.opts),.ro 1 (As it.ch),.int .i64 it.val,.int .i64 it.tol,.ro 1 (D6 it.txts),.int .i64 it.pts,.str it.code,.int .i64 it.fam,.int .i64 it.set,.int .i64 it.wo,.int .i64 it.se,.ro 1 (As it.ass),.int .i64 it.rub]:=rfl;rw [d];have i1:=Ct it.opts;have i2:=Af it.ch;have i3:=Ct it.txts;have i4:=Af it.ass;have f:=Fb it.opts;have h:=A5 it.ch;have g:=Fb it.txts;have j:=A5 it.ass;generalize D6 it.opts=k,As it.ch=i,D6 it.txts=l,As it.ass=av at*;have c:k= []↔it.opts= []:=by rw [<- Ar,f,Ar]
 have a:i= []↔it.ch= []:=by rw [<- Ar,h,Ar]
 have e:l= []↔it.txts= []:=by rw [<- Ar,g,Ar]
 refine Ay func95 (fun w0 N0=>?_);refine Aa [1] [1] sr (Ab (Aa [1,17] [1] sr ?_))
 refine Ao (fun h1=>?_) (fun h1=>Ae ?_)
 ·exact Aa [2] [] sr (Ak (Ad sr (by rw [if_pos (by simpa [Ew,c,a]using h1)])))
 rw [if_neg (by simpa [Ew,c,a]using h1)];refine Ab (Aa [1,30] [1] sr ?_)
 refine Ao (fun h2=>?_) (fun h2=>Ae ?_)
 ·exact Aa [2] [] sr (Ak (Ad sr (by rw [if_pos (by simpa using h2)])))
 rw [if_neg (by simpa using h2)];exact Aa [2] [] sr (Ak (Ad sr (by simp [e])))
section
open Go.RowKit Go.Sort Go.Lib
def Ayn(s:List UInt8)(a b:UInt8):List UInt8:=Lib.replaceAll s [a] [b]
theorem A4p(s:List UInt8)(a b:UInt8)(hs:s.length<4294967281):Hm gv prog 138 [.str s,.str [a],.str [b]] (fun r=>r=.str (Ayn s a b)):=by
 intro w N xs g _ h hp
 obtain⟨x,y,z,rfl,d,f,c⟩:∃x y z,xs= [x,y,z]/\Pur w N x (.str s)/\Pur w N y (.str [a])/\Pur w N z (.str [b]):=by
  match xs,h with
  | [x,y,z],_ =>exact⟨x,y,z,rfl,hp 0 x _ rfl rfl,hp 1 y _ rfl rfl,hp 2 z _ rfl rfl⟩
 cases d;cases f;cases c
 obtain⟨m,i⟩:=g;have j:(⟨s.toArray⟩:ByteArray).size=s.length:=by rw [Lib.size_eq]
 have h1:(⟨#[a]⟩:ByteArray).size=1:=rfl;have hc:=Lib.countB_le ⟨#[a]⟩ (Js h1.symm) _ ⟨s.toArray⟩ (A8 _);refine(strings_ReplaceAll ⟨s.toArray⟩ ⟨#[a]⟩ ⟨#[b]⟩ m w om i (Js h1.symm) (by show _ +_ *1<=_;omega)).mono ?_;rintro e w'⟨rfl,k⟩;exact⟨_,_,rfl,rfl,.str _,k⟩
theorem A8u(s sub:List UInt8)(hs:s.length<4294967281):Hm gv prog 178 [.str s,.str sub] (fun r=>r=.bool (Lib.contains s sub)):=by
 intro w N xs d _ f hp;obtain⟨x,y,rfl,a,c⟩:=Aoh f hp;cases a;cases c
 obtain⟨m,g⟩:=d;refine(strings_Contains ⟨s.toArray⟩ ⟨sub.toArray⟩ m w (by rw [Lib.size_eq];simpa using hs) g).mono ?_;rintro e w'⟨rfl,rfl⟩;exact⟨_,_,rfl,rfl,.bool _,Below.refl _ _⟩
end
def sfB(s:List UInt8):Bool:=decide (1<=s.length)&&decide (s.drop (s.length-1)= [32])
theorem Ayo(s:List UInt8)(d:s.length<=4000000000):AC prog 219 [.str s,.str [32]] (fun r=>r=.bool (sfB s)):=by
 unfold sfB
 by_cases hs:s= []
 ·subst hs;refine Ay func219 (fun w0 N0=>?_);refine Aa [0,1] [] sr (Ab (Ac (Am 6 sr ?_)));refine M8 9 sr ?_;refine Ag [4] [] sr ?_;exact Ak (Ad sr rfl)
 ·have c:1<=s.length:=Ew.2 hs;have a:(1:Int)<=s.length:=om;have g:IntKind.i64.wrap ((s.length:Int)-1)=((s.length-1:Nat):Int):=by rw [Bb om (by omega)];omega
  have e:((s.length-1:Nat):Int)<=s.length:=om;have f:(s.drop (s.length-1)).take (s.length-(s.length-1))=s.drop (s.length-1):=Bf sm;refine Ay func219 (fun w0 N0=>?_);refine Aa [0,1] [] sr ?_;exact Aa [4] [] (by simp [a,g,e,f]<;>rfl) (Ak (Ad sr (by simp [c])))
theorem Amg(s:List UInt8)(c:s.length<=4000000000):AC prog 177 [.str s,.str [32]] (fun r=>r=.bool (sfB s)):=by
 have a:=Ayo s c;generalize sfB s=b at*;refine Ay func177 (fun w0 N0=>?_);refine Aa [0,1] [] sr (Ab (Ac (Am 2 sr ?_)));refine Ai a func219 ?_;refine Ag [4] [] sr ?_;exact Ak (Ad sr (rfl))
def nrm(b:UInt8):Bool:=decide ((b.toNat:Int)=32)||Jj b.toNat 97 122||Jj b.toNat 48 57
def Ayp(s:List UInt8):Bool:=if s.all nrm=false then false else !Axy s [32]&& !sfB s&& !Lib.contains s [32,32]
theorem A8v(s:List UInt8)(hs:s.length<=4000000000):Hm gv prog 141 [.str s] (fun r=>r=.bool (Ayp s)):=by
 have g:=Q1;have j:=Zq s [32];have l:=Amg s hs;have i:=A8u s [32,32] om;unfold Ayp;generalize Axy s [32]=hp,sfB s=y,Lib.contains s [32,32]=ct at*;refine Bx func141 (fun w0 N0 x=>?_);refine Aa [0] [] sr (Ab (Aa [0,3] [] sr (Ap (Bq (fun k nx=>⟨[(0,V.str s),(3,V.int .i64 k)],[],nx,43⟩) (fun k=>(s.take k).all nrm=true) s.length _ sm (AS.le_refl _) ?_))));intro k nx hk u;refine Ab (Aa [0,3,7] [] sr ?_)
 refine Ao (fun h1=>Ae ?_) (fun h1=>?_)
 ·have a:k<s.length:=by simp at h1;omega
  have C9:=A7 (k:=k) om;have w:Hs s k=some s[k]:=by rw [C1];simp [a]
  have t:nrm s[k]=true->(s.take (k+1)).all nrm=true:=fun h=>by rw [A3 a,Iw,u];simp [h]
  have o:nrm s[k]=false->s.all nrm=false:=fun h=>by rw [Jr];exact⟨s[k],Aw a,by rw [h];simp⟩
  have f:nrm s[k]=(decide ((s[k].toNat:Int)=32)||Jj s[k].toNat 97 122||Jj s[k].toNat 48 57):=rfl;have d:IntKind.i64.wrap (s[k].toNat:Int)=(s[k].toNat:Int):=by have:=s[k].toNat_lt;rw [Bb om (by omega)]
  generalize s[k]=b at*;refine Ab (Ap (Ab (Ac (Am 9 (by simp [a,w,d]<;>rfl) ?_))));refine De (c:= !decide ((b.toNat:Int)=32)) (fun m=>g b.toNat 97 122) func93 rfl kr sr rfl rfl sr sm sr ?_;refine Am 7 (by simp [w,d]<;>rfl) ?_;refine De (c:= !decide ((b.toNat:Int)=32)&& !Jj b.toNat 97 122) (fun m=>g b.toNat 48 57) func93 rfl kr sr rfl rfl sr sm sr ?_;refine Ag [0,3,29] [] sr ?_
  refine Ao (fun h2=>?_) (fun h2=>Ae ?_)
  ·exact Aa [2] [] sr (Ak (Ad sr (by rw [if_pos (o (by rw [f];simpa [and_assoc]using h2))])))
  refine A2 [0,3] [] (by simp [C9]<;>rfl) ?_;exact⟨a,t (by rw [f];by_cases e:(b.toNat:Int)=32<;>cases e2:Jj b.toNat 97 122<;>simp_all),_,AS.le_refl _⟩
 ·refine A9 ?_;have n:k=s.length:=by simp at h1;omega
  rw [n,Bo]at u;rw [if_neg (by rw [u];simp)];refine Ab (Ac (Am 1 sr ?_));refine Ai j func168 ?_;refine Am 3 sr ?_;refine De (c:= !hp) (fun m=>l) func177 rfl kr sr rfl rfl sr sm sr ?_;refine Am 4 sr ?_;refine On (c:= !hp&& !y) x (fun m=>i) func178 rfl kr sr rfl rfl sr sm sr ?_;refine Ag [2] [] sr ?_;exact Ak (Ad sr sm)
def A8w(it:It):Bool:=
 if prB (Ayn it.stem 10 32) 2000=false then false
 else if it.opts.all (fun s=>prB s 200)=false then false
 else if it.txts.all (fun s=>prB s 200)=false then false else Ow it.code
structure It.small(it:It):Prop where
 stem:it.stem.length<=2000000
 opts:it.opts.length<=2000000/\∀s∈it.opts,s.length<=2000000
 txts:it.txts.length<=2000000/\∀s∈it.txts,s.length<=2000000
 ch:it.ch.length<=2000000
 ass:it.ass.length<=2000000
theorem Akd(a b:UInt8):∀(k:Nat)(s:List UInt8),(Lib.replaceK [a] [b] k s).length<=s.length+k
 |0,s=>by simp [Lib.replaceK]
 |k+1,s=>by
  rw [Lib.replaceK]
  split
  ·omega
  ·have ih:=Akd a b k (s.drop ((Lib.index s [a]).toNat+[a].length));simp only [Bi,B9,F9,Bc,B0]at ih|-;omega
theorem A4q(s:List UInt8)(hs:s.length<=2000000):(Ayn s 10 32).length<=4000001:=by
 have a:=Lib.count_le s [10];have h1:=Akd 10 32 (Lib.replaceNum s [10] (-1)) s
 have h2:Lib.replaceNum s [10] (-1)<=s.length+1:=by
  unfold Lib.replaceNum;rw [if_pos (by omega)];exact a
 unfold Ayn Lib.replaceAll Lib.replace;split<;>omega
theorem A4r(it:It)(u:it.small):Hm gv prog 94 [it.v] (fun r=>r=.bool (A8w it)):=by
 have af:=u.stem;have ho:=u.opts.1;have ht:=u.txts.1;have w:=A4p it.stem 10 32 om;have t:=As6 (Ayn it.stem 10 32) 2000 (by have:=A4q it.stem af;omega);have i:=fun(k:Nat)(h:k<it.opts.length)=>As6 (it.opts.getD k []) 200 (Aj (He u.opts.2 h []) dc)
 have l:=fun(k:Nat)(h:k<it.txts.length)=>As6 (it.txts.getD k []) 200 (Aj (He u.txts.2 h []) dc)
 have ad:=X0 it.code;have qo:=fun(k:Nat)(h:k<it.opts.length)=>Aae h
 have qt:=fun(k:Nat)(h:k<it.txts.length)=>Aae h
 unfold A8w;generalize prB (Ayn it.stem 10 32) 2000=b1,Ow it.code=b4 at*;generalize ab:(fun s:List UInt8=>prB s 200)=c at*;have f:∀s,prB s 200=c s:=fun s=>by rw [<- ab]
 have ag:it.v=V.agg [.int .i64 it.id,.int .i64 it.ver,.int .i64 it.kind,.str it.stem,.ro 1 (D6 it.opts),.ro 1 (As it.ch),.int .i64 it.val,.int .i64 it.tol,.ro 1 (D6 it.txts),.int .i64 it.pts,.str it.code,.int .i64 it.fam,.int .i64 it.set,.int .i64 it.wo,.int .i64 it.se,.ro 1 (As it.ass),.int .i64 it.rub]:=rfl;rw [ag];have i1:=Ct it.opts;have i2:=Af it.ch;have i3:=Ct it.txts;have i4:=Af it.ass;have ae:=Fb it.opts;have aa:=A5 it.ch;have z:=Fb it.txts;have ak:=A5 it.ass;generalize D6 it.opts=o,As it.ch=cv,D6 it.txts=n,As it.ass=av at*;have ah:o= []↔it.opts= []:=by rw [<- Ar,ae,Ar]
 have aj:cv= []↔it.ch= []:=by rw [<- Ar,aa,Ar]
 have ai:n= []↔it.txts= []:=by rw [<- Ar,z,Ar]
 refine Bx func94 (fun w0 N0 hG=>?_);refine Aa [1] [1] sr (Ab (Ab (Ac (Am 2 sr ?_))));refine Be hG w func138 ?_;refine Ai t func137 ?_;refine Ag [1,11] [1] sr ?_
 refine Ao (fun h1=>?_) (fun h1=>Ae ?_)
 ·exact Aa [2] [] sr (Ak (Ad sr (by rw [if_pos (by simpa using h1)])))
 rw [if_neg (by simpa using h1)];refine Ab (Aa [1,13,14,15] [1] sr (Ap (Bq (fun k nx=>⟨[(1,V.bp 1 0 17 0 0),(13,V.ro 1 o),(14,V.int .i64 o.length),(15,V.int .i64 k)],[(1,⟨0,17,93,[V.agg [.int .i64 it.id,.int .i64 it.ver,.int .i64 it.kind,.str it.stem,.ro 1 o,.ro 1 cv,.int .i64 it.val,.int .i64 it.tol,.ro 1 n,.int .i64 it.pts,.str it.code,.int .i64 it.fam,.int .i64 it.set,.int .i64 it.wo,.int .i64 it.se,.ro 1 av,.int .i64 it.rub]]⟩)],nx,37⟩) (fun k=>(it.opts.take k).all c=true) it.opts.length _ sm (AS.le_refl _) ?_)));intro k nx hk hI;refine Aa [1,13,14,15,16] [1] sr (Ab ?_)
 refine Ao (fun h2=>Ae ?_) (fun h2=>?_)
 ·have a:k<it.opts.length:=by simp at h2;omega
  have e:k<o.length:=om;have ga:=qo k a;have C9:=A7 (k:=k) om;have x:=i k a;rw [f]at x;have d:c (it.opts.getD k [])=true->(it.opts.take (k+1)).all c=true:=fun h=>by rw [A3 a,Iw,hI];rw [Cf a]at h;simp [h]
  have j:c (it.opts.getD k [])=false->it.opts.all c=false:=fun h=>by rw [Cf a]at h;rw [Jr];exact⟨_,Aw a,by rw [h];simp⟩
  generalize it.opts.getD k []=s at*;refine Ab (Ap (Aa [1,4,13,14,15] [1] (by simp [ga,e]<;>rfl) (Ab (Ac (Am 1 sr ?_)))));refine Ai x func137 ?_;refine Ag [1,13,14,15,21] [1] sr ?_
  refine Ao (fun h3=>?_) (fun h3=>Ae ?_)
  ·exact Aa [2] [] sr (Ak (Ad sr (by rw [if_pos (j (by simpa using h3))])))
  refine A2 [1,13,14,15] [1] (by simp [C9]<;>rfl) ?_;exact⟨a,d (by simpa using h3),_,AS.le_refl _⟩
 ·refine A9 ?_;have m:k=it.opts.length:=by simp at h2;omega
  rw [m,Bo]at hI;rw [if_neg (by rw [hI];simp)];refine Ab (Aa [1,24,25,26] [1] sr (Ap (Bq (fun k nx=>⟨[(1,V.bp 1 0 17 0 0),(24,V.ro 1 n),(25,V.int .i64 n.length),(26,V.int .i64 k)],[(1,⟨0,17,93,[V.agg [.int .i64 it.id,.int .i64 it.ver,.int .i64 it.kind,.str it.stem,.ro 1 o,.ro 1 cv,.int .i64 it.val,.int .i64 it.tol,.ro 1 n,.int .i64 it.pts,.str it.code,.int .i64 it.fam,.int .i64 it.set,.int .i64 it.wo,.int .i64 it.se,.ro 1 av,.int .i64 it.rub]]⟩)],nx,37⟩) (fun k=>(it.txts.take k).all c=true) it.txts.length _ sm (AS.le_refl _) ?_)));intro k nx hk g;refine Aa [1,24,25,26,27] [1] sr (Ab ?_)
  refine Ao (fun y=>Ae ?_) (fun y=>?_)
  ·have a:k<it.txts.length:=by simp at y;omega
   have e:k<n.length:=om;have ga:=qt k a;have C9:=A7 (k:=k) om;have x:=l k a;rw [f]at x;have d:c (it.txts.getD k [])=true->(it.txts.take (k+1)).all c=true:=fun h=>by rw [A3 a,Iw,g];rw [Cf a]at h;simp [h]
   have j:c (it.txts.getD k [])=false->it.txts.all c=false:=fun h=>by rw [Cf a]at h;rw [Jr];exact⟨_,Aw a,by rw [h];simp⟩
   generalize it.txts.getD k []=s at*;refine Ab (Ap (Aa [1,6,24,25,26] [1] (by simp [ga,e]<;>rfl) (Ab (Ac (Am 1 sr ?_)))));refine Ai x func137 ?_;refine Ag [1,24,25,26,32] [1] sr ?_
   refine Ao (fun h5=>?_) (fun h5=>Ae ?_)
   ·exact Aa [2] [] sr (Ak (Ad sr (by rw [if_pos (j (by simpa using h5))])))
   refine A2 [1,24,25,26] [1] (by simp [C9]<;>rfl) ?_;exact⟨a,d (by simpa using h5),_,AS.le_refl _⟩
  ·refine A9 ?_;have m:k=it.txts.length:=by simp at y;omega
   rw [m,Bo]at g;rw [if_neg (by rw [g];simp)];refine Ab (Ac (Am 2 sr ?_));refine Be hG ad func90 ?_;refine Ag [2] [] sr ?_;exact Ak (Ad sr (rfl))
theorem As8(l:List Int):AC prog 140 [.ro 1 (As l)] (fun r=>r=.fc 176 [] [.rp (.ro 1 (As l))]):=by
 have pl:=Af l;generalize As l=lv at*;refine Ay func140 (fun w0 N0=>?_);refine Aa [1] [1] sr (Bt 1 [1] [] (by simp<;>rfl) (Aa [2] [] sr ?_));exact Ak (Ad (by simp [results140]<;>rfl) (rfl))
def Ic:Prop:=∀l:List Int,l.length<=2000000->AC prog 139 [.fc 176 [] [.rp (.ro 1 (As l))]] (fun r=>r=.ro 1 (As (Kw l)))
def leS(a b:List UInt8):Bool:=Op.bytesLess a b||decide (a=b)
def Bcq(l:List (List UInt8))(k:Nat):Bool:= !Ayp (l.getD k [])||(decide (0<k)&&leS (l.getD k []) (l.getD (k-1) []))
def Adb(it:It):Bool:=
 if it.kind=1 then decide (1<=(it.opts.length:Int)-1)&&decide ((it.ch.length:Int)=1)&&Jj (it.ch.getD 0 0) 0 ((it.opts.length:Int)-1)
 else if it.kind=2 then decide (1<=(it.opts.length:Int)-1)&&decide ((1:Int)<=it.ch.length)&&Ap8 it.ch 0 ((it.opts.length:Int)-1)
 else if it.kind=3 then decide (1<=(it.opts.length:Int)-1)&&decide ((it.ch.length:Int)=it.opts.length)&&Ap8 (Kw it.ch) 0 ((it.opts.length:Int)-1)
 else if it.kind=4 then Jj it.val (-9999999) 9999999&&Jj it.tol 0 9999999
 else if it.kind=5 then(if(List.range it.txts.length).any (Bcq it.txts)=true then false else decide ((1:Int)<=it.txts.length))
 else decide (1<=it.rub)
theorem A4s(hS:Ic)(it:It)(hi:it.small):Hm gv prog 96 [it.v] (fun r=>r=.bool (Adb it)):=by
 have ho:=hi.opts.1;have ht:=hi.txts.1;have hc:=hi.ch;have m:=Q1;have aw:=As7 it.ch 0 ((it.opts.length:Int)-1) om;have ab:=As7 (Kw it.ch) 0 ((it.opts.length:Int)-1) (by rw [Oz];omega);have ah:=As8 it.ch;have ad:=hS it.ch hc;have s:=fun(k:Nat)(h:k<it.txts.length)=>A8v (it.txts.getD k []) (Aj (He hi.txts.2 h []) dc)
 have qt:=fun(k:Nat)(h:k<it.txts.length)=>Aae h
 have qc:=fun(k:Nat)(h:k<it.ch.length)=>Dj h
 have l:=Af (Kw it.ch);have aq:∀k,Bcq it.txts k=(!Ayp (it.txts.getD k [])||(decide (0<k)&&leS (it.txts.getD k []) (it.txts.getD (k-1) []))):=fun k=>rfl
 have am:IntKind.i64.wrap ((it.opts.length:Int)-1)=(it.opts.length:Int)-1:=Bb om om;have ae:IntKind.i64.wrap ((it.opts.length:Int)-1+1)=(it.opts.length:Int):=by rw [Bb om (by omega)];omega
 have t:IntKind.i64.wrap (it.opts.length:Int)=(it.opts.length:Int):=Bb om om;unfold Adb;generalize Ap8 (Kw it.ch) 0 ((it.opts.length:Int)-1)=rs,Ap8 it.ch 0 ((it.opts.length:Int)-1)=rc,As (Kw it.ch)=sv,Bcq it.txts=be at*;have ay:it.v=V.agg [.int .i64 it.id,.int .i64 it.ver,.int .i64 it.kind,.str it.stem,.ro 1 (D6 it.opts),.ro 1 (As it.ch),.int .i64 it.val,.int .i64 it.tol,.ro 1 (D6 it.txts),.int .i64 it.pts,.str it.code,.int .i64 it.fam,.int .i64 it.set,.int .i64 it.wo,.int .i64 it.se,.ro 1 (As it.ass),.int .i64 it.rub]:=rfl;rw [ay];have i1:=Ct it.opts;have i2:=Af it.ch;have i3:=Ct it.txts;have i4:=Af it.ass;have af:=Fb it.opts;have e:=A5 it.ch;have w:=Fb it.txts;have a1:=A5 it.ass;generalize D6 it.opts=ov,As it.ch=i,D6 it.txts=n,As it.ass=av at*;have az:ov= []↔it.opts= []:=by rw [<- Ar,af,Ar]
 have al:i= []↔it.ch= []:=by rw [<- Ar,e,Ar]
 have a0:n= []↔it.txts= []:=by rw [<- Ar,w,Ar]
 refine Bx func96 (fun w0 N0 hG=>?_);refine Aa [1] [1] sr (Aa [1,3] [1] (by simp [af,am]<;>rfl) (Ab (Aa [1,3,11] [1] sr (Ap (Aa [1,3,11,12] [1] sr ?_)))))
 refine Ao (fun h1=>?_) (fun h1=>?_)
 ·rw [if_pos (by simpa using h1)]
  by_cases he:it.ch= []
  ·have an:=al.2 he;refine Ab (Ac (Am 9 (by simp [an]<;>rfl) ?_));refine M8 6 sr ?_;refine Ag [2] [] sr ?_;exact Ak (Ad sr (by simp [he]))
  have ar:0<it.ch.length:=Ew.2 he;have g0:=qc 0 ar;have ax:0<i.length:=om;have cw:=m (it.ch.getD 0 0) 0 ((it.opts.length:Int)-1);generalize it.ch.getD 0 0=x0 at*;refine Ab (Ac (Am 14 (by simp [g0,ax]<;>rfl) ?_));refine De (c:=decide (1<=(it.opts.length:Int)-1)&&decide ((i.length:Int)=1)) (fun o=>cw) func93 rfl kr sr rfl rfl sr sm sr ?_;refine Ag [2] [] sr ?_;exact Ak (Ad sr (by simp [e]))
 ·rw [if_neg (by simpa using h1)];refine Aa [1,3,11,30] [1] sr ?_
  refine Ao (fun h2=>?_) (fun h2=>?_)
  ·rw [if_pos (by simpa using h2)];refine Ab (Ac (Am 12 sr ?_));refine De (c:=decide (1<=(it.opts.length:Int)-1)&&decide (1<=(i.length:Int))) (fun o=>aw) func97 rfl kr sr rfl rfl sr (by simp) sr ?_;refine Ag [2] [] sr ?_;exact Ak (Ad sr (by simp [e]))
  ·rw [if_neg (by simpa using h2)];refine Aa [1,3,11,46] [1] sr ?_
   refine Ao (fun h3=>?_) (fun h3=>?_)
   ·rw [if_pos (by simpa using h3)];refine Ab (Ac (Am 13 (by simp [t]<;>rfl) ?_));refine De (c:=decide (1<=(it.opts.length:Int)-1)&&decide ((i.length:Int)=it.opts.length)) (fun o=>ah) func140 rfl kr sr rfl rfl sr (by simp) sr ?_;refine De (c:=decide (1<=(it.opts.length:Int)-1)&&decide ((i.length:Int)=it.opts.length)) (fun o=>ad) func139 rfl kr sr rfl rfl sr (by simp) sr ?_;refine Am 1 sr ?_;refine De (c:=decide (1<=(it.opts.length:Int)-1)&&decide ((i.length:Int)=it.opts.length)) (fun o=>ab) func97 rfl kr sr rfl rfl sr (by simp) sr ?_;refine Ag [2] [] sr ?_;exact Ak (Ad sr (by simp [e]))
   ·rw [if_neg (by simpa using h3)];refine Aa [1,11,66] [1] sr ?_
    refine Ao (fun h4=>?_) (fun h4=>?_)
    ·rw [if_pos (by simpa using h4)];refine Ab (Ac (Am 2 sr ?_));refine Ai (m it.val (-9999999) 9999999) func93 ?_;refine Am 3 sr ?_;refine De (c:=Jj it.val (-9999999) 9999999) (fun o=>m it.tol 0 9999999) func93 rfl kr sr rfl rfl sr sm sr ?_;refine Ag [2] [] sr ?_;exact Ak (Ad sr sm)
    ·rw [if_neg (by simpa using h4)];refine Aa [1,76] [1] sr ?_
     refine Ao (fun h5=>?_) (fun h5=>Ae ?_)
     ·rw [if_pos (by simpa using h5)];refine Ab (Aa [1,79,80,81] [1] sr (Ap (Bq (fun k nx=>⟨[(1,V.bp 1 0 17 0 0),(79,V.ro 1 n),(80,V.int .i64 n.length),(81,V.int .i64 k)],[(1,⟨0,17,93,[V.agg [.int .i64 it.id,.int .i64 it.ver,.int .i64 it.kind,.str it.stem,.ro 1 ov,.ro 1 i,.int .i64 it.val,.int .i64 it.tol,.ro 1 n,.int .i64 it.pts,.str it.code,.int .i64 it.fam,.int .i64 it.set,.int .i64 it.wo,.int .i64 it.se,.ro 1 av,.int .i64 it.rub]]⟩)],nx,111⟩) (fun k=>((List.range it.txts.length).take k).any be=false) it.txts.length _ sm (AS.le_refl _) ?_)));intro k nx hk hI;refine Aa [1,79,80,81,82] [1] sr (Ab ?_)
      refine Ao (fun h6=>Ae ?_) (fun h6=>?_)
      ·have d:k<it.txts.length:=by simp at h6;omega
       have ai:k<n.length:=om;have ga:=qt k d;have hb:=aq k;have C9:=A7 (k:=k) om;have ag:=fun h=>Ii it.txts.length k be d hI h
       have z:=fun h=>Nd (f:=be) d h
       have ak:∀j,k=j+1->be k=(!Ayp (it.txts.getD k [])||leS (it.txts.getD k []) (it.txts.getD j [])):=fun j hj=>by rw [hb,hj];simp
       have a:=s k d;generalize it.txts.getD k []=x at*;refine Ab (Ap (Aa [1,4,5,79,80,81] [1] (by simp [ga,ai]<;>rfl) ?_))
       cases hfd:Ayp x
       ·rw [hfd]at a;refine Ab (Ac (Am 1 sr ?_));refine Be hG a func141 ?_;refine Am 2 sr ?_;refine M8 12 sr ?_;refine Ag [1,79,80,81,102] [1] sr ?_;refine A6 rfl (fun g=>?_) (fun g=>by simp at g);exact Aa [2] [] sr (Ak (Ad sr (by rw [if_pos (z (by rw [hb,hfd];rfl))])))
       rw [hfd]at a
       rcases k with _ |j
       ·refine Ab (Ac (Am 1 sr ?_));refine Be hG a func141 ?_;refine Am 5 sr ?_;refine M8 8 sr ?_;refine Ag [1,79,80,81,102] [1] sr ?_;refine A6 rfl (fun g=>by simp at g) (fun g=>Ae (A2 [1,79,80,81] [1] (by simp<;>rfl) ?_));exact⟨d,ag (by rw [hb,hfd];simp),_,AS.le_refl _⟩
       ·have gp:=qt j om;have ao:j<n.length:=om;have aj:IntKind.i64.wrap (((j+1:Nat):Int)-1)=(j:Int):=by rw [Bb om (by omega)];omega
        have aa:IntKind.i64.wrap (j:Int)=(j:Int):=Bb om om;have Pq:IntKind.i64.wrap ((j:Int)+1+1)=((j+1+1:Nat):Int):=by rw [Bb om (by omega)];omega
        have u:=ak j rfl;generalize it.txts.getD j []=y at*;refine Ab (Ac (Am 1 sr ?_));refine Be hG a func141 ?_;refine Ag [1,79,80,81,102] [1] (by simp [gp,ao,aa,-Int.natCast_add]<;>rfl) ?_
        refine Ao (fun g=>?_) (fun g=>Ae ?_)
        ·exact Aa [2] [] sr (Ak (Ad sr (by rw [if_pos (z (by rw [u,hfd];unfold leS;simpa using g))])))
        refine A2 [1,79,80,81] [1] (by simp [Pq,-Int.natCast_add]<;>rfl) ?_;exact⟨d,ag (by rw [u,hfd];unfold leS;simpa using g),_,AS.le_refl _⟩
      ·refine A9 ?_;have au:k=it.txts.length:=by simp at h6;omega
       rw [au,Bf (by simp)]at hI;rw [if_neg (by rw [hI];simp)];exact Aa [2] [] sr (Ak (Ad sr (by simp [w])))
     rw [if_neg (by simpa using h5)];exact Aa [2] [] sr (Ak (Ad sr sm))
def Q2(it:It):Int:=
 if Avw it=false then 3 else if Jj it.kind 1 6=false then 1 else if A8w it=false then 2
 else if(10:Int)<it.opts.length\/(10:Int)<it.txts.length\/(8:Int)<it.ass.length then 5
 else if Avx it=false\/Adb it=false then 19 else if Ap8 it.ass 1 9999999=false then 23 else 0
theorem Ap9(hS:Ic)(it:It)(n:it.small):Hm gv prog 61 [it.v] (fun r=>r=.int .i64 (Q2 it)):=by
 have ha:=n.ass;have l:=A8s it;have x:=Q1 it.kind 1 6;have g:=A4r it n;have i:=A8t it;have j:=A4s hS it n;have w:=As7 it.ass 1 9999999 om;unfold Q2;generalize Avw it=b1,Jj it.kind 1 6=b2,A8w it=b3,Avx it=b4,Adb it=b5,Ap8 it.ass 1 9999999=b6 at*;have y:it.v=V.agg [.int .i64 it.id,.int .i64 it.ver,.int .i64 it.kind,.str it.stem,.ro 1 (D6 it.opts),.ro 1 (As it.ch),.int .i64 it.val,.int .i64 it.tol,.ro 1 (D6 it.txts),.int .i64 it.pts,.str it.code,.int .i64 it.fam,.int .i64 it.set,.int .i64 it.wo,.int .i64 it.se,.ro 1 (As it.ass),.int .i64 it.rub]:=rfl;rw [y]at l g i j|-;have e:=Ct it.opts;have f:=Af it.ch;have a:=Ct it.txts;have d:=Af it.ass;have k:=Fb it.opts;have o:=A5 it.ch;have h:=Fb it.txts;have z:=A5 it.ass;generalize D6 it.opts=ov,As it.ch=cv,D6 it.txts=xv,As it.ass=av at*;have aa:ov= []↔it.opts= []:=by rw [<- Ar,k,Ar]
 have ad:cv= []↔it.ch= []:=by rw [<- Ar,o,Ar]
 have ab:xv= []↔it.txts= []:=by rw [<- Ar,h,Ar]
 refine Bx func61 (fun w0 N0 hG=>?_);refine Aa [1] [1] sr (Ab (Ap (Ab (Ac (Am 1 sr ?_)))));refine Ai l func92 ?_ (hp:=by simp);refine Ag [1,3] [1] sr ?_
 refine Ao (fun h1=>?_) (fun h1=>?_)
 ·exact Aa [2] [] sr (Ak (Ad sr (by rw [if_pos (by simpa using h1)])))
 ·rw [if_neg (by simpa using h1)];refine Ab (Ac (Am 2 sr ?_));refine Ai x func93 ?_ (hp:=by simp);refine Ag [1,7] [1] sr ?_
  refine Ao (fun h2=>?_) (fun h2=>?_)
  ·exact Aa [2] [] sr (Ak (Ad sr (by rw [if_pos (by simpa using h2)])))
  ·rw [if_neg (by simpa using h2)];refine Ab (Ac (Am 1 sr ?_));refine Be hG g func94 ?_ (hp:=by simp);refine Ag [1,12] [1] sr ?_
   refine Ao (fun t=>?_) (fun t=>?_)
   ·exact Aa [2] [] sr (Ak (Ad sr (by rw [if_pos (by simpa using t)])))
   ·rw [if_neg (by simpa using t)];refine Aa [1,16] [1] (by simp [k,h,z]<;>rfl) ?_
    refine Ao (fun m=>?_) (fun m=>?_)
    ·exact Aa [2] [] sr (Ak (Ad sr (by rw [if_pos (by simpa [or_assoc]using m)])))
    ·rw [if_neg (by simpa [or_assoc,and_assoc]using m)];refine Ab (Ac (Am 1 sr ?_));refine Ai i func95 ?_ (hp:=by simp);refine Am 3 sr ?_;refine On (c:=b4) hG (fun hg=>j) func96 rfl kr sr rfl rfl sr (by simp) sr ?_;refine Ag [1,33] [1] sr ?_
     refine Ao (fun s=>?_) (fun s=>?_)
     ·exact Aa [2] [] sr (Ak (Ad sr (by rw [if_pos (by simpa using s)])))
     ·rw [if_neg (by simpa using s)];refine Ab (Ac (Am 2 sr ?_));refine Ai w func97 ?_ (hp:=by simp);refine Ag [42] [] sr ?_
      refine Ao (fun u=>?_) (fun u=>Ae ?_)
      ·exact Aa [2] [] sr (Ak (Ad sr (by rw [if_pos (by simpa using u)])))
      rw [if_neg (by simpa using u)];exact Aa [2] [] sr (Ak (Ad sr rf))
def Bcr(l:List Int)(k:Nat):Bool:=decide (l.getD (k+1) 0<=l.getD k 0)
def Ayq(l:List Int):Bool:= !(List.range (l.length-1)).any (Bcr l)
theorem Avy(l:List Int)(hl:l.length<=4000000000):AC prog 120 [.ro 1 (As l)] (fun r=>r=.bool (Ayq l)):=by
 have z:=fun(k:Nat)(h:k<l.length)=>Dj h
 have le:=A5 l;unfold Ayq;have j:∀k,Bcr l k=decide (l.getD (k+1) 0<=l.getD k 0):=fun k=>rfl
 generalize As l=d,Bcr l=g at*;refine Ay func120 (fun w0 N0=>?_);refine Aa [0] [] sr (Ab (Aa [0,3] [] sr (Ap (Bq (fun k nx=>⟨[(0,V.ro 1 d),(3,V.int .i64 ((k+1:Nat):Int))],[],nx,20⟩) (fun k=>((List.range (l.length-1)).take k).any g=false) (l.length-1) _ sm (AS.le_refl _) ?_))));intro k nx hk u;refine Ab (Aa [0,3,7] [] sr ?_)
 refine Ao (fun h1=>Ae ?_) (fun h1=>?_)
 ·have a:k<l.length-1:=by simp at h1;omega
  have i:k<d.length:=om;have w:k+1<d.length:=om;have n:((k:Int)+1)<d.length:=om;have m:(0:Int)<=(k:Int)+1:=om;have ga:=z k om;have gb:=z (k+1) om;have hb:=j k;have s:=fun h=>Ii (l.length-1) k g a u h
  have t:=fun h=>Nd (f:=g) a h
  generalize l.getD k 0=x,l.getD (k+1) 0=y at*;have o:IntKind.i64.wrap (((k+1:Nat):Int)-1)=(k:Int):=by rw [Bb om (by omega)];omega
  have c:IntKind.i64.wrap (k:Int)=(k:Int):=Bb om om;have Pq:IntKind.i64.wrap ((k:Int)+1+1)=((k+1+1:Nat):Int):=by rw [Bb om (by omega)];omega
  refine Ab (Ap (Di [(0,[]),(1,[]),(2,[]),(4,[]),(5,[]),(6,[]),(7,[]),(3,[]),(8,[]),(9,[])] [0,3,19] [] Dm kr (by simp [ga,gb,m,i,n,c,-Int.natCast_add]<;>rfl) ?_))
  refine Ao (fun h2=>?_) (fun h2=>Ae ?_)
  ·exact Aa [2] [] sr (Ak (Ad sr (by rw [t (by rw [hb];simpa using h2)];rfl)))
  refine A2 [0,3] [] (by simp [Pq,-Int.natCast_add]<;>rfl) ?_;exact⟨a,s (by rw [hb];simpa using h2),_,AS.le_refl _⟩
 ·refine A9 ?_;have e:k=l.length-1:=by simp at h1;omega
  rw [e,Bf (by simp)]at u;exact Aa [2] [] sr (Ak (Ad sr (by rw [u];rfl)))
def A8x(k:Int):Bool:=decide (k=1)||decide (k=2)||decide (k=3)
theorem Bcs(k:Int):AC prog 79 [.int .i64 k] (fun r=>r=.bool (A8x k)):=by
 unfold A8x;refine Ay func79 (fun w0 N0=>?_);refine Aa [0] [] sr ?_;exact Aa [2] [] sr (Ak (Ad sr (by simp [Bool.or_assoc])))
def A8y(k:Int):Bool:=decide (k=5)||decide (k=6)
theorem Bct(k:Int):AC prog 80 [.int .i64 k] (fun r=>r=.bool (A8y k)):=by
 unfold A8y;refine Ay func80 (fun w0 N0=>?_);refine Aa [0] [] sr ?_;exact Aa [2] [] sr (Ak (Ad sr (by simp)))
def Beu(n:Int)(c:Int):Bool:=decide (c<0)||decide (n<=c)
def A4t(it:It)(a:List Int):Bool:=
 if it.kind=1 then decide ((a.length:Int)=1)else if it.kind=2 then Ayq a
 else if it.kind=3 then decide ((a.length:Int)=it.opts.length)&&Ayq (Kw a)else false
def Amh(it:It)(a:List Int):Int:=if a.any (Beu it.opts.length)=true then 3 else if A4t it a=false then 23 else 0
theorem Xn(es:List V)(hp:es.all V.pureE=true)(c:es.all Ml=true)(f:es.length<=2000000):ACO prog 110 [.ro 1 es] 1 3 (fun F a=>(F=fun d q=>.sl d q 1 es.length)/\a=es):=by
 have e:es.length<=maxLen/\es.length*8<=140737488355328:=⟨Aj f dc,by omega⟩;refine Lj func110 (fun w0 N0=>?_);refine Aa [0] [] sr (Ab (Ab (Ac (Am 1 sr ?_))));refine Om rfl rfl sr rfl kr (fun b h=>⟨_,by simp<;>rfl,?_⟩);refine Ag [0,4] [] sr ?_
 refine Ao (fun h1=>?_) (fun h1=>Ae ?_)
 ·refine Aa [2] [] sr ?_;have g:=Ar.1 (h h1);subst g;refine F5 2 2 1 3 [2] [2] sr sr ?_;exact Ak (I6 2 sr rfl rfl sm sr ⟨rfl,rfl⟩)
 refine Aa [2] [5] (by simp [e]<;>rfl) ?_;exact Ak (I6 5 sr rfl rfl (by simpa using c) sr ⟨rfl,rfl⟩)
theorem Ami(es:List V)(hp:es.all V.pureE=true)(a:es.all Ml=true)(c:es.length<=2000000):AC prog 110 [.ro 1 es] (fun r=>r=.ro 1 es):=by
 refine(Xn es hp a c).ac ?_;rintro F d⟨rfl,rfl⟩;exact⟨_,by simp [hp]<;>rfl,rfl⟩
theorem Bcu(it:It)(ch:List Int)(hc:ch.length<=2000000)(ho:it.opts.length<=2000000):AC prog 81 [it.v,.ro 1 (As ch)] (fun r=>r=.int .i64 (Amh it ch)):=by
 have w:=Avy ch om;have g:=Avy (Kw ch) (by rw [Oz];omega);have m:=Xn (As ch) (Af ch) (Sq ch) (by rw [A5];omega);have am:=Afq ch om;have qc:=fun(k:Nat)(h:k<ch.length)=>Dj h
 have a:=A5 ch;have ab:=A5 (Kw ch);have o:=Af (Kw ch);have ag:=Sq ch;have aj:=Sq (Kw ch);have l:=Af ch;have aa:=Oz ch;unfold Amh A4t;generalize Ayq (Kw ch)=rs,Ayq ch=rc,As (Kw ch)=sv,As ch=t at*;generalize al:Beu it.opts.length=i at*;have ak:it.v=V.agg [.int .i64 it.id,.int .i64 it.ver,.int .i64 it.kind,.str it.stem,.ro 1 (D6 it.opts),.ro 1 (As it.ch),.int .i64 it.val,.int .i64 it.tol,.ro 1 (D6 it.txts),.int .i64 it.pts,.str it.code,.int .i64 it.fam,.int .i64 it.set,.int .i64 it.wo,.int .i64 it.se,.ro 1 (As it.ass),.int .i64 it.rub]:=rfl;rw [ak];have i1:=Ct it.opts;have i2:=Af it.ch;have i3:=Ct it.txts;have i4:=Af it.ass;have s:=Fb it.opts;have af:=A5 it.ch;have ad:=Fb it.txts;have ar:=A5 it.ass;generalize D6 it.opts=ov,As it.ch=cv,D6 it.txts=xv,As it.ass=av at*;have an:ov= []↔it.opts= []:=by rw [<- Ar,s,Ar]
 have aq:cv= []↔it.ch= []:=by rw [<- Ar,af,Ar]
 have ao:xv= []↔it.txts= []:=by rw [<- Ar,ad,Ar]
 refine Ay func81 (fun w0 N0=>?_);refine Aa [1,2] [2] sr (Aa [1,2,5] [2] sr (Ab (Aa [1,2,5,13,14,15] [2] sr (Ap (Bq (fun k nx=>⟨[(1,V.ro 1 t),(2,V.bp 2 0 17 0 0),(5,V.int .i64 it.opts.length),(13,V.ro 1 t),(14,V.int .i64 t.length),(15,V.int .i64 k)],[(2,⟨0,17,93,[V.agg [.int .i64 it.id,.int .i64 it.ver,.int .i64 it.kind,.str it.stem,.ro 1 ov,.ro 1 cv,.int .i64 it.val,.int .i64 it.tol,.ro 1 xv,.int .i64 it.pts,.str it.code,.int .i64 it.fam,.int .i64 it.set,.int .i64 it.wo,.int .i64 it.se,.ro 1 av,.int .i64 it.rub]]⟩)],nx,54⟩) (fun k=>(ch.take k).any i=false) ch.length _ sm (by simp only [s];exact AS.le_refl _) ?_)))));intro k nx hk hI;refine Aa [1,2,5,13,14,15,16] [2] sr (Ab ?_)
 refine Ao (fun h1=>Ae ?_) (fun h1=>?_)
 ·have f:k<ch.length:=by simp at h1;omega
  have u:k<t.length:=om;have ga:=qc k f;have C9:=A7 (k:=k) om;have ah:i (ch.getD k 0)=false->(ch.take (k+1)).any i=false:=fun h=>by rw [A3 f,List.any_append,hI];rw [Cf f]at h;simp [h]
  have ae:i (ch.getD k 0)=true->ch.any i=true:=fun h=>by rw [Cf f]at h;exact Dp.2 ⟨_,Aw f,h⟩
  generalize ch.getD k 0=x at*;have j:i x=(decide (x<0)||decide ((it.opts.length:Int)<=x)):=by rw [<- al];rfl
  refine Ab (Ap (Aa [1,2,5,7,13,14,15] [2] (by simp [ga,u]<;>rfl) (Aa [1,2,5,13,14,15,25] [2] sr ?_)))
  refine Ao (fun h2=>?_) (fun h2=>Ae ?_)
  ·exact Aa [4] [] sr (Ak (Ad sr (by rw [if_pos (ae (by rw [j];simpa using h2))])))
  refine A2 [1,2,5,13,14,15] [2] (by simp [C9]<;>rfl) ?_;exact⟨f,ah (by rw [j];simpa using h2),_,AS.le_refl _⟩
 ·refine A9 ?_;have ai:k=ch.length:=by simp at h1;omega
  rw [ai,Bo]at hI;rw [if_neg (by rw [hI];simp)];refine Aa [1,2,5,8] [2] sr (Ab (Aa [1,5,8,28] [] sr (Ap (Aa [1,5,8,28,29] [] sr ?_))))
  refine Ao (fun h3=>?_) (fun h3=>?_)
  ·rw [if_pos (show it.kind=1 by simpa using h3)];refine A2 [8] [] sr (Ab (Aa [53] [] sr ?_))
   refine Ao (fun z=>?_) (fun z=>Ae ?_)
   ·exact Aa [4] [] sr (Ak (Ad sr (by rw [if_pos (by simpa [a]using z)])))
   exact Aa [4] [] sr (Ak (Ad sr (by rw [if_neg (by simpa [a]using z)])))
  ·rw [if_neg (show¬it.kind=1 by simpa using h3)];refine Aa [1,5,8,28,34] [] sr ?_
   refine Ao (fun h5=>?_) (fun h5=>?_)
   ·rw [if_pos (show it.kind=2 by simpa using h5)];refine Ac (Am 1 sr ?_);refine Ai w func120 ?_ (hp:=by simp);refine Ag [8] [] sr ?_;refine Ab (Aa [53] [] sr ?_)
    refine Ao (fun h6=>?_) (fun h6=>Ae ?_)
    ·exact Aa [4] [] sr (Ak (Ad sr (by rw [if_pos (by simpa using h6)])))
    exact Aa [4] [] sr (Ak (Ad sr (by rw [if_neg (by simpa using h6)])))
   ·rw [if_neg (show¬it.kind=2 by simpa using h5)];refine Aa [1,5,8,38] [] sr ?_
    refine Ao (fun h7=>?_) (fun h7=>Ae ?_)
    ·rw [if_pos (show it.kind=3 by simpa using h7)];refine Ab (Ac (Am 1 sr ?_));refine My 110 m func110 rfl kr rfl rfl rfl sr (by simp [AS.views,AS.view,AS.viewC]<;>rfl) sr ?_;refine Ag [1,5,9] [110] sr ?_;refine Ab (Ac (Am 1 sr ?_));refine V2 (d:=110) (v:=_) am ag aj func101 rfl kr rfl rfl rfl (by simp [a]<;>rfl) (by simp<;>rfl) (by simp [a]<;>rfl) ?_;refine Ag [1,5,9] [110] sr ?_;refine Bt 110 [1,5,9] [] (by simp [o,ab,aa]<;>rfl) (Ac (Am 6 sr ?_));refine De (c:=decide ((t.length:Int)=it.opts.length)) (fun hg=>g) func120 rfl kr sr rfl rfl sr (by simp) sr ?_;refine Ag [8] [] sr ?_;refine Ab (Aa [53] [] sr ?_)
     refine Ao (fun y=>?_) (fun y=>Ae ?_)
     ·exact Aa [4] [] sr (Ak (Ad sr (by rw [if_pos (by simp [a]at y|-;exact fun e=>y.resolve_left (fun n=>n e))])))
     exact Aa [4] [] sr (Ak (Ad sr (by rw [if_neg (by simpa [a]using y)])))
    rw [if_neg (show¬it.kind=3 by simpa using h7)];refine Ab (Aa [53] [] sr ?_)
    refine A6 rfl (fun h9=>?_) (fun h9=>by simp at h9)
    ·exact Aa [4] [] sr (Ak (Ad sr (by rw [if_pos rfl])))
structure An where
 item:Int
 ch:List Int
 val:Int
 txt:List UInt8
 om:Bool
def An.v(a:An):V:=V.agg [.int .i64 a.item,.ro 1 (As a.ch),.int .i64 a.val,.str a.txt,.bool a.om]
def Bev(it:It)(a:An):Bool:=
 ((decide (0<a.ch.length)&&(a.om|| !A8x it.kind))||(!decide (a.val=0)&&(a.om|| !decide (it.kind=4))))||(!decide (a.txt= [])&&(a.om|| !A8y it.kind))
def Ab2(it:It)(a:An):Int:=
 if Q2 it≠0 then Q2 it else if a.item≠it.id then 6 else if Bev it a=true then 1 else if a.om=true then 0
 else if it.kind=4 then(if a.val< -9999999\/9999999<a.val then 3 else 0)
 else if it.kind=5 then(if(200:Int)<a.txt.length then 5 else 0)
 else if it.kind=6 then(if(2000:Int)<a.txt.length then 5 else 0)else Amh it a.ch
structure An.small(a:An):Prop where
 ch:a.ch.length<=2000000
 txt:a.txt.length<=2000000
theorem Aaf(hS:Ic)(it:It)(a:An)(hi:it.small)(ha:a.small):Hm gv prog 47 [it.v,a.v] (fun r=>r=.int .i64 (Ab2 it a)):=by
 have f:=Ap9 hS it hi;have w:=Bcs it.kind;have y:=Bct it.kind;have e:=Bcu it a.ch ha.ch hi.opts.1;unfold Ab2 Bev;generalize Q2 it=ie,A8x it.kind=b1,A8y it.kind=b2,Amh it a.ch=ce at*;have t:it.v=V.agg [.int .i64 it.id,.int .i64 it.ver,.int .i64 it.kind,.str it.stem,.ro 1 (D6 it.opts),.ro 1 (As it.ch),.int .i64 it.val,.int .i64 it.tol,.ro 1 (D6 it.txts),.int .i64 it.pts,.str it.code,.int .i64 it.fam,.int .i64 it.set,.int .i64 it.wo,.int .i64 it.se,.ro 1 (As it.ass),.int .i64 it.rub]:=rfl;have u:a.v=V.agg [.int .i64 a.item,.ro 1 (As a.ch),.int .i64 a.val,.str a.txt,.bool a.om]:=rfl;rw [t]at f e|-;rw [u];have i1:=Ct it.opts;have i2:=Af it.ch;have z:=Ct it.txts;have i4:=Af it.ass;have s:=Fb it.opts;have l:=A5 it.ch;have k:=Fb it.txts;have ae:=A5 it.ass;generalize D6 it.opts=ov,As it.ch=cv,D6 it.txts=xv,As it.ass=av at*;have aa:ov= []↔it.opts= []:=by rw [<- Ar,s,Ar]
 have ad:cv= []↔it.ch= []:=by rw [<- Ar,l,Ar]
 have ab:xv= []↔it.txts= []:=by rw [<- Ar,k,Ar]
 have i5:=Af a.ch;have g:=A5 a.ch;generalize As a.ch=hv at*;refine Bx func47 (fun w0 N0 hG=>?_);refine Aa [2,3] [2,3] sr (Ab (Ab (Ac (Am 1 sr ?_))));refine Be hG f func61 ?_ (hp:=by simp);refine Ag [2,3,5] [2,3] sr ?_;refine Aa [2,3,5,9] [2,3] sr ?_
 refine Ao (fun h1=>?_) (fun h1=>Ae ?_)
 ·exact Aa [4] [] sr (Ak (Ad sr (by rw [if_pos (by simpa using h1)])))
 rw [if_neg (by simpa using h1)];refine Ab (Aa [2,3,15] [2,3] sr ?_)
 refine Ao (fun h2=>?_) (fun h2=>Ae ?_)
 ·exact Aa [4] [] sr (Ak (Ad sr (by rw [if_pos (by simpa using h2)])))
 rw [if_neg (by simpa using h2)];refine Ab (Ab (Ac (Am 10 sr ?_)));refine De (c:=decide (0<hv.length)&& !a.om) (fun hg=>w) func79 rfl kr sr rfl rfl sr sm sr ?_;refine Am 27 sr ?_;refine De (c:=(!((decide (0<hv.length)&&(a.om|| !b1))||(!decide (a.val=0)&&(a.om|| !decide (it.kind=4))))&& !decide (a.txt= []))&& !a.om) (fun hg=>y) func80 rfl kr sr rfl rfl sr sm sr ?_;refine Ag [2,3,58] [2,3] sr ?_
 refine Ao (fun n=>?_) (fun n=>Ae ?_)
 ·exact Aa [4] [] sr (Ak (Ad sr (by rw [if_pos (by rw [<- g];simpa using n)])))
 rw [if_neg (by rw [<- g];simpa using n)];refine Ab (Aa [2,3,60] [2,3] sr ?_)
 refine Ao (fun h=>?_) (fun h=>Ae ?_)
 ·exact Aa [4] [] sr (Ak (Ad sr (by rw [if_pos (by simpa using h)])))
 rw [if_neg (by simpa using h)];refine Ab (Aa [2,3,62] [2,3] sr (Ap (Aa [2,3,62,67] [2,3] sr ?_)))
 refine Ao (fun m=>?_) (fun m=>?_)
 ·rw [if_pos (show it.kind=4 by simpa using m)];refine Aa [76] [] sr ?_
  refine Ao (fun o=>?_) (fun o=>Ae ?_)
  ·exact Aa [4] [] sr (Ak (Ad sr (by rw [if_pos (by simpa using o)])))
  exact Aa [4] [] sr (Ak (Ad sr (by rw [if_neg (by simpa using o)])))
 ·rw [if_neg (show¬it.kind=4 by simpa using m)];refine Aa [2,3,62,77] [2,3] sr ?_
  refine Ao (fun x=>?_) (fun x=>?_)
  ·rw [if_pos (show it.kind=5 by simpa using x)];refine Aa [82] [] sr ?_
   refine Ao (fun i=>?_) (fun i=>Ae ?_)
   ·exact Aa [4] [] sr (Ak (Ad sr (by rw [if_pos (by simpa using i)])))
   exact Aa [4] [] sr (Ak (Ad sr (by rw [if_neg (by simpa using i)])))
  ·rw [if_neg (show¬it.kind=5 by simpa using x)];refine Aa [2,3,83] [2,3] sr ?_
   refine Ao (fun j=>?_) (fun j=>?_)
   ·rw [if_pos (show it.kind=6 by simpa using j)];refine Aa [88] [] sr ?_
    refine Ao (fun d=>?_) (fun d=>Ae ?_)
    ·exact Aa [4] [] sr (Ak (Ad sr (by rw [if_pos (by simpa using d)])))
    exact Aa [4] [] sr (Ak (Ad sr (by rw [if_neg (by simpa using d)])))
   ·rw [if_neg (show¬it.kind=6 by simpa using j)];refine Ab (Ac (Am 3 sr ?_));refine Ai e func81 ?_ (hp:=by simp);refine Ag [4] [] sr ?_;exact Ak (Ad sr (rfl))
theorem Ayr(l:List (List UInt8))(x:List UInt8):AC prog 83 [.ro 1 (D6 l),.str x] (fun r=>r=.int .i64 (Ih (fun y=>decide (x=y)) l 0)):=by
 refine Td 0 rfl (fun g=>?_);have j:∀(k:Nat)(h:k<l.length),Hs (D6 l) k=some (.str l[k]):=fun k h=>by rw [Aae h,Cf h]
 have n:=Fb l;rw [n]at g;have m:maxLen<=9223372036854775807:=dc;generalize D6 l=f at*;refine Ay func83 (fun w0 N0=>?_);refine Aa [0,1] [] sr (Ab (Aa [0,1,7,8] [] sr (Ap (Bq (fun k nx=>⟨[(0,V.ro 1 f),(1,V.str x),(7,V.int .i64 f.length),(8,V.int .i64 k)],[],nx,19⟩) (fun k=>Ih (fun y=>decide (x=y)) (l.drop k) k=Ih (fun y=>decide (x=y)) l 0) l.length _ rfl (AS.le_refl _) ?_))));intro k nx hk c;refine Aa [0,1,7,8,9] [] sr (Ab ?_)
 refine Ao (fun h1=>Ae ?_) (fun h1=>?_)
 ·have a:k<l.length:=by simp at h1;omega
  have d:k<f.length:=om;have i:=j k a;have C9:=A7 (k:=k) om;rw [Oy _ a]at c;generalize l[k]=y at i c;refine Ab (Ap (Aa [0,1,5,7,8] [] sr (Aa [0,1,5,7,8,16] [] (by simp [i,d]<;>rfl) ?_)))
  refine Ao (fun h2=>?_) (fun h2=>Ae ?_)
  ·exact Aa [4] [] sr (Ak (Ad sr (by rw [<- c,if_pos h2])))
  refine A2 [0,1,7,8] [] (by simp [C9]<;>rfl) ?_;exact⟨a,by rw [<- c,if_neg (by rw [h2];decide)],_,AS.le_refl _⟩
 ·refine A9 ?_;have e:k=l.length:=by simp at h1;omega
  rw [e,Ca,Ih]at c;exact Aa [4] [] sr (Ak (Ad sr (by rw [<- c])))
theorem A8z(l:List (List UInt8))(x:List UInt8):AC prog 50 [.ro 1 (D6 l),.str x] (fun r=>r=.bool (decide (x∈l))):=by
 have a:=Ayr l x
 have d:decide (x∈l)=decide (0<=Ih (fun y=>decide (x=y)) l 0):=by
  rw [Pb]
  by_cases h:x∈l
  ·rw [decide_eq_true h];symm;rw [Dp];exact⟨x,h,by simp⟩
  ·rw [decide_eq_false h];symm;rw [Jq];intro y c;simp;exact fun e=>h (e▸c)
 rw [d];have pl:=Ct l;generalize D6 l=lv,Ih (fun y=>decide (x=y)) l 0=z at*;refine Ay func50 (fun w0 N0=>?_);refine Aa [0,1] [] sr (Ab (Ac (Am 2 sr ?_)));refine Ai a func83 ?_ (hp:=by simp);refine Ag [4] [] sr ?_;exact Ak (Ad sr (rfl))
def Aqa(it:It)(ch:List Int):Nat->Int
 |0=>0
 |k+1=>if ch.getD k 0∈it.ch then IntKind.i64.wrap (Aqa it ch k+1)else IntKind.i64.wrap (Aqa it ch k-1)
def A80(it:It)(ch:List Int):Int:=IntKind.i64.wrap ((IntKind.i64.wrap (Lf (Aqa it ch ch.length)*it.pts)).tdiv it.ch.length)
theorem A4u(it:It)(ch:List Int)(f:it.ch≠ [])(hl:ch.length<=2000000):AC prog 48 [it.v,.ro 1 (As ch)] (fun r=>r=.int .i64 (A80 it ch)):=by
 have t:=Rh it.ch;have qc:=fun(k:Nat)(h:k<ch.length)=>Dj h
 have ab:=A5 ch;have ae:=Af ch;have ah:0<it.ch.length:=Ew.2 f;unfold A80;have l:∀k,Aqa it ch (k+1)=if ch.getD k 0∈it.ch then IntKind.i64.wrap (Aqa it ch k+1)else IntKind.i64.wrap (Aqa it ch k-1):=fun k=>rfl
 have j:Aqa it ch 0=0:=rfl;generalize Aqa it ch=nk,As ch=o at*;have s:it.v=V.agg [.int .i64 it.id,.int .i64 it.ver,.int .i64 it.kind,.str it.stem,.ro 1 (D6 it.opts),.ro 1 (As it.ch),.int .i64 it.val,.int .i64 it.tol,.ro 1 (D6 it.txts),.int .i64 it.pts,.str it.code,.int .i64 it.fam,.int .i64 it.set,.int .i64 it.wo,.int .i64 it.se,.ro 1 (As it.ass),.int .i64 it.rub]:=rfl;rw [s];have i1:=Ct it.opts;have i2:=Af it.ch;have i3:=Ct it.txts;have i4:=Af it.ass;have n:=Fb it.opts;have e:=A5 it.ch;have m:=Fb it.txts;have ag:=A5 it.ass;generalize D6 it.opts=z,As it.ch=y,D6 it.txts=w,As it.ass=av at*;have aa:z= []↔it.opts= []:=by rw [<- Ar,n,Ar]
 have af:y= []↔it.ch= []:=by rw [<- Ar,e,Ar]
 have ad:w= []↔it.txts= []:=by rw [<- Ar,m,Ar]
 refine Ay func48 (fun w0 N0=>?_);refine Aa [1,2] [2] sr (Aa [1,2,5] [2] sr (Ab (Aa [2,5,8,9,10] [2] sr (Ap (Bq (fun k nx=>⟨[(2,V.bp 2 0 17 0 0),(5,V.int .i64 (nk k)),(8,V.ro 1 o),(9,V.int .i64 o.length),(10,V.int .i64 k)],[(2,⟨0,17,93,[V.agg [.int .i64 it.id,.int .i64 it.ver,.int .i64 it.kind,.str it.stem,.ro 1 z,.ro 1 y,.int .i64 it.val,.int .i64 it.tol,.ro 1 w,.int .i64 it.pts,.str it.code,.int .i64 it.fam,.int .i64 it.set,.int .i64 it.wo,.int .i64 it.se,.ro 1 av,.int .i64 it.rub]]⟩)],nx,32⟩) (fun k=>True) ch.length _ trivial (by simp only [j];exact AS.le_refl _) ?_)))));intro k nx hk hI;refine Aa [2,5,8,9,10,11] [2] sr (Ab ?_)
 refine Ao (fun h1=>Ae ?_) (fun h1=>?_)
 ·have a:k<ch.length:=by simp at h1;omega
  have g:k<o.length:=om;have ga:=qc k a;have d:=l k;have C9:=A7 (k:=k) om;generalize ch.getD k 0=x at*;have c:=t x;refine Ab (Ap (Aa [2,5,7,8,9,10] [2] (by simp [ga,g]<;>rfl) (Ab (Ac (Am 3 sr ?_)))));refine Ai c func64 ?_ (hp:=by simp);refine Ag [2,5,8,9,10,17] [2] sr ?_
  refine Ao (fun h2=>?_) (fun h2=>?_)
  ·refine A2 [2,5,8,9,10] [2] sr (A2 [2,5,8,9,10] [2] (by simp [C9]<;>rfl) ?_);exact⟨a,trivial,_,by rw [d,if_pos (by simpa using h2)];exact AS.le_refl _⟩
  ·refine A2 [2,5,8,9,10] [2] sr (A2 [2,5,8,9,10] [2] (by simp [C9]<;>rfl) ?_);exact⟨a,trivial,_,by rw [d,if_neg (by simpa using h2)];exact AS.le_refl _⟩
 ·refine A9 ?_;have u:k=ch.length:=by simp at h1;omega
  subst u;have i:¬it.ch= []:=f;exact Aa [4] [] (by simp [e,i]<;>rfl) (Ak (Ad sr (by unfold Lf;rfl)))
def fIx(it:It)(x:Int):Int:=Ih (fun y=>decide (x=y)) it.ch 0
def inK(it:It)(a:List Int)(k:Nat)(s:Int × Int):Nat->Int × Int
 |0=>s
 |j+1=>(if fIx it (a.getD k 0)<fIx it (a.getD (k+1+j) 0)then IntKind.i64.wrap ((inK it a k s j).1+1)else IntKind.i64.wrap ((inK it a k s j).1-1),IntKind.i64.wrap ((inK it a k s j).2+1))
def Ab3(it:It)(a:List Int):Nat->Int × Int
 |0=>(0,0)
 |k+1=>inK it a k (Ab3 it a k) (a.length-(k+1))
def A81(it:It)(a:List Int):Int:=IntKind.i64.wrap ((IntKind.i64.wrap (Lf (Ab3 it a a.length).1*it.pts)).tdiv (Ab3 it a a.length).2)
theorem Av0(it:It)(a:List Int)(k:Nat)(s:Int × Int)(c:0<=s.2/\s.2<=1000000000):∀j:Nat,j<=1000->(inK it a k s j).2=s.2+j
 |0,_ =>by simp [inK]
 |j+1,h=>by
  rw [inK];simp only;rw [Av0 it a k s c j om,Bb om (by omega)];omega
theorem Aqb(it:It)(a:List Int)(d:a.length<=1000):∀k:Nat,k<=a.length->(0<=(Ab3 it a k).2/\(Ab3 it a k).2<=1000*(k:Int))/\(1<=k->2<=a.length->1<=(Ab3 it a k).2)
 |0,_ =>by simp [Ab3]
 |k+1,h=>by
  have ih:=Aqb it a d k om;rw [Ab3,Av0 it a k _ ⟨ih.1.1,by omega⟩ _ (by omega)];refine⟨by omega,fun _ h2=>?_⟩
  by_cases c:1<=k
  ·have:=ih.2 c h2;omega
  ·omega
theorem A4v(it:It)(ch:List Int)(h2:2<=ch.length)(hl:ch.length<=1000):AC prog 49 [it.v,.ro 1 (As ch)] (fun r=>r=.int .i64 (A81 it ch)):=by
 have e:∀x,AC prog 82 [.ro 1 (As it.ch),.int .i64 x] (fun r=>r=.int .i64 (fIx it x)):=fun x=>Aji it.ch x
 have qc:=fun(k:Nat)(h:k<ch.length)=>Dj h
 have qd:∀(k j:Nat),k+1+j<ch.length->Hs ((As ch).drop (k+1)) j=some (.int .i64 (ch.getD (k+1+j) 0)):=fun k j h=>by
  rw [C1,Cy,<- C1];exact Dj h
 have ah:∀k,((As ch).drop (k+1)).length=ch.length-(k+1):=fun k=>by simp
 have ar:=A5 ch;have ax:=Af ch;have am:¬(Ab3 it ch ch.length).2=0:=by have:=(Aqb it ch hl ch.length (A8 _)).2 om h2;omega
 unfold A81;have ag:∀k s j,inK it ch k s (j+1)=(if fIx it (ch.getD k 0)<fIx it (ch.getD (k+1+j) 0)then IntKind.i64.wrap ((inK it ch k s j).1+1)else IntKind.i64.wrap ((inK it ch k s j).1-1),IntKind.i64.wrap ((inK it ch k s j).2+1)):=fun k s j=>rfl
 have aa:∀k s,inK it ch k s 0=s:=fun k s=>rfl
 have w:∀k,Ab3 it ch (k+1)=inK it ch k (Ab3 it ch k) (ch.length-(k+1)):=fun k=>rfl
 have o:Ab3 it ch 0=(0,0):=rfl;generalize Ab3 it ch=ok,inK it ch=ik,fIx it=fi,As ch=a at*;have al:it.v=V.agg [.int .i64 it.id,.int .i64 it.ver,.int .i64 it.kind,.str it.stem,.ro 1 (D6 it.opts),.ro 1 (As it.ch),.int .i64 it.val,.int .i64 it.tol,.ro 1 (D6 it.txts),.int .i64 it.pts,.str it.code,.int .i64 it.fam,.int .i64 it.set,.int .i64 it.wo,.int .i64 it.se,.ro 1 (As it.ass),.int .i64 it.rub]:=rfl;rw [al];have i1:=Ct it.opts;have i2:=Af it.ch;have i3:=Ct it.txts;have i4:=Af it.ass;have ai:=Fb it.opts;have af:=A5 it.ch;have ae:=Fb it.txts;have az:=A5 it.ass;generalize D6 it.opts=ov,As it.ch=cv,D6 it.txts=xv,As it.ass=av at*;have aq:ov= []↔it.opts= []:=by rw [<- Ar,ai,Ar]
 have ay:cv= []↔it.ch= []:=by rw [<- Ar,af,Ar]
 have aw:xv= []↔it.txts= []:=by rw [<- Ar,ae,Ar]
 refine Ay func49 (fun w0 N0=>?_);refine Aa [1,2] [2] sr (Aa [1,2,5,6] [2] sr (Ab (Aa [1,2,5,6,11,12,13] [2] sr (Ap (Bq (fun k nx=>⟨[(1,V.ro 1 a),(2,V.bp 2 0 17 0 0),(5,V.int .i64 (ok k).1),(6,V.int .i64 (ok k).2),(11,V.ro 1 a),(12,V.int .i64 a.length),(13,V.int .i64 k)],[(2,⟨0,17,93,[V.agg [.int .i64 it.id,.int .i64 it.ver,.int .i64 it.kind,.str it.stem,.ro 1 ov,.ro 1 cv,.int .i64 it.val,.int .i64 it.tol,.ro 1 xv,.int .i64 it.pts,.str it.code,.int .i64 it.fam,.int .i64 it.set,.int .i64 it.wo,.int .i64 it.se,.ro 1 av,.int .i64 it.rub]]⟩)],nx,51⟩) (fun k=>True) ch.length _ trivial (by simp only [o];exact AS.le_refl _) ?_)))));intro k nx hk hI;refine Aa [1,2,5,6,11,12,13,14] [2] sr (Ab ?_)
 refine Ao (fun h1=>Ae ?_) (fun h1=>?_)
 ·have l:k<ch.length:=by simp at h1;omega
  have n:k<a.length:=om;have ga:=qc k l;have an:=w k;have C9:=A7 (k:=k) om;have t:=qd k;have au:=ah k;have u:=ag k (ok k);have g:=aa k (ok k);generalize ch.getD k 0=x at*;have c:=e x;have z:(0:Int)<=(k:Int)+1/\(k:Int)+1<=a.length:=om;have ab:(a.drop (k+1)).take (a.length-(k+1))=a.drop (k+1):=Bf sm;generalize ik k (ok k)=ii at*;refine Ab (Ap (Aa [1,2,5,6,7,8,11,12,13] [2] (by simp [ga,n]<;>rfl) (Aa [1,2,5,6,8,11,12,13,21,22,23] [2] (by simp [z,ab,C9]<;>rfl) ?_)));generalize a.drop (k+1)=dv at*;refine Ap (Bq (fun j nx=>⟨[(1,V.ro 1 a),(2,V.bp 2 0 17 0 0),(5,V.int .i64 (ii j).1),(6,V.int .i64 (ii j).2),(8,V.int .i64 x),(11,V.ro 1 a),(12,V.int .i64 a.length),(13,V.int .i64 k),(21,V.ro 1 dv),(22,V.int .i64 ((a.length-(k+1):Nat):Int)),(23,V.int .i64 j)],[(2,⟨0,17,93,[V.agg [.int .i64 it.id,.int .i64 it.ver,.int .i64 it.kind,.str it.stem,.ro 1 ov,.ro 1 cv,.int .i64 it.val,.int .i64 it.tol,.ro 1 xv,.int .i64 it.pts,.str it.code,.int .i64 it.fam,.int .i64 it.set,.int .i64 it.wo,.int .i64 it.se,.ro 1 av,.int .i64 it.rub]]⟩)],nx,51⟩) (fun j=>True) (ch.length-(k+1)) _ trivial (by simp only [g];exact AS.le_refl _) ?_);intro j nx hj ao;refine Aa [1,2,5,6,8,11,12,13,21,22,23,24] [2] sr (Ab ?_)
  refine Ao (fun h2=>Ae ?_) (fun h2=>?_)
  ·have f:j<ch.length-(k+1):=by simp at h2;omega
   have ad:j<dv.length:=om;have gj:=t j om;have m:=u j;have d:=A7 (k:=j) om;generalize ch.getD (k+1+j) 0=y at*;have i:=e y;refine Ab (Ap (Aa [1,2,5,6,8,10,11,12,13,21,22,23] [2] (by simp [gj,ad]<;>rfl) (Aa [1,2,5,6,8,10,11,12,13,21,22,23] [2] sr (Ab (C4 [(0,[]),(2,[]),(4,[]),(6,[]),(1,[]),(3,[]),(5,[]),(7,[]),(8,[])] Dm kr ?_)))));refine Ch 5 sr ?_;refine Bw (fun hg=>c) func82 rfl kr rfl rfl sr rfl rfl sr (by simp) sr ?_;refine Ch 1 sr ?_;refine Bw (fun hg=>i) func82 rfl kr rfl rfl sr rfl rfl sr (by simp) sr ?_;refine C5 [1,2,5,6,8,11,12,13,21,22,23,37] [2] sr ?_
   refine Ao (fun h3=>?_) (fun h3=>?_)
   ·refine A2 [1,2,5,6,8,11,12,13,21,22,23] [2] sr (A2 [1,2,5,6,8,11,12,13,21,22,23] [2] (by simp [d]<;>rfl) ?_);exact⟨f,trivial,_,by rw [m,if_pos (by simpa using h3)];exact AS.le_refl _⟩
   ·refine A2 [1,2,5,6,8,11,12,13,21,22,23] [2] sr (A2 [1,2,5,6,8,11,12,13,21,22,23] [2] (by simp [d]<;>rfl) ?_);exact⟨f,trivial,_,by rw [m,if_neg (by simpa using h3)];exact AS.le_refl _⟩
  ·refine A9 ?_;have ak:j=ch.length-(k+1):=by simp at h2;omega
   rw [ak,<- an];refine A2 [1,2,5,6,11,12,13] [2] (by simp [C9]<;>rfl) ?_;exact⟨l,trivial,_,AS.le_refl _⟩
 ·refine A9 ?_;have aj:k=ch.length:=by simp at h1;omega
  subst aj;exact Aa [4] [] (by simp [am]<;>rfl) (Ak (Ad sr (by unfold Lf;rfl)))
def u8v(l:List UInt8):List V:=l.map fun b=>V.int .u8 (b.toNat:Int)
theorem Wo(l m:List UInt8):u8v (l++m)=u8v l++u8v m:=by simp [u8v]
theorem Wp(b:UInt8):u8v [b]= [V.int .u8 (b.toNat:Int)]:=rfl
theorem Av1(l:List UInt8):(u8v l).length=l.length:=by simp [u8v]
theorem A4w(l:List UInt8):(u8v l).all V.pureE=true:=by
 rw [Ax];intro x a;simp only [u8v,Bk]at a;obtain⟨n,_,rfl⟩:=a;rfl
theorem Ake:∀l:List UInt8,S8 (u8v l)=some l
 | []=>rfl
 |b::r=>by
  have ih:=Ake r;have h1:(0:Int)<=(b.toNat:Int)/\(b.toNat:Int)<256:=by have:=b.toNat_lt;omega
  simp only [u8v,Cw]at ih|-;rw [S8,ih];simp [h1]
def Aag(s:List UInt8 × Bool)(c:UInt8):List UInt8 × Bool:=if s.2=true then(s.1++[32]++[c],false)else(s.1++[c],s.2)
def Aqc(s:List UInt8 × Bool)(b:UInt8):List UInt8 × Bool:=
 if 65<=b.toNat/\b.toNat<=90 then Aag s (b+32)
 else if 97<=b.toNat/\b.toNat<=122 then Aag s b
 else if 48<=b.toNat/\b.toNat<=57 then Aag s b
 else if b.toNat=32 then(s.1,decide (0<s.1.length))else s
def nK(s:List UInt8):Nat->List UInt8 × Bool
 |0=>([],false)
 |k+1=>Aqc (nK s k) (s.getD k 0)
def Av2(s:List UInt8):List UInt8:=(nK s s.length).1
theorem Akf(s:List UInt8 × Bool)(c:UInt8):(Aag s c).1.length<=s.1.length+2:=by unfold Aag;split<;>simp
theorem Ays(s:List UInt8 × Bool)(b:UInt8):(Aqc s b).1.length<=s.1.length+2:=by
 unfold Aqc;have:=Akf s (b+32);have:=Akf s b
 (repeat' split)<;>first|omega|(dsimp only;omega)
theorem A4x(s:List UInt8):∀k,(nK s k).1.length<=2*k
 |0=>by simp [nK]
 |k+1=>by have:=Ays (nK s k) (s.getD k 0);have:=A4x s k;rw [nK];omega
theorem Aqd(s:List UInt8)(hs:s.length<=2000000):AC prog 51 [.str s] (fun r=>r=.str (Av2 s)):=by
 have aa:∀k,nK s (k+1)=Aqc (nK s k) (s.getD k 0):=fun k=>rfl
 have ab:=A4x s;have ae:∀j b,Aqc j b=if 65<=b.toNat/\b.toNat<=90 then Aag j (b+32)else if 97<=b.toNat/\b.toNat<=122 then Aag j b else if 48<=b.toNat/\b.toNat<=57 then Aag j b else if b.toNat=32 then(j.1,decide (0<j.1.length))else j:=fun j b=>rfl
 have w:∀j c,Aag j c=if j.2=true then(j.1++[32]++[c],false)else(j.1++[c],j.2):=fun j c=>rfl
 refine Ay func51 (fun w0 N0=>?_);refine Aa [0] [] sr (Aa [0,3] [] sr (Aa [0,3,4] [] sr (Ab (Aa [0,3,4,8,9] [] sr ?_))));refine F5 3 100 1 5 [0,3,4,8,9] [100] sr sr ?_;refine Ap (Dr (fun x:Nat × Nat × Nat=>⟨[(0,V.str s),(3,.sl 100 x.2.1 1 (nK s x.1).1.length),(4,V.bool (nK s x.1).2),(8,V.int .i64 s.length),(9,V.int .i64 (x.1:Nat))],[(100,⟨x.2.1,1,5,u8v (nK s x.1).1⟩)],x.2.2,54⟩) (fun x=>x.1<=s.length) (fun x=>s.length-x.1) (0,_,_) (B6 _) (AS.le_refl _) ?_);rintro⟨k,qv,nx⟩hk;simp only at hk|-;refine Aa [0,3,4,8,9,10] [100] sr (Ab ?_)
 refine Ao (fun h1=>Ae ?_) (fun h1=>?_)
 ·have f:k<s.length:=by simp at h1;omega
  have gb:Hs s k=some (s.getD k 0):=by rw [C1,Cf f];simp [f]
  have C9:=A7 (k:=k) om;have d:=aa k;have ag:=ab k;rw [ae]at d;have ai:=(s.getD k 0).toNat_lt;generalize s.getD k 0=b,nK s k=j at*;obtain⟨e,bl⟩:=j;simp only at d ag|-;have i:=Av1 e;refine Ab (Ap (Aa [0,3,4,5,8,9] [100] sr (Aa [0,3,4,6,8,9] [100] (by simp [gb]<;>rfl) (Ab (Ap (Aa [0,3,4,6,8,9,15] [100] sr ?_))))))
  refine Ao (fun h2=>?_) (fun h2=>?_)
  ·have o:65<=b.toNat/\b.toNat<=90:=by simp at h2;omega
   rw [if_pos o]at d;have a:=d.trans (w _ _);simp only at a
   have ad:((b+32).toNat:Int)=(b.toNat:Int)+32:=by
    have h:(b+32).toNat=(b.toNat+32)%256:=by simp [UInt8.toNat_add]
    rw [h,Cm (by omega)];omega
   have af:IntKind.u8.wrap ((b.toNat:Int)+32)=((b+32).toNat:Int):=by rw [ad,IntKind.wrap_u8];omega
   generalize b+32=c at*;have g:e.length+1<=maxLen/\e.length+1<=140737488355328:=by constructor;exact Aj (show e.length+1<=5000000 by omega) (by decide);omega
   have l:e.length+1+1<=maxLen/\e.length+1+1<=140737488355328:=by constructor;exact Aj (show e.length+1+1<=5000000 by omega) (by decide);omega
   have m:True:=trivial;refine A2 [0,3,4,6,8,9] [100] (by simp [af]<;>rfl) (Ab (Aa [0,3,4,6,8,9,43] [100] sr ?_))
   refine Ao (fun h3=>?_) (fun h3=>Ae ?_)
   ·refine Aa [0,3,6,8,9] [100] (by simp [g,i]<;>rfl) (A2 [0,3,4,6,8,9] [100] sr (A2 [0,3,4,8,9] [100] (by simp [l,i]<;>rfl) (A2 [0,3,4,8,9] [100] (by simp [C9]<;>rfl) ?_)));rw [if_pos (by simpa using h3)]at a;exact⟨(k+1,_,_),f,by simp only;omega,by simp only [a,Wo,Wp,Bi,Bc,B0];simp [u8v];exact AS.le_refl _⟩
   refine A2 [0,3,4,8,9] [100] (by simp [g,i]<;>rfl) (A2 [0,3,4,8,9] [100] (by simp [C9]<;>rfl) ?_);rw [if_neg (by simpa using h3)]at a;exact⟨(k+1,_,_),f,by simp only;omega,by simp only [a,Wo,Wp,Bi,Bc,B0];exact AS.le_refl _⟩
  ·have o:¬(65<=b.toNat/\b.toNat<=90):=by simp at h2;omega
   rw [if_neg o]at d;have g:e.length+1<=maxLen/\e.length+1<=140737488355328:=by constructor;exact Aj (show e.length+1<=5000000 by omega) (by decide);omega
   have l:e.length+1+1<=maxLen/\e.length+1+1<=140737488355328:=by constructor;exact Aj (show e.length+1+1<=5000000 by omega) (by decide);omega
   have m:True:=trivial;refine Ab (Aa [0,3,4,6,8,9,24] [100] sr ?_)
   refine Ao (fun y=>Ae ?_) (fun y=>?_)
   ·have n:97<=b.toNat/\b.toNat<=122:=by simp at y;omega
    rw [if_pos n]at d;have a:=d.trans (w _ _);simp only at a
    refine A6 rfl (fun h5=>Ae ?_) (fun h5=>by simp at y h5;omega)
    ·refine Ab (Aa [0,3,4,6,8,9,43] [100] sr ?_)
     refine Ao (fun h6=>?_) (fun h6=>Ae ?_)
     ·refine Aa [0,3,6,8,9] [100] (by simp [g,i]<;>rfl) (A2 [0,3,4,6,8,9] [100] sr (A2 [0,3,4,8,9] [100] (by simp [l,i]<;>rfl) (A2 [0,3,4,8,9] [100] (by simp [C9]<;>rfl) ?_)));rw [if_pos (by simpa using h6)]at a;exact⟨(k+1,_,_),f,by simp only;omega,by simp only [a,Wo,Wp,Bi,Bc,B0];simp [u8v];exact AS.le_refl _⟩
     refine A2 [0,3,4,8,9] [100] (by simp [g,i]<;>rfl) (A2 [0,3,4,8,9] [100] (by simp [C9]<;>rfl) ?_);rw [if_neg (by simpa using h6)]at a;exact⟨(k+1,_,_),f,by simp only;omega,by simp only [a,Wo,Wp,Bi,Bc,B0];exact AS.le_refl _⟩
   ·have n:¬(97<=b.toNat/\b.toNat<=122):=by simp at y;omega
    rw [if_neg n]at d;refine A2 [0,3,4,6,8,9,24] [100] sr ?_
    refine Ao (fun z=>Ae ?_) (fun z=>?_)
    ·have u:48<=b.toNat/\b.toNat<=57:=by simp at z;omega
     rw [if_pos u]at d;have a:=d.trans (w _ _);simp only at a;refine Ab (Aa [0,3,4,6,8,9,43] [100] sr ?_)
     refine Ao (fun h9=>?_) (fun h9=>Ae ?_)
     ·refine Aa [0,3,6,8,9] [100] (by simp [g,i]<;>rfl) (A2 [0,3,4,6,8,9] [100] sr (A2 [0,3,4,8,9] [100] (by simp [l,i]<;>rfl) (A2 [0,3,4,8,9] [100] (by simp [C9]<;>rfl) ?_)));rw [if_pos (by simpa using h9)]at a;exact⟨(k+1,_,_),f,by simp only;omega,by simp only [a,Wo,Wp,Bi,Bc,B0];simp [u8v];exact AS.le_refl _⟩
     refine A2 [0,3,4,8,9] [100] (by simp [g,i]<;>rfl) (A2 [0,3,4,8,9] [100] (by simp [C9]<;>rfl) ?_);rw [if_neg (by simpa using h9)]at a;exact⟨(k+1,_,_),f,by simp only;omega,by simp only [a,Wo,Wp,Bi,Bc,B0];exact AS.le_refl _⟩
    ·have u:¬(48<=b.toNat/\b.toNat<=57):=by simp at z;omega
     rw [if_neg u]at d;refine Aa [0,3,4,8,9,37] [100] sr ?_
     refine Ao (fun t=>?_) (fun t=>?_)
     ·rw [if_pos (show b.toNat=32 by simp at t;omega)]at d;refine Aa [0,3,4,8,9] [100] sr (A9 ?_);refine A2 [0,3,4,8,9] [100] (by simp [C9]<;>rfl) ?_;exact⟨(k+1,_,_),f,by simp only;omega,by simp only [d];exact AS.le_refl _⟩
     ·rw [if_neg (show¬b.toNat=32 by simp at t;omega)]at d;refine A9 ?_;refine A2 [0,3,4,8,9] [100] (by simp [C9]<;>rfl) ?_;exact⟨(k+1,_,_),f,by simp only;omega,by simp only [d];exact AS.le_refl _⟩
 ·refine A9 ?_;have ah:k=s.length:=by simp at h1;omega
  subst ah;refine Bt 100 [3] [] (by simp [A4w,Av1]<;>rfl) ?_;exact Aa [2] [] (by simp [Ake]<;>rfl) (Ak (Ad sr rf))
theorem Bcv{it:It}{a:An}(h:Ab2 it a=0):Q2 it=0/\a.item=it.id/\(a.om=false->it.kind≠4->it.kind≠5->it.kind≠6->Amh it a.ch=0):=by
 unfold Ab2 at h
 split at h
 ·rename_i h1;exact absurd h h1
 rename_i h1
 split at h
 ·omega
 rename_i h2;refine⟨by omega,by omega,fun e d c f=>?_⟩;rw [if_neg d,if_neg c,if_neg f,e]at h
 split at h
 ·omega
 ·simpa using h
theorem A4y{it:It}(h:Q2 it=0):Adb it=true/\Jj it.kind 1 6=true:=by
 unfold Q2 at h
 (repeat' split at h)<;>try omega
 rename_i h1 h2 h3 h4 a h6
 constructor
 ·cases e:Adb it
  ·exact absurd (.inr e) a
  ·rfl
 ·cases e:Jj it.kind 1 6
  ·exact absurd e h2
  ·rfl
theorem A82{it:It}(h:Adb it=true)(a:it.kind=1):it.ch.length=1:=by
 unfold Adb at h;rw [if_pos a]at h;simp at h;omega
theorem A83{it:It}(h:Adb it=true)(a:it.kind=2):it.ch≠ []:=by
 unfold Adb at h;rw [if_neg om,if_pos a]at h;simp at h;intro e;rw [e]at h;simp at h
theorem Ayt{it:It}(h:Adb it=true)(a:it.kind=3):2<=it.opts.length:=by
 unfold Adb at h;rw [if_neg om,if_neg om,if_pos a]at h;simp at h;omega
theorem Av3{it:It}{a:List Int}(h:Amh it a=0):A4t it a=true:=by
 unfold Amh at h
 (repeat' split at h)<;>try omega
 rename_i h1 h2;simpa using h2
def Bcw(x y:Int):Int:=if x<y then y else x
def Bew(it:It)(a:An):Bool:=
 if it.kind=1 then decide (a.ch.getD 0 0=it.ch.getD 0 0)
 else if it.kind=4 then decide (Bcw (IntKind.i64.wrap (a.val-it.val)) (IntKind.i64.wrap (it.val-a.val))<=it.tol)
 else if it.kind=5 then decide (Av2 a.txt∈it.txts)else false
def F7(it:It)(a:An):Int × Int:=
 if Ab2 it a≠0 then(0,Ab2 it a)else if it.kind=6 then(0,8)else if a.om=true then(0,0)
 else if it.kind=2 then(A80 it a.ch,0)else if it.kind=3 then(A81 it a.ch,0)
 else if Bew it a=true then(it.pts,0)else(0,0)
theorem Akg(hS:Ic)(it:It)(a:An)(hi:it.small)(ha:a.small)(a7:a.ch.length<=2000000):
  Hm gv prog 24 [it.v,a.v] (fun r=>r=.tup [.int .i64 (F7 it a).1,.int .i64 (F7 it a).2]):=by
 have l:=Aaf hS it a hi ha;have e:=fun h=>A4u it a.ch h ha.ch
 have f:=fun h1 h2=>A4v it a.ch h1 h2
 have af:=Aqd a.txt ha.txt;have ax:=A8z it.txts (Av2 a.txt)
 have ao:Q2 it=0->it.opts.length<=10:=fun h=>by
  unfold Q2 at h
  (repeat' split at h)<;>omega
 have aa:=fun(h:Ab2 it a=0)=>Bcv h
 have ab:=fun(h:Q2 it=0)=>A4y h
 have ad:=fun h=>A82 (it:=it) h
 have al:=fun h=>A83 (it:=it) h
 have au:=fun h=>Ayt (it:=it) h
 have am:Amh it a.ch=0->it.kind=1->a.ch.length=1:=fun h c=>by
  have:=Av3 h;unfold A4t at this;rw [if_pos c]at this;simp at this;omega
 have aw:Amh it a.ch=0->it.kind=3->a.ch.length=it.opts.length:=fun h c=>by
  have:=Av3 h;unfold A4t at this;rw [if_neg om,if_neg om,if_pos c]at this;simp at this;omega
 have q1:=fun(h:0<it.ch.length)=>Dj h
 have q2:=fun(h:0<a.ch.length)=>Dj h
 unfold F7 Bew;generalize Ab2 it a=ve,A80 it a.ch=mv at*;generalize A81 it a.ch=a2 at*;generalize Av2 a.txt=nf,it.ch.getD 0 0=y0,a.ch.getD 0 0=x0 at*;have k:it.v=V.agg [.int .i64 it.id,.int .i64 it.ver,.int .i64 it.kind,.str it.stem,.ro 1 (D6 it.opts),.ro 1 (As it.ch),.int .i64 it.val,.int .i64 it.tol,.ro 1 (D6 it.txts),.int .i64 it.pts,.str it.code,.int .i64 it.fam,.int .i64 it.set,.int .i64 it.wo,.int .i64 it.se,.ro 1 (As it.ass),.int .i64 it.rub]:=rfl;have w:a.v=V.agg [.int .i64 a.item,.ro 1 (As a.ch),.int .i64 a.val,.str a.txt,.bool a.om]:=rfl;rw [k,w]at l;rw [k]at e f;rw [k,w];have u:=Ct it.opts;have x:=Af it.ch;have m:=Ct it.txts;have n:=Af it.ass;have an:=Fb it.opts;have ai:=A5 it.ch;have ag:=Fb it.txts;have a8:=A5 it.ass;generalize D6 it.opts=ov,As it.ch=cv,D6 it.txts=xv,As it.ass=av at*;have az:ov= []↔it.opts= []:=by rw [<- Ar,an,Ar]
 have a3:cv= []↔it.ch= []:=by rw [<- Ar,ai,Ar]
 have a1:xv= []↔it.txts= []:=by rw [<- Ar,ag,Ar]
 have t:=Af a.ch;have a5:=A5 a.ch;generalize As a.ch=hv at*;refine Bx func24 (fun w0 N0 hG=>?_);refine Aa [2,3] [2,3] sr (Ab (Ab (Ac (Am 2 sr ?_))));refine Be hG l func47 ?_ (hp:=by simp);refine Ag [2,3,6] [2,3] sr ?_;refine Aa [2,3,6,12] [2,3] sr ?_
 refine Ao (fun h1=>?_) (fun h1=>Ae ?_)
 ·exact Aa [4,5] [] sr (Ak (Ad sr (by rw [if_pos (by simpa using h1)])))
 have aj:ve=0:=by simpa using h1
 obtain⟨o,a0,y⟩:=aa aj;have d:=ab o;rw [if_neg (by simpa using h1)];refine Ab (Aa [2,3,16] [2,3] sr ?_)
 refine Ao (fun h2=>?_) (fun h2=>Ae ?_)
 ·exact Aa [4,5] [] sr (Ak (Ad sr (by rw [if_pos (by simpa using h2)])))
 have j:¬it.kind=6:=by simpa using h2
 rw [if_neg j];refine Ab (Aa [2,3,18] [2,3] sr ?_)
 refine Ao (fun h3=>?_) (fun h3=>Ae ?_)
 ·exact Aa [4,5] [] sr (Ak (Ad sr (by rw [if_pos (by simpa using h3)])))
 have z:a.om=false:=by simpa using h3
 rw [if_neg (by simpa using h3)];refine Aa [2,3,7] [2,3] sr (Ab (Aa [2,3,7,20] [2,3] sr (Ap (Aa [2,3,7,20,21] [2,3] sr ?_))))
 refine Ao (fun h4=>?_) (fun h4=>?_)
 ·have c:it.kind=2:=by simpa using h4
  rw [if_pos c];replace e:=e (al d.1 c);refine Ab (Ac (Am 3 sr ?_));refine Ai e func48 ?_ (hp:=by simp);refine Ag [4,5] [] sr ?_;exact Ak (Ad sr (rfl))
 ·have aq:¬it.kind=2:=by simpa using h4
  rw [if_neg aq];refine Aa [2,3,7,20,27] [2,3] sr ?_
  refine Ao (fun h5=>?_) (fun h5=>?_)
  ·have c:it.kind=3:=by simpa using h5
   rw [if_pos c];have ay:=ao o;have a6:=aw (y z om om j) c;have a4:=au d.1 c;replace f:=f om om;refine Ab (Ac (Am 3 sr ?_));refine Ai f func49 ?_ (hp:=by simp);refine Ag [4,5] [] sr ?_;exact Ak (Ad sr (rfl))
  ·have ak:¬it.kind=3:=by simpa using h5
   rw [if_neg ak];refine Aa [2,3,7,20,33] [2,3] sr ?_
   refine Ao (fun h6=>?_) (fun h6=>?_)
   ·have c:it.kind=1:=by simpa using h6
    rw [if_pos c];have l1:=ad d.1 c;have l2:=am (y z om om j) c;have g1:=q1 om;have g2:=q2 om;have k1:0<cv.length:=om;have k2:0<hv.length:=om;refine Tc [(0,[]),(4,[]),(1,[]),(2,[]),(3,[]),(5,[]),(6,[]),(7,[]),(8,[]),(9,[])] [2,7] [2] Dm kr (by simp [g1,g2,k1,k2]<;>rfl) ?_;refine Ab (Aa [2,68] [2] sr ?_)
    refine Ao (fun h7=>?_) (fun h7=>Ae ?_)
    ·exact Aa [4,5] [] sr (Ak (Ad sr (by rw [if_pos (by simpa using h7)])))
    exact Aa [4,5] [] sr (Ak (Ad sr (by rw [if_neg (by simpa using h7)])))
   ·have ah:¬it.kind=1:=by simpa using h6
    rw [if_neg ah];refine Aa [2,3,7,20,44] [2,3] sr ?_
    refine Ao (fun h8=>?_) (fun h8=>?_)
    ·have c:it.kind=4:=by simpa using h8
     rw [if_pos c];refine A2 [2,7] [2] sr (Ab (Aa [2,68] [2] sr ?_))
     refine Ao (fun h9=>?_) (fun h9=>Ae ?_)
     ·exact Aa [4,5] [] sr (Ak (Ad sr (by unfold Bcw;rw [if_pos (by simpa using h9)])))
     exact Aa [4,5] [] sr (Ak (Ad sr (by unfold Bcw;rw [if_neg (by simpa using h9)])))
    ·have ar:¬it.kind=4:=by simpa using h8
     rw [if_neg ar];refine Aa [2,3,7,60] [2,3] sr ?_
     refine Ao (fun i=>?_) (fun i=>Ae ?_)
     ·have c:it.kind=5:=by simpa using i
      rw [if_pos c];refine C4 [(0,[]),(2,[]),(1,[]),(3,[]),(4,[]),(5,[]),(6,[])] Dm kr ?_;refine Ch 4 sr ?_;refine Bw (fun hg=>af) func51 rfl kr rfl rfl sr rfl rfl sr (by simp) sr ?_;refine Bw (fun hg=>ax) func50 rfl kr rfl rfl sr rfl rfl sr (by simp) sr ?_;refine C5 [2,7] [2] sr ?_;refine Ab (Aa [2,68] [2] sr ?_)
      refine Ao (fun g=>?_) (fun g=>Ae ?_)
      ·exact Aa [4,5] [] sr (Ak (Ad sr (by rw [if_pos (by simpa using g)])))
      exact Aa [4,5] [] sr (Ak (Ad sr (by rw [if_neg (by simpa using g)])))
     have ae:¬it.kind=5:=by simpa using i
     rw [if_neg ae];refine Ab (Aa [2,68] [2] sr ?_);refine A6 rfl (fun s=>by simp at s) (fun s=>Ae ?_);exact Aa [4,5] [] sr (Ak (Ad sr sm))
def Hg(l:List It):List V:=l.map It.v
@[simp]theorem Fl(l:List It):(Hg l).length=l.length:=by simp [Hg]
theorem Agu{l:List It}{k:Nat}(h:k<l.length):Hs (Hg l) k=some l[k].v:=by rw [C1];simp [Hg,h]
theorem A84(it:It):it.v.pureE=true:=by
 have h1:=Ct it.opts;have h2:=Af it.ch;have a:=Ct it.txts;have c:=Af it.ass;unfold It.v;simp [V.pureE,V.pureC]
theorem Eu(l:List It):(Hg l).all V.pureE=true:=by
 rw [Ax];intro x a;simp only [Hg,Bk]at a;obtain⟨n,_,rfl⟩:=a;exact A84 n
def E7(l:List An):List V:=l.map An.v
@[simp]theorem Fz(l:List An):(E7 l).length=l.length:=by simp [E7]
theorem Sw{l:List An}{k:Nat}(h:k<l.length):Hs (E7 l) k=some l[k].v:=by rw [C1];simp [E7,h]
theorem A85(a:An):a.v.pureE=true:=by
 have h2:=Af a.ch;unfold An.v;simp [V.pureE,V.pureC]
theorem D0(l:List An):(E7 l).all V.pureE=true:=by
 rw [Ax];intro x a;simp only [E7,Bk]at a;obtain⟨n,_,rfl⟩:=a;exact A85 n
structure Dl where
 ses:Int
 cand:Int
 p:Po
 pool:List Pit
 items:List It
 ess:List Int
 uses:List (Int × Int)
 served:Int
 sec:Int
 nu:Int
 de:Int
 ex:Int
 seed:Int
def Dl.v(d:Dl):V:=V.agg [.int .i64 d.ses,.int .i64 d.cand,.int .i64 d.p.len,.ro 5 (Ee d.p.rules),.ro 1 (As d.p.g.pts),.ro 1 (As d.p.g.pri),.ro 2 (A0 d.p.en),.int .i64 d.p.mn,.bool d.p.var.num.neg,.ro 1 (Au d.p.var.num.mag),.ro 1 (Au d.p.var.den),.int .i64 d.p.cut,.bool d.p.lvl.num.neg,.ro 1 (Au d.p.lvl.num.mag),.ro 1 (Au d.p.lvl.den),.int .i64 d.p.top,.bool d.p.rate.num.neg,.ro 1 (Au d.p.rate.num.mag),.ro 1 (Au d.p.rate.den),.int .i64 d.p.slack,.ro 9 (B8 d.pool),.ro 17 (Hg d.items),.ro 1 (As d.ess),.ro 2 (A0 d.uses),.int .i64 d.served,.int .i64 d.sec,.int .i64 d.nu,.int .i64 d.de,.int .i64 d.ex,.int .u64 d.seed]
structure Se where
 st:Int
 us:Int
 la:Int
 sh:Int
 t:Te
 ans:List An
 inc:List In4
def Se.v(s:Se):V:=V.agg [.int .i64 s.st,.int .i64 s.us,.int .i64 s.la,.int .i64 s.sh,.ro 1 (As s.t.elig),.ro 2 (A0 s.t.steps),.int .i64 s.t.pend,.ro 1 (Bv s.t.w),.int .u64 s.t.draw,.int .i64 s.t.stop,.ro 5 (E7 s.ans),.ro 4 (Dc s.inc)]
theorem Aqe(n:Int):AC prog 33 [.int .i64 n] (fun r=>r=.bool (Jj n 1 9999999)):=by
 unfold Jj;refine Ay func33 (fun w0 N0=>?_);refine Aa [0] [] sr ?_;exact Aa [2] [] sr (Ak (Ad sr rf))
def Hw(s:Se)(n:Int):Bool:=decide (0<=n)&&decide (s.la<=n)&&decide (n<=1099511627776)
theorem Akh(s:Se)(n:Int):AC prog 29 [s.v,.int .i64 n] (fun r=>r=.bool (Hw s n)):=by
 unfold Hw;have a:s.v=V.agg [.int .i64 s.st,.int .i64 s.us,.int .i64 s.la,.int .i64 s.sh,.ro 1 (As s.t.elig),.ro 2 (A0 s.t.steps),.int .i64 s.t.pend,.ro 1 (Bv s.t.w),.int .u64 s.t.draw,.int .i64 s.t.stop,.ro 5 (E7 s.ans),.ro 4 (Dc s.inc)]:=rfl;rw [a];have z1:=Af s.t.elig;have z2:=A4 s.t.steps;have z3:=Br s.t.w;have z4:=D0 s.ans;have z5:=Dh s.inc;have c:=Fz s.ans;have e:=Ey s.inc;generalize As s.t.elig=ti,A0 s.t.steps=ts,Bv s.t.w=tw,E7 s.ans=d,Dc s.inc=f at*;refine Ay func29 (fun w0 N0=>?_);refine Aa [1,2] [2] sr ?_;exact Aa [4] [] sr (Ak (Ad sr rf))
def Gk(s:Se)(n:Int):Int:=if s.st=1 then IntKind.i64.wrap (IntKind.i64.wrap (s.us+n)-s.la)else s.us
theorem Wq(s:Se)(n:Int):AC prog 32 [s.v,.int .i64 n] (fun r=>r=.int .i64 (Gk s n)):=by
 unfold Gk;have a:s.v=V.agg [.int .i64 s.st,.int .i64 s.us,.int .i64 s.la,.int .i64 s.sh,.ro 1 (As s.t.elig),.ro 2 (A0 s.t.steps),.int .i64 s.t.pend,.ro 1 (Bv s.t.w),.int .u64 s.t.draw,.int .i64 s.t.stop,.ro 5 (E7 s.ans),.ro 4 (Dc s.inc)]:=rfl;rw [a];have z1:=Af s.t.elig;have z2:=A4 s.t.steps;have z3:=Br s.t.w;have z4:=D0 s.ans;have z5:=Dh s.inc;have c:=Fz s.ans;have e:=Ey s.inc;generalize As s.t.elig=ti,A0 s.t.steps=ts,Bv s.t.w=tw,E7 s.ans=d,Dc s.inc=f at*;refine Ay func32 (fun w0 N0=>?_);refine Aa [1,2] [2] sr (Ab (Aa [1,2,7] [2] sr ?_))
 refine Ao (fun h1=>?_) (fun h1=>Ae ?_)
 ·exact Aa [4] [] sr (Ak (Ad sr (by rw [if_pos (by simpa using h1)])))
 exact Aa [4] [] sr (Ak (Ad sr (by rw [if_neg (by simpa using h1)])))
def Aqf(s:Se):Bool:=decide (s.st=1)||decide (s.st=2)
theorem Av4(s:Se):AC prog 77 [s.v] (fun r=>r=.bool (Aqf s)):=by
 unfold Aqf;have a:s.v=V.agg [.int .i64 s.st,.int .i64 s.us,.int .i64 s.la,.int .i64 s.sh,.ro 1 (As s.t.elig),.ro 2 (A0 s.t.steps),.int .i64 s.t.pend,.ro 1 (Bv s.t.w),.int .u64 s.t.draw,.int .i64 s.t.stop,.ro 5 (E7 s.ans),.ro 4 (Dc s.inc)]:=rfl;rw [a];have z1:=Af s.t.elig;have z2:=A4 s.t.steps;have z3:=Br s.t.w;have z4:=D0 s.ans;have z5:=Dh s.inc;have c:=Fz s.ans;have e:=Ey s.inc;generalize As s.t.elig=ti,A0 s.t.steps=ts,Bv s.t.w=tw,E7 s.ans=d,Dc s.inc=f at*;refine Ay func77 (fun w0 N0=>?_);refine Aa [1] [1] sr ?_;exact Aa [2] [] sr (Ak (Ad sr rf))
def Ej(d:Dl)(s:Se):Int:=IntKind.i64.wrap (R3 d.sec d.nu d.de d.ex+Ix s.inc d.sec)
theorem Ab4(d:Dl)(s:Se):AC prog 31 [d.v,s.v] (fun r=>r=.int .i64 (Ej d s)):=by
 have k:=Ap6 d.sec d.nu d.de d.ex;have i:=Avv s.inc d.sec;unfold Ej;generalize R3 d.sec d.nu d.de d.ex=x1,Ix s.inc d.sec=x2 at*;have h:d.v=V.agg [.int .i64 d.ses,.int .i64 d.cand,.int .i64 d.p.len,.ro 5 (Ee d.p.rules),.ro 1 (As d.p.g.pts),.ro 1 (As d.p.g.pri),.ro 2 (A0 d.p.en),.int .i64 d.p.mn,.bool d.p.var.num.neg,.ro 1 (Au d.p.var.num.mag),.ro 1 (Au d.p.var.den),.int .i64 d.p.cut,.bool d.p.lvl.num.neg,.ro 1 (Au d.p.lvl.num.mag),.ro 1 (Au d.p.lvl.den),.int .i64 d.p.top,.bool d.p.rate.num.neg,.ro 1 (Au d.p.rate.num.mag),.ro 1 (Au d.p.rate.den),.int .i64 d.p.slack,.ro 9 (B8 d.pool),.ro 17 (Hg d.items),.ro 1 (As d.ess),.ro 2 (A0 d.uses),.int .i64 d.served,.int .i64 d.sec,.int .i64 d.nu,.int .i64 d.de,.int .i64 d.ex,.int .u64 d.seed]:=rfl;have j:s.v=V.agg [.int .i64 s.st,.int .i64 s.us,.int .i64 s.la,.int .i64 s.sh,.ro 1 (As s.t.elig),.ro 2 (A0 s.t.steps),.int .i64 s.t.pend,.ro 1 (Bv s.t.w),.int .u64 s.t.draw,.int .i64 s.t.stop,.ro 5 (E7 s.ans),.ro 4 (Dc s.inc)]:=rfl;rw [h,j];have d0:=Cq d.p.rules;have d1:=Af d.p.g.pts;have d2:=Af d.p.g.pri;have o:=A4 d.p.en;have x:=Ah d.p.var.num.mag;have z:=Ah d.p.var.den;have d6:=Ah d.p.lvl.num.mag;have y:=Ah d.p.lvl.den;have u:=Ah d.p.rate.num.mag;have d9:=Ah d.p.rate.den;have e:=B4 d.pool;have a:=Eu d.items;have f:=Af d.ess;have c:=A4 d.uses;generalize Ee d.p.rules=rv,As d.p.g.pts=pt,As d.p.g.pri=pr,A0 d.p.en=ev,Au d.p.var.num.mag=vm,Au d.p.var.den=vd,Au d.p.lvl.num.mag=lm,Au d.p.lvl.den=ld,Au d.p.rate.num.mag=rm,Au d.p.rate.den=rd at*;have ad:=Da d.pool;have ag:=Fl d.items;have ai:=A5 d.ess;generalize B8 d.pool=lv,Hg d.items=aj,As d.ess=af,A0 d.uses=uv at*;have z1:=Af s.t.elig;have m:=A4 s.t.steps;have n:=Br s.t.w;have z4:=D0 s.ans;have l:=Dh s.inc;have ah:=Fz s.ans;have aa:=Ey s.inc;generalize As s.t.elig=ti,A0 s.t.steps=ts,Bv s.t.w=tw,E7 s.ans=ae,Dc s.inc=ab at*;refine Ay func31 (fun w0 N0=>?_);refine Aa [2,3] [2,3] sr (Ab (Ac (Am 4 sr ?_)));refine Ai k func17 ?_ (hp:=by simp);refine Ag [2,3,5] [2,3] sr ?_;refine Ab (Ac (Am 4 sr ?_));refine Ai i func18 ?_ (hp:=by simp);refine Ag [5,7] [] sr ?_;exact Aa [4] [] sr (Ak (Ad sr rf))
def it0:It:=⟨0,0,0,[],[],[],0,0,[],0,[],0,0,0,0,[],0⟩
def Fr(l:List It)(id:Int):Option It:=l.find? fun it=>decide (it.id=id)
def Jd(o:Option It):It:=match o with|some it=>it|none=>it0
theorem Aki:Bl (.agg [.int .i64 0,.int .i64 0,.int .i64 0,.str [],.nils,.nils,.int .i64 0,.int .i64 0,.nils,.int .i64 0,.str [],.int .i64 0,.int .i64 0,.int .i64 0,.int .i64 0,.nils,.int .i64 0]) it0.v:=
 Bl.agg (.cons (Bl.refl _) (.cons (Bl.refl _) (.cons (Bl.refl _) (.cons (Bl.refl _) (.cons (Bl.nils 1) (.cons (Bl.nils 1) (.cons (Bl.refl _) (.cons (Bl.refl _) (.cons (Bl.nils 1) (.cons (Bl.refl _) (.cons (Bl.refl _) (.cons (Bl.refl _) (.cons (Bl.refl _) (.cons (Bl.refl _) (.cons (Bl.refl _) (.cons (Bl.nils 1) (.cons (Bl.refl _) .nil)))))))))))))))))
theorem Agv(l:List It)(id:Int)(hl:l.length<=4000000):AC prog 62 [.ro 17 (Hg l),.int .i64 id] (fun r=>r=.tup [(Jd (Fr l id)).v,.bool (Fr l id).isSome]):=by
 refine AC.relaxP ?_;have n:=fun(k:Nat)(h:k<l.length)=>Agu h
 have lq:=Fl l;have i:=fun(k:Nat)(h:k<l.length)=>Wf (fun it:It=>decide (it.id=id)) h
 unfold Fr;generalize Hg l=e at*;refine Ay func62 (fun w0 N0=>?_);refine Aa [0,1,4] [4] sr (Ab (Aa [1,4,8,9,10] [4] sr (Ap (Bq (fun k nx=>⟨[(1,V.int .i64 id),(4,V.bp 4 (0) 17 0 0),(8,V.ro 17 e),(9,V.int .i64 e.length),(10,V.int .i64 k)],[(4,{ v:=0,sz:=17,ty:=93,es:=[.agg [.int .i64 0,.int .i64 0,.int .i64 0,.str [],.nils,.nils,.int .i64 0,.int .i64 0,.nils,.int .i64 0,.str [],.int .i64 0,.int .i64 0,.int .i64 0,.int .i64 0,.nils,.int .i64 0]]})],nx,21⟩) (fun k=>(l.drop k).find? (fun it=>decide (it.id=id))=l.find? (fun it=>decide (it.id=id))) l.length _ sm (AS.le_refl _) ?_))));intro k nx hk c;refine Aa [1,4,8,9,10,11] [4] sr (Ab ?_)
 refine Ao (fun h1=>Ae ?_) (fun h1=>?_)
 ·have a:k<l.length:=by simp at h1;omega
  have d:k<e.length:=om;have j:=n k a;have C9:=A7 (k:=k) om;rw [i k a]at c;generalize l[k]=it at*;have g:it.v=V.agg [.int .i64 it.id,.int .i64 it.ver,.int .i64 it.kind,.str it.stem,.ro 1 (D6 it.opts),.ro 1 (As it.ch),.int .i64 it.val,.int .i64 it.tol,.ro 1 (D6 it.txts),.int .i64 it.pts,.str it.code,.int .i64 it.fam,.int .i64 it.set,.int .i64 it.wo,.int .i64 it.se,.ro 1 (As it.ass),.int .i64 it.rub]:=rfl;rw [g]at j;have m:=Ct it.opts;have o:=Af it.ch;have t:=Ct it.txts;have s:=Af it.ass;refine Ab (Ap (Aa [1,4,7,8,9,10] [4,7] (by simp [j,d]<;>rfl) (Aa [1,4,7,8,9,10,17] [4,7] sr ?_)))
  refine Ao (fun h2=>?_) (fun h2=>Ae ?_)
  ·refine Aa [4,5] [4] sr ?_;exact Ak (Ad (by simp [results62]<;>rfl) (by rw [<- c,if_pos (by simpa using h2)];exact Bl.refl _))
  rw [if_neg (by simpa using h2)]at c;refine A2 [1,4,8,9,10] [4] (by simp [C9]<;>rfl) ?_;exact⟨a,c,_,AS.le_refl _⟩
 ·refine A9 ?_;have f:k=l.length:=by simp at h1;omega
  rw [f,Ca]at c;exact Aa [4,5] [4] sr (Ak (Ad sr (by rw [<- c];exact Bl.tup (.cons Aki (.cons (Bl.refl _) .nil)))))
instance:Inhabited It:=⟨it0⟩
theorem A86{l:List It}{k:Nat}(h:k<l.length):Hs (Hg l) k=some (l.getD k it0).v:=by rw [Cf h];exact Agu h
def Bcx(l:List It)(k:Nat):Bool:=decide ((l.getD (k+1) it0).id<=(l.getD k it0).id)
def ciE(l:List It):Int:=if(60:Int)<l.length then 5 else if(List.range (l.length-1)).any (Bcx l)=true then 23 else Kr Q2 l
theorem Agw(hS:Ic)(l:List It)(hl:l.length<=4000000)(s:∀it∈l,it.small):Hm gv prog 36 [.ro 17 (Hg l)] (fun r=>r=.int .i64 (ciE l)):=by
 have af:=fun(k:Nat)(h:k<l.length)=>Ap9 hS (l.getD k it0) (He s h it0)
 have t:=fun(k:Nat)(h:k<l.length)=>A86 h
 have li:=Fl l;have ak:=Eu l;have ah:=fun(k:Nat)(h:k<l.length)=>Ou Q2 h
 have aj:=fun(k:Nat)(h:k<l.length)=>Cf h it0
 unfold ciE;have aa:∀k,Bcx l k=decide ((l.getD (k+1) it0).id<=(l.getD k it0).id):=fun k=>rfl
 generalize Hg l=e,Bcx l=be at*;refine Bx func36 (fun w0 N0 hG=>?_);refine Aa [0] [] sr (Ab (Aa [0,9] [] sr ?_))
 refine Ao (fun h1=>?_) (fun h1=>Ae ?_)
 ·exact Aa [2] [] sr (Ak (Ad sr (by rw [if_pos (by simpa [li]using h1)])))
 rw [if_neg (by simpa [li]using h1)];refine Ab (Aa [0,3] [] sr (Ap (Bq (fun k nx=>⟨[(0,V.ro 17 e),(3,V.int .i64 ((k+1:Nat):Int))],[],nx,40⟩) (fun k=>((List.range (l.length-1)).take k).any be=false) (l.length-1) _ sm (AS.le_refl _) ?_)));intro k nx hk hI;refine Ab (Aa [0,3,13] [] sr ?_)
 refine Ao (fun h2=>Ae ?_) (fun h2=>?_)
 ·have a:k<l.length-1:=by simp at h2;omega
  have ag:k<e.length:=om;have w:k+1<e.length:=om;have ad:((k:Int)+1)<e.length:=om;have ab:(0:Int)<=(k:Int)+1:=om;have i:=t k om;have gb:=t (k+1) om;have hb:=aa k;have ae:=fun h=>Ii (l.length-1) k be a hI h
  have u:=fun h=>Nd (f:=be) a h
  unfold It.v at i gb;generalize l.getD k it0=x,l.getD (k+1) it0=y at*;have ai:IntKind.i64.wrap (((k+1:Nat):Int)-1)=(k:Int):=by rw [Bb om (by omega)];omega
  have j:IntKind.i64.wrap (k:Int)=(k:Int):=Bb om om;have Pq:IntKind.i64.wrap ((k:Int)+1+1)=((k+1+1:Nat):Int):=by rw [Bb om (by omega)];omega
  refine Ab (Ap (Di [(0,[]),(1,[]),(2,[]),(3,[]),(5,[]),(6,[]),(7,[]),(8,[]),(9,[]),(4,[]),(10,[]),(11,[])] [0,3,27] [] Dm kr (by simp [i,gb,ab,ag,ad,j,-Int.natCast_add]<;>rfl) ?_))
  refine Ao (fun h3=>?_) (fun h3=>Ae ?_)
  ·exact Aa [2] [] sr (Ak (Ad sr (by rw [if_pos (u (by rw [hb];simpa using h3))])))
  refine A2 [0,3] [] (by simp [Pq,-Int.natCast_add]<;>rfl) ?_;exact⟨a,ae (by rw [hb];simpa using h3),_,AS.le_refl _⟩
 ·refine A9 ?_;have g:k=l.length-1:=by simp at h2;omega
  rw [g,Bf (by simp)]at hI;rw [if_neg (by rw [hI];simp)];refine Ab (Aa [28,29,30] [] sr (Ap (Bq (fun k nx=>⟨[(28,V.ro 17 e),(29,V.int .i64 e.length),(30,V.int .i64 k)],[],nx,40⟩) (fun k=>Kr Q2 (l.drop k)=Kr Q2 l) l.length _ rfl (AS.le_refl _) ?_)));intro k nx hk c;refine Aa [28,29,30,31] [] sr (Ab ?_)
  refine Ao (fun n=>Ae ?_) (fun n=>?_)
  ·have a:k<l.length:=by simp at n;omega
   have m:k<e.length:=om;have i:=t k a;have o:=ah k a;have d:=af k a;have C9:=A7 (k:=k) om;rw [o,<- aj k a]at c;generalize l.getD k it0=it at*;have j1:=Ct it.opts;have j2:=Af it.ch;have j3:=Ct it.txts;have j4:=Af it.ass;unfold It.v at i d;refine Ab (Ap (Aa [5,28,29,30] [5] (by simp [i,m]<;>rfl) (Ab (Ac (Am 1 sr ?_)))));refine Be hG d func61 ?_ (hp:=by simp);refine Ag [6,28,29,30] [] sr ?_;refine Aa [6,28,29,30,37] [] sr ?_
   refine Ao (fun z=>?_) (fun z=>Ae ?_)
   ·exact Aa [2] [] sr (Ak (Ad sr (by rw [<- c,if_pos (by simpa using z)])))
   rw [if_neg (by simpa using z)]at c;refine A2 [28,29,30] [] (by simp [C9]<;>rfl) ?_;exact⟨a,c,_,AS.le_refl _⟩
  ·refine A9 ?_;have g:k=l.length:=by simp at n;omega
   rw [g,Ca]at c;exact Aa [2] [] sr (Ak (Ad sr (by rw [<- c];rfl)))
def Adc(l:List It)(x:Pit):Int:=
 if(Fr l x.id).isSome=false then 6
 else if(Jd (Fr l x.id)).kind=6\/(Jd (Fr l x.id)).pts≠x.pt\/(Wv x.m:Int)≠IntKind.i64.wrap ((Jd (Fr l x.id)).pts+1)then 19 else 0
theorem Amj(l:List It)(x:Pit)(g:l.length<=4000000):AC prog 37 [.ro 17 (Hg l),x.v] (fun r=>r=.int .i64 (Adc l x)):=by
 have c:=Agv l x.id g;have a:=Ali x.m;have d:=Eu l;unfold Adc;have j1:=Ct (Jd (Fr l x.id)).opts;have j2:=Af (Jd (Fr l x.id)).ch;have j3:=Ct (Jd (Fr l x.id)).txts;have j4:=Af (Jd (Fr l x.id)).ass;have e:=Dw x.m;have f:moV x.m=.agg [.ro 1 (Ek x.m)]:=rfl;rw [f]at a;unfold It.v at c;rw [G9];generalize(Fr l x.id).isSome=fs,Jd (Fr l x.id)=it,Hg l=lv,Ek x.m=mv at*;refine Ay func37 (fun w0 N0=>?_);refine Aa [0,3] [3] sr (Ab (Ac (Am 3 sr ?_)));refine Ai c func62 ?_ (hp:=by simp);refine Ag [3,5,6] [3,5] sr ?_;refine Ab (Aa [3,5,15] [3,5] sr ?_)
 refine Ao (fun h1=>?_) (fun h1=>Ae ?_)
 ·exact Aa [4] [] sr (Ak (Ad sr (by rw [if_pos (by simpa using h1)])))
 rw [if_neg (by simpa using h1)];refine Ab (Ab (C4 [(0,[]),(1,[]),(2,[]),(3,[]),(4,[]),(6,[]),(5,[]),(7,[]),(8,[]),(9,[]),(10,[]),(11,[]),(14,[]),(12,[]),(13,[]),(15,[]),(16,[]),(17,[]),(18,[])] Dm kr ?_));refine Ch 14 sr ?_;refine Bw (fun hg=>a) func63 rfl kr rfl rfl sr rfl rfl sr (by simp) sr ?_;refine C5 [34] [] sr ?_
 refine Ao (fun h2=>?_) (fun h2=>Ae ?_)
 ·exact Aa [4] [] sr (Ak (Ad sr (by rw [if_pos (by simpa [or_assoc]using h2)])))
 exact Aa [4] [] sr (Ak (Ad sr (by rw [if_neg (by simpa [or_assoc,and_assoc]using h2)])))
def Ade(d:Dl)(i:Nat):Int:=
 if decide (d.ess.getD i 0∈d.ess.take i)=true then 7 else if(Fr d.items (d.ess.getD i 0)).isSome=false then 6 else if(Jd (Fr d.items (d.ess.getD i 0))).kind≠6 then 1 else 0
theorem Aia(d:Dl)(i:Nat)(hi:i<d.ess.length)(hl:d.items.length<=4000000)(he:d.ess.length<=4000000):AC prog 38 [d.v,.int .i64 i] (fun r=>r=.int .i64 (Ade d i)):=by
 have c:=Agv d.items (d.ess.getD i 0) hl;have t:=Rh (d.ess.take i) (d.ess.getD i 0);have ge:=Dj hi;have n:(As d.ess).take i=As (d.ess.take i):=by simp [As]
 have l:=Af (d.ess.take i);unfold Ade;have j1:=Ct (Jd (Fr d.items (d.ess.getD i 0))).opts;have j2:=Af (Jd (Fr d.items (d.ess.getD i 0))).ch;have j3:=Ct (Jd (Fr d.items (d.ess.getD i 0))).txts;have j4:=Af (Jd (Fr d.items (d.ess.getD i 0))).ass;unfold It.v at c;generalize(Fr d.items (d.ess.getD i 0)).isSome=fs at*;generalize Jd (Fr d.items (d.ess.getD i 0))=it at*;generalize decide (d.ess.getD i 0∈d.ess.take i)=mb at*;generalize d.ess.getD i 0=x at*;have k:d.v=V.agg [.int .i64 d.ses,.int .i64 d.cand,.int .i64 d.p.len,.ro 5 (Ee d.p.rules),.ro 1 (As d.p.g.pts),.ro 1 (As d.p.g.pri),.ro 2 (A0 d.p.en),.int .i64 d.p.mn,.bool d.p.var.num.neg,.ro 1 (Au d.p.var.num.mag),.ro 1 (Au d.p.var.den),.int .i64 d.p.cut,.bool d.p.lvl.num.neg,.ro 1 (Au d.p.lvl.num.mag),.ro 1 (Au d.p.lvl.den),.int .i64 d.p.top,.bool d.p.rate.num.neg,.ro 1 (Au d.p.rate.num.mag),.ro 1 (Au d.p.rate.den),.int .i64 d.p.slack,.ro 9 (B8 d.pool),.ro 17 (Hg d.items),.ro 1 (As d.ess),.ro 2 (A0 d.uses),.int .i64 d.served,.int .i64 d.sec,.int .i64 d.nu,.int .i64 d.de,.int .i64 d.ex,.int .u64 d.seed]:=rfl;rw [k];have d0:=Cq d.p.rules;have d1:=Af d.p.g.pts;have d2:=Af d.p.g.pri;have u:=A4 d.p.en;have y:=Ah d.p.var.num.mag;have d5:=Ah d.p.var.den;have d6:=Ah d.p.lvl.num.mag;have z:=Ah d.p.lvl.den;have w:=Ah d.p.rate.num.mag;have d9:=Ah d.p.rate.den;have h:=B4 d.pool;have a:=Eu d.items;have j:=Af d.ess;have f:=A4 d.uses;generalize Ee d.p.rules=rv at*;generalize As d.p.g.pts=pt at*;generalize As d.p.g.pri=pr at*;generalize A0 d.p.en=ev at*;generalize Au d.p.var.num.mag=vm at*;generalize Au d.p.var.den=vd at*;generalize Au d.p.lvl.num.mag=lm at*;generalize Au d.p.lvl.den=ld at*;generalize Au d.p.rate.num.mag=rm at*;generalize Au d.p.rate.den=rd at*;have aa:=Da d.pool;have ab:=Fl d.items;have ad:=A5 d.ess;generalize B8 d.pool=lv at*;generalize Hg d.items=ae at*;generalize As d.ess=e at*;generalize A0 d.uses=uv at*;have o:i<e.length:=om;have m:(0:Int)<=(i:Int)/\(i:Int)<=e.length:=om;refine Ay func38 (fun w0 N0=>?_);refine Aa [1,2] [2] sr (Aa [1,2,5] [2] (by simp [ge,o]<;>rfl) (Ab (Ab (Ac (Am 5 (by simp [m,n]<;>rfl) ?_)))));refine Ai t func64 ?_ (hp:=by simp);refine Ag [2,5,18] [2] sr ?_
 refine Ao (fun h1=>?_) (fun h1=>Ae ?_)
 ·exact Aa [4] [] sr (Ak (Ad sr (by rw [if_pos (by simpa using h1)])))
 rw [if_neg (by simpa using h1)];refine Ab (Ac (Am 3 sr ?_));refine Ai c func62 ?_ (hp:=by simp);refine Ag [6,7] [6] sr ?_;refine Ab (Aa [6,27] [6] sr ?_)
 refine Ao (fun h2=>?_) (fun h2=>Ae ?_)
 ·exact Aa [4] [] sr (Ak (Ad sr (by rw [if_pos (by simpa using h2)])))
 rw [if_neg (by simpa using h2)];refine Ab (Aa [30] [] sr ?_)
 refine Ao (fun s=>?_) (fun s=>Ae ?_)
 ·exact Aa [4] [] sr (Ak (Ad sr (by rw [if_pos (by simpa using s)])))
 exact Aa [4] [] sr (Ak (Ad sr (by rw [if_neg (by simpa using s)])))
structure DlOk(d:Dl):Prop where
 pok:d.p.ok
 pl:d.pool.length<=9
 st:Fm d.p.rules<=3
 il:d.items.length<=4000000
 is:∀it∈d.items,it.small
 el:d.ess.length<=4000000
def Gv(d:Dl):Int:=
 if Jj d.ses 1 9999999=false\/Jj d.cand 1 9999999=false\/Jj d.sec 1 9999999=false then 3
 else if U0 d.p≠0 then U0 d.p
 else if Kd d.pool d.p.g.pts.length≠0 then Kd d.pool d.p.g.pts.length
 else if ciE d.items≠0 then ciE d.items
 else if Kr (Adc d.items) d.pool≠0 then Kr (Adc d.items) d.pool
 else if(5:Int)<d.ess.length then 5
 else if Kr (Ade d) (List.range d.ess.length)≠0 then Kr (Ade d) (List.range d.ess.length)
 else if Agt d.nu d.de d.ex≠0 then Agt d.nu d.de d.ex
 else A4k d.p d.pool d.uses d.served d.seed
def Cx(d:Dl):Te:=Ap2 d.p d.pool d.uses d.served d.seed
theorem Yc(hS:Ic)(d:Dl)(h:DlOk d):Hm gv prog 20 [d.v] (fun r=>r=teR (Gv d) (Cx d)):=by
 refine Hm.relaxP ?_;have ab:=Aqe;have ah:=P5 d.p h.pok;have al:=Mq d.pool d.p.g.pts.length;have a3:=Agw hS d.items h.il h.is;have av:=fun x=>Amj d.items x h.il
 have aj:=fun(i:Nat)(hi:i<d.ess.length)=>Aia d i hi h.il h.el
 have ay:=Acy d.nu d.de d.ex;have u:=Ayl d.p d.pool d.uses d.served d.seed h.pok h.pl (fun _ =>h.st);have a6:=h.pl;have a7:=h.el;have qp:=fun(k:Nat)(h:k<d.pool.length)=>I7 h
 have az:=fun(k:Nat)(h:k<d.pool.length)=>Ou (Adc d.items) h
 have a0:=fun(k:Nat)(h:k<(List.range d.ess.length).length)=>Ou (Ade d) h
 have aq:=A5 d.p.g.pts;have hT:∀e,teR e (Cx d)=.tup [(if e=0 then Cx d else W2).v,.int .i64 e]:=fun e=>rfl
 change Hm _ _ _ _ (fun r=>r=teR (A4k d.p d.pool d.uses d.served d.seed) (Cx d))at u;unfold Gv;generalize A4k d.p d.pool d.uses d.served d.seed=s at*;have aw:=hT s;rw [aw]at u;have a1:∀t:Te,t.v=.agg [.ro 1 (As t.elig),.ro 2 (A0 t.steps),.int .i64 t.pend,.ro 1 (Bv t.w),.int .u64 t.draw,.int .i64 t.stop]:=fun t=>rfl
 rw [a1]at u;have y1:=Af (if s=0 then Cx d else W2).elig;have y2:=A4 (if s=0 then Cx d else W2).steps;have y3:=Br (if s=0 then Cx d else W2).w;have ax:Bl (.tup [.agg [.ro 1 (As (if s=0 then Cx d else W2).elig),.ro 2 (A0 (if s=0 then Cx d else W2).steps),.int .i64 (if s=0 then Cx d else W2).pend,.ro 1 (Bv (if s=0 then Cx d else W2).w),.int .u64 (if s=0 then Cx d else W2).draw,.int .i64 (if s=0 then Cx d else W2).stop],.int .i64 s]) (teR s (Cx d)):=Bl.refl _;generalize(if s=0 then Cx d else W2)=tt at*;have a2:d.p.v=.agg [.int .i64 d.p.len,.ro 5 (Ee d.p.rules),.ro 1 (As d.p.g.pts),.ro 1 (As d.p.g.pri),.ro 2 (A0 d.p.en),.int .i64 d.p.mn,.bool d.p.var.num.neg,.ro 1 (Au d.p.var.num.mag),.ro 1 (Au d.p.var.den),.int .i64 d.p.cut,.bool d.p.lvl.num.neg,.ro 1 (Au d.p.lvl.num.mag),.ro 1 (Au d.p.lvl.den),.int .i64 d.p.top,.bool d.p.rate.num.neg,.ro 1 (Au d.p.rate.num.mag),.ro 1 (Au d.p.rate.den),.int .i64 d.p.slack]:=rfl;rw [a2]at ah u;have ar:d.v=V.agg [.int .i64 d.ses,.int .i64 d.cand,.int .i64 d.p.len,.ro 5 (Ee d.p.rules),.ro 1 (As d.p.g.pts),.ro 1 (As d.p.g.pri),.ro 2 (A0 d.p.en),.int .i64 d.p.mn,.bool d.p.var.num.neg,.ro 1 (Au d.p.var.num.mag),.ro 1 (Au d.p.var.den),.int .i64 d.p.cut,.bool d.p.lvl.num.neg,.ro 1 (Au d.p.lvl.num.mag),.ro 1 (Au d.p.lvl.den),.int .i64 d.p.top,.bool d.p.rate.num.neg,.ro 1 (Au d.p.rate.num.mag),.ro 1 (Au d.p.rate.den),.int .i64 d.p.slack,.ro 9 (B8 d.pool),.ro 17 (Hg d.items),.ro 1 (As d.ess),.ro 2 (A0 d.uses),.int .i64 d.served,.int .i64 d.sec,.int .i64 d.nu,.int .i64 d.de,.int .i64 d.ex,.int .u64 d.seed]:=rfl;rw [ar]at aj;rw [ar];rw [<- aq]at al;generalize ak:Kd d.pool (As d.p.g.pts).length=qe at*;rw [aq]at ak;rw [ak];generalize U0 d.p=pe at*;generalize ciE d.items=ce at*;generalize Agt d.nu d.de d.ex=ae at*;generalize Ade d=eE at*;generalize Adc d.items=pE at*;have d0:=Cq d.p.rules;have d1:=Af d.p.g.pts;have d2:=Af d.p.g.pri;have d3:=A4 d.p.en;have d4:=Ah d.p.var.num.mag;have d5:=Ah d.p.var.den;have d6:=Ah d.p.lvl.num.mag;have d7:=Ah d.p.lvl.den;have d8:=Ah d.p.rate.num.mag;have d9:=Ah d.p.rate.den;have n:=B4 d.pool;have f:=Eu d.items;have l:=Af d.ess;have o:=A4 d.uses;generalize Ee d.p.rules=rv at*;generalize As d.p.g.pts=pt at*;generalize As d.p.g.pri=pr at*;generalize A0 d.p.en=ev at*;generalize Au d.p.var.num.mag=vm at*;generalize Au d.p.var.den=vd at*;generalize Au d.p.lvl.num.mag=lm at*;generalize Au d.p.lvl.den=ld at*;generalize Au d.p.rate.num.mag=rm at*;generalize Au d.p.rate.den=rd at*;have a4:=Da d.pool;have a5:=Fl d.items;have am:=A5 d.ess;generalize B8 d.pool=lv at*;generalize Hg d.items=ao at*;generalize As d.ess=au at*;generalize A0 d.uses=uv at*;refine Bx func20 (fun w0 N0 hG=>?_);refine Aa [1,2] [1,2] sr ?_;refine Ab (Ab (Ac (Am 2 sr ?_)));refine Ai (ab d.ses) func33 ?_;refine Am 4 sr ?_;refine De (c:=Jj d.ses 1 9999999) (fun hg=>ab d.cand) func33 rfl kr sr rfl rfl sr sm sr ?_;refine Am 5 sr ?_;refine De (c:=Jj d.ses 1 9999999&&Jj d.cand 1 9999999) (fun hg=>ab d.sec) func33 rfl kr sr rfl rfl sr sm sr ?_;refine Ag [1,2,28] [1,2] sr ?_
 refine Ao (fun h1=>?_) (fun h1=>Ae ?_)
 ·refine Aa [2,3] [2] sr ?_;exact Ak (Ad sr (by rw [if_pos (by simpa [or_assoc]using h1)];exact F6 dc _))
 rw [if_neg (by simpa [or_assoc,and_assoc]using h1)];refine Ab (Ab (Ac (Am 2 sr ?_)));refine Be hG ah func34 ?_ (hp:=by simp);refine Ag [1,2,4] [1,2] sr ?_;refine Aa [1,2,4,34] [1,2] sr ?_
 refine Ao (fun h2=>?_) (fun h2=>Ae ?_)
 ·refine Aa [2,3] [2] sr ?_;exact Ak (Ad sr (by rw [if_pos (by simpa using h2)];exact F6 (by simpa using h2) _))
 rw [if_neg (by simpa using h2)];refine Ab (Ab (Ac (Am 7 sr ?_)));refine Be hG al func35 ?_ (hp:=by simp);refine Ag [1,2,5] [1,2] sr ?_;refine Aa [1,2,5,46] [1,2] sr ?_
 refine Ao (fun h3=>?_) (fun h3=>Ae ?_)
 ·refine Aa [2,3] [2] sr ?_;exact Ak (Ad sr (by rw [if_pos (by simpa using h3)];exact F6 (by simpa using h3) _))
 rw [if_neg (by simpa using h3)];refine Ab (Ab (Ac (Am 2 sr ?_)));refine Be hG a3 func36 ?_ (hp:=by simp);refine Ag [1,2,6] [1,2] sr ?_;refine Aa [1,2,6,53] [1,2] sr ?_
 refine Ao (fun h4=>?_) (fun h4=>Ae ?_)
 ·refine Aa [2,3] [2] sr ?_;exact Ak (Ad sr (by rw [if_pos (by simpa using h4)];exact F6 (by simpa using h4) _))
 rw [if_neg (by simpa using h4)];refine Ab (Aa [1,2,57,58,59] [1,2] sr ?_);refine Ap (Bq (fun k nx=>⟨[(1,V.bp 1 (0) 30 0 0),(2,V.bp 2 (1) 6 0 0),(57,.ro 9 lv),(58,_),(59,V.int .i64 k)],[(1,{ v:=0,sz:=30,ty:=44,es:=[V.agg [.int .i64 d.ses,.int .i64 d.cand,.int .i64 d.p.len,.ro 5 rv,.ro 1 pt,.ro 1 pr,.ro 2 ev,.int .i64 d.p.mn,.bool d.p.var.num.neg,.ro 1 vm,.ro 1 vd,.int .i64 d.p.cut,.bool d.p.lvl.num.neg,.ro 1 lm,.ro 1 ld,.int .i64 d.p.top,.bool d.p.rate.num.neg,.ro 1 rm,.ro 1 rd,.int .i64 d.p.slack,.ro 9 lv,.ro 17 ao,.ro 1 au,.ro 2 uv,.int .i64 d.served,.int .i64 d.sec,.int .i64 d.nu,.int .i64 d.de,.int .i64 d.ex,.int .u64 d.seed]]}),(2,{ v:=1,sz:=6,ty:=54,es:=[.agg [.nils,.nils,.int .i64 0,.nils,.int .u64 0,.int .i64 0]]})],nx,111⟩) (fun k=>Kr pE (d.pool.drop k)=Kr pE d.pool) d.pool.length _ sm (AS.le_refl _) ?_);intro k nx hk hI;refine Aa [1,2,57,58,59,60] [1,2] sr ?_;refine Ab ?_
 refine Ao (fun h5=>Ae ?_) (fun h5=>?_)
 ·have j:k<d.pool.length:=by simp at h5;omega
  have an:k<lv.length:=om;have ga:=qp k j;have aa:=az k j;have C9:=A7 (k:=k) om;rw [aa]at hI;generalize d.pool[k]=x at*;have z:=av x;have pm:=Dw x.m;rw [G9]at ga z;refine Ab (Ap (Aa [1,2,8,57,58,59] [1,2,8] (by simp [ga,an]<;>rfl) ?_));refine Ab (Ac (Am 3 sr ?_));refine Ai z func37 ?_ (hp:=by simp);refine Ag [1,2,9,57,58,59] [1,2] sr ?_;refine Aa [1,2,9,57,58,59,68] [1,2] sr ?_
  refine Ao (fun h6=>?_) (fun h6=>Ae ?_)
  ·refine Aa [2,3] [2] sr ?_;exact Ak (Ad sr (by have ai:pE x≠0:=(by simpa using h6);rw [if_pos ai]at hI;rw [<- hI,if_pos ai];exact F6 (by simpa using h6) _))
  rw [if_neg (by simpa using h6)]at hI;refine A2 [1,2,57,58,59] [1,2] (by simp [C9]<;>rfl) ?_;exact⟨j,hI,_,AS.le_refl _⟩
 ·refine A9 ?_;have ad:k=d.pool.length:=by simp at h5;omega
  rw [ad,Ca]at hI;rw [if_neg (by rw [<- hI];simp [Kr])];refine Ab (Aa [1,2,75] [1,2] sr ?_)
  refine Ao (fun h7=>?_) (fun h7=>Ae ?_)
  ·refine Aa [2,3] [2] sr ?_;exact Ak (Ad sr (by rw [if_pos (by simpa [am]using h7)];exact F6 dc _))
  rw [if_neg (by simpa [am]using h7)];refine Ab (Aa [1,2,79,80] [1,2] sr ?_);refine Ap (Bq (fun k nx=>⟨[(1,V.bp 1 (0) 30 0 0),(2,V.bp 2 (1) 6 0 0),(79,_),(80,V.int .i64 k)],[(1,{ v:=0,sz:=30,ty:=44,es:=[V.agg [.int .i64 d.ses,.int .i64 d.cand,.int .i64 d.p.len,.ro 5 rv,.ro 1 pt,.ro 1 pr,.ro 2 ev,.int .i64 d.p.mn,.bool d.p.var.num.neg,.ro 1 vm,.ro 1 vd,.int .i64 d.p.cut,.bool d.p.lvl.num.neg,.ro 1 lm,.ro 1 ld,.int .i64 d.p.top,.bool d.p.rate.num.neg,.ro 1 rm,.ro 1 rd,.int .i64 d.p.slack,.ro 9 lv,.ro 17 ao,.ro 1 au,.ro 2 uv,.int .i64 d.served,.int .i64 d.sec,.int .i64 d.nu,.int .i64 d.de,.int .i64 d.ex,.int .u64 d.seed]]}),(2,{ v:=1,sz:=6,ty:=54,es:=[.agg [.nils,.nils,.int .i64 0,.nils,.int .u64 0,.int .i64 0]]})],nx,111⟩) (fun k=>Kr eE ((List.range d.ess.length).drop k)=Kr eE (List.range d.ess.length)) d.ess.length _ sm (AS.le_refl _) ?_);intro k nx hk a;refine Aa [1,2,79,80,81] [1,2] sr ?_;refine Ab ?_
  refine Ao (fun h8=>Ae ?_) (fun h8=>?_)
  ·have j:k<d.ess.length:=by simp at h8;omega
   have aa:=a0 k (by simpa using j);have C9:=A7 (k:=k) om;rw [aa]at a;simp only [List.getElem_range]at a;have af:=aj k j;generalize eE k=ek at*;refine Ab (Ap (Aa [1,2,10,79,80] [1,2] sr ?_));refine Ab (Ac (Am 2 sr ?_));refine Ai af func38 ?_ (hp:=by simp);refine Ag [1,2,11,79,80] [1,2] sr ?_;refine Aa [1,2,11,79,80,87] [1,2] sr ?_
   refine Ao (fun h9=>?_) (fun h9=>Ae ?_)
   ·refine Aa [2,3] [2] sr ?_;exact Ak (Ad sr (by have ag:ek≠0:=(by simpa using h9);rw [if_pos ag]at a;rw [<- a,if_pos ag];exact F6 (by simpa using h9) _))
   rw [if_neg (by simpa using h9)]at a;refine A2 [1,2,79,80] [1,2] (by simp [C9]<;>rfl) ?_;exact⟨j,a,_,AS.le_refl _⟩
  ·refine A9 ?_;have ad:k=d.ess.length:=by simp at h8;omega
   rw [ad,List.drop_of_length_le (by simp)]at a;rw [if_neg (by rw [<- a];simp [Kr])];refine Ab (Ab (Ac (Am 2 sr ?_)));refine Ai ay func27 ?_ (hp:=by simp);refine Ag [1,2,12] [1,2] sr ?_;refine Aa [1,2,12,95] [1,2] sr ?_
   refine Ao (fun y=>?_) (fun y=>Ae ?_)
   ·refine Aa [2,3] [2] sr ?_;exact Ak (Ad sr (by rw [if_pos (by simpa using y)];exact F6 (by simpa using y) _))
   rw [if_neg (by simpa using y)];refine Ab (Ac (Am 10 sr ?_));refine Be hG u func39 ?_ (hp:=by simp);refine Ag [2,3] [2] sr ?_;exact Ak (Ad (by simp [results20]<;>rfl) (ax))
theorem A87(e:Int)(t:Te):teR e t=.tup [(if e=0 then t else W2).v,.int .i64 e]:=rfl
theorem O0(hS:Ic)(d:Dl)(h:DlOk d):Hm gv prog 8 [d.v] (fun r=>r=.int .i64 (Gv d)):=by
 have a:=Yc hS d h;rw [A87]at a;generalize(if Gv d=0 then Cx d else W2)=tt at*;generalize Gv d=e at*;have i:tt.v=.agg [.ro 1 (As tt.elig),.ro 2 (A0 tt.steps),.int .i64 tt.pend,.ro 1 (Bv tt.w),.int .u64 tt.draw,.int .i64 tt.stop]:=rfl;rw [i]at a;have y1:=Af tt.elig;have y2:=A4 tt.steps;have y3:=Br tt.w;have c:d.v=V.agg [.int .i64 d.ses,.int .i64 d.cand,.int .i64 d.p.len,.ro 5 (Ee d.p.rules),.ro 1 (As d.p.g.pts),.ro 1 (As d.p.g.pri),.ro 2 (A0 d.p.en),.int .i64 d.p.mn,.bool d.p.var.num.neg,.ro 1 (Au d.p.var.num.mag),.ro 1 (Au d.p.var.den),.int .i64 d.p.cut,.bool d.p.lvl.num.neg,.ro 1 (Au d.p.lvl.num.mag),.ro 1 (Au d.p.lvl.den),.int .i64 d.p.top,.bool d.p.rate.num.neg,.ro 1 (Au d.p.rate.num.mag),.ro 1 (Au d.p.rate.den),.int .i64 d.p.slack,.ro 9 (B8 d.pool),.ro 17 (Hg d.items),.ro 1 (As d.ess),.ro 2 (A0 d.uses),.int .i64 d.served,.int .i64 d.sec,.int .i64 d.nu,.int .i64 d.de,.int .i64 d.ex,.int .u64 d.seed]:=rfl;rw [c]at a|-;have z:=Cq d.p.rules;have d1:=Af d.p.g.pts;have d2:=Af d.p.g.pri;have m:=A4 d.p.en;have o:=Ah d.p.var.num.mag;have u:=Ah d.p.var.den;have x:=Ah d.p.lvl.num.mag;have t:=Ah d.p.lvl.den;have n:=Ah d.p.rate.num.mag;have d9:=Ah d.p.rate.den;have k:=B4 d.pool;have f:=Eu d.items;have l:=Af d.ess;have j:=A4 d.uses;generalize Ee d.p.rules=rv at*;generalize As d.p.g.pts=pt at*;generalize As d.p.g.pri=pr at*;generalize A0 d.p.en=ev at*;generalize Au d.p.var.num.mag=vm at*;generalize Au d.p.var.den=vd at*;generalize Au d.p.lvl.num.mag=lm at*;generalize Au d.p.lvl.den=ld at*;generalize Au d.p.rate.num.mag=rm at*;generalize Au d.p.rate.den=rd at*;have s:=Da d.pool;have aa:=Fl d.items;have ab:=A5 d.ess;generalize B8 d.pool=lv at*;generalize Hg d.items=ad at*;generalize As d.ess=y at*;generalize A0 d.uses=uv at*;refine Bx func8 (fun w0 N0 hG=>?_);refine Aa [1] [1] sr (Ab (Ac (Am 1 sr ?_)));refine Be hG a func20 ?_ (hp:=by simp);refine Ag [4] [] sr ?_;exact Aa [2] [] sr (Ak (Ad sr rf))
theorem A4z(l:List An)(g:FuncId)(us vs:List V)(f:An->Bool)(x:∀p∈l,FCQ gv prog (.fc g us vs) [An.v p] (fun r=>r=.bool (f p))):Hm gv prog 167 [.ro 5 (E7 l),.fc g us vs] (fun r=>r=.int .i64 (Ih f l 0)):=by
 have s:=fun(k:Nat)(h:k<l.length)=>Sw h
 have u:(E7 l).length=l.length:=Fz l;refine Un 0 rfl (fun n=>?_);rw [u]at n
 have o:(l.length:Int)<=9223372036854775807:=by
  have:maxLen<=9223372036854775807:=dc;omega
 generalize E7 l=m at*;refine Bx func167 (fun w0 N0 t=>?_);refine Aa [0,1] [] sr (Ab (Aa [0,1,7,8] [] sr (Ap (Bq (fun k nx=>⟨[(0,V.ro 5 m),(1,V.fc g us vs),(7,V.int .i64 m.length),(8,V.int .i64 k)],[],nx,19⟩) (fun k=>Ih f (l.drop k) k=Ih f l 0) l.length _ rfl (AS.le_refl _) ?_))));intro k nx hk c;refine Aa [0,1,7,8,9] [] sr (Ab ?_)
 refine Ao (fun h1=>Ae ?_) (fun h1=>?_)
 ·have a:k<l.length:=by simp at h1;omega
  have d:k<m.length:=om;have i:=s k a;have e:=x _ (Aw a);have C9:=A7 (k:=k) om;rw [Oy _ a]at c;generalize l[k]=y at i c e;have w:=Af y.ch;unfold An.v at i e;generalize f _ =fb at c e;refine Ab (Ap (Aa [0,1,5,7,8] [] sr (Ab (Ac (Am 5 (by simp [i,d]<;>rfl) ?_)))));refine Qc t e sm rfl rfl sr sr (by simp) sr ?_;refine Ag [0,1,5,7,8,16] [] sr ?_
  refine Ao (fun h2=>?_) (fun h2=>Ae ?_)
  ·exact Aa [4] [] sr (Ak (Ad sr (by rw [<- c,if_pos h2])))
  refine A2 [0,1,7,8] [] (by simp [C9]<;>rfl) ?_;exact⟨a,by rw [<- c,if_neg (by rw [h2];decide)],_,AS.le_refl _⟩
 ·refine A9 ?_;have j:k=l.length:=by simp at h1;omega
  rw [j,Ca,Ih]at c;exact Aa [4] [] sr (Ak (Ad sr (by rw [<- c])))
theorem A40(l:List An)(g:FuncId)(us vs:List V)(f:An->Bool)(d:∀p∈l,FCQ gv prog (.fc g us vs) [An.v p] (fun r=>r=.bool (f p))):Hm gv prog 118 [.ro 5 (E7 l),.fc g us vs] (fun r=>r=.bool (l.any f)):=by
 have a:=A4z l g us vs f d;rw [<- Pb f l 0];have pl:=D0 l;generalize E7 l=lv,Ih f l 0=z at*;refine Bx func118 (fun w0 N0 c=>?_);refine Aa [0,1] [] sr (Ab (Ac (Am 2 sr ?_)));refine Be c a func167 ?_ (hp:=by simp);refine Ag [4] [] sr ?_;exact Ak (Ad sr (rfl))
theorem A88(a:An)(id:Int):AC prog 119 [a.v,.rp (.int .i64 id)] (fun r=>r=.bool (decide (a.item=id))):=by
 have c:a.v=V.agg [.int .i64 a.item,.ro 1 (As a.ch),.int .i64 a.val,.str a.txt,.bool a.om]:=rfl;rw [c];have i5:=Af a.ch;have d:=A5 a.ch;generalize As a.ch=hv at*;refine Ay func119 (fun w0 N0=>?_);refine Aa [1,2] [2] sr ?_;exact Aa [3] [] sr (Ak (Ad sr rf))
def Yd(c:List An)(id:Int):Bool:=c.any fun a=>decide (a.item=id)
def Pd(a:List Int)(c:List An):Option Int:=a.find? fun id=> !Yd c id
theorem Ayu(c:List Int)(d:List An)(he:c.length<=4000000):Hm gv prog 76 [.ro 1 (As c),.ro 5 (E7 d)] (fun r=>r=.int .i64 ((Pd c d).getD 0)):=by
 have e:=fun(id:Int)=>A40 d 119 [] [.rp (.int .i64 id)] (fun a=>decide (a.item=id)) (fun a _ =>Aro (us:=[]) (vs:=[.rp (.int .i64 id)]) (args:=[a.v]) ((A88 a id).q gv) func119 kr rfl)
 have u:=fun(k:Nat)(h:k<c.length)=>Fj h
 have le:=A5 c;have n:=fun(k:Nat)(h:k<c.length)=>Wf (fun id=> !Yd d id) h
 have m:∀id,Yd d id=d.any fun a=>decide (a.item=id):=fun id=>rfl
 unfold Pd;have t:=D0 d;simp only [<- m]at e;generalize Yd d=o,As c=ev,E7 d=w at*;refine Bx func76 (fun w0 N0 y=>?_);refine Aa [0,1] [] sr (Ab (Aa [1,7,8,9] [] sr (Ap (Bq (fun k nx=>⟨[(1,V.ro 5 w),(7,V.ro 1 ev),(8,V.int .i64 ev.length),(9,V.int .i64 k)],[],nx,19⟩) (fun k=>(c.drop k).find? (fun id=> !o id)=c.find? (fun id=> !o id)) c.length _ sm (AS.le_refl _) ?_))));intro k nx hk j;refine Aa [1,7,8,9,10] [] sr (Ab ?_)
 refine Ao (fun h1=>Ae ?_) (fun h1=>?_)
 ·have f:k<c.length:=by simp at h1;omega
  have i:k<ev.length:=om;have s:=u k f;have C9:=A7 (k:=k) om;rw [n k f]at j;generalize c[k]=x at*;have g:=e x;refine Ab (Ap (Aa [1,6,7,8,9] [6] (by simp [s,i]<;>rfl) (Bt 6 [1,6,7,8,9] [] sr (Ab (Ac (Am 2 sr ?_))))));refine Be y g func118 ?_ (hp:=by simp);refine Ag [1,6,7,8,9,16] [] sr ?_
  refine Ao (fun h2=>?_) (fun h2=>Ae ?_)
  ·exact Aa [4] [] sr (Ak (Ad sr (by rw [<- j,if_pos (by simpa using h2)];rfl)))
  refine A2 [1,7,8,9] [] (by simp [C9]<;>rfl) ?_;exact⟨f,by rw [<- j,if_neg (by simpa using h2)],_,AS.le_refl _⟩
 ·refine A9 ?_;have l:k=c.length:=by simp at h1;omega
  rw [l,Ca]at j;exact Aa [4] [] sr (Ak (Ad sr (by rw [<- j];rfl)))
theorem Aqg(a:An)(ha:a.ch.length<=2000000):AC prog 72 [a.v] (fun r=>r=a.v):=by
 have c:=Ami (As a.ch) (Af _) (Sq _) (by rw [A5];omega);have d:a.v=V.agg [.int .i64 a.item,.ro 1 (As a.ch),.int .i64 a.val,.str a.txt,.bool a.om]:=rfl;rw [d];have e:=Af a.ch;have f:=A5 a.ch;generalize As a.ch=hv at*;refine Ay func72 (fun w0 N0=>?_);refine Aa [1,2] [1,2] sr (Ab (Ac (Am 2 sr ?_)));refine Ai c func110 ?_ (hp:=by simp);refine Ag [1,2] [1,2] sr ?_;refine Aa [2] [2] sr ?_;exact Ak (Ad (by simp [results72]<;>rfl) (rfl))
theorem A41(t:Te)(h:teOk t):AC prog 70 [t.v] (fun r=>r=t.v):=by
 have af:=h.sl;have ad:=h.el;have ae:=h.wl;have x:=fun(k:Nat)(f:k<t.w.length)=>h.wd _ (Aw f)
 have g:=Acv (As t.elig) (Af _) (Sq _) (by rw [A5];omega);have l:=Api (A0 t.steps) (A4 _) (flatP _) (by rw [Dq];omega);have e:=Al0 (Bv t.w) (Br _) (by rw [H2];omega);have j:=fun(n:Nat)(h:(Fo n).length<=100000)=>Acw (Fo n) (Ex n) (Aj1 n) h
 have hq:∀(k:Nat)(h:k<t.w.length),Hs (Bv t.w) k=some (.ro 1 (Fo t.w[k])):=fun k h=>Kb h
 have z:∀(k:Nat)(h:k<t.w.length),(Bv t.w)[k]? =some (.ro 1 (Fo t.w[k])):=fun k h=>Qh h
 have u:t.v=.agg [.ro 1 (As t.elig),.ro 2 (A0 t.steps),.int .i64 t.pend,.ro 1 (Bv t.w),.int .u64 t.draw,.int .i64 t.stop]:=rfl;rw [u];have s1:=Af t.elig;have s2:=A4 t.steps;have s3:=Br t.w;have m:=H2 t.w;generalize As t.elig=ti,A0 t.steps=ts,Bv t.w=tw at*;refine Ay func70 (fun w0 N0=>?_);refine Aa [1,2] [1,2] sr (Ab (Ac (Am 2 sr ?_)));refine Ai g func110 ?_ (hp:=by simp);refine Ag [1,2] [1,2] sr ?_;refine Ab (Ac (Am 2 sr ?_));refine Ai l func111 ?_ (hp:=by simp);refine Ag [1,2] [1,2] sr ?_;refine Ab (Ac (Am 2 sr ?_));refine Et e func112 rfl kr rfl rfl rfl sr (fun k o f=>by cases f) ?_ (fun ch s=>s.elim);rintro r aa ag⟨v,rfl,rfl⟩ab;refine⟨fun k f=>rfl,_,by simp<;>rfl,?_⟩;refine Ag [1,2] [1,2,5] sr ?_;refine Ab (Aa [1,2,18,19,20] [1,2,5] sr (Ap (Bq (fun k nx=>⟨[(1,V.bp 1 0 6 0 0),(2,V.bp 2 1 6 0 0),(18,V.sl 5 v 1 t.w.length),(19,V.int .i64 t.w.length),(20,V.int .i64 k)],[(1,⟨0,6,54,[V.agg [V.ro 1 ti,V.ro 2 ts,V.int .i64 t.pend,V.sl 5 v 1 t.w.length,V.int .u64 t.draw,V.int .i64 t.stop]]⟩),(2,⟨1,6,54,[V.agg [V.nils,V.nils,V.int .i64 0,V.nils,V.int .u64 0,V.int .i64 0]]⟩),(5,⟨v,1,30,tw⟩)],nx,33⟩) (fun k=>True) t.w.length _ trivial (by simp only [m];exact AS.le_refl _) ?_)));intro k nx f hI;refine Aa [1,2,18,19,20,21] [1,2,5] sr (Ab ?_)
 refine Ao (fun h1=>Ae ?_) (fun h1=>?_)
 ·have a:k<t.w.length:=by simp at h1;omega
  have c:k<tw.length:=om;have ga:=hq k a;have gg:=z k a;have C9:=A7 (k:=k) om;have y:(Fo t.w[k]).length<=100000:=by have:=x k a;simpa [Fo,Au]using this
  have d:=j t.w[k] y;have pn:=Ex t.w[k];generalize Fo t.w[k]=nv at*;have i:=Agh gg;refine Ab (Ap (Aa [1,2,3,4,18,19,20] [1,2,5] (by simp [ga,a]<;>rfl) ?_));refine C4 [(0,[]),(2,[]),(3,[]),(4,[]),(1,[]),(5,[]),(6,[])] Dm kr ?_;refine Ch 3 sr ?_;refine Bw (fun z=>d) func113 rfl kr rfl rfl sr rfl rfl sr (by simp) sr ?_;refine C5 [1,2,18,19,20] [1,2,5] (by simp [a,ga,i]<;>rfl) ?_;refine A2 [1,2,18,19,20] [1,2,5] (by simp [C9]<;>rfl) ?_;exact⟨a,trivial,_,AS.le_refl _⟩
 ·refine A9 ?_;refine Bt 5 [1,2] [1,2] (by simp [s3,m]<;>rfl) (Aa [2] [2] sr ?_);exact Ak (Ad (by simp [results70]<;>rfl) (rfl))
theorem Aqh(es:List V)(hp:es.all V.pureE=true)(f:es.length<=100000):ACS prog 71 [.ro 5 es] [] (fun r c=>∃v,r=.sl 85 v 5 es.length/\c= [(85,⟨v,5,62,es⟩)]) (fun _ =>False):=by
 have e:=Nb (b:=64) f dc;refine Hk func71 (fun w0 N0 a=>?_);refine Aa [0] [] sr (Ab (Ab (Ac (Am 1 sr ?_))));refine Om rfl rfl sr rfl kr (fun b h=>⟨_,by simp<;>rfl,?_⟩);refine Ag [0,4] [] sr ?_
 refine Ao (fun h1=>?_) (fun h1=>Ae ?_)
 ·refine Aa [2] [] sr ?_;have g:=Ar.1 (h h1);subst g;refine F5 2 85 5 62 [2] [85] sr sr ?_;exact C7 a (Dz (Ba _ _) sr ⟨_,rfl,rfl⟩ (fun k o d=>Dt gt d))
 refine A0k 80 [2] [85] (by simp [e]<;>rfl) ?_;exact C7 a (Dz (Ba _ _) sr ⟨_,rfl,rfl⟩ (fun k o d=>Dt gt d))
theorem Aqi(es:List V)(hp:es.all V.pureE=true)(c:es.all Ml=true)(f:es.length<=100000):ACO prog 73 [.ro 4 es] 4 64 (fun F a=>(F=fun d q=>.sl d q 4 es.length)/\a=es):=by
 have e:=Nb (b:=32) f dc;refine Lj func73 (fun w0 N0=>?_);refine Aa [0] [] sr (Ab (Ab (Ac (Am 1 sr ?_))));refine Om rfl rfl sr rfl kr (fun b h=>⟨_,by simp<;>rfl,?_⟩);refine Ag [0,4] [] sr ?_
 refine Ao (fun h1=>?_) (fun h1=>Ae ?_)
 ·refine Aa [2] [] sr ?_;have g:=Ar.1 (h h1);subst g;refine F5 2 2 4 64 [2] [2] sr sr ?_;exact Ak (I6 2 sr rfl rfl sm sr ⟨rfl,rfl⟩)
 refine Aa [2] [5] (by simp [e]<;>rfl) ?_;exact Ak (I6 5 sr rfl rfl (by simpa using c) sr ⟨rfl,rfl⟩)
def seC(s:Se)(a c:V):V:=
 V.agg [.int .i64 s.st,.int .i64 s.us,.int .i64 s.la,.int .i64 s.sh,.ro 1 (As s.t.elig),.ro 2 (A0 s.t.steps),.int .i64 s.t.pend,.ro 1 (Bv s.t.w),.int .u64 s.t.draw,.int .i64 s.t.stop,a,c]
structure SeOk(s:Se):Prop where
 t:teOk s.t
 al:s.ans.length<=1000
 ac:∀a∈s.ans,a.small
 il:s.inc.length<=1000
theorem Bey(l:List In4):(Dc l).all Ml=true:=by
 rw [Ax];intro x a;simp only [Dc,Bk]at a;obtain⟨k,_,rfl⟩:=a;rfl
theorem Ayv(s:Se)(h:SeOk s):
  ACS prog 41 [s.v] [] (fun r g=>∃q1 q2,r=seC s (.sl 85 q1 5 s.ans.length) (.sl 73 q2 4 s.inc.length)/\g= [(85,⟨q1,5,62,E7 s.ans⟩),(73,⟨q2,4,64,Dc s.inc⟩)]) (fun _ =>False):=by
 have ai:=h.al;have ag:=h.il;have m:=A41 s.t h.t;have u:=Aqh (E7 s.ans) (D0 _) (by rw [Fz];omega);have z:=Aqi (Dc s.inc) (Dh _) (Bey _) (by rw [Ey];omega);have aa:=fun(k:Nat)(c:k<s.ans.length)=>Aqg s.ans[k] (h.ac _ (Aw c)).ch
 have hq:=fun(k:Nat)(c:k<s.ans.length)=>Sw c
 have hg:∀(k:Nat)(c:k<s.ans.length),(E7 s.ans)[k]? =some s.ans[k].v:=fun k c=>by rw [<- C1];exact Sw c
 have ad:s.t.v=.agg [.ro 1 (As s.t.elig),.ro 2 (A0 s.t.steps),.int .i64 s.t.pend,.ro 1 (Bv s.t.w),.int .u64 s.t.draw,.int .i64 s.t.stop]:=rfl;rw [ad]at m;unfold seC;have ab:s.v=V.agg [.int .i64 s.st,.int .i64 s.us,.int .i64 s.la,.int .i64 s.sh,.ro 1 (As s.t.elig),.ro 2 (A0 s.t.steps),.int .i64 s.t.pend,.ro 1 (Bv s.t.w),.int .u64 s.t.draw,.int .i64 s.t.stop,.ro 5 (E7 s.ans),.ro 4 (Dc s.inc)]:=rfl;rw [ab];have z1:=Af s.t.elig;have z2:=A4 s.t.steps;have z3:=Br s.t.w;have z4:=D0 s.ans;have z5:=Dh s.inc;have ae:=Fz s.ans;have x:=Ey s.inc;generalize As s.t.elig=ti,A0 s.t.steps=ts,Bv s.t.w=tw,E7 s.ans=e,Dc s.inc=y at*;refine Hk func41 (fun w0 N0 d=>?_);refine Aa [1,2] [1,2] sr (Ab (Ac (Am 2 sr ?_)));refine Ai m func70 ?_ (hp:=by simp);refine Ag [1,2] [1,2] sr ?_;refine Ab (Ac (Am 2 sr ?_));refine Et u func71 rfl kr rfl rfl rfl sr (fun k o c=>by cases c) ?_ (fun ch n=>n.elim);rintro r g ah⟨v,rfl,rfl⟩af;refine⟨fun k c=>rfl,_,by simp<;>rfl,?_⟩;refine Ag [1,2] [1,2,85] sr ?_;refine Ab (Aa [1,2,14,15,16] [1,2,85] sr (Ap (Bq (fun k nx=>⟨[(1,V.bp 1 d 12 0 0),(2,V.bp 2 (d+1) 12 0 0),(14,V.sl 85 v 5 e.length),(15,V.int .i64 e.length),(16,V.int .i64 k)],[(1,⟨d,12,58,[V.agg [.int .i64 s.st,.int .i64 s.us,.int .i64 s.la,.int .i64 s.sh,.ro 1 ti,.ro 2 ts,.int .i64 s.t.pend,.ro 1 tw,.int .u64 s.t.draw,.int .i64 s.t.stop,V.sl 85 v 5 e.length,V.ro 4 y]]⟩),(2,⟨d+1,12,58,[V.agg [V.int .i64 0,V.int .i64 0,V.int .i64 0,V.int .i64 0,V.nils,V.nils,V.int .i64 0,V.nils,V.int .u64 0,V.int .i64 0,V.nils,V.nils]]⟩),(85,⟨v,5,62,e⟩)],nx,33⟩) (fun k=>True) s.ans.length _ trivial (AS.le_refl _) ?_)));intro k nx c hI;refine Aa [1,2,14,15,16,17] [1,2,85] sr (Ab ?_)
 refine Ao (fun h1=>Ae ?_) (fun h1=>?_)
 ·have f:k<s.ans.length:=by simp at h1;omega
  have j:k<e.length:=om;have ga:=hq k f;have gg:=hg k f;have C9:=A7 (k:=k) om;have i:=aa k f;have pn:=Af s.ans[k].ch;unfold An.v at ga gg i;generalize s.ans[k]=a at*;have l:=Agh gg;refine Ab (Ap (Aa [1,2,3,4,14,15,16] [1,2,4,85] (by simp [ga,j]<;>rfl) ?_));refine C4 [(0,[]),(2,[]),(1,[]),(3,[]),(4,[]),(5,[]),(6,[])] Dm kr ?_;refine Ch 4 sr ?_;refine Bw (fun hg=>i) func72 rfl kr rfl rfl sr rfl rfl sr (by simp) sr ?_;refine C5 [1,2,14,15,16] [1,2,85] (by simp [ga,l,j]<;>rfl) ?_;refine A2 [1,2,14,15,16] [1,2,85] (by simp [C9]<;>rfl) ?_;exact⟨f,trivial,_,AS.le_refl _⟩
 ·refine A9 ?_;refine Ab (Ac (Am 2 sr ?_));refine My 73 z func73 rfl kr rfl rfl rfl sr (by simp [AS.views,AS.view,AS.viewC]<;>rfl) sr ?_;refine Ag [1,2] [1,2,73,85] sr ?_;refine Aa [2] [2,73,85] sr ?_;exact C7 d (Dz (Ba _ _) sr ⟨_,_,by rw [ae,x],rfl⟩ (fun k o c=>Avk gt gt c))
def Agx(s:Se)(v c a:Nat):List (Nat × Ob):=
 [(10,⟨v,12,58,[seC s (.sl 85 c 5 s.ans.length) (.sl 73 a 4 s.inc.length)]⟩),(85,⟨c,5,62,E7 s.ans⟩),(73,⟨a,4,64,Dc s.inc⟩)]
def evR(e:Int)(v:Nat)(s':Se)(r:V)(a:List (Nat × Ob)):Prop:=
 r=.int .i64 e/\((e≠0/\a= [])\/(e=0/\a= [(10,⟨v,12,58,[s'.v]⟩)]))
theorem Jf{e:Int}{v:Nat}{s':Se}(h:e≠0):evR e v s' (.int .i64 e) []:=⟨rfl,.inl ⟨h,rfl⟩⟩
theorem Atb{v:Nat}{s':Se}:evR 0 v s' (.int .i64 0) [(10,⟨v,12,58,[s'.v]⟩)]:=⟨rfl,.inr ⟨rfl,rfl⟩⟩
theorem Jg{a:List (Nat × Ob)}(k:Nat)(o:Ob)(h:Eng.get ([]:List (Nat × Ob)) k=some o):Eng.get a k=some o:=by cases h
def Agy(d:Dl)(st:Te)(s:Se):Int:=if s.st≠0 then 8 else Ua d.p d.pool st
def Ub(d:Dl)(st:Te)(s:Se):Se:={ s with st:=1,t:=Mf d.p d.pool st,sh:=(Mf d.p d.pool st).pend}
theorem Ayw(d:Dl)(t:Te)(s:Se)(v aq iq:Nat)(h:AdP d.p d.pool)(ht:teOk t)(hw:Ks t.w 1000):
  Wt gv prog 42 [d.v,t.v,.bp 10 v 12 0 0] (Agx s v aq iq) (evR (Agy d t s) v (Ub d t s)):=by
 have c:=Ap5 d.p d.pool t h ht hw;have hT:∀e x,teR e x=.tup [(if e=0 then x else W2).v,.int .i64 e]:=fun e x=>rfl
 rw [hT]at c;have aa:∀x:Te,Se.v { s with st:=1,t:=x,sh:=x.pend}=V.agg [.int .i64 1,.int .i64 s.us,.int .i64 s.la,.int .i64 x.pend,.ro 1 (As x.elig),.ro 2 (A0 x.steps),.int .i64 x.pend,.ro 1 (Bv x.w),.int .u64 x.draw,.int .i64 x.stop,.ro 5 (E7 s.ans),.ro 4 (Dc s.inc)]:=fun x=>rfl
 unfold Agy Ub Agx;generalize Mf d.p d.pool t=a,Ua d.p d.pool t=ne at*;have m:=fun(h:ne≠0)=>Jf (v:=v) (s':={ s with st:=1,t:=a,sh:=a.pend}) h
 have f:ne=0->∀r o,r=V.int .i64 0->o= [(10,(⟨v,12,58,[V.agg [.int .i64 1,.int .i64 s.us,.int .i64 s.la,.int .i64 (if ne=0 then a else W2).pend,.ro 1 (As (if ne=0 then a else W2).elig),.ro 2 (A0 (if ne=0 then a else W2).steps),.int .i64 (if ne=0 then a else W2).pend,.ro 1 (Bv (if ne=0 then a else W2).w),.int .u64 (if ne=0 then a else W2).draw,.int .i64 (if ne=0 then a else W2).stop,.ro 5 (E7 s.ans),.ro 4 (Dc s.inc)]]⟩:Ob))]->evR ne v { s with st:=1,t:=a,sh:=a.pend} r o:=by
  intro h0 r o hr ho;rw [h0,if_pos rfl]at ho;rw [h0,hr,ho,<- aa];exact Atb
 have j:∀x:Te,x.v=.agg [.ro 1 (As x.elig),.ro 2 (A0 x.steps),.int .i64 x.pend,.ro 1 (Bv x.w),.int .u64 x.draw,.int .i64 x.stop]:=fun x=>rfl
 rw [j,j]at c;rw [j];have l:=Af (if ne=0 then a else W2).elig;have u:=A4 (if ne=0 then a else W2).steps;have n:=Br (if ne=0 then a else W2).w;have x1:=Af t.elig;have x2:=A4 t.steps;have x3:=Br t.w;generalize(if ne=0 then a else W2)=tt at*;have ah:d.p.v=.agg [.int .i64 d.p.len,.ro 5 (Ee d.p.rules),.ro 1 (As d.p.g.pts),.ro 1 (As d.p.g.pri),.ro 2 (A0 d.p.en),.int .i64 d.p.mn,.bool d.p.var.num.neg,.ro 1 (Au d.p.var.num.mag),.ro 1 (Au d.p.var.den),.int .i64 d.p.cut,.bool d.p.lvl.num.neg,.ro 1 (Au d.p.lvl.num.mag),.ro 1 (Au d.p.lvl.den),.int .i64 d.p.top,.bool d.p.rate.num.neg,.ro 1 (Au d.p.rate.num.mag),.ro 1 (Au d.p.rate.den),.int .i64 d.p.slack]:=rfl;rw [ah]at c;unfold seC;have y:d.v=V.agg [.int .i64 d.ses,.int .i64 d.cand,.int .i64 d.p.len,.ro 5 (Ee d.p.rules),.ro 1 (As d.p.g.pts),.ro 1 (As d.p.g.pri),.ro 2 (A0 d.p.en),.int .i64 d.p.mn,.bool d.p.var.num.neg,.ro 1 (Au d.p.var.num.mag),.ro 1 (Au d.p.var.den),.int .i64 d.p.cut,.bool d.p.lvl.num.neg,.ro 1 (Au d.p.lvl.num.mag),.ro 1 (Au d.p.lvl.den),.int .i64 d.p.top,.bool d.p.rate.num.neg,.ro 1 (Au d.p.rate.num.mag),.ro 1 (Au d.p.rate.den),.int .i64 d.p.slack,.ro 9 (B8 d.pool),.ro 17 (Hg d.items),.ro 1 (As d.ess),.ro 2 (A0 d.uses),.int .i64 d.served,.int .i64 d.sec,.int .i64 d.nu,.int .i64 d.de,.int .i64 d.ex,.int .u64 d.seed]:=rfl;rw [y];have d0:=Cq d.p.rules;have d1:=Af d.p.g.pts;have d2:=Af d.p.g.pri;have d3:=A4 d.p.en;have d4:=Ah d.p.var.num.mag;have d5:=Ah d.p.var.den;have d6:=Ah d.p.lvl.num.mag;have d7:=Ah d.p.lvl.den;have d8:=Ah d.p.rate.num.mag;have d9:=Ah d.p.rate.den;have ag:=B4 d.pool;have ab:=Eu d.items;have ai:=Af d.ess;have af:=A4 d.uses;generalize Ee d.p.rules=rv,As d.p.g.pts=pt,As d.p.g.pri=pr,A0 d.p.en=ev,Au d.p.var.num.mag=vm,Au d.p.var.den=vd,Au d.p.lvl.num.mag=lm,Au d.p.lvl.den=ld,Au d.p.rate.num.mag=rm,Au d.p.rate.den=rd at*;have ak:=Da d.pool;have ao:=Fl d.items;have ar:=A5 d.ess;generalize B8 d.pool=lv,Hg d.items=au,As d.ess=an,A0 d.uses=uv at*;have z1:=Af s.t.elig;have z2:=A4 s.t.steps;have z3:=Br s.t.w;have z4:=D0 s.ans;have z5:=Dh s.inc;have ae:=Fz s.ans;have z:=Ey s.inc;generalize As s.t.elig=ti,A0 s.t.steps=ts,Bv s.t.w=tw,E7 s.ans=am,Dc s.inc=aj at*;have al:=F4 z4;have ad:=F4 z5;generalize As t.elig=xi,A0 t.steps=xs,Bv t.w=xw,As tt.elig=yi,A0 tt.steps=ys,Bv tt.w=yw at*;refine Ig func42 (fun w0 N0 i hG=>?_);refine Aa [2,3,4] [3,4,10,73,85] sr (Ab (Aa [2,3,4,13] [3,4,10,73,85] sr ?_))
 refine Ao (fun h1=>?_) (fun h1=>Ae ?_)
 ·refine Aa [6] [10,73,85] sr ?_;exact C7 i (Dz (Ba _ _) sr (by rw [if_pos (by simpa using h1)];exact Jf dc) Jg)
 rw [if_neg (by simpa using h1)];refine Ab (Ac (Am 5 sr ?_));refine Be hG c func74 ?_ (hp:=by simp);refine Ag [2,7,8] [7,10,73,85] sr ?_;refine Ab (Aa [2,7,8,24] [7,10,73,85] sr ?_)
 refine Ao (fun h2=>?_) (fun h2=>Ae ?_)
 ·refine Aa [6] [10,73,85] sr ?_;exact C7 i (Dz (Ba _ _) sr (m (by simpa using h2)) Jg)
 refine Aa [2,7] [7,10,73,85] (by simp<;>rfl) (Aa [2,7] [7,10,73,85] (by simp<;>rfl) (Aa [] [10,73,85] (by simp<;>rfl) (Aa [6] [10,73,85] sr (Bt 85 [6] [10,73] (by simp [z4,ae,ad]<;>rfl) (Bt 73 [6] [10] (by simp [z5,z]<;>rfl) ?_)))));exact C7 i (Dz (Ba _ _) sr (f (by simpa using h2) _ _ rfl rfl) (fun k o hk=>Dt gt hk))
def Ab5(s:Se):Int:=if s.st≠1 then 8 else 0
def Uc(d:Dl)(s:Se)(n:Int):Se:={ s with st:=2,us:=Kl (Gk s n) (Ej d s)}
theorem Ayx(d:Dl)(s:Se)(n:Int)(v aq iq:Nat):
  Wt gv prog 44 [d.v,.bp 10 v 12 0 0,.int .i64 n] (Agx s v aq iq) (evR (Ab5 s) v (Uc d s n)):=by
 have m:=Wq s n;have f:=Ab4 d s;have e:Se.v (Uc d s n)=V.agg [.int .i64 2,.int .i64 (Kl (Gk s n) (Ej d s)),.int .i64 s.la,.int .i64 s.sh,.ro 1 (As s.t.elig),.ro 2 (A0 s.t.steps),.int .i64 s.t.pend,.ro 1 (Bv s.t.w),.int .u64 s.t.draw,.int .i64 s.t.stop,.ro 5 (E7 s.ans),.ro 4 (Dc s.inc)]:=rfl;unfold Kl at e
 have a:∀r o,r=V.int .i64 0->o= [(10,(⟨v,12,58,[V.agg [.int .i64 2,.int .i64 (if Ej d s<Gk s n then Ej d s else Gk s n),.int .i64 s.la,.int .i64 s.sh,.ro 1 (As s.t.elig),.ro 2 (A0 s.t.steps),.int .i64 s.t.pend,.ro 1 (Bv s.t.w),.int .u64 s.t.draw,.int .i64 s.t.stop,.ro 5 (E7 s.ans),.ro 4 (Dc s.inc)]]⟩:Ob))]->evR 0 v (Uc d s n) r o:=by
  intro r o hr ho;rw [hr,ho,<- e];exact Atb
 unfold Ab5 Agx seC;clear e;generalize Uc d s n=ps,Gk s n=uu,Ej d s=ll at*;have aa:s.v=V.agg [.int .i64 s.st,.int .i64 s.us,.int .i64 s.la,.int .i64 s.sh,.ro 1 (As s.t.elig),.ro 2 (A0 s.t.steps),.int .i64 s.t.pend,.ro 1 (Bv s.t.w),.int .u64 s.t.draw,.int .i64 s.t.stop,.ro 5 (E7 s.ans),.ro 4 (Dc s.inc)]:=rfl;have i:d.v=V.agg [.int .i64 d.ses,.int .i64 d.cand,.int .i64 d.p.len,.ro 5 (Ee d.p.rules),.ro 1 (As d.p.g.pts),.ro 1 (As d.p.g.pri),.ro 2 (A0 d.p.en),.int .i64 d.p.mn,.bool d.p.var.num.neg,.ro 1 (Au d.p.var.num.mag),.ro 1 (Au d.p.var.den),.int .i64 d.p.cut,.bool d.p.lvl.num.neg,.ro 1 (Au d.p.lvl.num.mag),.ro 1 (Au d.p.lvl.den),.int .i64 d.p.top,.bool d.p.rate.num.neg,.ro 1 (Au d.p.rate.num.mag),.ro 1 (Au d.p.rate.den),.int .i64 d.p.slack,.ro 9 (B8 d.pool),.ro 17 (Hg d.items),.ro 1 (As d.ess),.ro 2 (A0 d.uses),.int .i64 d.served,.int .i64 d.sec,.int .i64 d.nu,.int .i64 d.de,.int .i64 d.ex,.int .u64 d.seed]:=rfl;rw [aa]at m f;rw [i]at f;rw [i];have d0:=Cq d.p.rules;have d1:=Af d.p.g.pts;have d2:=Af d.p.g.pri;have d3:=A4 d.p.en;have d4:=Ah d.p.var.num.mag;have d5:=Ah d.p.var.den;have d6:=Ah d.p.lvl.num.mag;have d7:=Ah d.p.lvl.den;have d8:=Ah d.p.rate.num.mag;have d9:=Ah d.p.rate.den;have x:=B4 d.pool;have l:=Eu d.items;have y:=Af d.ess;have u:=A4 d.uses;generalize Ee d.p.rules=rv,As d.p.g.pts=pt,As d.p.g.pri=pr,A0 d.p.en=ev,Au d.p.var.num.mag=vm,Au d.p.var.den=vd,Au d.p.lvl.num.mag=lm,Au d.p.lvl.den=ld,Au d.p.rate.num.mag=rm,Au d.p.rate.den=rd at*;have ae:=Da d.pool;have ah:=Fl d.items;have ai:=A5 d.ess;generalize B8 d.pool=lv,Hg d.items=aj,As d.ess=ag,A0 d.uses=uv at*;have z1:=Af s.t.elig;have z2:=A4 s.t.steps;have z3:=Br s.t.w;have z4:=D0 s.ans;have z:=Dh s.inc;have h:=Fz s.ans;have c:=Ey s.inc;generalize As s.t.elig=ti,A0 s.t.steps=ts,Bv s.t.w=tw,E7 s.ans=af,Dc s.inc=ad at*;have ab:=F4 z;refine Ig func44 (fun w0 N0 j hG=>?_);refine Aa [1,2,3] [3,10,73,85] sr (Bt 85 [1,2,3] [3,10,73] (by simp [z4,h,ab]<;>rfl) (Bt 73 [1,2,3] [3,10] (by simp [z,c]<;>rfl) (Ab (Aa [1,2,3,11] [3,10] sr ?_))))
 refine Ao (fun h1=>?_) (fun h1=>Ae ?_)
 ·refine Aa [6] [10] sr ?_;exact C7 j (Dz (Ba _ _) sr (by rw [if_pos (by simpa using h1)];exact Jf dc) Jg)
 rw [if_neg (by simpa using h1)];refine Ab (C4 [(0,[]),(1,[]),(2,[]),(4,[]),(7,[]),(8,[]),(3,[]),(5,[]),(6,[]),(9,[]),(10,[]),(11,[]),(12,[]),(13,[]),(14,[])] Dm kr ?_);refine Ch 7 sr ?_;refine Bw (fun hg=>m) func32 rfl kr rfl rfl sr rfl rfl sr (by simp) sr ?_;refine Ch 2 sr ?_;refine Bw (fun hg=>f) func31 rfl kr rfl rfl sr rfl rfl sr (by simp) sr ?_;refine C5 [1] [10] sr ?_;refine Aa [] [10] sr (Aa [6] [10] sr ?_);exact C7 j (Dz (Ba _ _) sr (a _ _ rfl rfl) (fun k o hk=>Dt gt hk))
end Go.Proofs.YtpaccopbbffkaaaGreatDoor
