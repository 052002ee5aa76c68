/- Sessions: part 5 of the proof. No condition. -/
import Derived.Test.YtpaccopbbffkaaaGreatDoorP4
import Derived.Lib.ReplaceLaws
import Derived.Lib.SplitLaws
set_option maxHeartbeats 8000000
set_option linter.all false
open Go.Proofs.Tryz
set_option maxRecDepth 4000
namespace Go.Proofs.YtpaccopbbffkaaaGreatDoor
open Go.Eng Go.Eng.Limb
def A08(len:Int)(rs:List Ru)(pool:List Pit)(en:List (Int × Int))(giv a:List Int):Int:=
 if Ad8 len rs pool en giv≠0 then Ad8 len rs pool en giv else shE (Wm a rs) (St len rs pool en (pool.length+Fa rs)) pool (O2 rs pool) giv
def Af0(len:Int)(rs:List Ru)(pool:List Pit)(en:List (Int × Int))(giv a:List Int):List Int:=
 shT (Wm a rs) (St len rs pool en (pool.length+Fa rs)) pool (O2 rs pool) giv
theorem A09{len:Int}{rs:List Ru}{pool:List Pit}{en:List (Int × Int)}{giv:List Int}(h:Ad8 len rs pool en giv=0):∀id∈giv,0<=Afz pool id:=by
 unfold Ad8 at h
 split at h
 ·omega
 ·split at h
  ·omega
  ·rename_i h2;intro id a
   by_cases e:Afz pool id<0
   ·exact absurd (Dz.2 ⟨id,a,by simpa using e⟩) h2
   ·omega
theorem A1a(len:Int)(rs:List Ru)(pool:List Pit)(en:List (Int × Int))(giv a:List Int)(n:Int)(hs:Rf len rs=0)(hp:Jp pool n=0)(ae:pool.length+Fa rs<20)(he:en.length<=400)(hg:giv.length<=1000)
  (i:a.length=pool.length)(u:∀v∈a,-1000000<=v/\v<=1000000)
  (x:Asr (Wm a rs) (St len rs pool en (pool.length+Fa rs)) (Wp pool (O2 rs pool) giv giv.length))(e:pool.length<=18):
  Hp gv prog 108 [Pq len rs,.ro 9 (Ce pool),.ro 2 (A2 en),.ro 1 (As giv),.ro 1 (As a)] (fun r=>r=Aeb (A08 len rs pool en giv a) (Af0 len rs pool en giv a)):=by
 have c:=Ajw len rs pool en giv a n hs hp e he hg i u;have g:=fun h=>A09 (len:=len) (rs:=rs) (pool:=pool) (en:=en) (giv:=giv) h
 have ad:rs.length<=20:=(Ajl hs).2.2.1
 have z:(St len rs pool en (pool.length+Fa rs)).length<=1000:=by
  have h1:=Amp len rs pool (pool.length+Fa rs) (M3 en (pool.map Pit.id)) (M3 en (pool.map Pit.id)).length e;have h2:(M3 en (pool.map Pit.id)).length<=400:=by unfold M3;exact Ai (Ft _ _) (Ai (Zw en) he)
  unfold St;omega
 have af:(Wm a rs).length=pool.length+Fa rs:=by unfold Wm;simp [i]
 have m:=fun v h=>Aqi (Wm a rs) (St len rs pool en (pool.length+Fa rs)) (O2 rs pool) pool giv v om z (by rw [Amq];omega) om hg (g h) x
 have pl:=Ca pool;have pr:=C2 rs;have pe:=A5 en;have pv:=Ag a;have pg:=Ag giv;unfold A08 Af0;unfold Aho Ams Ash at c;unfold Pq at c|-;generalize shE (Wm a rs) (St len rs pool en (pool.length+Fa rs)) pool (O2 rs pool) giv=se,shT (Wm a rs) (St len rs pool en (pool.length+Fa rs)) pool (O2 rs pool) giv=sT,As (Wm a rs)=xv,Gv (St len rs pool en (pool.length+Fa rs))=cv,As (O2 rs pool)=fv,(O2 rs pool).length=fl,Ad8 len rs pool en giv=w,As a=vv,As giv=ab,A2 en=ev at*;generalize Ce pool=ag at*;generalize Ey rs=rv at*
 by_cases s:w=0
 ·subst s;simp only [if_true,ne_eq,not_true_eq_false,if_false]at c|-;refine By func108 fun w0 N0 t=>?_;refine Aa [1,2,3,4,5] [5] sr (Ab (Ad (Am 5 sr ?_)));refine Pj t c func154 rfl kr rfl rfl rfl sr (fun k o d=>by cases d) ?_;rintro r f y⟨v,rfl,rfl⟩j;refine⟨fun k d=>rfl,_,by simp<;>rfl,?_⟩;refine Af [1,3,12,13] [12,78] sr ?_;refine Ab (Aa [1,3,12,13,24] [12,78] sr ?_);refine A7 rfl (fun h1=>absurd h1 sm) (fun h1=>Ae (Ab (Ad (Am 3 sr ?_))));refine Pj t (m v rfl) func155 rfl kr rfl rfl rfl sr (fun k o d=>Dk gt d) ?_;rintro r f ah⟨rfl,q,es,rfl⟩aa;unfold Aeb
  by_cases l:se=0
  ·subst l;simp only [if_true];have pT:=Ag sT;refine⟨fun k d=>L3 d,_,by simp<;>rfl,?_⟩;refine Af [10,11] [] sr ?_;exact Aj (Ac (by simp [results108]<;>rfl) rfl)
  ·simp only [if_neg l];refine⟨fun k d=>L3 d,_,by simp<;>rfl,?_⟩;refine Af [10,11] [] sr ?_;exact Aj (Ac sr rfl)
 ·simp only [if_neg s]at c;unfold Aeb;simp only [ne_eq,s,not_false_eq_true,if_true,if_false];refine By func108 fun w0 N0 t=>?_;refine Aa [1,2,3,4,5] [5] sr (Ab (Ad (Am 5 sr ?_)));refine Pj t c func154 rfl kr rfl rfl rfl sr (fun k o d=>by cases d) ?_;rintro r f y⟨rfl,rfl⟩j;refine⟨fun k d=>rfl,_,by simp<;>rfl,?_⟩;refine Af [1,3,12,13] [12] sr ?_;refine Ab (Aa [1,3,12,13,24] [12] sr ?_)
  refine A7 rfl (fun h1=>?_) (fun h1=>absurd h1 (by simpa using s))
  ·exact Aa [10,11] [] sr (Aj (Ac sr rf))
structure Te where
 elig:List Int
 steps:List (Int × Int)
 pend:Int
 w:List Nat
 draw:Int
 stop:Int
def teV(t:Te)(a c:V):V:=.agg [.ro 1 (As t.elig),a,.int .i64 t.pend,c,.int .u64 t.draw,.int .i64 t.stop]
def Te.v(t:Te):V:=teV t (.ro 2 (A2 t.steps)) (.ro 1 (Bw t.w))
structure teOk(t:Te):Prop where
 el:t.elig.length<=1000
 sl:t.steps.length<=1000
 wl:t.w.length<=1000
 wd:J2 t.w 100000
theorem Ahx(n:Nat):(F5 n).all Lu=true:=by
 rw [Aw];intro x a;simp only [F5,Av,Bm]at a;obtain⟨k,_,rfl⟩:=a;rfl
theorem Ass{a b k:Nat}{x y o:Ob}{l:List (Nat × Ob)}(h1:Eng.get l a=some x)(h2:Eng.get l b=some y)(c:Eng.get [(a,x),(b,y)] k=some o):Eng.get l k=some o:=by
 simp only [Eng.get]at c
 split at c
 ·rename_i e;subst e;injection c with c;subst c;exact h1
 ·split at c
  ·rename_i e;subst e;injection c with c;subst c;exact h2
  ·cases c
theorem Ahy(t:Te)(h:teOk t):
  ACS prog 161 [t.v] [] (fun r f=>∃q1 q2,r=teV t (.sl 101 q1 2 t.steps.length) (.sl 18 q2 1 t.w.length)/\f= [(101,⟨q1,2,98,A2 t.steps⟩),(18,⟨q2,1,30,Bw t.w⟩)]) (fun _ =>False):=by
 have he:=h.el;have ae:=h.sl;have af:=h.wl;have g:=Aax (As t.elig) (Ag _) (Rg _) (by rw [A4];omega);have m:=Yf (A2 t.steps) (A5 _) (flatP _) (by rw [Du];omega);have j:=fun(n:Nat)(h:(F5 n).length<=100000)=>Aay (F5 n) (Ff n) (Ahx n) h
 have aa:=fun(k:Nat)(u:k<t.w.length)=>h.wd _ (Az u)
 have pe:=Ag t.elig;have ps:=A5 t.steps;have pw:=Bv t.w;have ls:=Du t.steps;have lw:=Hk t.w;have hq:=fun(k:Nat)(h:k<t.w.length)=>Kc h
 have hg:=fun(k:Nat)(h:k<t.w.length)=>Pb h
 have y:(t.w.length:Int)<=9223372036854775807:=om;have z:24*(t.w.length:Int)<=281474976710656:=om;unfold Te.v teV;generalize As t.elig=ev,A2 t.steps=sv,Bw t.w=c at*;refine Gs func161 fun w0 N0 a=>?_;refine Aa [1,2] [1,2] sr (Aa [1,2,3] [1,2,3] sr (Ab (Ad (Am 2 sr ?_))));refine Ah g func110 ?_;refine Af [1,2,3] [1,2,3] sr ?_;refine Ab (Ad (Am 2 sr ?_));refine L7 101 m func111 rfl kr rfl rfl rfl sr (by simp [AS.views,AS.view,AS.viewC]<;>rfl) sr ?_;refine Af [1,2,3] [1,2,3,101] sr ?_;refine Aa [1,2,3] [1,2,3,18,101] (by simp [y,z,lw]<;>rfl) (Ab (Aa [2,3,21,22,23] [2,3,18,101] sr (Ar (Br (fun k nx=>⟨[(2,V.bp 2 (a+1) 6 0 0),(3,V.bp 3 (a+2+1) 6 0 0),(21,V.ro 1 c),(22,V.int .i64 c.length),(23,V.int .i64 k)],[(2,⟨a+1,6,54,[V.agg [V.nils,V.nils,V.int .i64 0,V.nils,V.int .u64 0,V.int .i64 0]]⟩),(3,⟨a+2+1,6,54,[V.agg [V.ro 1 ev,V.sl 101 (a+2+3+5+2) 2 sv.length,V.int .i64 t.pend,V.sl 18 (a+2+3+5+5+3) 1 t.w.length,V.int .u64 t.draw,V.int .i64 t.stop]]⟩),(18,⟨(a+2+3+5+5+3),1,30,Fk c .nils k⟩),(101,⟨(a+2+3+5+2),2,98,sv⟩)],nx,36⟩) (fun k=>True) t.w.length _ trivial (by rw [Ik,lw];exact AS.le_refl _) ?_))));intro k nx u hI;have ad:=Jk c .nils k om;refine Aa [2,3,21,22,23,24] [2,3,18,101] sr (Ab ?_)
 refine Ao (fun h1=>Ae ?_) fun h1=>?_
 ·have d:k<t.w.length:=by simp at h1;omega
  have l:k<c.length:=om;have ga:=hq k d;have gg:=hg k d;have Dg:=A6 (k:=k) om;have e:=j _ (show(F5 t.w[k]).length<=100000 by have:=aa k d;simpa [F5]using this);have pn:=Ff t.w[k];change G8 c k=some (.ro 1 (F5 t.w[k]))at ga;generalize F5 t.w[k]=nv at*;have i:=Jm c .nils k om gg;have x:G8 (Fk c .nils k) k=some .nils:=Jl c _ k om;have s:(Fk c .nils k).length=t.w.length:=om;generalize Fk c .nils k=row at*;refine Ab (Ar (Aa [2,3,4,5,21,22,23] [2,3,18,101] (by simp [ga,l]<;>rfl) ?_));refine C5 [(0,[]),(2,[]),(3,[]),(4,[]),(1,[]),(5,[]),(6,[])] Ds kr ?_;refine Cf 3 sr ?_;refine Bu (fun hg=>e) func113 rfl kr rfl rfl sr rfl rfl sr (by simp) sr ?_;refine C6 [2,3,21,22,23] [2,3,18,101] (by simp [d,x,i]<;>rfl) ?_;refine A3 [2,3,21,22,23] [2,3,18,101] (by simp [Dg]<;>rfl) ?_;exact⟨d,trivial,_,AS.le_refl _⟩
 ·refine Bb ?_;have ab:k=t.w.length:=by simp at h1;omega
  rw [ab,Ka c .nils t.w.length Go.om];refine Aa [2] [2,18,101] sr ?_;exact C1 a (Dr (A8 _ _) sr ⟨(a+2+3+5+2),(a+2+3+5+5+3),by rw [ls],rfl⟩ (fun k o u=>Ass gt gt u))
theorem Aec{l:List V}{k:Nat}{x:V}(h:l[k]? =some x):l.set k x=l:=by
 apply Km;intro i;rw [Kn]
 by_cases e:k=i
 ·subst e;have a:=(Ap.1 h).1;rw [if_pos rfl,if_pos a,h]
 ·rw [if_neg e]
theorem Ahz(t:Te)(h:teOk t):AC prog 115 [t.v] (fun r=>r=t.v):=by
 have j:=Ahy t h;have ae:=h.wl;have y:=fun(k:Nat)(f:k<t.w.length)=>h.wd _ (Az f)
 have c:=fun(n:Nat)(hn:(B1 n).length<=100000)=>Xt (B1 n) (Cn n) om
 simp only [Cv]at c;change∀n,_ ->AC prog 147 [.ro 1 (F5 n)] (fun r=>r=.ro 1 (F5 n))at c;have pe:=Ag t.elig;have ps:=A5 t.steps;have m:=Bv t.w;have ls:=Du t.steps;have s:=Hk t.w;have hq:=fun(k:Nat)(h:k<t.w.length)=>Kc h
 have hg:=fun(k:Nat)(h:k<t.w.length)=>Pb h
 unfold Te.v teV at*;generalize As t.elig=ev,A2 t.steps=sv,Bw t.w=wv at*;refine Ax func115 fun w0 N0=>?_;refine Aa [1,2] [1,2] sr (Ab (Ad (Am 1 sr ?_)));refine El j func161 rfl kr rfl rfl rfl sr (fun k o f=>by cases f) ?_ fun ch l=>l.elim;rintro r aa i⟨q1,x,rfl,rfl⟩ab;refine⟨fun k f=>rfl,_,by simp<;>rfl,?_⟩;refine Af [2,3] [2,3,18,101] sr ?_;refine Ab (Aa [2,3,9,10,11] [2,3,18,101] sr (Ar (Br (fun k nx=>⟨[(2,V.bp 2 1 6 0 0),(3,V.bp 3 (i+2) 6 0 0),(9,V.sl 18 x 1 t.w.length),(10,V.int .i64 t.w.length),(11,V.int .i64 k)],[(2,⟨1,6,54,[V.agg [V.nils,V.nils,V.int .i64 0,V.nils,V.int .u64 0,V.int .i64 0]]⟩),(3,⟨i+2,6,54,[V.agg [V.ro 1 ev,V.sl 101 q1 2 t.steps.length,V.int .i64 t.pend,V.sl 18 x 1 t.w.length,V.int .u64 t.draw,V.int .i64 t.stop]]⟩),(18,⟨x,1,30,wv⟩),(101,⟨q1,2,98,sv⟩)],nx,24⟩) (fun k=>True) t.w.length _ trivial (AS.le_refl _) ?_)));intro k nx f hI;refine Aa [2,3,9,10,11,12] [2,3,18,101] sr (Ab ?_)
 refine Ao (fun h1=>Ae ?_) fun h1=>?_
 ·have a:k<t.w.length:=by simp at h1;omega
  have d:k<wv.length:=om;have u:=hq k a;have gg:=hg k a;have Dg:=A6 (k:=k) om;have e:=c t.w[k] (y k a);have pn:=Ff t.w[k];change G8 wv k=some (.ro 1 (F5 t.w[k]))at u;generalize F5 t.w[k]=nv at*;have g:=Aec gg;refine Ab (Ar (Aa [2,3,4,5,9,10,11] [2,3,18,101] (by simp [u,a]<;>rfl) ?_));refine C5 [(0,[]),(2,[]),(3,[]),(4,[]),(1,[]),(5,[]),(6,[])] Ds kr ?_;refine Cf 3 sr ?_;refine Bu (fun hg=>e) func147 rfl kr rfl rfl sr rfl rfl sr (by simp) sr ?_;refine C6 [2,3,9,10,11] [2,3,18,101] (by simp [a,u,g]<;>rfl) ?_;refine A3 [2,3,9,10,11] [2,3,18,101] (by simp [Dg]<;>rfl) ?_;exact⟨a,trivial,_,AS.le_refl _⟩
 ·refine Bb ?_;refine Aa [2] [2,18,101] sr ?_;have ad:=Fo ps;have z:=Fo m;refine Bp 101 [2] [2,18] (by simp [ps,ls,z]<;>rfl) (Bp 18 [2] [2] (by simp [m,s]<;>rfl) ?_);exact Aj (Ac (by simp [results115]<;>rfl) (rfl))
set_option linter.unusedSimpArgs false
theorem Am4(a:Int):AC prog 204 [.int .i64 a] (fun r=>r=.bool false):=by
 refine Ax func204 fun w0 N0=>?_;refine Aa [0] [] sr ?_;exact Aa [2] [] sr (Aj (Ac sr rf))
def cmpI(a b:Int):Int:=if a<b then -1 else if b<a then 1 else 0
theorem Aed(a b:Int):AC prog 159 [.int .i64 a,.int .i64 b] (fun r=>r=.int .i64 (cmpI a b)):=by
 have f:=Am4 a;have g:=Am4 b;unfold cmpI;refine Ax func159 fun w0 N0=>?_;refine Aa [0,1] [] sr (Ab (Ad (Am 1 sr ?_)));refine Ah f func204 ?_;refine Af [0,1,5] [] sr ?_;refine Ab (Ad (Am 1 sr ?_));refine Ah g func204 ?_;refine Af [0,1,5,6] [] sr ?_;refine Ab (Aa [0,1,6,11] [] sr ?_);refine A7 rfl (fun h1=>absurd h1 sm) (fun h1=>Ae (Ab (Aa [0,1,13] [] sr ?_)));refine A7 rfl (fun e=>absurd e sm) (fun e=>Ae (Ab (Aa [0,1,16] [] sr ?_)))
 refine Ao (fun c=>?_) fun c=>Ae ?_
 ·exact Aa [4] [] sr (Aj (Ac sr (by rw [if_pos (by simpa using c)])))
 refine Ab (Aa [19] [] sr ?_)
 refine Ao (fun d=>?_) fun d=>Ae ?_
 ·exact Aa [4] [] sr (Aj (Ac sr (by rw [if_neg (by simpa using c),if_pos (by simpa using d)])))
 exact Aa [4] [] sr (Aj (Ac sr (by rw [if_neg (by simpa using c),if_neg (by simpa using d)])))
def orF:List Int->Int
 | []=>0
 |a::r=>if a≠0 then a else orF r
theorem A1b{l:List Int}{k:Nat}(h:k<l.length):orF (l.drop k)=if l[k]≠0 then l[k]else orF (l.drop (k+1)):=by rw [Bt h,orF]
theorem Bai(l:List Int)(hl:l.length<=1000):AC prog 158 [.ro 1 (As l)] (fun r=>r=.int .i64 (orF l)):=by
 have j:=fun(k:Nat)(h:k<l.length)=>E8 h
 have lq:=A4 l;have pl:=Ag l;have n:=fun(k:Nat)(h:k<l.length)=>A1b h
 generalize As l=g at*;refine Ax func158 fun w0 N0=>?_;refine Aa [0] [] sr (Aa [0,3] [] sr (Ab (Aa [3,6,7,8] [] sr (Ar (Br (fun k nx=>⟨[(3,V.int .i64 0),(6,V.ro 1 g),(7,V.int .i64 g.length),(8,V.int .i64 k)],[],nx,18⟩) (fun k=>orF (l.drop k)=orF l) l.length _ rfl (AS.le_refl _) ?_)))));intro k nx hk i;refine Aa [3,6,7,8,9] [] sr (Ab ?_)
 refine Ao (fun h1=>Ae ?_) fun h1=>?_
 ·have c:k<l.length:=by simp at h1;omega
  have d:k<g.length:=om;have m:=j k c;have Dg:=A6 (k:=k) om;have e:=n k c;generalize l[k]=a at*;refine Ab (Ar (Aa [3,5,6,7,8] [] (by simp [m,d]<;>rfl) (Aa [3,5,6,7,8,14] [] sr ?_)))
  refine Ao (fun h2=>?_) fun h2=>Ae ?_
  ·exact Aa [2] [] sr (Aj (Ac sr (by rw [<- i,e,if_pos (by simpa using h2)])))
  refine A3 [3,6,7,8] [] (by simp [Dg]<;>rfl) ?_;exact⟨c,by rw [<- i,e,if_neg (by simpa using h2)],_,AS.le_refl _⟩
 ·refine Bb ?_;have f:k=l.length:=by simp at h1;omega
  exact Aa [2] [] sr (Aj (Ac sr (by rw [<- i,f,Cd];rfl)))
def Z3(c:List (Int × Int))(a b:Int):Int:=orF [cmpI (Ez c b) (Ez c a),cmpI a b]
theorem A5f(bm:Nat)(m:List (Int × V))(c:List (Int × Int))(g:∀a,Mr false (.int .i64 0) (Gd a m)=.int .i64 (Ez c a))(a b:Int):
  AC prog 157 [.int .i64 a,.int .i64 b,.rm bm .i64 m] (fun r=>r=.int .i64 (Z3 c a b)):=by
 have j:=Aed (Ez c b) (Ez c a);have h:=Aed a b;have d:=Bai [cmpI (Ez c b) (Ez c a),cmpI a b] sm;have f:=g a;have e:=g b;unfold Z3;have i:As [cmpI (Ez c b) (Ez c a),cmpI a b]= [.int .i64 (cmpI (Ez c b) (Ez c a)),.int .i64 (cmpI a b)]:=rfl;rw [i]at d;generalize orF [cmpI (Ez c b) (Ez c a),cmpI a b]=oo,cmpI (Ez c b) (Ez c a)=x1,cmpI a b=x2,Ez c a=la,Ez c b=lb at*;refine Ax func157 fun w0 N0=>?_;refine Aa [0,1,2] [] sr (Ab (Ad (Am 6 (by simp [f,e,-Mr]<;>rfl) ?_)));refine Ah j func159 ?_;refine Am 2 sr ?_;refine Ah h func159 ?_;refine Am 1 sr ?_;refine I7 16 [16] [] sr ?_;refine Ah d func158 ?_;refine Af [5] [] sr ?_;exact Aj (Ac sr (rfl))
theorem Aqj(x:Int)(a:0<=x)(h1:x<=18446744073709551615):AC prog 146 [.int .u64 x] (fun r=>r=.int .i64 (Lib.bitLen x.toNat)):=by
 intro w N xs hb c hp
 match xs,c with
 | [y],_ =>
  have:=hp 0 y _ rfl rfl;cases this with
  |int=>
   refine(bits_Len x w a h1).mono ?_;rintro e w'⟨rfl,rfl⟩;exact⟨_,_,rfl,rfl,.int _ _,Go.RowKit.Below.refl _ _⟩
theorem A5g(d v:Nat)(l:List Int)(g:Int)(f:FuncId)(us vs:List V)(e:Int->Int->Int)(hl:l.length<=12)
  (u:∀a∈l,∀b∈l,FCQ G0 prog (.fc f us vs) [.int .i64 a,.int .i64 b] (fun r=>r=.int .i64 (e a b))):
  ACS prog 203 [.sl d v 1 l.length,.int .i64 0,.int .i64 l.length,.int .i64 g,.fc f us vs] [(d,⟨v,1,3,As l⟩)] (fun r c=>r=.tup []/\c= [(d,⟨v,1,3,As (G9 e l)⟩)]) (fun _ =>False):=by
 have i:=Am0 d v l f us vs e om u;have s:(l.length:Int)<=12:=om;have n:IntKind.i64.wrap (l.length:Int)=l.length:=Bh om om;refine Gs func203 fun w0 N0 m=>?_;refine Aa [0,1,2,3,4,10] [d] sr (Aa [0,1,2,3,4,10,11] [d] sr (Ar (Di (fun nx:Nat=>⟨[(0,V.sl d v 1 l.length),(1,V.int .i64 0),(2,V.int .i64 l.length),(3,V.int .i64 g),(4,.fc f us vs),(10,V.bool true),(11,V.bool true)],[(d,⟨v,1,3,As l⟩)],nx,148⟩) (fun _ =>True) (fun _ =>0) _ trivial (AS.le_refl _) ?_)));intro nx _;refine Ar (Aa [0,1,2,3,4,10,11,12] [d] (by simp [n]<;>rfl) (Ab (Aa [0,1,2,3,4,10,11,12,25] [d] sr ?_)))
 refine A7 rfl (fun h1=>?_) (fun h1=>absurd h1 (by simp [s]))
 ·refine Ab (Ad (Am 4 sr ?_));refine El i func239 rfl kr rfl rfl rfl sr (fun k o h=>Dk gt h) ?_ fun ch j=>j.elim;rintro r c w⟨rfl,rfl⟩t;refine⟨fun k h=>L3 h,_,by simp<;>rfl,?_⟩;refine Af [] [d] sr ?_;exact C1 m (Dr (A8 _ _) sr ⟨rfl,rfl⟩ (fun k o h=>Dk gt h))
theorem Avq(d v:Nat)(l:List Int)(f:FuncId)(us vs:List V)(e:Int->Int->Int)(u:l.length<=12)
  (w:∀a∈l,∀b∈l,FCQ G0 prog (.fc f us vs) [.int .i64 a,.int .i64 b] (fun r=>r=.int .i64 (e a b))):
  ACS prog 156 [.sl d v 1 l.length,.fc f us vs] [(d,⟨v,1,3,As l⟩)] (fun r c=>r=.tup []/\c= [(d,⟨v,1,3,As (G9 e l)⟩)]) (fun _ =>False):=by
 have i:=fun s=>A5g d v l s f us vs e u w
 have j:=Aqj l.length om om;have n:IntKind.u64.wrap (l.length:Int)=l.length:=wrap_u64 om;refine Gs func156 fun w0 N0 t=>?_;refine Aa [0,1,4] [d] sr (Ad (Am 4 (by simp [n]<;>rfl) ?_));refine Ah j func146 ?_;refine Am 1 sr ?_;refine El (i _) func203 rfl kr rfl rfl rfl sr (fun k o h=>Dk gt h) ?_ fun ch m=>m.elim;rintro r c x⟨rfl,rfl⟩g;refine⟨fun k h=>L3 h,_,by simp<;>rfl,?_⟩;refine Af [] [d] sr ?_;exact⟨by simp only;simp at g;omega,.tup [],_,by simp [results156],fun k o h=>Dk gt h,rfl,rfl⟩
def Qt(c:List (Int × Int))(a:Int):Bool:=c.any fun p=>decide (p.1=a)
theorem Ast(c:List (Int × Int))(a:Int):Mr true (.int .i64 0) (Gd a (mV c))=.tup [.int .i64 (Ez c a),.bool (Qt c a)]:=by
 induction c with
 |nil=>rfl
 |cons p r ih=>
  obtain⟨x,v⟩:=p;simp only [mV,Ct,Gd,Qt,Qy]at ih|-;rw [Ez]
  by_cases h:x=a
  ·rw [if_pos h,if_pos h];simp [Mr,h]
  ·rw [if_neg h,if_neg h,ih];simp [h]
def dlK(giv:List Int)(m:List (Int × V)):Nat->List (Int × V)
 |0=>m
 |k+1=>Vw (giv.getD k 0) (dlK giv m k)
theorem Ah0(giv:List Int)(m:List (Int × V))(a:Int):∀k,k<=giv.length->Gd a (dlK giv m k)=if a∈giv.take k then none else Gd a m
 |0,_ =>by simp [dlK]
 |k+1,h=>by
  have c:k<giv.length:=om;rw [dlK,Pl,Ah0 giv m a k om,A1 c,Cp c]
  by_cases h1:a=giv[k]
  ·rw [if_pos h1,if_pos (by rw [h1];exact List.mem_append_right _ (Bz.2 rfl))]
  ·rw [if_neg h1]
   by_cases h2:a∈giv.take k
   ·rw [if_pos h2,if_pos (I2 _ h2)]
   ·rw [if_neg h2,if_neg (fun e=>(Cc.1 e).elim h2 (fun e=>h1 (Bz.1 e)))]
theorem Am5(a:Int):∀(l:List Int),(Gd a (mB l)).isSome=true↔a∈l
 | []=>by simp [mB,Gd]
 |x::r=>by
  have ih:=Am5 a r;simp only [mB,Ct,Gd]at ih|-
  by_cases h:x=a
  ·rw [if_pos h];simp [h]
  ·rw [if_neg h,ih,Cj];exact⟨.inr,fun e=>e.elim (fun e=>absurd e.symm h) id⟩
theorem Ah1:∀ {C T:List Int},C.Nodup->(∀a∈C,a∈T)->C.length<=T.length
 | [],_,_,_ =>B4 _
 |c::r,T,d,hs=>by
  rw [H7]at d;have h1:=Ah1 (T:=T.erase c) d.2 (fun a f=>(List.mem_erase_of_ne (fun e=>d.1 (by rw [<- e];exact f))).2 (hs a (Dv _ f)));have h2:=hs c (Et ..);have h3:=List.length_erase_of_mem h2;have h4:=List.length_pos_of_mem h2;simp only [Ba];omega
def Z4(pool:List Pit)(a:List Int):Nat->List (Int × Int)
 |0=>[]
 |k+1=>if Qt (Z4 pool a k) (pool.getD k default).id=true then Z4 pool a k else((pool.getD k default).id,a.getD k 0)::Z4 pool a k
def Ajx(pool:List Pit)(a:List Int):List (Int × Int):=Z4 pool a pool.length
def A8n(pool:List Pit)(c d giv:List Int)(r:V):Prop:=
 if d.any (fun id=> !Qt (Ajx pool c) id)=true\/giv.any (fun id=> !Qt (Ajx pool c) id)=true then r=.tup [.nils,.int .i64 6]
 else∃C:List Int,C.Nodup/\(∀a,a∈C↔a∈d/\a∉giv)/\r=.tup [.ro 1 (As (G9 (Z3 (Ajx pool c)) C)),.int .i64 0]
attribute [-simp] Vw in
theorem A1c(pool:List Pit)(g d giv:List Int)(bs:pool.length<=18)(bx:g.length=pool.length)(ay:∀v∈g,-1000000<=v/\v<=1000000)(bf:d.length<=12)(bz:giv.length<=1000):
  AC prog 109 [.ro 9 (Ce pool),.ro 1 (As g),.ro 1 (As d),.ro 1 (As giv)] (A8n pool g d giv):=by
 have pl:=Ca pool;have pv:=Ag g;have pt:=Ag d;have pg:=Ag giv;have be:=fun(k:Nat)(h:k<pool.length)=>Am3 h
 have aw:=fun(k:Nat)(h:k<g.length)=>Dd h
 have bc:=fun(k:Nat)(h:k<d.length)=>E8 h
 have ba:=fun(k:Nat)(h:k<giv.length)=>E8 h
 have lp:=Dx pool;have lv:=A4 g;have lt:=A4 d;have lg:=A4 giv;have bh:∀k,Z4 pool g (k+1)=if Qt (Z4 pool g k) (pool.getD k default).id=true then Z4 pool g k else((pool.getD k default).id,g.getD k 0)::Z4 pool g k:=fun k=>rfl
 have hw0:Z4 pool g 0= []:=rfl;unfold A8n Ajx;generalize Z4 pool g=wk at*;generalize Ce pool=ab at*;generalize As g=vv at*;generalize As d=tv at*;generalize As giv=u at*;refine Ax func109 fun w0 N0=>?_;refine Aa [0,1,2,3] [] sr ?_;refine Ab (Aa [0,1,2,3,32] [] sr ?_);refine A7 rfl (fun h1=>absurd h1 so) (fun h1=>Ae (Ab (Aa [0,1,2,3,33,34,35] [] sr ?_)));refine Ar (Br (fun k nx=>⟨[(0,V.ro 9 ab),(1,V.ro 1 vv),(2,V.ro 1 tv),(3,V.ro 1 u),(33,V.ro 1 vv),(34,V.int .i64 vv.length),(35,V.int .i64 k)],[],nx,120⟩) (fun k=>True) g.length _ trivial (AS.le_refl _) ?_);intro k nx hk hI;refine Aa [0,1,2,3,33,34,35,36] [] sr ?_;refine Ab ?_
 refine Ao (fun h2=>Ae ?_) fun h2=>?_
 ·have i:k<g.length:=by simp at h2;omega
  have j:k<vv.length:=om;have ga:=aw k i;have Dg:=A6 (k:=k) om;have a6:=Gl ay i 0;generalize g.getD k 0=v at ga a6;refine Ab (Ar (Aa [0,1,2,3,11,33,34,35] [] (by simp [ga,j]<;>rfl) ?_));refine Aa [0,1,2,3,33,34,35,44] [] sr ?_;refine A7 rfl (fun h3=>absurd h3 so) (fun h3=>Ae (A3 [0,1,2,3,33,34,35] [] (by simp [Dg]<;>rfl) ?_));exact⟨i,trivial,_,AS.le_refl _⟩
 ·refine Bb ?_;refine Ab (Ad (Qa .i64 rfl rfl (fun b hb _ =>⟨_,rfl,?_⟩)));refine Aph (b:=b) (k:=.i64) (m:=[]) rfl rfl rfl rfl rfl rfl kr sm sr dc sr ?_;refine Af [0,1,2,3,12] [] sr ?_;refine Ab (Aa [1,2,3,12,47,48,49] [] sr ?_);refine Ar (Br (fun k nx=>⟨[(1,V.ro 1 vv),(2,V.ro 1 tv),(3,V.ro 1 u),(12,.rm b .i64 (mV (wk k))),(47,V.ro 9 ab),(48,.int .i64 ab.length),(49,V.int .i64 k)],[],nx,120⟩) (fun k=>True) pool.length _ trivial (by simp only [hw0];exact AS.le_refl _) ?_);intro n bt br bu;refine Aa [1,2,3,12,47,48,49,50] [] sr ?_;refine Ab ?_
  refine Ao (fun h4=>Ae ?_) fun h4=>?_
  ·have i:n<pool.length:=by simp at h4;omega
   have j:n<ab.length:=om;have ga:=be n i;have gv:=aw n om;have a3:n<vv.length:=om;have Dg:=A6 (k:=n) om;have aa:=bh n;have ad:=Ast (wk n) (pool.getD n default).id;unfold Pit.cs at ga;generalize pool.getD n default=p at*;have pm:=Do p.m;generalize g.getD n 0=val at*;generalize Qt (wk n) p.id=hs at*;generalize an:mV (wk n)=l at*;refine Ab (Ar (Aa [1,2,3,12,13,14,47,48,49] [14] (by simp [ga,j]<;>rfl) ?_));refine Aa [1,2,3,12,13,14,16,47,48,49] [14] (by simp [ad,-Mr]<;>rfl) ?_;refine Aa [1,2,3,12,13,14,47,48,49,62] [14] sr ?_
   refine Ao (fun h5=>?_) fun h5=>Ae ?_
   ·rw [if_neg (by simpa using h5)]at aa;have a0:mV (wk (n+1))=(p.id,.int .i64 val)::l:=by rw [aa,<- an];rfl
    refine C5 [(1,[]),(3,[]),(4,[]),(5,[]),(0,[]),(2,[]),(6,[]),(7,[])] Ds kr ?_;refine Cf 7 (by simp [gv,a3,-Mr]<;>rfl) ?_;refine Vr (b:=b) hb rfl sm rfl rfl rfl sr sr sr rfl Ap1 rfl sr ?_;refine C6 [1,2,3,12,47,48,49] [] sr ?_;refine A3 [1,2,3,12,47,48,49] [] (by simp [Dg]<;>rfl) ?_;exact⟨i,trivial,_,by rw [a0];exact AS.le_refl _⟩
   rw [if_pos (by simpa using h5)]at aa;refine A3 [1,2,3,12,47,48,49] [] (by simp [Dg]<;>rfl) ?_;exact⟨i,trivial,_,by rw [aa,an];exact AS.le_refl _⟩
  ·refine Bb ?_;have s:n=pool.length:=by simp at h4;omega
   subst s;have ad:=fun a=>Ast (wk pool.length) a
   have a9:=fun a=>Abr (wk pool.length) a
   generalize wk pool.length=W at*;generalize mV W=l at*;refine Ab (Ad (Aiu .i64 rfl rfl (fun b2 ao bk=>⟨_,rfl,?_⟩)));have aq:b≠b2:=bk 12 b .i64 l (.inr sr);refine Af [2,3,12,17] [] sr ?_;refine Ab (Aa [3,12,17,72,73,74] [] sr ?_);refine Ar (Br (fun k nx=>⟨[(3,V.ro 1 u),(12,.rm b .i64 l),(17,.mp b2 .i64 (mB (d.take k).reverse)),(72,V.ro 1 tv),(73,.int .i64 tv.length),(74,V.int .i64 k)],[],nx,120⟩) (fun k=>(d.take k).any (fun id=> !Qt W id)=false) d.length _ rfl (AS.le_refl _) ?_);intro k3 bq bo aj;refine Aa [3,12,17,72,73,74,75] [] sr ?_;refine Ab ?_
   refine Ao (fun h6=>Ae ?_) fun h6=>?_
   ·have i:k3<d.length:=by simp at h6;omega
    have j:k3<tv.length:=om;have ga:=bc k3 i;have Dg:=A6 (k:=k3) om;have ah:=fun h=>M4 (f:=fun id=> !Qt W id) i aj h
    have ai:=fun h=>Qg (f:=fun id=> !Qt W id) i h
    have a8:mB (d.take (k3+1)).reverse=(d[k3],.bool true)::mB (d.take k3).reverse:=by rw [A1 i,List.reverse_append];rfl
    generalize d[k3]=id at*;have z:=ad id;generalize Qt W id=bd at*;generalize mB (d.take k3).reverse=mb at*;refine Ab (Ar (Aa [3,12,17,19,72,73,74] [] (by simp [ga,j]<;>rfl) ?_));refine Ab (Aa [3,12,17,19,21,72,73,74] [] (by simp [z,-Mr]<;>rfl) ?_);refine Aa [3,12,17,19,72,73,74,85] [] sr ?_
    refine Ao (fun h7=>?_) fun h7=>Ae ?_
    ·refine Aa [8,9] [] sr ?_;exact Aj (Ac sr (by rw [if_pos (.inl (ai (by simpa using h7)))]))
    refine Ad (Am 2 sr ?_);refine Qm (b:=b2) ao rfl rfl rfl sr sr sr rfl Ajj rfl (by simp [aq]<;>rfl) ?_;refine Af [3,12,17,72,73,74] [] sr ?_;refine A3 [3,12,17,72,73,74] [] (by simp [Dg]<;>rfl) ?_;exact⟨i,ah (by simpa using h7),_,by rw [a8];exact AS.le_refl _⟩
   ·refine Bb ?_;have s:k3=d.length:=by simp at h6;omega
    rw [s,Bl]at aj;rw [s,Bl];have az:∀k,dlK giv (mB d.reverse) (k+1)=Vw (giv.getD k 0) (dlK giv (mB d.reverse) k):=fun k=>rfl
    have ax:dlK giv (mB d.reverse) 0=mB d.reverse:=rfl;have a5:=fun a=>Ah0 giv (mB d.reverse) a giv.length (A9 _)
    have a7:=fun a=>Am5 a d.reverse
    generalize bv:dlK giv (mB d.reverse)=dl at*;refine Ab (Aa [12,17,89,90,91] [] sr ?_);refine Ar (Br (fun k nx=>⟨[(12,.rm b .i64 l),(17,.mp b2 .i64 (dl k)),(89,V.ro 1 u),(90,.int .i64 u.length),(91,V.int .i64 k)],[],nx,120⟩) (fun k=>(giv.take k).any (fun id=> !Qt W id)=false) giv.length _ rfl (by simp only [ax];exact AS.le_refl _) ?_);intro k4 b0 bw ak;refine Aa [12,17,89,90,91,92] [] sr ?_;refine Ab ?_
    refine Ao (fun h8=>Ae ?_) fun h8=>?_
    ·have i:k4<giv.length:=by simp at h8;omega
     have j:k4<u.length:=om;have ga:=ba k4 i;have Dg:=A6 (k:=k4) om;have ah:=fun h=>M4 (f:=fun id=> !Qt W id) i ak h
     have ai:=fun h=>Qg (f:=fun id=> !Qt W id) i h
     have av:=az k4;rw [Cp i]at av;generalize giv[k4]=id at*;have z:=ad id;generalize Qt W id=bd at*;generalize dl k4=mb at*;refine Ab (Ar (Aa [12,17,23,89,90,91] [] (by simp [ga,j]<;>rfl) ?_));refine Ab (Aa [12,17,23,25,89,90,91] [] (by simp [z,-Mr]<;>rfl) ?_);refine Aa [12,17,23,89,90,91,102] [] sr ?_
     refine Ao (fun h9=>?_) fun h9=>Ae ?_
     ·refine Aa [8,9] [] sr ?_;exact Aj (Ac sr (by rw [if_pos (.inr (ai (by simpa using h9)))]))
     refine Ad (Am 2 sr ?_);refine Afj (b:=b2) ao rfl rfl rfl sr sr Ajj rfl (by simp [aq]<;>rfl) ?_;refine Af [12,17,89,90,91] [] sr ?_;refine A3 [12,17,89,90,91] [] (by simp [Dg]<;>rfl) ?_;exact⟨i,ah (by simpa using h9),_,by rw [av];exact AS.le_refl _⟩
    ·refine Bb ?_;have s:k4=giv.length:=by simp at h8;omega
     rw [s,Bl]at ak;rw [s];simp only [aj,ak,Fh,or_self,if_false]
     have hK:∀a,(Gd a (dl giv.length)).isSome=true↔a∈d/\a∉giv:=fun a=>by
      rw [a5 a,Bl]
      by_cases h:a∈giv
      ·rw [if_pos h];simp [h]
      ·rw [if_neg h,a7 a];simp [h]
     generalize dl giv.length=dm at*;refine Aa [12,17,26] [] sr ?_;refine Fp 26 100 1 3 [12,17,26] [100] sr sr ?_;refine Ab ?_;have ae:∀y:List Int × Nat × Nat,∀L:List Int,y.1.Nodup->(∀a,(a∈y.1\/a∈L)↔a∈d/\a∉giv)->y.1.length<=12:=fun y L h1 h2=>Ai (Ah1 h1 (fun a ha=>((h2 a).1 (.inl ha)).1)) bf
     refine Alg (bm:=b2) (k:=.i64) (m:=dm) (e0:=4) 107 (fun(y:List Int × Nat × Nat)=>⟨[(107,.bp 107 _ 0 0 0),(106,.mp b2 .i64 dm),(12,.rm b .i64 l),(17,.mp b2 .i64 dm),(26,.sl 100 y.2.1 1 y.1.length)],[(100,⟨y.2.1,1,3,As y.1⟩)],y.2.2,120⟩) (fun y L=>y.1.Nodup/\L.Nodup/\(∀a,(a∈y.1\/a∈L)↔a∈d/\a∉giv)/\(∀a,a∈y.1->a∉L)) ([],_,_) rfl rfl rfl rfl rfl rfl rfl rfl rfl rfl rfl rfl rfl rfl rfl rfl rfl rfl rfl rfl rfl sr Ajj sm (fun y=>by simp) dc (fun y=>rfl) ?_ (AS.le_refl _) ?_ ?_
     ·intro L hL bg;exact⟨List.nodup_nil,hL,fun a=>by rw [<- hK a,<- bg a];simp,fun a ha=>absurd ha (F9)⟩
     ·rintro B N⟨C,qv,nx⟩L a v⟨hC,hL,w,al⟩au;have t:=ae (C,qv,nx) L hC w;simp only at hC w al t|-;have a2:C.length+1<=maxLen/\(C.length+1)*8<=140737488355328:=⟨Ai (show C.length+1<=1001 by omega) dc,by omega⟩;refine A3 [107,106,12,17,26] [100] (by simp [a2]<;>rfl) ?_
      refine⟨(C++[a],_,_),fun L' a4 af=>⟨?_,a4,?_,?_⟩,by simp only [Ps,X1,Bf,Ba,Bx];exact AS.le_refl _⟩
      ·exact Kl.2 ⟨hC,H7.2 ⟨F9,List.nodup_nil⟩,fun x hx y hy=>by rw [Bz.1 hy];exact fun e=>al x hx (by rw [e];exact au)⟩
      ·intro c;rw [<- w c,af c,Cc,Bz]
       by_cases am:c=a
       ·subst am;simp [au]
       ·simp [am]
      ·intro c hc ag;rw [af c]at ag
       rcases Cc.1 hc with h|h
       ·exact al c h ag.1
       ·exact ag.2 (Bz.1 h)
     rintro⟨C,qv,nx⟩⟨hC,-,w,-⟩;have t:=ae (C,qv,nx) [] hC w;have bj:∀a,a∈C↔a∈d/\a∉giv:=fun a=>by rw [<- w a];simp
     simp only at hC t|-;have pC:=Ag C;have lC:=A4 C;have ar:=Avq 100 qv C 157 [] [.rm b .i64 l] (Z3 W) t (fun x _ y _ =>X7 (args:=[.int .i64 x,.int .i64 y]) (us:=[]) (vs:=[.rm b .i64 l]) (r:=.int .i64 (Z3 W x y)) (A5f b l W a9 x y) func157 kr rfl);have a1:=Ag (G9 (Z3 W) C)
     have bb:(As (G9 (Z3 W) C)).length=C.length:=by rw [A4,Ml]
     ·skip
      refine Ab (Ad (Am 2 sr ?_));refine El ar func156 rfl kr rfl rfl rfl sr (fun k o hk=>Dk gt hk) ?_ fun ch bi=>bi.elim;rintro r bn b1⟨rfl,rfl⟩bl;refine⟨fun k hk=>L3 hk,_,by simp<;>rfl,?_⟩;refine Af [26] [100] sr ?_;refine Bp 100 [26] [] (by simp [a1,bb]<;>rfl) ?_;refine Aa [8,9] [] sr ?_;exact Aj (Ac sr (⟨C,hC,bj,rfl⟩))
def A5h(l:List Nat):Bool:=decide (0<((bitLen (Bd l):Nat):Int))
theorem A5i(l:List Nat)(h:D6 l)(hs:l.length<=1099511627776):AC prog 205 [.ro 1 (Av l)] (fun r=>r=.bool (A5h l)):=by
 have a:=Ar0 l h hs;have pl:=Ak l;unfold A5h;generalize Av l=lv at*;refine Ax func205 fun w0 N0=>?_;refine Aa [0] [] sr (Ab (Ad (Am 1 sr ?_)));refine Ah a func206 ?_;refine Af [2] [] sr ?_;exact Aj (Ac sr (rfl))
theorem T4{w:List Nat}{m:Nat}(h:J2 w m):∀k,k<=w.length->(B1 (Gb (w.take k))).length<=m+k
 |0,_ =>by simp [Gb,Ea]
 |k+1,hk=>by
  rw [Uy Go.om];have:=Abn (T4 h k om) (h _ (Az (show k<w.length by omega)));omega
theorem Ajy(w:List Nat)(l:J2 w 1000000)(o:w.length<=1000000):AC prog 304 [.ro 1 (Bw w)] (fun r=>r=.ro 1 (F5 (Gb w))):=by
 have n:∀(k:Nat)(h:k<w.length),G8 (Bw w) k=some (.ro 1 (F5 w[k])):=fun k h=>Kc h
 have lq:=Hk w;have pw:=Bv w;have f:=T4 l;generalize Bw w=e at*;refine Ax func304 fun w0 N0=>?_;refine Aa [0] [] sr (Aa [0,3] [] sr ?_);refine Ak8 3 (.ro 1 (F5 (Gb (w.take 0)))) [0,3] [] rfl rfl (by rw [Iq,Gb,F5,Ea];exact Bi.nils 1) sr ?_;refine Ab (Aa [3,6,7,8] [] sr (Ar (Br (fun k nx=>⟨[(3,V.ro 1 (F5 (Gb (w.take k)))),(6,V.ro 1 e),(7,V.int .i64 e.length),(8,V.int .i64 k)],[],nx,17⟩) (fun k=>True) w.length _ trivial (by simp only [Iq];exact AS.le_refl _) ?_)));intro k nx hk hI;refine Aa [3,6,7,8,9] [] sr (Ab ?_)
 refine Ao (fun h1=>Ae ?_) fun h1=>?_
 ·have c:k<w.length:=by simp at h1;omega
  have d:k<e.length:=om;have j:=n k c;have Dg:=A6 (k:=k) om;have hs:=Uy c;have t:=l _ (Az c);have m:=f k om;generalize w[k]=x at j hs t;generalize Gb (w.take k)=g at hs m|-;have a:=Apr (B1 g) (B1 x) (Cn _) (Cn _) om om;rw [Cv,Cv,<- hs]at a;change AC _ _ [.ro 1 (F5 g),.ro 1 (F5 x)] (fun r=>r=.ro 1 (F5 (Gb (w.take (k+1)))))at a;have u:=Ff g;have s:=Ff x;refine Ab (Ar (Aa [3,5,6,7,8] [] (by simp [j,d]<;>rfl) (Ad (Am 2 sr ?_))));refine Ah a func257 ?_;refine Af [3,6,7,8] [] sr ?_;refine A3 [3,6,7,8] [] (by simp [Dg]<;>rfl) ?_;exact⟨c,trivial,_,AS.le_refl _⟩
 ·refine Bb ?_;have i:k=w.length:=by simp at h1;omega
  subst i;rw [Bl];have pG:=Ff (Gb w);exact Aa [2] [] sr (Aj (Ac sr rf))
def Avr(w:List Nat):Int:=if 21<(w.length:Int)then 5 else if((bitLen (Gb w):Nat):Int)=0 then 20 else 0
theorem A8o(w:List Nat)(e:J2 w 1000000)(d:w.length<=1000000):AC prog 283 [.ro 1 (Bw w)] (fun r=>r=.int .i64 (Avr w)):=by
 have c:=Ajy w e d;have a:=Ar0 (B1 (Gb w)) (Cn _) (by have:=T4 e w.length (A9 _);rw [Bl]at this;omega);rw [Cv]at a;change AC _ _ [.ro 1 (F5 (Gb w))] _ at a;have f:=Hk w;have h:=Bv w;have g:=Ff (Gb w);unfold Avr;rw [<- f];generalize Bw w=wv,F5 (Gb w)=sv,((bitLen (Gb w):Nat):Int)=bl at*;refine Ax func283 fun w0 N0=>?_;refine Aa [0] [] sr (Ab (Aa [0,5] [] sr ?_))
 refine Ao (fun h1=>?_) fun h1=>Ae ?_
 ·exact Aa [2] [] sr (Aj (Ac sr (by rw [if_pos (by simpa using h1)])))
 refine Ab (Ab (Ad (Am 1 sr ?_)));refine Ah c func304 ?_;refine Ah a func206 ?_;refine Af [9] [] sr ?_
 refine Ao (fun h2=>?_) fun h2=>Ae ?_
 ·exact Aa [2] [] sr (Aj (Ac sr (by rw [if_neg (by simpa using h1),if_pos (by simpa using h2)])))
 exact Aa [2] [] sr (Aj (Ac sr (by rw [if_neg (by simpa using h1),if_neg (by simpa using h2)])))
def Aa9(a b:Int):Rat:=mkRat (a*Gu b) b.natAbs
theorem Asu(a b:Int)(h1: -9223372036854775808<=a)(h2:a<9223372036854775808)(d: -9223372036854775808<=b)(e:b<9223372036854775808)(f:b≠0):
  AC prog 284 [.int .i64 a,.int .i64 b] (fun r=>r=(nR (Aa9 a b)).v):=by
 have c:=Tn a b h1 h2 d e;rw [Nw,if_neg f]at c;change AC _ _ _ (fun r=>r=V.tup [(nR (Aa9 a b)).v,.bool true])at c;simp only [Vc]at c|-;have p1:=In;have p2:=Io;refine Ax func284 fun w0 N0=>?_;refine Aa [0,1,4] [4] sr (Ab (Ad (Am 2 sr ?_)));refine Ah c func88 ?_;refine Af [4,5] [4,5] sr ?_;exact Aa [4] [4] sr (Aj (Ac sr rf))
def Am6(p q:List Nat):Rat:=mkRat (Gb p:Int) (Gb q)
theorem A8p(a b:Nat):∃f,Nw (Limb.sgn false a) (Limb.sgn false b)=.tup [(nR (mkRat (a:Int) b)).v,.bool f]:=by
 unfold Nw Limb.sgn
 by_cases h:b=0
 ·subst h;exact⟨false,by simp [Rat.mkRat_zero]⟩
 ·refine⟨true,?_⟩;have h2:((b:Nat):Int)≠0:=om;have c:Gu (b:Int)=1:=by unfold Gu;(repeat' split)<;>omega
  simp [h,c]
theorem A8q(a b:Nat)(k:Nat)(h1:(B1 a).length<=k)(h2:(B1 b).length<=k)(c:1<=k):Ox (mkRat (a:Int) b)<=k:=by
 by_cases h:b=0
 ·subst h;rw [Rat.mkRat_zero];have e:(0:Rat)=mkRat (Limb.sgn false 0) 1:=by first|rfl|simp [Limb.sgn,P1]
  rw [e];exact Zl dc (by simp [Ea]) (Ai (Er (m:=1) dc) c)
 ·exact Zl (b:=false) h h1 h2
theorem A1d(p q:List Nat)(a:RR)(hp:J2 p 1000000)(u:p.length<=1000000)(y:J2 q 1000000)(w:q.length<=1000000)(ha:a.ok 137438953472):
  AC prog 285 [.ro 1 (Bw p),.ro 1 (Bw q),a.v] (fun x=>x=.bool (decide (0<=M1 (Am6 p q) a.val))):=by
 have t:=Ajy p hp u;have h:=Ajy q y w;have z:(B1 (Gb p)).length<=2000000:=by have:=T4 hp p.length (A9 _);rw [Bl]at this;omega
 have l2:(B1 (Gb q)).length<=2000000:=by have:=T4 y q.length (A9 _);rw [Bl]at this;omega
 have g:=Jo false (Gb p) om;have d:=Jo false (Gb q) om;have c:=Xx (nI (Limb.sgn false (Gb p))) (nI (Limb.sgn false (Gb q))) (Gx (Ai (show Nf (Limb.sgn false (Gb p))<=2000000 from z) dc)) (Gx (Ai (show Nf (Limb.sgn false (Gb q))<=2000000 from l2) dc));rw [If,If]at c;obtain⟨f,hf⟩:=A8p (Gb p) (Gb q);rw [hf]at c;have e:=Qc (nR (Am6 p q)) a (Mj (Ai (A8q _ _ 2000000 z l2 dc) dc)) ha;rw [Ln]at e;have ea:a.v=.agg [.bool a.num.neg,.ro 1 (Av a.num.mag),.ro 1 (Av a.den)]:=rfl;rw [ea]at e|-;change AC _ _ _ (fun r=>r=V.tup [(nR (Am6 p q)).v,.bool f])at c;generalize Am6 p q=s at*;simp only [Vc,Apq]at g d c e|-;have l:=Tl;have i:=In;have j:=Io;have m:=Bv p;have o:=Bv q;have k:=Ak a.num.mag;have n:=Ak a.den;generalize a.val=r,Av a.num.mag=am,Av a.den=ad,a.num.neg=ab at*;generalize M1 s r=cv at*;refine Ax func285 fun w0 N0=>?_;refine Aa [0,1,5] [5] sr (Ab (Ad (Am 1 sr ?_)));refine Ah t func304 ?_;refine Ah g func171 ?_;refine Am 1 sr ?_;refine Ah h func304 ?_;refine Ah d func171 ?_;refine Ah c func130 ?_;refine Af [5,7] [5,7] sr ?_;refine Ab (Ad (Am 2 sr ?_));refine Ah e func89 ?_;refine Af [6] [] sr ?_;exact Aj (Ac sr (rfl))
def A5j(p:List Nat)(k:Int)(r:Rat):V:=
 if Avr p≠0 then .tup [.int .i64 0,.int .i64 (Avr p)]
 else if k<1\/(p.length:Int)-1<k\/M1 r (Aa9 1 2)<=0\/0<M1 r (Aa9 1 1)then .tup [.int .i64 0,.int .i64 3]
 else if 0<=M1 (Am6 (p.drop k.toNat) p) r then .tup [.int .i64 1,.int .i64 0]
 else if 0<=M1 (Am6 (p.take k.toNat) p) r then .tup [.int .i64 0,.int .i64 0]else .tup [.int .i64 (-1),.int .i64 0]
theorem A1e(p:List Nat)(k:Int)(a:RR)(hp:J2 p 1000000)(j:p.length<=1000000)(u:a.ok 137438953472):
  AC prog 249 [.ro 1 (Bw p),.int .i64 k,a.v] (fun x=>x=A5j p k a.val):=by
 have t:=A8o p hp j;have h:=Asu 1 2 dc dc dc dc dc;have d:=Asu 1 1 dc dc dc dc dc;have z1:Ox (Aa9 1 2)<=1:=Zl (b:=false) (n:=1) dc (Er (m:=1) dc) (Er (m:=1) dc);have z2:Ox (Aa9 1 1)<=1:=Zl (b:=false) (n:=1) dc (Er (m:=1) dc) (Er (m:=1) dc);have f:=Qc a (nR (Aa9 1 2)) u (Mj (Ai z1 dc));have c:=Qc a (nR (Aa9 1 1)) u (Mj (Ai z2 dc));rw [Ln]at f c;have w:=Bv p;have lp:=Hk p;have ae:IntKind.i64.wrap ((p.length:Int)-1)=(p.length:Int)-1:=Bh om om;have p1:=In;have p2:=Io;have l:=fun(p q:List Nat)=>A1d p q a
 have ea:a.v=.agg [.bool a.num.neg,.ro 1 (Av a.num.mag),.ro 1 (Av a.den)]:=rfl;rw [ea]at f c l|-;have p6:=Ak a.num.mag;have p7:=Ak a.den;unfold A5j;generalize a.val=r,Av a.num.mag=am,Av a.den=ad,a.num.neg=ab,Aa9 1 2=aa,Aa9 1 1=z at*;simp only [Vc]at h d f c|-;refine Ax func249 fun w0 N0=>?_;refine Aa [0,1,5] [5] sr (Ab (Ab (Ad (Am 1 sr ?_))));refine Ah t func283 ?_;refine Af [0,1,5,8] [5] sr ?_;refine Aa [0,1,5,8,12] [5] sr ?_
 refine Ao (fun h1=>?_) fun h1=>Ae ?_
 ·exact Aa [6,7] [] sr (Aj (Ac sr (by rw [if_pos (by simpa using h1)])))
 refine Ab (Ab (C5 [(0,[]),(1,[]),(2,[]),(3,[]),(4,[]),(5,[]),(6,[]),(7,[]),(8,[]),(9,[]),(11,[]),(10,[]),(12,[]),(13,[]),(14,[]),(15,[]),(17,[]),(16,[]),(18,[]),(19,[]),(20,[])] Ds kr ?_));refine Cf 10 sr ?_;refine Bu (fun o=>h) func284 rfl kr rfl rfl sr rfl rfl sr sm sr ?_;refine Cf 1 sr ?_;refine Bu (fun o=>f) func89 rfl kr rfl rfl sr rfl rfl sr sm sr ?_;refine Cf 3 sr ?_;refine Bu (fun o=>d) func284 rfl kr rfl rfl sr rfl rfl sr sm sr ?_;refine Cf 1 sr ?_;refine Bu (fun o=>c) func89 rfl kr rfl rfl sr rfl rfl sr sm sr ?_;refine C6 [0,1,5,34] [5] (by simp [ae]<;>rfl) ?_
 refine Ao (fun h2=>?_) fun h2=>Ae ?_
 ·exact Aa [6,7] [] sr (Aj (Ac sr (by rw [if_neg (by simpa using h1),if_pos (by simpa [or_assoc]using h2)])))
 have hk:¬(k<1\/(p.length:Int)-1<k\/M1 r aa<=0\/0<M1 r z):=by simpa [or_assoc,and_assoc]using h2
 rw [if_neg (by simpa using h1),if_neg hk];obtain⟨n,rfl⟩:∃n:Nat,k=n:=⟨k.toNat,by omega⟩;have hn:1<=n/\n<p.length:=om;have s:(0:Int)<=(n:Int)/\(n:Int)<=p.length:=om;have e1:(Bw p).drop n=Bw (p.drop n):=by simp [Bw]
 have e2:(Bw p).take n=Bw (p.take n):=by simp [Bw]
 have e3:(Bw (p.drop n)).take (p.length-n)=Bw (p.drop n):=Bg sm;have g:=l (p.drop n) p (fun x hx=>hp x (Cx hx)) so hp j u;have e:=l (p.take n) p (fun x hx=>hp x (B8 hx)) so hp j u;have i:=Bv (p.drop n);have af:=Bv (p.take n);simp only [Dn]at g e|-;refine Ab (Ab (C5 [(0,[]),(1,[]),(2,[]),(3,[]),(4,[]),(5,[])] Ds kr ?_));refine Cf 5 (by simp [s,e1,e3]<;>rfl) ?_;refine Bu (fun o=>g) func285 rfl kr rfl rfl Go.sr rfl rfl Go.sr sm Go.sr ?_;refine C6 [0,1,5,40] [5] sr ?_
 refine Ao (fun y=>?_) fun y=>Ae ?_
 ·exact Aa [6,7] [] sr (Aj (Ac sr (by rw [if_pos (by simpa using y)])))
 refine Ab (Ab (C5 [(0,[]),(1,[]),(2,[]),(3,[]),(4,[]),(5,[])] Ds kr ?_));refine Cf 5 (by simp [s,e2]<;>rfl) ?_;refine Bu (fun o=>e) func285 rfl kr rfl rfl sr rfl rfl sr sm sr ?_;refine C6 [46] [] sr ?_
 refine Ao (fun h4=>?_) fun h4=>Ae ?_
 ·exact Aa [6,7] [] sr (Aj (Ac sr (by rw [if_neg (by simpa using y),if_pos (by simpa using h4)])))
 exact Aa [6,7] [] sr (Aj (Ac sr (by rw [if_neg (by simpa using y),if_neg (by simpa using h4)])))
theorem A5k(g:Gr)(w:List Nat)(h:sumsOk g w):AC prog 208 [g.v,.ro 1 (Bw w)] (fun r=>r=.tup [(nR (Wj g w)).v,.int .i64 0]):=by
 have a:=Al4 g w h;have i:g.v=.agg [.ro 1 (As g.pts),.ro 1 (As g.pri)]:=rfl;rw [i]at a|-;have d:=Ag g.pts;have j:=Ag g.pri;have c:=Bv w;simp only [Vc]at a|-;have p1:=In;have p2:=Io;generalize Wj g w=q,As g.pts=f,As g.pri=e,Bw w=wv at*;refine Ax func208 fun w0 N0=>?_;refine Aa [1,2,4] [2,4] sr (Ab (Ad (Am 2 sr ?_)));refine Ah a func248 ?_;refine Af [4,5] [4] sr ?_;exact Aj (Ac sr (rfl))
theorem Aqk{l:List Int}{j:Nat}(h:j+1<l.length):(Qj l j).Perm l:=by
 have:= @List.set_set_perm Int l (j+1) j h om;unfold Qj
 rwa [Cp h,Cp (show j<l.length by omega)]
theorem Am7(a:Int->Int->Int):∀(j:Nat)(l:List Int),j<l.length->(bub a j l).Perm l
 |0,l,_ =>.refl _
 |j+1,l,h=>by
  rw [bub]
  split
  ·exact(Am7 a j _ (by rw [Ri];omega)).trans (Aqk h)
  ·exact .refl _
theorem Ah2(a:Int->Int->Int)(l:List Int):∀k,k<l.length->(Yh a l k).Perm l
 |0,_ =>.refl _
 |k+1,h=>(Am7 a (k+1) _ (by rw [Og];exact h)).trans (Ah2 a l k om)
theorem Pu(c:Int->Int->Int)(l:List Int):(G9 c l).Perm l:=by
 cases l with
 |nil=>exact .refl _
 |cons a t=>exact Ah2 c _ _ sm
def Bbk(c:Int->Int->Int)(l:List Int)(K j:Nat):Prop:=∀a b,a<b->b<=K->b≠j->¬c (l.getD b 0) (l.getD a 0)<0
structure CmpOk(cmp:Int->Int->Int)(P:Int->Prop):Prop where
 asym:∀x y,P x->P y->cmp x y<0->¬cmp y x<0
 trans:∀x y z,P x->P y->P z->¬cmp y x<0->¬cmp z y<0->¬cmp z x<0
theorem Am8{l:List Int}{j:Nat}(h:j+1<l.length)(i:Nat):(Qj l j).getD i 0=if i=j then l.getD (j+1) 0 else if i=j+1 then l.getD j 0 else l.getD i 0:=by
 unfold Qj;simp only [List.getD,Kn,Ha]
 by_cases h1:i=j
 ·subst h1;simp [show i<l.length by omega]
 ·rw [if_neg (Y2 h1),if_neg h1]
  by_cases h2:i=j+1
  ·subst h2;simp [h]
  ·rw [if_neg (Y2 h2),if_neg h2]
theorem Asv{c:Int->Int->Int}{P:Int->Prop}(r:CmpOk c P){K:Nat}:∀(j:Nat)(l:List Int),j<=K->K<l.length->(∀x∈l,P x)->Bbk c l K j->∀a b,a<b->b<=K->¬c ((bub c j l).getD b 0) ((bub c j l).getD a 0)<0
 |0,l,_,_,_,h=>fun a b d k=>h a b d k om
 |j+1,l,hj,hK,hp,h=>by
  have m:∀i,i<l.length->P (l.getD i 0):=fun i u=>Gl hp u 0
  rw [bub]
  by_cases e:c (l.getD (j+1) 0) (l.getD j 0)<0
  ·rw [if_pos e];have s:j+1<l.length:=om;refine Asv r j (Qj l j) om (by rw [Ri];omega) (fun x t=>hp x (Z1 s t)) ?_;intro a b d k f;rw [Am8 s,Am8 s,if_neg f]
   by_cases n:b=j+1
   ·rw [if_pos n]
    by_cases g:a=j
    ·rw [if_pos g];exact r.asym _ _ (m _ om) (m _ om) e
    ·rw [if_neg g,if_neg Go.om];exact h a j om om om
   ·rw [if_neg n]
    by_cases g:a=j
    ·rw [if_pos g];exact h (j+1) b om k om
    ·rw [if_neg g]
     by_cases o:a=j+1
     ·rw [if_pos o];exact h j b om k om
     ·rw [if_neg o];exact h a b d k om
  ·rw [if_neg e];intro a b d k
   by_cases f:b=j+1
   ·subst f
    by_cases g:a=j
    ·rw [g];exact e
    ·exact r.trans _ _ _ (m _ om) (m _ om) (m _ om) (h a j om om om) e
   ·exact h a b d k f
theorem Am9{c:Int->Int->Int}{P:Int->Prop}(e:CmpOk c P){l:List Int}(hp:∀x∈l,P x):∀k,k<l.length->∀a b,a<b->b<=k->¬c ((Yh c l k).getD b 0) ((Yh c l k).getD a 0)<0
 |0,_ =>fun a b d i=>by omega
 |k+1,g=>by
  rw [Yh];refine Asv e (k+1) _ (A9 _) (by rw [Og];exact g) (fun x f=>hp x (Yi k om f)) ?_;intro a b d i h;exact Am9 e hp k om a b d om
theorem Z5{c:Int->Int->Int}{P:Int->Prop}(g:CmpOk c P){l:List Int}(hp:∀x∈l,P x):(G9 c l).Pairwise (fun a b=>¬c b a<0):=by
 rw [Hg];intro i j e f d;rw [Ml]at e f;have:=Am9 g hp (l.length-1) om i j d om;unfold G9
 rwa [Cp (by rw [Og];exact f),Cp (by rw [Og];exact e)]at this
theorem Avs{c:Int->Int->Int}{P:Int->Prop}(f:CmpOk c P){l m:List Int}(hp:∀x∈l,P x)(e:l.Perm m)
  (j:∀x y,P x->P y->¬c x y<0->¬c y x<0->x=y):G9 c l=G9 c m:=by
 have d:∀x∈m,P x:=fun x h=>hp x (e.mem_iff.2 h)
 refine List.Perm.eq_of_pairwise (le:=fun a b=>¬c b a<0) ?_ (Z5 f hp) (Z5 f d) (((Pu c l).trans e).trans (Pu c m).symm);intro a b h1 h2 g i;exact j a b (hp a (Rj h1)) (d b (Rj h2)) i g
def Lg(c x:List Int):Nat->Int
 |0=>0
 |k+1=>Lg c x k+c.getD k 0*x.getD k 0
def Aee(n:Nat)(x:List Int):Prop:=x.length=n/\∀i,x.getD i 0=0\/x.getD i 0=1
def Bnd(c:List Int):Prop:=∀i,-1000000<=c.getD i 0/\c.getD i 0<=1000000
theorem R6{c x:List Int}{n:Nat}(d:Bnd c)(a:Aee n x):∀k:Nat,-1000000*(k:Int)<=Lg c x k/\Lg c x k<=1000000*(k:Int)
 |0=>by simp [Lg]
 |k+1=>by
  have ih:=R6 d a k;have h1:=d k;rw [Lg];rcases a.2 k with h|h<;>rw [h]<;>omega
theorem Aef{c x:List Int}{n:Nat}(d:Bnd c)(a:Aee n x):∀k,k<=1000->Yb c x k=Lg c x k
 |0,_ =>rfl
 |k+1,hk=>by
  have ih:=Aef d a k om;have hb:=R6 d a k;have h1:=d k;rw [Yb,ih,Lg]
  rcases a.2 k with h|h<;>rw [h]
  ·rw [Int.mul_zero,Bh (x:=0) om om,Bh om Go.om]
  ·rw [Int.mul_one,Bh (x:=c.getD k 0) om om,Bh om Go.om]
theorem Jq(x:List Int)(i:Nat)(b:Int)(k:Nat):(x.set i b).getD k 0=if k=i/\i<x.length then b else x.getD k 0:=by
 simp only [List.getD,Kn]
 by_cases h:i=k
 ·subst h
  by_cases h2:i<x.length
  ·simp [h2]
  ·simp [h2]
 ·rw [if_neg h,if_neg (fun a=>h a.1.symm)]
theorem Yn{x:List Int}{i:Nat}(c:List Int)(b:Int)(a:i<x.length):∀k,Lg c (x.set i b) k=Lg c x k+if i<k then c.getD i 0*(b-x.getD i 0)else 0
 |0=>by simp [Lg]
 |k+1=>by
  rw [Lg,Lg,Yn c b a k,Jq]
  by_cases h:k=i
  ·subst h;rw [if_neg (c:=k<k) om,if_pos (c:=k=k/\k<x.length) ⟨rfl,a⟩,if_pos (c:=k<k+1) om,Int.mul_sub];omega
  ·rw [if_neg (c:=k=i/\i<x.length) (fun h2=>h h2.1)]
   by_cases h2:i<k
   ·rw [if_pos (c:=i<k) h2,if_pos (c:=i<k+1) Go.om];omega
   ·rw [if_neg (c:=i<k) h2,if_neg (c:=i<k+1) Go.om];omega
theorem Aeg{x y:List Int}(c:List Int)(h:∀i,y.getD i 0=x.getD i 0):∀k,Lg c y k=Lg c x k
 |0=>rfl
 |k+1=>by rw [Lg,Lg,Aeg c h k,h k]
theorem Ana{n:Nat}{x:List Int}(a:Aee n x)(i:Nat){b:Int}(c:b=0\/b=1):Aee n (x.set i b):=
 ⟨by rw [Ha];exact a.1,fun k=>by rw [Jq];split;exact c;exact a.2 k⟩
def H4(f:Nat->Int):List Nat->Int
 | []=>0
 |i::t=>f i+H4 f t
theorem Anb(f:Nat->Int)(l m:List Nat):H4 f (l++m)=H4 f l+H4 f m:=by
 induction l with
 |nil=>simp [H4]
 |cons a t ih=>simp only [Ch,H4,ih];omega
theorem Ah3(f:Nat->Int){l m:List Nat}(h:l.Perm m):H4 f l=H4 f m:=by
 induction h with
 |nil=>rfl
 |cons a _ ih=>simp only [H4,ih]
 |swap a b l=>simp only [H4];omega
 |trans _ _ h1 h2=>rw [h1,h2]
theorem Aby{f g:Nat->Int}{l:List Nat}(h:∀i∈l,f i<=g i):H4 f l<=H4 g l:=by
 induction l with
 |nil=>exact Kz _
 |cons a t ih=>
  have h1:=h a sm;have h2:=ih (fun i c=>h i (by simp [c]));simp only [H4];omega
theorem Ajz{f:Nat->Int}{l:List Nat}(h:∀i∈l,-1000000<=f i/\f i<=1000000): -1000000*(l.length:Int)<=H4 f l/\H4 f l<=1000000*(l.length:Int):=by
 induction l with
 |nil=>simp [H4]
 |cons a t ih=>
  have h1:=h a sm;have h2:=ih (fun i c=>h i (by simp [c]));simp only [H4,Ba];omega
theorem Asw(c:List Int){n:Nat}{y:List Int}(l:Aee n y):∀(t:List Nat){x:List Int},Aee n x->t.Nodup->(∀i∈t,i<n)->(∀i∈t,x.getD i 0=0)->(∀i,i∉t->y.getD i 0=x.getD i 0)->
  Lg c y n=Lg c x n+H4 (fun i=>c.getD i 0*y.getD i 0) t
 | [],x,_,_,_,_,h=>by rw [Aeg c (fun i=>h i sm) n];simp [H4]
 |i::t,x,j,g,o,r,h=>by
  have m:=o i sm;have f:i∉t:=(H7.1 g).1;have d:i<x.length:=by rw [j.1];exact m
  have ih:=Asw c l t (x:=x.set i (y.getD i 0)) (Ana j i (l.2 i)) (H7.1 g).2 (fun k a=>o k (by simp [a]))
   (fun k a=>by rw [Jq,if_neg (c:=k=i/\i<x.length) (fun e=>f (e.1▸a))];exact r k (by simp [a]))
   (fun k a=>by
    rw [Jq]
    by_cases e:k=i
    ·rw [if_pos (c:=k=i/\i<x.length) ⟨e,d⟩,e]
    ·rw [if_neg (c:=k=i/\i<x.length) (fun s=>e s.1)];exact h k (by simp [e,a]))
  rw [ih,Yn c _ d n,if_pos m,r i sm,H4,Int.sub_zero];omega
def gre(W:Nat->Bool)(v:Nat->Int):Int->List Nat->Int
 |_,[]=>0
 |r,i::t=>if W i=true then(if r<=0 then gre W v r t else v i+gre W v (r-1) t)else v i+gre W v r t
theorem Aeh{W:Nat->Bool}{v:Nat->Int}{M:Int}(a:0<=M):∀(t:List Nat)(r:Int),0<r->(∀i∈t,v i<=M)->gre W v r t<=M+gre W v (r-1) t
 | [],r,_,_ =>by simp [gre];exact a
 |i::t,r,f,d=>by
  have h1:=d i sm;have h2:∀k∈t,v k<=M:=fun k g=>d k (by simp [g])
  rw [gre,gre]
  by_cases e:W i=true
  ·simp only [if_pos e];rw [if_neg Go.om]
   by_cases c:r-1<=0
   ·rw [if_pos c];omega
   ·rw [if_neg c];have:=Aeh (W:=W) a t (r-1) om h2;omega
  ·simp only [if_neg e];have:=Aeh (W:=W) a t r f h2;omega
theorem A5m{f:Nat->Int}{l:List Nat}(h:∀i∈l,0<=f i):0<=H4 f l:=by
 induction l with
 |nil=>exact Kz _
 |cons a t ih=>
  have h1:=h a sm;have h2:=ih (fun i c=>h i (by simp [c]));simp only [H4];omega
theorem Aei{W:Nat->Bool}{v y:Nat->Int}(d:∀i,y i=0\/y i=1):∀(t:List Nat)(r:Int),t.Pairwise (fun a b=>v b<=v a)->(∀i∈t,0<v i)->H4 (fun i=>if W i=true then y i else 0) t<=r->H4 (fun i=>v i*y i) t<=gre W v r t
 | [],r,_,_,_ =>by simp [gre,H4]
 |i::t,r,hp,g,e=>by
  have h1:=g i sm;have h2:∀k∈t,0<v k:=fun k l=>g k (by simp [l])
  have c:=(Mc.1 hp);have m:0<=H4 (fun i=>if W i=true then y i else 0) t:=A5m (fun k _ =>by split;rcases d k with h|h<;>omega;omega);simp only [H4]at e|-;rw [gre]
  by_cases j:W i=true
  ·simp only [if_pos j]at e|-
   by_cases f:r<=0
   ·rw [if_pos f];have ih:=Aei (W:=W) d t r c.2 h2
    rcases d i with h|h<;>rw [h]at e|-
    ·have:=ih Go.om;omega
    ·omega
   ·rw [if_neg f]
    rcases d i with h|h<;>rw [h]at e|-
    ·have ih:=Aei (W:=W) d t r c.2 h2 om;have:=Aeh (W:=W) (M:=v i) om t r om c.1;omega
    ·have ih:=Aei (W:=W) d t (r-1) c.2 h2 om;omega
  ·simp only [if_neg j]at e|-;have ih:=Aei (W:=W) d t r c.2 h2 om;rcases d i with h|h<;>rw [h]<;>omega
structure NumP(vals:List Int)(rows:List Rw):Prop where
 hn:vals.length<=24
 hr:rows.length<=60
 hv:Bnd vals
 hc:∀r∈rows,r.coef.length=vals.length/\Bnd r.coef
 hm:∀r∈rows,(-24000000<=r.mn/\r.mn<=24000000)/\(-24000000<=r.mx/\r.mx<=24000000)
def Vg(free:List Int)(e:Nat):Nat:=(free.getD e 0).toNat
def Oi(free:List Int):Nat->Nat->List Nat
 |_,0=>[]
 |a,m+1=>Vg free a::Oi free (a+1) m
structure FrOk(free:List Int)(n:Nat):Prop where
 lt:∀e,e<free.length->Vg free e<n
 inj:∀e e',e<free.length->e'<free.length->Vg free e=Vg free e'->e=e'
 len:free.length<=24
theorem Abz{free:List Int}{i:Nat}:∀ {m a:Nat},i∈Oi free a m->∃e,a<=e/\e<a+m/\i=Vg free e
 |0,_,h=>by simp [Oi]at h
 |m+1,a,h=>by
  rw [Oi]at h
  rcases Cj.1 h with h|h
  ·exact⟨a,A9 _,by omega,h⟩
  ·obtain⟨e,h1,h2,c⟩:=Abz h;exact⟨e,by omega,by omega,c⟩
theorem A8r{free:List Int}{n:Nat}(f:FrOk free n){m a:Nat}(hd:a+m=free.length):∀i∈Oi free a m,i<n:=by
 intro i d;obtain⟨e,_,h2,c⟩:=Abz d;rw [c];exact f.lt e om
theorem Yo{free:List Int}{n:Nat}(d:FrOk free n){m a:Nat}(hd:a+(m+1)=free.length):Vg free a∉Oi free (a+1) m:=by
 intro h;obtain⟨e,h1,h2,c⟩:=Abz h;have:=d.inj a e om om c;omega
theorem Ah4{free:List Int}{n:Nat}(c:FrOk free n):∀(m a:Nat),a+m=free.length->(Oi free a m).Nodup
 |0,_,_ =>by simp [Oi]
 |m+1,a,h=>by
  rw [Oi,H7];exact⟨Yo c h,Ah4 c m (a+1) om⟩
theorem Aj0(free:List Int):∀(m a:Nat),(Oi free a m).length=m
 |0,_ =>rfl
 |m+1,a=>by rw [Oi,Ba,Aj0 free m]
structure SsOk(s:Ss):Prop where
 num:NumP s.vals s.rows
 fr:FrOk s.free s.vals.length
 low:s.low=loL Yj s.rows s.free
 high:s.high=loL N9 s.rows s.free
 wide:s.wide=A0t s.rows
 order:s.order=G9 (Afy s.vals s.free) (Rk s.vals s.free s.free.length)
structure OkD(s:Ss)(d:Sd):Prop where
 bits:Aee s.vals.length d.x
 val:d.value=Lg s.vals d.x s.vals.length
 len:d.sums.length=s.rows.length
 sums:∀k,k<s.rows.length->d.sums.getD k 0=Lg (s.rows.getD k default).coef d.x s.vals.length
def Anc(s:Ss)(y:List Int):Prop:=Aee s.vals.length y/\∀k,k<s.rows.length->(s.rows.getD k default).mn<=Lg (s.rows.getD k default).coef y s.vals.length/\Lg (s.rows.getD k default).coef y s.vals.length<=(s.rows.getD k default).mx
def A5n(s:Ss)(y x:List Int)(a m:Nat):Prop:=(∀i∈Oi s.free a m,x.getD i 0=0)/\(∀i,i∉Oi s.free a m->y.getD i 0=x.getD i 0)
theorem Aql{a:List Rw}{free:List Int}{g:Int->Int}{k:Nat}(d:k<a.length)(c:∀i,-1000000<=g ((a.getD k default).coef.getD i 0)/\g ((a.getD k default).coef.getD i 0)<=1000000)(e:free.length<=24):
  ∀m,m<=free.length->(Wo g a free m).getD k 0=H4 (fun i=>g ((a.getD k default).coef.getD i 0)) (Oi free (free.length-m) m)
 |0,_ =>by simp [Wo,Oi,H4,List.getD,d]
 |m+1,hm=>by
  have ih:=Aql d c e m om;have f:=Ajz (l:=Oi free (free.length-m) m) (fun i _ =>c i);rw [Aj0]at f;have h1:free.length-(m+1)+1=free.length-m:=om
  have h2:(Wo g a free (m+1)).getD k 0=IntKind.i64.wrap ((Wo g a free m).getD k 0+g ((a.getD k default).coef.getD (free.getD (free.length-(m+1)) 0).toNat 0)):=by
   simp [Wo,List.getD,d]
  rw [h2,ih,Oi,H4,h1];have h3:=c (Vg free (free.length-(m+1)));show IntKind.i64.wrap (_ +g ((a.getD k default).coef.getD (Vg free (free.length-(m+1))) 0))=_
  rw [Bh om Go.om];omega
theorem A1f{c:List Int}(h:Bnd c)(i:Nat): -1000000<=Yj (c.getD i 0)/\Yj (c.getD i 0)<=1000000:=by
 have:=h i;unfold Yj;split<;>omega
theorem A1g{c:List Int}(h:Bnd c)(i:Nat): -1000000<=N9 (c.getD i 0)/\N9 (c.getD i 0)<=1000000:=by
 have:=h i;unfold N9;split<;>omega
theorem Ane{s:Ss}(hs:SsOk s){d:Sd}(g:OkD s d){a m k:Nat}(hm:a+m=s.free.length)(e:k<s.rows.length):
  Ajp s d a k=(decide ((s.rows.getD k default).mx<Lg (s.rows.getD k default).coef d.x s.vals.length+H4 (fun i=>Yj ((s.rows.getD k default).coef.getD i 0)) (Oi s.free a m))||
   decide (Lg (s.rows.getD k default).coef d.x s.vals.length+H4 (fun i=>N9 ((s.rows.getD k default).coef.getD i 0)) (Oi s.free a m)<(s.rows.getD k default).mn)):=by
 have c:=(Gl hs.num.hc e default).2;have f:=hs.fr.len;have hn:=hs.num.hn;have h1:=Aql (free:=s.free) e (A1f c) f m om;have h2:=Aql (free:=s.free) e (A1g c) f m om;have j:s.free.length-m=a:=om;have n:s.free.length-a=m:=om;rw [j]at h1 h2;unfold Ajp;rw [hs.low,hs.high,Aqg Yj s.rows s.free om,Aqg N9 s.rows s.free om,n,h1,h2,g.sums k e];have o:=Ajz (l:=Oi s.free a m) (fun i _ =>A1f c i);have h:=Ajz (l:=Oi s.free a m) (fun i _ =>A1g c i);have b3:=R6 c g.bits s.vals.length;rw [Aj0]at o h;rw [Bh om om,Bh om Go.om]
theorem Aej(s:Ss)(d:Sd)(a:Nat):∀k,Ad4 s d a k=true↔∀j,j<k->Ajp s d a j=false
 |0=>by simp [Ad4]
 |k+1=>by
  rw [Ad4,Bk,Aej s d a k]
  constructor
  ·intro⟨h1,h2⟩ j c
   by_cases e:j=k
   ·subst e;simpa using h2
   ·exact h1 j om
  ·intro h;exact⟨fun j c=>h j om,by rw [h k Go.om];rfl⟩
theorem Aj1{s:Ss}(hs:SsOk s){d:Sd}(h:OkD s d){y:List Int}(g:Aee s.vals.length y){a m:Nat}(e:a+m=s.free.length)(f:A5n s y d.x a m)(c:List Int):
  Lg c y s.vals.length=Lg c d.x s.vals.length+H4 (fun i=>c.getD i 0*y.getD i 0) (Oi s.free a m):=
 Asw c g _ h.bits (Ah4 hs.fr m a e) (A8r hs.fr e) f.1 f.2
theorem Anf{s:Ss}(hs:SsOk s){d:Sd}(g:OkD s d){y:List Int}(c:Anc s y){a m:Nat}(f:a+m=s.free.length)(l:A5n s y d.x a m):Afx s d a=true:=by
 unfold Afx;rw [Aej];intro k e;rw [Ane hs g f e];have j:=(Gl hs.num.hc e default).2;have h1:=Aj1 hs g c.1 f l (s.rows.getD k default).coef;have h2:=c.2 k e
 have h3:H4 (fun i=>Yj ((s.rows.getD k default).coef.getD i 0)) (Oi s.free a m)<=H4 (fun i=>(s.rows.getD k default).coef.getD i 0*y.getD i 0) (Oi s.free a m):=
  Aby fun i _ =>by rcases c.1.2 i with h|h<;>rw [h]<;>unfold Yj<;>split<;>omega
 have h4:H4 (fun i=>(s.rows.getD k default).coef.getD i 0*y.getD i 0) (Oi s.free a m)<=H4 (fun i=>N9 ((s.rows.getD k default).coef.getD i 0)) (Oi s.free a m):=
  Aby fun i _ =>by rcases c.1.2 i with h|h<;>rw [h]<;>unfold N9<;>split<;>omega
 rw [F3,decide_eq_false_iff_not,decide_eq_false_iff_not];omega
theorem Avt{s:Ss}(hs:SsOk s){d:Sd}(c:OkD s d)(h:Afx s d s.free.length=true):Anc s d.x:=by
 unfold Afx at h;rw [Aej]at h;refine⟨c.bits,fun k a=>?_⟩;have:=h k a;rw [Ane hs c (m:=0) om a,Oi,H4,H4,F3,decide_eq_false_iff_not,decide_eq_false_iff_not]at this;omega
theorem Ah5(a:List Rw):∀k,k<=a.length->0<=(Qs a k).2/\(0<=(Qs a k).1->∀i,(a.getD (Qs a k).1.toNat default).coef.getD i 0=0\/(a.getD (Qs a k).1.toNat default).coef.getD i 0=1)
 |0,_ =>by simp [Qs]
 |k+1,h=>by
  have ih:=Ah5 a k om;rw [Qs]
  split
  ·rename_i h1;refine⟨by simp only;omega,fun _ i=>?_⟩;simp only [Dn]
   by_cases e:(a.getD k default).coef.any T1=true
   ·unfold Ad2 at h1;rw [if_pos e]at h1;omega
   ·by_cases d:i<(a.getD k default).coef.length
    ·rw [Dz]at e
     have h2:∀c∈(a.getD k default).coef,c=0\/c=1:=fun c j=>by
      by_cases f:c=0
      ·exact .inl f
      ·by_cases g:c=1
       ·exact .inr g
       ·exact absurd ⟨c,j,by simp [T1,f,g]⟩ e
     exact Gl h2 d 0
    ·left;generalize(a.getD k default).coef=c at d|-;simp [List.getD,Gk (N6 d)]
  ·exact ih
def Yp(free:List Int)(a:Nat)(c:List Int):List Nat:=(c.filter (fun e=>decide ((a:Int)<=e))).map (fun e=>Vg free e.toNat)
theorem A1h(free:List Int)(a:Nat){l m:List Int}(h:l.Perm m):(Yp free a l).Perm (Yp free a m):=(h.filter _).map _
theorem Asx(free:List Int)(a:Nat)(l:List Int)(k:Nat):Yp free a (l++[(k:Int)])=Yp free a l++if a<=k then [Vg free k]else []:=by
 unfold Yp;rw [Md,Cr]
 by_cases h:a<=k
 ·rw [if_pos h];simp [show(a:Int)<=k by omega]
 ·rw [if_neg h];simp [show¬(a:Int)<=k by omega]
def pv(a:List Int)(f:Nat->Int)(i:Nat):Int:=if 0<a.getD i 0 then f i else 0
theorem Asy(d free:List Int)(f:Nat->Int)(a:Nat):∀k,H4 f (Yp free a (Rk d free k))=(if a<k then pv d f (Vg free a)else 0)+H4 f (Yp free (a+1) (Rk d free k))
 |0=>by simp [Rk,Yp,H4]
 |k+1=>by
  have ih:=Asy d free f a k;rw [Rk]
  by_cases h:0<d.getD (free.getD k 0).toNat 0
  ·rw [if_pos h,Asx,Asx,Anb,Anb,ih]
   by_cases h1:a=k
   ·subst h1;rw [if_neg (c:=a<a) om,if_pos (c:=a<=a) om,if_pos (c:=a<a+1) om,if_neg (c:=a+1<=a) Go.om];unfold pv;have e:0<d.getD (Vg free a) 0:=h;rw [if_pos e];simp only [H4];omega
   ·by_cases h2:a<k
    ·rw [if_pos (c:=a<k) h2,if_pos (c:=a<=k) om,if_pos (c:=a<k+1) om,if_pos (c:=a+1<=k) Go.om];omega
    ·rw [if_neg (c:=a<k) h2,if_neg (c:=a<=k) om,if_neg (c:=a<k+1) om,if_neg (c:=a+1<=k) Go.om];omega
  ·rw [if_neg h,ih]
   by_cases h1:a=k
   ·subst h1;have e:¬0<d.getD (Vg free a) 0:=h;rw [if_neg (c:=a<a) om,if_pos (c:=a<a+1) Go.om];unfold pv;rw [if_neg e]
   ·by_cases h2:a<k
    ·rw [if_pos (c:=a<k) h2,if_pos (c:=a<k+1) Go.om]
    ·rw [if_neg (c:=a<k) h2,if_neg (c:=a<k+1) Go.om]
theorem Aqm(a free:List Int)(f:Nat->Int):∀(m c:Nat),c+m=free.length->H4 f (Yp free c (Rk a free free.length))=H4 (pv a f) (Oi free c m)
 |0,c,h=>by
  have:Yp free c (Rk a free free.length)= []:=by
   unfold Yp;rw [List.map_eq_nil_iff,List.filter_eq_nil_iff];intro e d;have:=Ym a free free.length e d;simp;omega
  rw [this];rfl
 |m+1,c,h=>by
  rw [Asy,if_pos om,Aqm a free f m (c+1) om,Oi,H4]
theorem Aj2{c free:List Int}(d:Bnd c)(a b:Int):Afy c free a b=c.getD (Vg free b.toNat) 0-c.getD (Vg free a.toNat) 0:=by
 have h1:=d (Vg free b.toNat);have h2:=d (Vg free a.toNat);show IntKind.i64.wrap (c.getD (Vg free b.toNat) 0-c.getD (Vg free a.toNat) 0)=_
 rw [Bh om Go.om]
theorem A5o{a:List Int}(free:List Int)(c:Bnd a):CmpOk (Afy a free) (fun _ =>True):=
 ⟨fun x y _ _ h=>by rw [Aj2 c]at h|-;omega,fun x y z _ _ _ h1 h2=>by rw [Aj2 c]at h1 h2|-;omega⟩
def Aaz(s:Ss)(d:Sd):Int:=if 0<=s.wide then(s.rows.getD s.wide.toNat default).mx-d.sums.getD s.wide.toNat 0 else 0
theorem A1i{s:Ss}(hs:SsOk s){d:Sd}(f:OkD s d)(c:Nat):(Ng s d c 0).1=Aaz s d/\ -48000000<=Aaz s d/\Aaz s d<=48000000:=by
 have hn:=hs.num.hn;show(if 0<=s.wide then IntKind.i64.wrap ((s.rows.getD s.wide.toNat default).mx-d.sums.getD s.wide.toNat 0)else 0)=_ /\_
 unfold Aaz
 by_cases e:0<=s.wide
 ·have h:=Abx s.rows s.rows.length (A9 _);have i:s.wide=(Qs s.rows s.rows.length).1:=hs.wide;have a:s.wide.toNat<s.rows.length:=om;have h1:=(Gl hs.num.hm a default).2;have g:=R6 (Gl hs.num.hc a default).2 f.bits s.vals.length;rw [<- f.sums _ a]at g;simp only [if_pos e];rw [Bh om Go.om];exact⟨rfl,by omega,by omega⟩
 ·simp only [if_neg e];exact⟨trivial,by omega,by omega⟩
theorem Asz{s:Ss}(hs:SsOk s){d:Sd}(h:OkD s d)(a:Nat)(n:∀e∈s.order,0<=e/\e<s.free.length)(l:s.order.length<=24):∀k,k<=s.order.length->
  ((-48000000-(k:Int)<=(Ng s d a k).1/\(Ng s d a k).1<=48000000)/\(-24000000-1000000*(k:Int)<=(Ng s d a k).2/\(Ng s d a k).2<=24000000+1000000*(k:Int)))/\
  (Ng s d a k).2+gre (Lf s) (fun i=>s.vals.getD i 0) (Ng s d a k).1 (Yp s.free a (s.order.drop k))=d.value+gre (Lf s) (fun i=>s.vals.getD i 0) (Aaz s d) (Yp s.free a s.order)
 |0,_ =>by
  have hn:=hs.num.hn;have y:=R6 hs.num.hv h.bits s.vals.length;rw [<- h.val]at y;have z:=A1i hs h a;have g:(Ng s d a 0).2=d.value:=rfl;rw [g,z.1];exact⟨⟨by omega,by omega⟩,rfl⟩
 |k+1,hk=>by
  have ih:=Asz hs h a n l k om;obtain⟨⟨hr,o⟩,c⟩:=ih;have f:k<s.order.length:=om;have m:s.order.drop k=s.order.getD k 0::s.order.drop (k+1):=by rw [Cp f];exact Bt f
  have r:=Gl n f 0;rw [m]at c;have w:=hs.num.hv (s.free.getD (s.order.getD k 0).toNat 0).toNat;rw [Ng];generalize s.order.getD k 0=e,d.value+gre (Lf s) (fun i=>s.vals.getD i 0) (Aaz s d) (Yp s.free a s.order)=u,Ng s d a k=p at*
  by_cases h1:e<a
  ·rw [if_pos h1]
   have:Yp s.free a (e::s.order.drop (k+1))=Yp s.free a (s.order.drop (k+1)):=by
    unfold Yp;rw [Ju (by simpa using h1)]
   rw [this]at c;exact⟨⟨by omega,by omega⟩,c⟩
  ·rw [if_neg h1]
   have t:Yp s.free a (e::s.order.drop (k+1))=Vg s.free e.toNat::Yp s.free a (s.order.drop (k+1)):=by
    unfold Yp;rw [Jt so,Ct]
   rw [t,gre]at c;have j:Vg s.free e.toNat=(s.free.getD e.toNat 0).toNat:=rfl;rw [j]at c
   by_cases h2:Lf s (s.free.getD e.toNat 0).toNat=true
   ·rw [if_pos h2]at c|-
    by_cases g:p.1<=0
    ·rw [if_pos g]at c|-;exact⟨⟨by omega,by omega⟩,c⟩
    ·rw [if_neg g]at c|-;simp only;rw [Bh (x:=p.1-1) om om,Bh (x:=p.2+_) om Go.om];exact⟨⟨by omega,by omega⟩,by omega⟩
   ·rw [if_neg h2]at c|-;simp only;rw [Bh (x:=p.2+_) om Go.om];exact⟨⟨by omega,by omega⟩,by omega⟩
theorem A1j{s:Ss}(hs:SsOk s){d:Sd}(w:OkD s d){y:List Int}(r:Anc s y){f m:Nat}(hm:f+m=s.free.length)(he:A5n s y d.x f m):Lg s.vals y s.vals.length<=Aqe s d f:=by
 have ah:=hs.fr.len;have ag:s.order.length<=24:=by rw [hs.order,Ml];have:=Yl s.vals s.free s.free.length;omega
 have ho:∀e∈s.order,0<=e/\e<s.free.length:=by rw [hs.order];exact fun e h=>Ym s.vals s.free _ e (Rj h)
 have hE:=Asz hs w f ho ag s.order.length (A9 _);have hx:=Aj1 hs w r.1 hm he s.vals;obtain⟨_,o⟩:=hE;rw [Cd]at o;have z:Yp s.free f []= []:=rfl;rw [z,gre,Int.add_zero]at o;unfold Aqe;rw [o,hx,<- w.val];have g:(Yp s.free f s.order).Perm (Yp s.free f (Rk s.vals s.free s.free.length)):=A1h _ _ (by rw [hs.order];exact Pu _ _)
 have h1:H4 (fun i=>s.vals.getD i 0*y.getD i 0) (Oi s.free f m)<=H4 (fun i=>s.vals.getD i 0*y.getD i 0) (Yp s.free f s.order):=by
  rw [Ah3 _ g,Aqm s.vals s.free _ m f hm];exact Aby fun i _ =>by unfold pv;dsimp only;split<;>rcases r.1.2 i with h|h<;>rw [h]<;>omega
 have h2:=Aei (W:=Lf s) (v:=fun i=>s.vals.getD i 0) (y:=fun i=>y.getD i 0) r.1.2 (Yp s.free f s.order) (Aaz s d) ?_ ?_ ?_
 ·omega
 ·unfold Yp;rw [List.pairwise_map];refine List.Pairwise.filter _ ?_;have:=Z5 (A5o s.free hs.num.hv) (l:=Rk s.vals s.free s.free.length) (fun _ _ =>trivial);rw [<- hs.order]at this;exact this.imp fun {a b}h=>by rw [Aj2 hs.num.hv]at h;omega
 ·intro i hi;have n:=g.mem_iff.1 hi;unfold Yp at n;rw [Bm]at n;obtain⟨e,ae,ab⟩:=n;have af:=(J8.1 ae).1
  have:∀k,∀e∈Rk s.vals s.free k,0<s.vals.getD (Vg s.free e.toNat) 0:=by
   intro k
   induction k with
   |zero=>intro e h;simp [Rk]at h
   |succ k ih=>
    intro e h;rw [Rk]at h
    split at h
    ·rename_i hp
     rcases Cc.1 h with h|h
     ·exact ih e h
     ·rw [Bz.1 h];exact hp
    ·exact ih e h
  have h4:=this _ e af;rw [ab]at h4;exact h4
 ·unfold Aaz
  by_cases hw:0<=s.wide
  ·rw [if_pos hw];have ad:s.wide=(Qs s.rows s.rows.length).1:=hs.wide;have ai:=Abx s.rows s.rows.length (A9 _);have aa:s.wide.toNat<s.rows.length:=om;have j:=(Ah5 s.rows s.rows.length (A9 _)).2 om;rw [<- ad]at j;have h5:=Aj1 hs w r.1 hm he (s.rows.getD s.wide.toNat default).coef;have h6:=(r.2 _ aa).2;rw [w.sums _ aa]
   have h7:H4 (fun i=>if Lf s i=true then y.getD i 0 else 0) (Yp s.free f s.order)<=H4 (fun i=>(s.rows.getD s.wide.toNat default).coef.getD i 0*y.getD i 0) (Oi s.free f m):=by
    rw [Ah3 _ g,Aqm s.vals s.free _ m f hm];refine Aby fun i _ =>?_
    unfold pv Lf;have hb:=j i;have h:=r.1.2 i
    dsimp only
    generalize(s.rows.getD s.wide.toNat default).coef.getD i 0=c at hb|-;generalize y.getD i 0=u at h|-;rcases hb with rfl|rfl<;>rcases h with rfl|rfl<;>split<;>simp [hw]
   omega
  ·rw [if_neg hw];have:∀i,Lf s i=false:=fun i=>by unfold Lf;simp [hw]
   refine Int.le_of_eq ?_;generalize Yp s.free f s.order=t
   induction t with
   |nil=>rfl
   |cons a t ih=>rw [H4,ih,this a];rfl
theorem Aj3(d:List Rw)(i:Nat)(f:Int)(a:List Int):∀k j,j<a.length->(Wn d i f a k).getD j 0=if j<k then IntKind.i64.wrap (a.getD j 0+IntKind.i64.wrap (f*(d.getD j default).coef.getD i 0))else a.getD j 0
 |0,j,_ =>by rw [if_neg Go.om];rfl
 |k+1,j,g=>by
  rw [Wn,Jq,T2]
  by_cases h:j=k
  ·subst h;rw [if_pos (c:=j=j/\j<a.length) ⟨rfl,g⟩,if_pos (c:=j<j+1) om,Aj3 d i f a j j g,if_neg Go.om]
  ·rw [if_neg (c:=j=k/\k<a.length) (fun e=>h e.1),Aj3 d i f a k j g]
   by_cases h2:j<k
   ·rw [if_pos (c:=j<k) h2,if_pos (c:=j<k+1) Go.om]
   ·rw [if_neg (c:=j<k) h2,if_neg (c:=j<k+1) Go.om]
theorem U3{s:Ss}(hs:SsOk s){d:Sd}(e:OkD s d){i:Nat}(l:i<s.vals.length){b:Int}(m:(b=1/\d.x.getD i 0=0)\/(b=0/\d.x.getD i 0=1)):OkD s (Hy s d i b):=by
 have hn:=hs.num.hn;have j:b=0\/b=1:=om;have f:i<d.x.length:=by rw [e.bits.1];exact l
 have a:Aee s.vals.length (d.x.set i b):=Ana e.bits i j
 have g:∀c:Int,-1000000<=c/\c<=1000000->IntKind.i64.wrap (Proofs.YtpaccopbbffkaaaGreatDoor.sgn b*c)=c*(b-d.x.getD i 0):=by
  intro c hc
  rcases m with⟨h1,h2⟩|⟨h1,h2⟩
  ·rw [h1,h2,show Proofs.YtpaccopbbffkaaaGreatDoor.sgn 1=1 from by decide,Int.one_mul,Bh om Go.om];omega
  ·rw [h1,h2,show Proofs.YtpaccopbbffkaaaGreatDoor.sgn 0= -1 from by decide,Bh om Go.om];omega
 refine⟨a,?_,?_,?_⟩
 ·show IntKind.i64.wrap (d.value+IntKind.i64.wrap (Proofs.YtpaccopbbffkaaaGreatDoor.sgn b*s.vals.getD i 0))=Lg s.vals (d.x.set i b) s.vals.length
  have h1:=R6 hs.num.hv a s.vals.length;rw [Yn s.vals b f,if_pos l]at h1|-;rw [g _ (hs.num.hv i),e.val,Bh om Go.om]
 ·show(Wn s.rows i _ d.sums s.rows.length).length=_
  rw [T2];exact e.len
 ·intro k h;show(Wn s.rows i (Proofs.YtpaccopbbffkaaaGreatDoor.sgn b) d.sums s.rows.length).getD k 0=Lg _ (d.x.set i b) _
  have hc:=(Gl hs.num.hc h default).2;have h1:=R6 hc a s.vals.length;rw [Aj3 _ _ _ _ _ _ (by rw [e.len];exact h),if_pos h,g _ (hc i),e.sums k h];rw [Yn _ b f,if_pos l]at h1|-;rw [Bh om Go.om]
theorem A1k{s:Ss}{d:Sd}(a:OkD s d):OkD s (Ahr s d):=⟨a.bits,a.val,a.len,a.sums⟩
theorem Aek{x:List Int}{i:Nat}{b:Int}(h:x.getD i 0=b)(c:Int)(a:i<x.length):(x.set i c).set i b=x:=by
 rw [List.set_set];apply Km;intro k;rw [Kn]
 by_cases e:i=k
 ·subst e;rw [if_pos rfl,if_pos a,<- h,Cp a];simp [a]
 ·rw [if_neg e]
theorem U4{s:Ss}(hs:SsOk s):∀(m a:Nat)(d:Sd),a+m=s.free.length->OkD s d->(∀i∈Oi s.free a m,d.x.getD i 0=0)->OkD s (Gm s m a d)/\(Gm s m a d).x=d.x
 |0,a,d,_,h,_ =>by
  rw [Gm];split
  ·exact⟨h,rfl⟩
  ·exact⟨A1k h,rfl⟩
 |m+1,a,d,z,h,w=>by
  have r:vI s a=Vg s.free a:=rfl;have u:vI s a<s.vals.length:=by rw [r];exact hs.fr.lt a om
  have t:vI s a∉Oi s.free (a+1) m:=Yo hs.fr z;have l:d.x.getD (vI s a) 0=0:=w _ (by rw [Oi];simp [r]);have g:∀i∈Oi s.free (a+1) m,d.x.getD i 0=0:=fun i f=>w i (by rw [Oi];simp [f])
  have n:vI s a<d.x.length:=by rw [h.bits.1];exact u
  have o:∀e:Sd,OkD s e->e.x=d.x->OkD s (Hy s (Gm s m (a+1) (Hy s e (vI s a) 1)) (vI s a) 0)/\(Hy s (Gm s m (a+1) (Hy s e (vI s a) 1)) (vI s a) 0).x=d.x:=by
   intro e he k;have h1:=U3 hs he u (b:=1) (.inl ⟨rfl,by rw [k];exact l⟩);have j:(Hy s e (vI s a) 1).x=d.x.set (vI s a) 1:=by show e.x.set _ _ =_;rw [k]
   have h2:=U4 hs m (a+1) _ om h1 (fun i f=>by
    rw [j,Jq,if_neg (c:=i=vI s a/\_) (fun e=>t (e.1▸f))];exact g i f)
   have y:=U3 hs h2.1 u (b:=0) (.inr ⟨rfl,by rw [h2.2,j,Jq,if_pos ⟨rfl,n⟩]⟩);refine⟨y,?_⟩;show(Gm s m (a+1) (Hy s e (vI s a) 1)).x.set _ _ =_
   rw [h2.2,j,Aek l 1 n]
  rw [Gm]
  split
  ·exact⟨h,rfl⟩
  ·split
   ·have h1:=U4 hs m (a+1) d om h g;exact o _ h1.1 h1.2
   ·have h1:=o d h rfl;have h2:=U4 hs m (a+1) _ om h1.1 (fun i f=>by rw [h1.2];exact g i f);exact⟨h2.1,by rw [h2.2,h1.2]⟩
def As0(s:Ss)(a:Nat->Int)(d:Sd):Prop:=d.found=true->∃y,Anc s y/\(∀i,(∀e,e<s.free.length->i≠Vg s.free e)->y.getD i 0=a i)/\d.most=Lg s.vals y s.vals.length
theorem U5{s:Ss}(hs:SsOk s)(k:Nat->Int):∀(m a:Nat)(d:Sd),a+m=s.free.length->OkD s d->(∀i∈Oi s.free a m,d.x.getD i 0=0)->(∀i,(∀e,e<s.free.length->i≠Vg s.free e)->d.x.getD i 0=k i)->As0 s k d->As0 s k (Gm s m a d)
 |0,a,d,hm,l,_,y,n=>by
  rw [Gm];split
  ·exact n
  ·rename_i h;intro _
   have hp:Afx s d s.free.length=true:=by
    unfold V0 at h;have:a=s.free.length:=om;rw [this]at h;simp at h;exact h.1
   exact⟨d.x,Avt hs l hp,y,l.val⟩
 |m+1,a,d,hm,l,h0,y,n=>by
  have u:vI s a=Vg s.free a:=rfl;have hi:vI s a<s.vals.length:=by rw [u];exact hs.fr.lt a om
  have z:vI s a∉Oi s.free (a+1) m:=Yo hs.fr hm;have w:d.x.getD (vI s a) 0=0:=h0 _ (by rw [Oi];simp [u]);have g:∀i∈Oi s.free (a+1) m,d.x.getD i 0=0:=fun i f=>h0 i (by rw [Oi];simp [f])
  have r:vI s a<d.x.length:=by rw [l.bits.1];exact hi
  have t:∀e:Sd,OkD s e->e.x=d.x->As0 s k e->OkD s (Hy s (Gm s m (a+1) (Hy s e (vI s a) 1)) (vI s a) 0)/\(Hy s (Gm s m (a+1) (Hy s e (vI s a) 1)) (vI s a) 0).x=d.x/\As0 s k (Hy s (Gm s m (a+1) (Hy s e (vI s a) 1)) (vI s a) 0):=by
   intro e he o aa;have h1:=U3 hs he hi (b:=1) (.inl ⟨rfl,by rw [o];exact w⟩);have j:(Hy s e (vI s a) 1).x=d.x.set (vI s a) 1:=by show e.x.set _ _ =_;rw [o]
   have hz:∀i∈Oi s.free (a+1) m,(Hy s e (vI s a) 1).x.getD i 0=0:=fun i f=>by
    rw [j,Jq,if_neg (c:=i=vI s a/\_) (fun e=>z (e.1▸f))];exact g i f
   have h2:=U4 hs m (a+1) _ om h1 hz;have h3:=U3 hs h2.1 hi (b:=0) (.inr ⟨rfl,by rw [h2.2,j,Jq,if_pos ⟨rfl,r⟩]⟩)
   refine⟨h3,?_,?_⟩
   ·show(Gm s m (a+1) (Hy s e (vI s a) 1)).x.set _ _ =_
    rw [h2.2,j,Aek w 1 r]
   ·exact U5 hs k m (a+1) _ om h1 hz (fun i f=>by
     rw [j,Jq,if_neg (c:=i=vI s a/\_) (fun e=>f a om e.1)];exact y i f) aa
  rw [Gm]
  split
  ·exact n
  ·split
   ·have h1:=U4 hs m (a+1) d om l g;exact(t _ h1.1 h1.2 (U5 hs k m (a+1) d om l g y n)).2.2
   ·have h1:=t d l rfl n;exact U5 hs k m (a+1) _ om h1.1 (fun i f=>by rw [h1.2.1];exact g i f) (fun i f=>by rw [h1.2.1];exact y i f) h1.2.2
theorem Z6(s:Ss):∀(m a:Nat)(d:Sd),(d.best.isSome=true->(Gm s m a d).best.isSome=true)/\((Gm s m a d).best=none->(Gm s m a d).least=d.least)
 |0,a,d=>by
  rw [Gm];split
  ·exact⟨fun h=>h,fun _ =>rfl⟩
  ·exact⟨fun _ =>rfl,fun h=>by simp [Ahr]at h⟩
 |m+1,a,d=>by
  have c:=Z6 s m (a+1)
  have f:∀e:Sd,(Gm s m (a+1) e).best=none->e.best=none:=fun e h=>by
   cases hb:e.best with
   |none=>rfl
   |some b=>have:=(c e).1 (by rw [hb];rfl);rw [h]at this;simp at this
  rw [Gm]
  split
  ·exact⟨fun h=>h,fun _ =>rfl⟩
  ·split
   ·refine⟨fun h=>(c (Hy s (Gm s m (a+1) d) (vI s a) 1)).1 ((c d).1 h),fun h=>?_⟩;have g:(Gm s m (a+1) (Hy s (Gm s m (a+1) d) (vI s a) 1)).best=none:=h;have h1:=(c _).2 g;have h2:(Gm s m (a+1) d).best=none:=f (Hy s (Gm s m (a+1) d) (vI s a) 1) g;exact h1.trans ((c d).2 h2)
   ·refine⟨fun h=>(c _).1 ((c (Hy s d (vI s a) 1)).1 h),fun h=>?_⟩;have h1:=(c _).2 h;have g:(Gm s m (a+1) (Hy s d (vI s a) 1)).best=none:=f (Hy s (Gm s m (a+1) (Hy s d (vI s a) 1)) (vI s a) 0) h;exact h1.trans ((c _).2 g)
theorem Wq{s:Ss}(hs:SsOk s)(h1:s.one=true){y:List Int}(r:Anc s y):∀(m a:Nat)(d:Sd),a+m=s.free.length->OkD s d->A5n s y d.x a m->d.least<=Lg s.vals y s.vals.length->(Gm s m a d).best.isSome=true
 |0,a,d,t,j,h,hl=>by
  have hp:=Anf hs j r t h;have hb:=A1j hs j r t h;have n:V0 s d a=false:=by unfold V0;rw [hp];simp;omega
  rw [Gm,n];rfl
 |m+1,a,d,t,j,h,hl=>by
  have hp:=Anf hs j r t h;have hb:=A1j hs j r t h;have n:V0 s d a=false:=by unfold V0;rw [hp];simp;omega
  have aa:Amz s a=false:=by unfold Amz;rw [h1];rfl
  have w:vI s a=Vg s.free a:=rfl;have hi:vI s a<s.vals.length:=by rw [w];exact hs.fr.lt a om
  have ab:vI s a∉Oi s.free (a+1) m:=Yo hs.fr t;have l:d.x.getD (vI s a) 0=0:=h.1 _ (by rw [Oi];simp [w]);have z:∀i∈Oi s.free (a+1) m,d.x.getD i 0=0:=fun i f=>h.1 i (by rw [Oi];simp [f])
  have k:vI s a<d.x.length:=by rw [j.bits.1];exact hi
  have o1:=U3 hs j hi (b:=1) (.inl ⟨rfl,l⟩);have g:(Hy s d (vI s a) 1).x=d.x.set (vI s a) 1:=rfl
  have hz:∀i∈Oi s.free (a+1) m,(Hy s d (vI s a) 1).x.getD i 0=0:=fun i f=>by
   rw [g,Jq,if_neg (c:=i=vI s a/\_) (fun e=>ab (e.1▸f))];exact z i f
  have o2:=U4 hs m (a+1) _ om o1 hz;have o3:=U3 hs o2.1 hi (b:=0) (.inr ⟨rfl,by rw [o2.2,g,Jq,if_pos ⟨rfl,k⟩]⟩)
  have u:(Hy s (Gm s m (a+1) (Hy s d (vI s a) 1)) (vI s a) 0).x=d.x:=by
   show(Gm s m (a+1) (Hy s d (vI s a) 1)).x.set _ _ =_
   rw [o2.2,g,Aek l 1 k]
  rw [Gm,n,aa];simp only [Fh,if_false]
  by_cases hn:(Gm s m (a+1) (Hy s d (vI s a) 1)).best.isSome=true
  ·exact(Z6 s m (a+1) _).1 hn
  ·rcases r.1.2 (vI s a)with o|o
   ·refine Wq hs h1 r m (a+1) _ om o3 ⟨fun i f=>by rw [u];exact z i f,fun i f=>?_⟩ ?_
    ·rw [u]
     by_cases e:i=vI s a
     ·rw [e,o,l]
     ·exact h.2 i (by rw [Oi];simp [f];exact e)
    ·have h5:=(Z6 s m (a+1) (Hy s d (vI s a) 1)).2 (by simpa using hn);show(Gm s m (a+1) (Hy s d (vI s a) 1)).least<=_
     rw [h5];exact hl
   ·refine absurd (Wq hs h1 r m (a+1) _ om o1 ⟨hz,fun i f=>?_⟩ hl) hn;rw [g,Jq]
    by_cases e:i=vI s a
    ·rw [if_pos ⟨e,k⟩,e,o]
    ·rw [if_neg (fun e2=>e e2.1)];exact h.2 i (by rw [Oi];simp [f];exact e)
theorem T5(s:Ss)(n:Nat):∀(m c:Nat)(d:Sd),d.x.length=n->(∀b,d.best=some b->b.length=n)->(Gm s m c d).x.length=n/\(∀b,(Gm s m c d).best=some b->b.length=n)
 |0,c,d,h1,h2=>by
  rw [Gm];split
  ·exact⟨h1,h2⟩
  ·exact⟨h1,fun b f=>by simp only [Ahr,Au]at f;rw [<- f];exact h1⟩
 |m+1,c,d,h1,h2=>by
  have hs:∀(e:Sd)(i:Nat)(b:Int),e.x.length=n->(Hy s e i b).x.length=n:=fun e i b h=>by simp [Hy,h]
  rw [Gm]
  split
  ·exact⟨h1,h2⟩
  ·split
   ·have a:=T5 s n m (c+1) d h1 h2;have b:=T5 s n m (c+1) (Hy s (Gm s m (c+1) d) (vI s c) 1) (hs _ _ _ a.1) a.2;exact⟨hs _ _ _ b.1,b.2⟩
   ·have a:=T5 s n m (c+1) (Hy s d (vI s c) 1) (hs _ _ _ h1) h2;exact T5 s n m (c+1) _ (hs _ _ _ a.1) a.2
theorem Aj4{c m:Int}(h:inB c m=true): -m<=c/\c<=m:=by unfold inB at h;simpa using h
theorem A1l{l:List Int}(h:l.any (fun c=> !inB c 1000000)≠true):Bnd l:=by
 intro i
 by_cases a:i<l.length
 ·have:inB (l.getD i 0) 1000000=true:=by
   cases e:inB (l.getD i 0) 1000000
   ·exact absurd (Dz.2 ⟨l.getD i 0,by rw [Cp a];exact Az a,by rw [e];rfl⟩) h
   ·rfl
  exact Aj4 this
 ·simp [List.getD,Gk (N6 a)]
theorem A5p{a:List Int}{c:List Rw}{f:List Int}(h:Zz a c f=0):NumP a c/\f.length=a.length/\∀i,-1<=f.getD i 0/\f.getD i 0<=1:=by
 unfold Zz at h
 split at h
 ·omega
 ·rename_i h1
  split at h
  ·omega
  ·rename_i h2
   split at h
   ·omega
   ·rename_i k
    split at h
    ·omega
    ·rename_i l
     split at h
     ·omega
     ·rename_i n
      split at h
      ·omega
      ·rename_i m
       have g:∀r∈c,Afw r=false:=fun r g=>by
        cases e:Afw r
        ·rfl
        ·exact absurd (Dz.2 ⟨r,g,e⟩) n
       refine⟨⟨by omega,by omega,A1l l,fun r d=>⟨?_,?_⟩,fun r d=>?_⟩,by omega,fun i=>?_⟩
       ·by_cases e:r.coef.length=a.length
        ·exact e
        ·exact absurd (Dz.2 ⟨r,d,by simpa using e⟩) k
       ·have:=g r d;unfold Afw at this;simp only [F3]at this;exact A1l (by rw [this.1];simp)
       ·have:=g r d;unfold Afw at this;simp only [F3,Bool.not_eq_false']at this;exact⟨Aj4 this.2.1,Aj4 this.2.2⟩
       ·by_cases j:i<f.length
        ·by_cases e:f.getD i 0< -1\/1<f.getD i 0
         ·exact absurd (Dz.2 ⟨f.getD i 0,by rw [Cp j];exact Az j,by simpa using e⟩) m
         ·omega
        ·simp [List.getD,Gk (N6 j)]
theorem T6(c:List Int):∀k,(M5 c k).Nodup
 |0=>by simp [M5]
 |k+1=>by
  rw [M5];split
  ·rw [Kl];refine⟨T6 c k,by simp,fun a d b e=>?_⟩;have:=Yc c k a d;have:=Bz.1 e;omega
  ·exact T6 c k
theorem Z7(a:List Int):∀k,∀i∈M5 a k,a.getD i.toNat 0<0
 |0,i,h=>by simp [M5]at h
 |k+1,i,h=>by
  rw [M5]at h;split at h
  ·rename_i hp
   rcases Cc.1 h with h|h
   ·exact Z7 a k i h
   ·rw [Bz.1 h];exact hp
  ·exact Z7 a k i h
theorem As1{a free:List Int}{n:Nat}(hn:n<=24)(hx:a.length=n)(hp:free.Perm (Fc a)):FrOk free n:=by
 have d:∀e,e<free.length->0<=free.getD e 0/\free.getD e 0<n:=fun e c=>by
  have:=Yc a a.length (free.getD e 0) (hp.mem_iff.1 (by rw [Cp c];exact Az c));omega
 have g:free.Nodup:=hp.nodup_iff.2 (T6 a _)
 refine⟨fun e c=>by have:=d e c;unfold Vg;omega,fun e e' c f h=>?_,?_⟩
 ·have h1:=d e c;have h2:=d e' f;unfold Vg at h;have i:free.getD e 0=free.getD e' 0:=om;rw [Cp c,Cp f]at i;exact(List.getElem_inj g).1 i
 ·rw [hp.length_eq];have:=U2 a a.length;unfold Fc;omega
theorem A1m(a:List Int)(i:Nat):(xP a).getD i 0=N9 (a.getD i 0):=by
 unfold xP
 by_cases h:i<a.length
 ·rw [Cp (by simpa using h),Cp h];simp
 ·simp [List.getD,Gk (N6 h),N9]
theorem Baj(a:List Int)(c:List Rw)(d:List Int):Asr a c d:=by
 intro hz _ o;obtain⟨g,t,aj⟩:=A5p hz;have hn:=g.hn;have j:Aee a.length (xP d):=⟨by simp [xP,t],fun i=>by rw [A1m];have:=aj i;unfold N9;split<;>omega⟩;have x:=Pu (R5 a) (Fc d);have ag:=As1 hn t x;have ah:=As1 hn t (List.Perm.refl (Fc d));have sg:SsOk (grS a c d):=⟨g,ag,rfl,rfl,rfl,rfl⟩;have sf:SsOk (Ad7 a c d):=⟨g,ah,rfl,rfl,rfl,rfl⟩
 have aa:∀k,k<c.length->(smP c (xP d)).getD k 0=Lg (c.getD k default).coef (xP d) a.length:=by
  intro k z;have hc:=Gl g.hc z default;unfold smP;rw [Cp (by simpa using z),List.getElem_map,<- Cp z default];unfold Vz;rw [hc.1,Aef hc.2 j _ Go.om]
 have r:Vz a (xP d)=Lg a (xP d) a.length:=by unfold Vz;exact Aef g.hv j _ om
 have l:∀(free:List Int)(m f:Nat),free.Perm (Fc d)->f+m=free.length->∀i∈Oi free f m,(xP d).getD i 0=0:=by
  intro free m f hp hm i hi;obtain⟨e,_,h2,h3⟩:=Abz hi;have he:e<free.length:=om;have:=Z7 d d.length (free.getD e 0) (hp.mem_iff.1 (by rw [Cp he];exact Az he));rw [A1m,h3];unfold Vg N9;rw [if_pos this]
 have og:OkD (grS a c d) { nwD a c d with least:= -24000000}:=⟨j,r,by simp [nwD,smP,grS,nwS],aa⟩
 have s:=U5 sg (fun i=>(xP d).getD i 0) (G9 (R5 a) (Fc d)).length 0 _ (show 0+(G9 (R5 a) (Fc d)).length=(grS a c d).free.length from Dj _) og
  (l _ _ _ x (Dj _)) (fun i _ =>rfl) (fun h=>by simp [nwD]at h) o
 obtain⟨y,hy,ai,w⟩:=s;have n:(grD a c d).most=Lg a y a.length:=w;have off:OkD (Ad7 a c d) { nwD a c d with least:=(grD a c d).most}:=⟨j,r,by simp [nwD,smP,Ad7,nwS],aa⟩
 have u:=Wq (y:=y) sf rfl hy (Fc d).length 0 { nwD a c d with least:=(grD a c d).most} (show 0+(Fc d).length=(Ad7 a c d).free.length from Dj _) off
  ⟨l _ _ _ (.refl _) (Dj _),fun i hi=>ai i (fun e he h=>hi ?_)⟩ (Int.le_of_eq n)
 ·have af:=T5 (Ad7 a c d) a.length (Fc d).length 0 { nwD a c d with least:=(grD a c d).most} j.1 (fun b hb=>by simp [nwD]at hb);obtain⟨b,hb⟩:=Cm.1 u;exact⟨b,hb,af.2 b hb⟩
 ·have ad:e<(G9 (R5 a) (Fc d)).length:=he;have ab:(G9 (R5 a) (Fc d)).getD e 0∈Fc d:=x.mem_iff.1 (by rw [Cp ad];exact Az ad);have h:i=((G9 (R5 a) (Fc d)).getD e 0).toNat:=h
  have ae:∀(m f:Nat),f+m=(Fc d).length->∀e,f<=e->e<(Fc d).length->Vg (Fc d) e∈Oi (Fc d) f m:=by
   intro m
   induction m with
   |zero=>intro f h1 e h2 h3;omega
   |succ m ih=>
    intro f h1 e h2 h3;rw [Oi]
    by_cases h4:e=f
    ·rw [h4];simp
    ·exact Dv _ (ih (f+1) om e om h3)
  obtain⟨k,z,ak⟩:=Hu.1 ab;have h7:=ae (Fc d).length 0 om k om z;have h8:Vg (Fc d) k=i:=by unfold Vg;rw [Cp z,ak,h]
  rw [h8]at h7;exact h7
theorem Aj5(W:List (Int × Int))(a b:Int):Z3 W a b<0↔Ez W b<Ez W a\/(Ez W b=Ez W a/\a<b):=by
 unfold Z3;simp only [orF,Go.Proofs.YtpaccopbbffkaaaGreatDoor.cmpI];generalize Ez W a=u;generalize Ez W b=v
 (repeat' split)<;>omega
theorem A5q(W:List (Int × Int)):CmpOk (Z3 W) (fun _ =>True):=
 ⟨fun x y _ _ h=>by rw [Aj5]at h|-;omega,fun x y z _ _ _ h1 h2=>by rw [Aj5]at h1 h2|-;omega⟩
theorem A1n(W:List (Int × Int)){l m:List Int}(c:l.Nodup)(d:m.Nodup)(h:∀a,a∈l↔a∈m):G9 (Z3 W) l=G9 (Z3 W) m:=
 Avs (A5q W) (fun _ _ =>trivial) ((List.perm_ext_iff_of_nodup c d).2 h) (fun x y _ _ h1 h2=>by rw [Aj5]at h1 h2;omega)
theorem Ang(d:Int):∀(l e c:List Int)(t:Rat),0<=t->0<=Nj d l e c t
 |a::l,b::e,w::c,t,h=>by
  rw [Nj];refine Ang d l e c _ ?_
  have h1:(0:Rat)<=mkRat ((b-a)*(b-a)) (1000*d*d*w).natAbs:=by
   rw [<- Rat.divInt_ofNat];refine Rat.divInt_nonneg ?_ (Int.natCast_nonneg _)
   rcases Int.le_total 0 (b-a)with h|h
   ·exact Int.mul_nonneg h h
   ·exact Int.mul_nonneg_of_nonpos_of_nonpos h h
  exact Rat.add_nonneg h h1
 | [],_,_,t,h=>by unfold Nj;exact h
 |_ ::_,[],_,t,h=>by unfold Nj;exact h
 |_ ::_,_ ::_,[],t,h=>by unfold Nj;exact h
theorem Aqn(a:List Int)(m:Mo)(q:Nat):0<=Tu (Ot a m q)/\Tu (Ot a m q)<=1000000:=by
 have c:0<=Ot a m q:=by
  unfold Ot;split
  ·exact Rat.le_refl
  ·exact Ang _ _ _ _ _ Rat.le_refl
 have h1:0<=(Ot a m q*(100000000:Int)).floor:=by
  rw [Rat.le_floor_iff];exact Rat.mul_nonneg c dc
 unfold Tu;split<;>omega
def Aqo(p:List Nat)(k:Int)(r:Rat):Int × Int:=
 if Avr p≠0 then(0,Avr p)
 else if k<1\/(p.length:Int)-1<k\/M1 r (Aa9 1 2)<=0\/0<M1 r (Aa9 1 1)then(0,3)
 else if 0<=M1 (Am6 (p.drop k.toNat) p) r then(1,0)
 else if 0<=M1 (Am6 (p.take k.toNat) p) r then(0,0)else(-1,0)
theorem A5r(p:List Nat)(k:Int)(r:Rat):A5j p k r=.tup [.int .i64 (Aqo p k r).1,.int .i64 (Aqo p k r).2]:=by
 unfold A5j Aqo;(repeat' split)<;>rfl
def Aqp(p:Po)(w:List Nat):Bool × Int:=
 if p.cut=0 then(false,0)else if(Aqo w p.cut p.lvl.val).2≠0 then(false,(Aqo w p.cut p.lvl.val).2)else(decide ((Aqo w p.cut p.lvl.val).1≠ -1),0)
theorem Aqq(p:Po)(w:List Nat)(d:p.ok)(n:J2 w 1000000)(c:w.length<=1000000):
  AC prog 209 [p.v,.ro 1 (Bw w)] (fun r=>r=.tup [.bool (Aqp p w).1,.int .i64 (Aqp p w).2]):=by
 have a:=A1e w p.cut p.lvl n c d.lvl;rw [A5r]at a;unfold Aqp;generalize Aqo w p.cut p.lvl.val=cc at*;have x:p.lvl.v=.agg [.bool p.lvl.num.neg,.ro 1 (Av p.lvl.num.mag),.ro 1 (Av p.lvl.den)]:=rfl;rw [x]at a;have e:p.v=V.agg [.int .i64 p.len,.ro 5 (Ey p.rules),.ro 1 (As p.g.pts),.ro 1 (As p.g.pri),.ro 2 (A2 p.en),.int .i64 p.mn,.bool p.var.num.neg,.ro 1 (Av p.var.num.mag),.ro 1 (Av p.var.den),.int .i64 p.cut,.bool p.lvl.num.neg,.ro 1 (Av p.lvl.num.mag),.ro 1 (Av p.lvl.den),.int .i64 p.top,.bool p.rate.num.neg,.ro 1 (Av p.rate.num.mag),.ro 1 (Av p.rate.den),.int .i64 p.slack]:=rfl;rw [e]at|-;clear e;have l:=C2 p.rules;have s:=Ag p.g.pts;have k:=Ag p.g.pri;have m:=A5 p.en;have o:=Ak p.var.num.mag;have f:=Ak p.var.den;have j:=Ak p.lvl.num.mag;have i:=Ak p.lvl.den;have t:=Ak p.rate.num.mag;have h:=Ak p.rate.den;generalize Ey p.rules=rv,As p.g.pts=pt,As p.g.pri=pr,A2 p.en=ev,Av p.var.num.mag=vm,Av p.var.den=vd,Av p.lvl.num.mag=lm,Av p.lvl.den=ld,Av p.rate.num.mag=rm,Av p.rate.den=rd at*;have u:=Bv w;generalize Bw w=wv at*;refine Ax func209 fun w0 N0=>?_;refine Aa [1,2] [2] sr (Ab (Aa [1,2,10] [2] sr ?_))
 refine Ao (fun h1=>?_) fun h1=>Ae ?_
 ·exact Aa [4,5] [] sr (Aj (Ac sr (by rw [if_pos (by simpa using h1)])))
 rw [if_neg (by simpa using h1)];refine Ab (Ad (Am 5 sr ?_));refine Ah a func249 ?_;refine Af [6,7] [] sr ?_;refine Ab (Aa [6,7,21] [] sr ?_)
 refine Ao (fun h2=>?_) fun h2=>Ae ?_
 ·exact Aa [4,5] [] sr (Aj (Ac sr (by rw [if_pos (by simpa using h2)])))
 exact Aa [4,5] [] sr (Aj (Ac sr (by rw [if_neg (by simpa using h2)];simp)))
theorem A5s{g:Gr}{w:List Nat}(h:sumsOk g w):Ox (Wj g w)<=2047:=by
 unfold Wj;refine R1 (Iy h.pos h.pos) ?_ (Ai (M0 (Zq h.sz0) (Zq h.sz0)) dc);have h1:=Lc h.sz0 h.sz2;have h2:=Lc h.sz1 h.sz1;have a:Nf (-(L8 g.pts w*L8 g.pts w))<=2044:=by unfold Nf at h2|-;rw [Nb];omega
 rw [Int.sub_eq_add_neg];exact Ai (Rz (k:=2046) (Ai h1 dc) (Ai a dc)) dc
def Avu(p:Po)(n:Nat)(w:List Nat):Int × Int:=
 if p.len<=n then(1,0)else if(n:Int)<p.mn then(0,0)
 else if 0<Aat p.var.val/\M1 (Wj p.g w) p.var.val<=0 then(2,0)
 else if(Aqp p w).2≠0 then(0,(Aqp p w).2)else if(Aqp p w).1=true then(3,0)else(0,0)
theorem Aqr(p:Po)(n:Nat)(w:List Nat)(a:p.ok)(hp:Tq p=0)(hs:sumsOk p.g w):
  Hp gv prog 166 [p.v,.int .i64 n,.ro 1 (Bw w)] (fun r=>r=.tup [.int .i64 (Avu p n w).1,.int .i64 (Avu p n w).2]):=by
 have h:=O0 p a;rw [hp]at h;have aa:w.length<=1000000:=by have:=hs.len;have:=(Jg hs.grid).len;omega
 have e:=Aqq p w a (fun x hx=>Ai (hs.sz x hx) dc) aa;have c:=A5k p.g w hs;have y:=Alv p.var a.var.lim a.var.num.lim;have d:=Qc (nR (Wj p.g w)) p.var (Mj (Ai (A5s hs) dc)) a.var;rw [Ln]at d;unfold Avu;generalize Aqp p w=dc,Aat p.var.val=sg at*;generalize ab:M1 (Wj p.g w) p.var.val=cv at*;generalize Wj p.g w=q at*;have eg:p.g.v=.agg [.ro 1 (As p.g.pts),.ro 1 (As p.g.pri)]:=rfl;have er:p.var.v=.agg [.bool p.var.num.neg,.ro 1 (Av p.var.num.mag),.ro 1 (Av p.var.den)]:=rfl;rw [eg]at c;simp only [Vc]at c d;rw [er]at y d;have ep:p.v=V.agg [.int .i64 p.len,.ro 5 (Ey p.rules),.ro 1 (As p.g.pts),.ro 1 (As p.g.pri),.ro 2 (A2 p.en),.int .i64 p.mn,.bool p.var.num.neg,.ro 1 (Av p.var.num.mag),.ro 1 (Av p.var.den),.int .i64 p.cut,.bool p.lvl.num.neg,.ro 1 (Av p.lvl.num.mag),.ro 1 (Av p.lvl.den),.int .i64 p.top,.bool p.rate.num.neg,.ro 1 (Av p.rate.num.mag),.ro 1 (Av p.rate.den),.int .i64 p.slack]:=rfl;rw [ep]at h e|-;clear ep;have q0:=C2 p.rules;have k:=Ag p.g.pts;have q2:=Ag p.g.pri;have t:=A5 p.en;have s:=Ak p.var.num.mag;have q5:=Ak p.var.den;have u:=Ak p.lvl.num.mag;have j:=Ak p.lvl.den;have l:=Ak p.rate.num.mag;have o:=Ak p.rate.den;generalize Ey p.rules=rv,As p.g.pts=pt,As p.g.pri=pr,A2 p.en=ev,Av p.var.num.mag=vm,Av p.var.den=vd,Av p.lvl.num.mag=lm,Av p.lvl.den=ld,Av p.rate.num.mag=rm,Av p.rate.den=rd at*;have p1:=In;have p2:=Io;have m:=Bv w;generalize Bw w=wv at*;have hn:¬(n:Int)<0:=om;refine By func166 fun w0 N0 hG=>?_;refine Aa [1,2,3] [3] sr (Ab (Ab (Ad (Am 1 sr ?_))));refine Bq hG h func34 ?_;refine Af [1,2,3,8] [3] sr ?_;refine Aa [1,2,3,8,15] [3] sr ?_;refine A7 rfl (fun h1=>by simp at h1) (fun h1=>Ae (Ab (Aa [1,2,3,18] [3] sr ?_)));refine A7 rfl (fun h2=>by simp at h2;omega) (fun h2=>Ae (Ab (Ad (Am 3 sr ?_))));refine Ah c func208 ?_;refine Af [1,2,3,9,10] [3,9] sr ?_;refine Ab (Aa [1,2,3,9,10,27] [3,9] sr ?_);refine A7 rfl (fun h3=>by simp at h3) (fun h3=>Ae (Ab (Aa [1,2,3,9,33] [3,9] sr ?_)))
 refine Ao (fun f=>?_) fun f=>Ae ?_
 ·exact Aa [6,7] [] sr (Aj (Ac sr (by rw [if_pos (by simpa using f)])))
 refine Ab (Aa [2,3,9,37] [3,9] sr ?_)
 refine Ao (fun i=>?_) fun i=>Ae ?_
 ·exact Aa [6,7] [] sr (Aj (Ac sr (by rw [if_neg (by simpa using f),if_pos (by simpa using i)])))
 refine Ab (Ab (Ad (Am 2 sr ?_)));refine Ah y func57 ?_;refine Am 5 sr ?_;refine Db (fun hg=>d) func89 rfl kr sr rfl rfl sr (by simp) sr ?_;refine Af [2,3,48] [3] sr ?_
 refine Ao (fun z=>?_) fun z=>Ae ?_
 ·exact Aa [6,7] [] sr (Aj (Ac sr (by rw [if_neg (by simpa using f),if_neg (by simpa using i),if_pos (by simpa using z)])))
 refine Ab (Ad (Am 2 sr ?_));refine Ah e func209 ?_;refine Af [10,11] [] sr ?_;refine Ab (Aa [10,11,56] [] sr ?_)
 refine Ao (fun h7=>?_) fun h7=>Ae ?_
 ·exact Aa [6,7] [] sr (Aj (Ac sr (by rw [if_neg (by simpa using f),if_neg (by simpa using i),if_neg (by simpa using z),if_pos (by simpa using h7)])))
 refine Ab (Aa [58] [] sr ?_)
 refine Ao (fun h8=>?_) fun h8=>Ae ?_
 ·exact Aa [6,7] [] sr (Aj (Ac sr (by rw [if_neg (by simpa using f),if_neg (by simpa using i),if_neg (by simpa using z),if_neg (by simpa using h7),if_pos (by simpa using h8)])))
 exact Aa [6,7] [] sr (Aj (Ac sr (by rw [if_neg (by simpa using f),if_neg (by simpa using i),if_neg (by simpa using z),if_neg (by simpa using h7),if_neg (by simpa using h8)])))
theorem Wr{p:Po}(h:Tq p=0):Rf p.len p.rules=0/\Ku p.g=0/\p.en.length<=400/\A4s p=false:=by
 unfold Tq at h
 (repeat' split at h)<;>try omega
 rename_i h1 h2 h3 a;exact⟨by omega,by omega,by omega,by simpa using a⟩
structure AdP(p:Po)(pool:List Pit):Prop where
 ok:p.ok
 pe:Tq p=0
 le:Jp pool p.g.pts.length=0
 pl:pool.length<=9
 st:Fa p.rules<=3
def Aqs(pool:List Pit)(a c giv:List Int):Int:=
 if c.any (fun id=> !Qt (Ajx pool a) id)=true\/giv.any (fun id=> !Qt (Ajx pool a) id)=true then 6 else 0
def Avv(pool:List Pit)(c d giv:List Int):List Int:=G9 (Z3 (Ajx pool c)) (d.filter fun a=> !decide (a∈giv))
theorem A1o(pool:List Pit)(c d giv:List Int)(i:pool.length<=18)(j:c.length=pool.length)(e:∀v∈c,-1000000<=v/\v<=1000000)(g:d.length<=12)(f:giv.length<=1000)(k:d.Nodup):
  AC prog 109 [.ro 9 (Ce pool),.ro 1 (As c),.ro 1 (As d),.ro 1 (As giv)] (fun r=>r=Aeb (Aqs pool c d giv) (Avv pool c d giv)):=by
 refine(A1c pool c d giv i j e g f).mono fun r h=>?_
 unfold A8n at h;unfold Aeb Aqs Avv
 split at h
 ·rename_i h1;rw [if_pos h1];exact h
 ·rename_i h1;obtain⟨C,n,m,l⟩:=h;rw [if_neg h1,l,if_pos rfl];rw [A1n (Ajx pool c) n (k.filter (fun a=> !decide (a∈giv))) (fun a=>by rw [m];simp [J8])]
theorem Anh(x:List Int)(pool:List Pit):∀k,k<=pool.length->(Z2 x pool k).Sublist ((Ly pool).take k)
 |0,_ =>by simp [Z2]
 |k+1,h=>by
  have ih:=Anh x pool k om
  have e:(Ly pool).take (k+1)=(Ly pool).take k++[(pool.getD k default).id]:=by
   rw [A1 (by simp [Ly];omega),Cp (show k<pool.length by omega)];simp [Ly]
  rw [Z2,e]
  split
  ·exact ih.append (List.Sublist.refl _)
  ·exact ih.trans (List.sublist_append_left _ _)
theorem Aqt{l:List Int}(h:Rc 0 l=true):l.Nodup:=by
 have h1:=(Abs h).2;exact h1.imp fun h=>by omega
def H5(pool:List Pit)(t:Te):List Pit:=Asc pool t.elig
def Vh(p:Po)(pool:List Pit)(t:Te):Int:=
 if A08 p.len p.rules (H5 pool t) p.en (Hn t.steps) (Gn p.g t.w (H5 pool t))≠0 then A08 p.len p.rules (H5 pool t) p.en (Hn t.steps) (Gn p.g t.w (H5 pool t))
 else Aqs (H5 pool t) (Gn p.g t.w (H5 pool t)) (Af0 p.len p.rules (H5 pool t) p.en (Hn t.steps) (Gn p.g t.w (H5 pool t))) (Hn t.steps)
def Qu(p:Po)(pool:List Pit)(t:Te):List Int:=
 Avv (H5 pool t) (Gn p.g t.w (H5 pool t)) (Af0 p.len p.rules (H5 pool t) p.en (Hn t.steps) (Gn p.g t.w (H5 pool t))) (Hn t.steps)
theorem A1p(p:Po)(pool:List Pit)(t:Te)(h:AdP p pool)(hs:sumsOk p.g t.w)(ah:t.steps.length<=1000):
  Hp gv prog 69 [p.v,.ro 9 (Ce pool),t.v] (fun r=>r=Aeb (Vh p pool t) (Qu p pool t)):=by
 obtain⟨ak,ar,ao,-⟩:=Wr h.pe;have av:=h.pl;have aw:=h.st;have d:=Amc pool t.elig om;change AC _ _ _ (fun x=>x=.ro 9 (Ce (H5 pool t)))at d;have ad:(H5 pool t).Sublist pool:=Ahe pool t.elig;have au:(H5 pool t).length<=pool.length:=ad.length_le;have ae:Jp (H5 pool t) p.g.pts.length=0:=Au6 ad h.le;have aa:=Amd t.steps ah;have aj:(Hn t.steps).length<=1000:=by rw [Adn];exact ah
 have s:=Ame p.g t.w (H5 pool t) hs ae;have ai:(Gn p.g t.w (H5 pool t)).length=(H5 pool t).length:=by simp [Gn,Sl]
 have af:∀v∈Gn p.g t.w (H5 pool t),-1000000<=v/\v<=1000000:=by
  intro v hv;simp only [Gn,Sl,Bm]at hv;obtain⟨x,_,rfl⟩:=hv;have:=Aqn p.g.pts x.m (Ac7 p.g.pts (Oq p.g t.w));omega
 have a:=A1a p.len p.rules (H5 pool t) p.en (Hn t.steps) (Gn p.g t.w (H5 pool t)) p.g.pts.length ak ae om ao aj ai af (Baj _ _ _) om
 have am:(Af0 p.len p.rules (H5 pool t) p.en (Hn t.steps) (Gn p.g t.w (H5 pool t))).Nodup:=by
  unfold Af0 shT;exact((Aqt (X3 ae).2.1).sublist (List.take_sublist _ _)).sublist (Anh _ _ _ (A9 _))
 have aq:(Af0 p.len p.rules (H5 pool t) p.en (Hn t.steps) (Gn p.g t.w (H5 pool t))).length<=12:=by
  unfold Af0 shT;have:=Aea (Vf (Wm (Gn p.g t.w (H5 pool t)) p.rules) (St p.len p.rules (H5 pool t) p.en ((H5 pool t).length+Fa p.rules)) (Wp (H5 pool t) (O2 p.rules (H5 pool t)) (Hn t.steps) (Hn t.steps).length)) (H5 pool t) (H5 pool t).length;omega
 have u:=A1o (H5 pool t) (Gn p.g t.w (H5 pool t)) _ (Hn t.steps) om ai af aq aj am;unfold Vh Qu;generalize A08 p.len p.rules (H5 pool t) p.en (Hn t.steps) (Gn p.g t.w (H5 pool t))=te,Af0 p.len p.rules (H5 pool t) p.en (Hn t.steps) (Gn p.g t.w (H5 pool t))=tt at*;generalize Aqs (H5 pool t) (Gn p.g t.w (H5 pool t)) tt (Hn t.steps)=fe,Avv (H5 pool t) (Gn p.g t.w (H5 pool t)) tt (Hn t.steps)=fl at*;have pf:=Ag fl;unfold Aeb at*;have an:t.v=.agg [.ro 1 (As t.elig),.ro 2 (A2 t.steps),.int .i64 t.pend,.ro 1 (Bw t.w),.int .u64 t.draw,.int .i64 t.stop]:=rfl;have al:Pq p.len p.rules=.agg [.int .i64 p.len,.ro 5 (Ey p.rules)]:=rfl;have eg:p.g.v=.agg [.ro 1 (As p.g.pts),.ro 1 (As p.g.pri)]:=rfl;rw [eg]at s;rw [al]at a;rw [an];have ep:p.v=V.agg [.int .i64 p.len,.ro 5 (Ey p.rules),.ro 1 (As p.g.pts),.ro 1 (As p.g.pri),.ro 2 (A2 p.en),.int .i64 p.mn,.bool p.var.num.neg,.ro 1 (Av p.var.num.mag),.ro 1 (Av p.var.den),.int .i64 p.cut,.bool p.lvl.num.neg,.ro 1 (Av p.lvl.num.mag),.ro 1 (Av p.lvl.den),.int .i64 p.top,.bool p.rate.num.neg,.ro 1 (Av p.rate.num.mag),.ro 1 (Av p.rate.den),.int .i64 p.slack]:=rfl;rw [ep]at|-;clear ep;have q0:=C2 p.rules;have f:=Ag p.g.pts;have q2:=Ag p.g.pri;have n:=A5 p.en;have l:=Ak p.var.num.mag;have q5:=Ak p.var.den;have o:=Ak p.lvl.num.mag;have c:=Ak p.lvl.den;have e:=Ak p.rate.num.mag;have k:=Ak p.rate.den;generalize Ey p.rules=rv,As p.g.pts=pt,As p.g.pri=pr,A2 p.en=ev,Av p.var.num.mag=vm,Av p.var.den=vd,Av p.lvl.num.mag=lm,Av p.lvl.den=ld,Av p.rate.num.mag=rm,Av p.rate.den=rd at*;have s1:=Ag t.elig;have i:=A5 t.steps;have j:=Bv t.w;have s4:=Ca pool;have y:=Ca (H5 pool t);have s6:=Ag (Hn t.steps);have z:=Ag (Gn p.g t.w (H5 pool t));have s8:=Ag tt;generalize As t.elig=ti,A2 t.steps=ts,Bw t.w=tw,Ce pool=lv,Ce (H5 pool t)=iv,As (Hn t.steps)=gi,As (Gn p.g t.w (H5 pool t))=vv,As tt=tv at*
 by_cases ab:te=0
 ·subst ab;simp only [if_true,ne_eq,not_true_eq_false,if_false]at a|-
  by_cases ag:fe=0
  ·subst ag;simp only [if_true]at u|-;refine By func69 fun w0 N0 hG=>?_;refine Aa [1,3,5] [3,5] sr (Ab (Ad (Am 3 sr ?_)));refine Ah d func105 ?_;refine Af [3,5,8] [3,5] sr ?_;refine Ab (Ad (Am 2 sr ?_));refine Ah aa func106 ?_;refine Af [3,5,8,9] [3,5] sr ?_;refine Ab (Ad (Am 5 sr ?_));refine Bq hG s func107 ?_;refine Af [3,8,9,10,11] [3] sr ?_;refine Ab (Aa [3,8,9,10,11,30] [3] sr ?_);refine A7 rfl (fun h1=>by simp at h1) (fun h1=>Ae (Ab (Ad (Am 7 sr ?_))));refine Bq hG a func108 ?_;refine Af [8,9,10,11,12] [] sr ?_;refine Ab (Aa [8,9,10,11,12,44] [] sr ?_);refine A7 rfl (fun h2=>by simp at h2) (fun h2=>Ae (Ab (Ad (Am 4 sr ?_))));refine Ah u func109 ?_;refine Af [6,7] [] sr ?_;exact Aj (Ac sr (rfl))
  ·simp only [if_neg ag]at u|-;refine By func69 fun w0 N0 hG=>?_;refine Aa [1,3,5] [3,5] sr (Ab (Ad (Am 3 sr ?_)));refine Ah d func105 ?_;refine Af [3,5,8] [3,5] sr ?_;refine Ab (Ad (Am 2 sr ?_));refine Ah aa func106 ?_;refine Af [3,5,8,9] [3,5] sr ?_;refine Ab (Ad (Am 5 sr ?_));refine Bq hG s func107 ?_;refine Af [3,8,9,10,11] [3] sr ?_;refine Ab (Aa [3,8,9,10,11,30] [3] sr ?_);refine A7 rfl (fun h1=>by simp at h1) (fun h1=>Ae (Ab (Ad (Am 7 sr ?_))));refine Bq hG a func108 ?_;refine Af [8,9,10,11,12] [] sr ?_;refine Ab (Aa [8,9,10,11,12,44] [] sr ?_);refine A7 rfl (fun h2=>by simp at h2) (fun h2=>Ae (Ab (Ad (Am 4 sr ?_))));refine Ah u func109 ?_;refine Af [6,7] [] sr ?_;exact Aj (Ac sr (rfl))
 ·simp only [if_neg ab,if_pos ab,ne_eq]at a|-;refine By func69 fun w0 N0 hG=>?_;refine Aa [1,3,5] [3,5] sr (Ab (Ad (Am 3 sr ?_)));refine Ah d func105 ?_;refine Af [3,5,8] [3,5] sr ?_;refine Ab (Ad (Am 2 sr ?_));refine Ah aa func106 ?_;refine Af [3,5,8,9] [3,5] sr ?_;refine Ab (Ad (Am 5 sr ?_));refine Bq hG s func107 ?_;refine Af [3,8,9,10,11] [3] sr ?_;refine Ab (Aa [3,8,9,10,11,30] [3] sr ?_);refine A7 rfl (fun h1=>by simp at h1) (fun h1=>Ae (Ab (Ad (Am 7 sr ?_))));refine Bq hG a func108 ?_;refine Af [8,9,10,11,12] [] sr ?_;refine Ab (Aa [8,9,10,11,12,44] [] sr ?_)
  refine A7 rfl (fun h2=>?_) (fun h2=>by simp at h2;exact absurd h2 ab)
  ·exact Aa [6,7] [] sr (Aj (Ac sr rf))
theorem V2:∀(l:List Nat)(a:Nat),l.foldl Nat.gcd a∣a/\∀x∈l,l.foldl Nat.gcd a∣x
 | [],a=>⟨Nat.dvd_refl _,fun x c=>by cases c⟩
 |y::r,a=>by
  have ih:=V2 r (Nat.gcd a y);rw [List.foldl_cons];refine⟨Nat.dvd_trans ih.1 (Nat.gcd_dvd_left a y),fun x c=>?_⟩
  rcases Cj.1 c with h|h
  ·rw [h];exact Nat.dvd_trans ih.1 (Nat.gcd_dvd_right a y)
  ·exact ih.2 x h
theorem U6{w:List Nat}:Gb w≠0↔∃x∈w,x≠0:=by
 induction w with
 |nil=>simp [Gb]
 |cons a r ih=>
  rw [Gb]
  constructor
  ·intro h
   by_cases ha:a=0
   ·obtain⟨x,hx,h2⟩:=ih.1 om;exact⟨x,Dv _ hx,h2⟩
   ·exact⟨a,Et ..,ha⟩
  ·rintro⟨x,hx,h2⟩
   rcases Cj.1 hx with h|h
   ·omega
   ·have:=ih.2 ⟨x,h,h2⟩;omega
theorem Ab0(w:List Nat):(Pr w).length=w.length:=by simp [Pr]
theorem Yq{w:List Nat}{m:Nat}(h:J2 w m):J2 (Pr w) m:=by
 intro x a;simp only [Pr,Bm]at a;obtain⟨y,c,rfl⟩:=a;exact Ai (Zo (Hd _ _)) (h y c)
theorem A1q{w:List Nat}(h:Gb w≠0):Gb (Pr w)≠0:=by
 obtain⟨x,f,h2⟩:=U6.1 h
 refine U6.2 ⟨x/Ve w,?_,?_⟩
 ·simp only [Pr,Bm];exact⟨x,f,rfl⟩
 ·have d:=(V2 w 0).2 x f;change Ve w∣x at d;obtain⟨c,a⟩:=d;have g:0<Ve w:=Hm (fun e=>by rw [e,O4]at a;exact h2 a);rw [a,Js _ g];intro e;rw [e,Sf]at a;exact h2 a
theorem Ani{g:Gr}(d:Ku g=0):(Ny g.pri).length=g.pts.length/\J2 (Ny g.pri) 1/\Gb (Ny g.pri)≠0:=by
 have h:=Jg d
 refine⟨by simp [Ny,h.same],fun x c=>?_,U6.2 ?_⟩
 ·simp only [Ny,Bm]at c;obtain⟨y,e,rfl⟩:=c;have:=h.pri y e;exact Er (m:=1) om
 ·have h1:=h.pos;have h2:=h.same;cases hp:g.pri with
  |nil=>rw [hp]at h2;simp at h2;omega
  |cons a r=>
   refine⟨a.toNat,by simp [Ny],?_⟩;have:=h.pri a (by rw [hp];simp);omega
theorem A1r{w:List Nat}{m:Mo}{k n:Nat}(r:Kv m w.length=0)(hk:k<Vb m)(o:J2 w n)(t:Gb w≠0):
  (O1 w m k).length=w.length/\J2 (O1 w m k) (n+1)/\Gb (O1 w m k)≠0:=by
 have l:=Xs r;have s:m.length=w.length:=l.len
 have c:∀i,i<m.length->1<=(m.getD i []).getD k 0/\(m.getD i []).getD k 0<=1000:=by
  intro i e;have h1:=l.row (m.getD i []) (by rw [Cp e];exact Az e);have h2:k<(m.getD i []).length:=om;exact h1.2.1 _ (by rw [Cp h2];exact Az h2)
 have f:(O1 w m k).length=w.length:=by simp [O1,s]
 have a:∀i(h:i<(O1 w m k).length),(O1 w m k)[i]=w[i]'(by omega)*((m.getD i []).getD k 0).toNat:=by
  intro i h;have e:i<m.length:=om;rw [Cp (d:=[]) e];simp [O1]
 refine⟨f,fun x g=>?_,U6.2 ?_⟩
 ·obtain⟨i,e,rfl⟩:=Hu.1 g;rw [a i e];have h1:=c i om;exact M0 (o _ (Az _)) (Er (m:=1) om)
 ·obtain⟨x,g,j⟩:=U6.1 t;obtain⟨i,e,rfl⟩:=Hu.1 g;refine⟨(O1 w m k)[i]'(by omega),Az _,?_⟩;rw [a i Go.om];have h1:=c i om;exact Iy j om
def Aj6(e:Int)(l:List Int):List Int:=if e=0 then l else []
theorem Aqu(e:Int)(l:List Int):Bi (Aeb e l) (.tup [.ro 1 (As (Aj6 e l)),.int .i64 e]):=by
 unfold Aeb Aj6;split
 ·rename_i h;rw [h];exact Bi.refl _
 ·exact Bi.tup (.cons (Bi.nils 1) (.cons (Bi.refl _) .nil))
theorem Ah6(p:Po)(pool:List Pit)(t:Te)(h:AdP p pool)(hs:sumsOk p.g t.w)(a:t.steps.length<=1000):
  Hp gv prog 69 [p.v,.ro 9 (Ce pool),t.v] (fun r=>r=.tup [.ro 1 (As (Aj6 (Vh p pool t) (Qu p pool t))),.int .i64 (Vh p pool t)]):=
 Hp.relaxP ((A1p p pool t h hs a).mono fun r c=>by rw [c];exact Aqu _ _)
def Vi:Te:=⟨[],[],0,[],0,0⟩
def Anj(p:Po)(pool:List Pit)(a:List (Int × Int))(d c:Int):Te:=⟨X2 pool a d p.rate.val p.slack,[],0,Pr (Ny p.g.pri),Sq c,0⟩
def A1s(p:Po)(pool:List Pit)(a:List (Int × Int))(c d:Int):Int:=
 if Tq p≠0 then Tq p else if Jp pool p.g.pts.length≠0 then Jp pool p.g.pts.length else if c<0\/1000000<c then 3 else Vh p pool (Anj p pool a c d)
def teR(e:Int)(t:Te):V:=.tup [(if e=0 then t else Vi).v,.int .i64 e]
theorem Avw:Bi (.agg [.nils,.nils,.int .i64 0,.nils,.int .u64 0,.int .i64 0]) Vi.v:=
 Bi.agg (.cons (Bi.nils 1) (.cons (Bi.nils 2) (.cons (Bi.refl _) (.cons (Bi.nils 1) (.cons (Bi.refl _) (.cons (Bi.refl _) .nil))))))
theorem Fq{e:Int}(h:e≠0)(t:Te):Bi (.tup [.agg [.nils,.nils,.int .i64 0,.nils,.int .u64 0,.int .i64 0],.int .i64 e]) (teR e t):=by
 unfold teR;rw [if_neg h];exact Bi.tup (.cons Avw (.cons (Bi.refl _) .nil))
theorem Ael(a:List Int)(w:List Nat)(d:Int):Bi (.agg [.ro 1 (As a),.nils,.int .i64 0,.ro 1 (Bw w),.int .u64 d,.int .i64 0]) (Te.v ⟨a,[],0,w,d,0⟩):=
 Bi.agg (.cons (Bi.refl _) (.cons (Bi.nils 2) (.cons (Bi.refl _) (.cons (Bi.refl _) (.cons (Bi.refl _) (.cons (Bi.refl _) .nil))))))
theorem Avx(p:Po)(pool:List Pit)(a:List (Int × Int))(c d:Int)(n:p.ok)(am:pool.length<=9)(an:Tq p=0->Fa p.rules<=3):
  Hp gv prog 39 [p.v,.ro 9 (Ce pool),.ro 2 (A2 a),.int .i64 c,.int .u64 d] (fun r=>r=teR (A1s p pool a c d) (Anj p pool a c d)):=by
 refine Hp.relaxP ?_;have ab:=O0 p n;have ad:=Lz pool p.g.pts.length;have l:=fun h=>Azo p.g h
 have k:Tq p=0->Ku p.g=0:=fun h=>(Wr h).2.1
 have i:=fun h=>Ani (g:=p.g) h
 have al:Ku p.g=0->p.g.pts.length<=21:=fun h=>(Jg h).len
 have j:=fun h=>Au2 pool a c p.rate p.slack n.rate h om
 have ah:Jp pool p.g.pts.length=0->(Ly pool).Pairwise (·< ·):=fun h=>(Abs (X3 h).2.1).2
 have z:=fun h1 h2=>Adh (Ny p.g.pri) h1 h2
 have ag:=Azr d
 have ai:Tq p=0->sumsOk p.g (Pr (Ny p.g.pri)):=fun h=>
  have hg:=k h
  ⟨hg,by rw [Ab0];exact(i hg).1,Yq (fun x hx=>Ai ((i hg).2.1 x hx) dc),A1q (i hg).2.2⟩
 have e:=fun h h2=>(Ah6 p pool (Anj p pool a c d) h h2 (by simp [Anj])).argsR (.cons (Bi.refl _) (.cons (Bi.refl _) (.cons (Ael (X2 pool a c p.rate.val p.slack) (Pr (Ny p.g.pri)) (Sq d)) .nil)))
 unfold A1s;have hT:Anj p pool a c d=⟨X2 pool a c p.rate.val p.slack,[],0,Pr (Ny p.g.pri),Sq d,0⟩:=rfl;have ae:=Ag (Aj6 (Vh p pool (Anj p pool a c d)) (Qu p pool (Anj p pool a c d)));rw [hT]at e ae|-;have aj:Tq p=0->Jp pool p.g.pts.length=0->AdP p pool:=fun h1 h2=>⟨n,h1,h2,am,an h1⟩
 have u:=Ag (X2 pool a c p.rate.val p.slack);have w2:=Bv (Pr (Ny p.g.pri));have w3:=Bv (Ny p.g.pri);have ak:=Ael (X2 pool a c p.rate.val p.slack) (Pr (Ny p.g.pri)) (Sq d);generalize Vh p pool _ =ce at*;generalize Aj6 ce (Qu p pool _)=cl,X2 pool a c p.rate.val p.slack=el,Pr (Ny p.g.pri)=av,Sq d=nd at*;have s4:=Ca pool;have s5:=A5 a;have af:=A4 p.g.pts;have eg:p.g.v=.agg [.ro 1 (As p.g.pts),.ro 1 (As p.g.pri)]:=rfl;have er:p.rate.v=.agg [.bool p.rate.num.neg,.ro 1 (Av p.rate.num.mag),.ro 1 (Av p.rate.den)]:=rfl;rw [eg]at l;rw [er]at j;have ep:p.v=V.agg [.int .i64 p.len,.ro 5 (Ey p.rules),.ro 1 (As p.g.pts),.ro 1 (As p.g.pri),.ro 2 (A2 p.en),.int .i64 p.mn,.bool p.var.num.neg,.ro 1 (Av p.var.num.mag),.ro 1 (Av p.var.den),.int .i64 p.cut,.bool p.lvl.num.neg,.ro 1 (Av p.lvl.num.mag),.ro 1 (Av p.lvl.den),.int .i64 p.top,.bool p.rate.num.neg,.ro 1 (Av p.rate.num.mag),.ro 1 (Av p.rate.den),.int .i64 p.slack]:=rfl;rw [ep]at ab e|-;clear ep;have q0:=C2 p.rules;have s:=Ag p.g.pts;have q2:=Ag p.g.pri;have y:=A5 p.en;have w:=Ak p.var.num.mag;have q5:=Ak p.var.den;have q6:=Ak p.lvl.num.mag;have m:=Ak p.lvl.den;have o:=Ak p.rate.num.mag;have t:=Ak p.rate.den;generalize Ey p.rules=rv,As p.g.pts=pt,As p.g.pri=pr,A2 p.en=ev,Av p.var.num.mag=vm,Av p.var.den=vd,Av p.lvl.num.mag=lm,Av p.lvl.den=ld,Av p.rate.num.mag=rm,Av p.rate.den=rd,Ce pool=lv,A2 a=uv at*;generalize aq:Tq p=pe at*;generalize au:Jp pool p.g.pts.length=qe at*;rw [<- af]at ad;refine By func39 fun w0 N0 hG=>?_;refine Aa [1,2,3,4,5,10] [5,10] sr (Ab (Ab (Ad (Am 1 sr ?_))));refine Bq hG ab func34 ?_;refine Af [1,2,3,4,5,10,12] [5,10] sr ?_;refine Aa [1,2,3,4,5,10,12,22] [5,10] sr ?_
 refine Ao (fun h1=>?_) fun h1=>Ae ?_
 ·exact Aa [10,11] [10] sr (Aj (Ac sr (by rw [if_pos (by simpa using h1)];exact Fq (by simpa using h1) _)))
 have f:pe=0:=by simpa using h1
 rw [if_neg (by simpa using h1)];refine Ab (Ab (Ad (Am 5 sr ?_)));refine Bq hG ad func35 ?_;refine Af [1,2,3,4,5,10,13] [5,10] sr ?_;refine Aa [1,2,3,4,5,10,13,32] [5,10] sr ?_
 refine Ao (fun h2=>?_) fun h2=>Ae ?_
 ·exact Aa [10,11] [10] sr (Aj (Ac sr (by rw [if_pos (by simpa using h2)];exact Fq (by simpa using h2) _)))
 have aa:qe=0:=by simpa using h2
 rw [if_neg (by simpa using h2)];refine Ab (Aa [1,2,3,4,5,10,40] [5,10] sr ?_)
 refine Ao (fun h3=>?_) fun h3=>Ae ?_
 ·exact Aa [10,11] [10] sr (Aj (Ac sr (by rw [if_pos (by simpa using h3)];exact Fq dc _)))
 rw [if_neg (by simpa using h3)];replace l:=l (k f);replace j:=j (ah aa);obtain⟨ar,ao,-⟩:=i (k f);replace z:=z (fun x hx=>Ai (ao x hx) dc) (by have:=al (k f);omega);replace e:=e (aj f aa) (ai f);refine Ab (Ad (Am 2 sr ?_));refine Ah l func65 ?_;refine Af [1,2,3,4,5,10,14,15] [5,10] sr ?_;refine Ab (Aa [1,2,3,4,5,10,14,15,49] [5,10] sr ?_);refine A7 rfl (fun h4=>by simp at h4) (fun h4=>Ae (Ab (Ad (Am 7 sr ?_))));refine Ah j func66 ?_;refine Am 1 sr ?_;refine Ah z func67 ?_;refine Am 1 sr ?_;refine Ah ag func68 ?_;refine Af [1,5,10,16] [5,10,16] sr ?_;refine Ab (Ab (Ad (Am 3 sr ?_)));refine Bq hG e func69 ?_;refine Af [10,16,18] [10,16] sr ?_;refine Aa [10,16,18,73] [10,16] sr ?_
 refine Ao (fun h5=>?_) fun h5=>Ae ?_
 ·refine Aa [10,11] [10] sr ?_;exact Aj (Ac sr (Fq (by simpa using h5) _))
 refine Aa [10,11] [10] sr ?_;exact Aj (Ac sr ((fun h6:ce=0=>(by unfold teR;subst h6;rw [if_pos rfl];exact Bi.tup (.cons ak (.cons (Bi.refl _) .nil)):Bi _ _)) (by simpa using h5)))
def As2(pool:List Pit)(a:List Int)(k:Nat):Bool:= !(Lj pool (a.getD k 0)).isSome||(decide (0<k)&&decide (a.getD k 0<=a.getD (k-1) 0))
def A1t(pool:List Pit)(c:List Int)(a:List (Int × Int))(k:Nat):Bool:=
 !(Lj pool (a.getD k (0,0)).1).isSome||(!decide ((a.getD k (0,0)).1∈c)||decide ((a.getD k (0,0)).1∈(Hn a).take k))|| !Afn (Afo (Lj pool (a.getD k (0,0)).1)).m (a.getD k (0,0)).2
def Ank(n:Nat):Bool:=A5h (B1 n)
def Af2(p:Po)(pool:List Pit)(t:Te):Bool:=
 if(List.range t.elig.length).any (As2 pool t.elig)=true then false
 else if p.len<t.steps.length then false
 else if(List.range t.steps.length).any (A1t pool t.elig t.steps)=true then false
 else if t.pend≠0/\(t.pend∉t.elig\/t.pend∈Hn t.steps)then false
 else if t.w.length≠p.g.pts.length\/t.w.any Ank=false then false
 else decide (0<=t.stop)&&decide (t.stop<=4)
theorem Avy{l:List (Int × Int)}{k:Nat}(h:k<l.length):G8 (A2 l) k=some (.agg [.int .i64 (l.getD k (0,0)).1,.int .i64 (l.getD k (0,0)).2]):=by rw [Cp h];exact H3 h
theorem A1u(p:Po)(pool:List Pit)(t:Te)(h:teOk t):Hp gv prog 160 [p.v,.ro 9 (Ce pool),t.v] (fun r=>r=.bool (Af2 p pool t)):=by
 have ba:=h.el;have a0:=h.sl;have a7:=h.wd;have ad:=Ase pool;have au:=Amd t.steps a0;have az:=Qd;have ab:=Asd;have al:=(Az1 t.w 205 [] [] Ank (fun n hn=>Adr ((A5i (B1 n) (Cn _) (Ai (a7 n hn) dc)).q gv) func205 kr rfl)).argsR (args:=[.ro 1 (Bw t.w),.fn 205]) (.cons (Bi.refl _) (.cons (Pt 205) .nil));have bb:(Hn t.steps).length=t.steps.length:=Adn _;have a1:∀k,(As (Hn t.steps)).take k=As ((Hn t.steps).take k):=fun k=>by simp [As]
 have a3:=fun k=>Ag ((Hn t.steps).take k)
 have a9:=Ag (Hn t.steps);have bc:=A4 (Hn t.steps);unfold Af2;have a2:∀k,As2 pool t.elig k=(!(Lj pool (t.elig.getD k 0)).isSome||(decide (0<k)&&decide (t.elig.getD k 0<=t.elig.getD (k-1) 0))):=fun k=>rfl
 have ay:∀k,A1t pool t.elig t.steps k=(!(Lj pool (t.steps.getD k (0,0)).1).isSome||(!decide ((t.steps.getD k (0,0)).1∈t.elig)||decide ((t.steps.getD k (0,0)).1∈(Hn t.steps).take k))|| !Afn (Afo (Lj pool (t.steps.getD k (0,0)).1)).m (t.steps.getD k (0,0)).2):=fun k=>rfl
 have qe:=fun(k:Nat)(h:k<t.elig.length)=>Dd h
 have qs:=fun(k:Nat)(h:k<t.steps.length)=>Avy h
 have le:=A4 t.elig;have ls:=Du t.steps;have lw:=Hk t.w;have an:=A4 p.g.pts;have ar:∀x,AC prog 64 [.ro 1 (As t.elig),.int .i64 x] (fun r=>r=.bool (decide (x∈t.elig))):=fun x=>Qd t.elig x
 have a6:∀k x,AC prog 64 [.ro 1 (As ((Hn t.steps).take k)),.int .i64 x] (fun r=>r=.bool (decide (x∈(Hn t.steps).take k))):=fun k x=>Qd _ x
 have ao:∀x,AC prog 64 [.ro 1 (As (Hn t.steps)),.int .i64 x] (fun r=>r=.bool (decide (x∈Hn t.steps))):=fun x=>Qd _ x
 have am:t.v=.agg [.ro 1 (As t.elig),.ro 2 (A2 t.steps),.int .i64 t.pend,.ro 1 (Bw t.w),.int .u64 t.draw,.int .i64 t.stop]:=rfl;rw [am];clear am az;have ep:p.v=V.agg [.int .i64 p.len,.ro 5 (Ey p.rules),.ro 1 (As p.g.pts),.ro 1 (As p.g.pri),.ro 2 (A2 p.en),.int .i64 p.mn,.bool p.var.num.neg,.ro 1 (Av p.var.num.mag),.ro 1 (Av p.var.den),.int .i64 p.cut,.bool p.lvl.num.neg,.ro 1 (Av p.lvl.num.mag),.ro 1 (Av p.lvl.den),.int .i64 p.top,.bool p.rate.num.neg,.ro 1 (Av p.rate.num.mag),.ro 1 (Av p.rate.den),.int .i64 p.slack]:=rfl;rw [ep]at|-;clear ep;have q0:=C2 p.rules;have q1:=Ag p.g.pts;have q2:=Ag p.g.pri;have q3:=A5 p.en;have q4:=Ak p.var.num.mag;have q5:=Ak p.var.den;have q6:=Ak p.lvl.num.mag;have z:=Ak p.lvl.den;have o:=Ak p.rate.num.mag;have q9:=Ak p.rate.den;generalize Ey p.rules=rv at*;generalize As p.g.pts=pt at*;generalize As p.g.pri=pr at*;generalize A2 p.en=ev at*;generalize Av p.var.num.mag=vm at*;generalize Av p.var.den=vd at*;generalize Av p.lvl.num.mag=lm at*;generalize Av p.lvl.den=ld at*;generalize Av p.rate.num.mag=rm at*;generalize Av p.rate.den=rd at*;have s1:=Ag t.elig;have s:=A5 t.steps;have u:=Bv t.w;have s4:=Ca pool;have pF:=fun(x:Int)=>Ge (Afo (Lj pool x))
 have ak:=fun(x:Int)=>Do (Afo (Lj pool x)).m
 have ax:∀m:Mo,moV m=.agg [.ro 1 (Eb m)]:=fun m=>rfl
 simp only [ax]at ab;generalize a8:As t.elig=ti at*;generalize A2 t.steps=ts at*;generalize Bw t.w=tw at*;generalize Ce pool=lv at*;generalize As (Hn t.steps)=gi at*;generalize As2 pool t.elig=be at*;generalize A1t pool t.elig t.steps=bs at*;refine By func160 fun w0 N0 hG=>?_;refine Aa [1,3,5] [3,5] sr ?_;refine Ab (Aa [1,3,5,18,19,20] [3,5] sr ?_);refine Ar (Br (fun k nx=>⟨[(1,V.ro 9 lv),(3,V.bp 3 (0) 18 0 0),(5,V.bp 5 (1) 6 0 0),(18,.ro 1 ti),(19,_),(20,V.int .i64 k)],[(3,{ v:=0,sz:=18,ty:=36,es:=[V.agg [.int .i64 p.len,.ro 5 rv,.ro 1 pt,.ro 1 pr,.ro 2 ev,.int .i64 p.mn,.bool p.var.num.neg,.ro 1 vm,.ro 1 vd,.int .i64 p.cut,.bool p.lvl.num.neg,.ro 1 lm,.ro 1 ld,.int .i64 p.top,.bool p.rate.num.neg,.ro 1 rm,.ro 1 rd,.int .i64 p.slack]]}),(5,{ v:=1,sz:=6,ty:=54,es:=[V.agg [.ro 1 ti,.ro 2 ts,.int .i64 t.pend,.ro 1 tw,.int .u64 t.draw,.int .i64 t.stop]]})],nx,138⟩) (fun k=>((List.range t.elig.length).take k).any be=false) t.elig.length _ sm (AS.le_refl _) ?_);intro k nx hk hI;refine Aa [1,3,5,18,19,20,21] [3,5] sr ?_;refine Ab ?_
 refine Ao (fun h1=>Ae ?_) fun h1=>?_
 ·have d:k<t.elig.length:=by simp at h1;omega
  have e:k<ti.length:=om;have ga:=qe k d;have hb:=a2 k;have Dg:=A6 (k:=k) om;have aa:=fun h=>Ht t.elig.length k be d hI h
  have i:=fun h=>Mm (f:=be) d h
  have a:=ad (t.elig.getD k 0);rw [pF]at a;have pm:=ak (t.elig.getD k 0);have a4:∀j,k=j+1->be k=(!(Lj pool (t.elig.getD k 0)).isSome||decide (t.elig.getD k 0<=t.elig.getD j 0)):=fun j hj=>by rw [hb,hj];simp
  generalize t.elig.getD k 0=x at*;generalize Eb (Afo (Lj pool x)).m=mv at*;refine Ab (Ar (Aa [1,3,5,7,8,18,19,20] [3,5] (by simp [ga,e]<;>rfl) ?_));refine Ab (Ad (Am 2 sr ?_));refine Ah a func163 ?_;refine Af [1,3,5,7,8,10,18,19,20] [3,5] sr ?_
  cases hfd:(Lj pool x).isSome
  ·refine Ab (Ad (Am 3 Go.sr ?_));refine Mh 12 sr ?_;refine Af [1,3,5,18,19,20,46] [3,5] sr ?_;refine A7 rfl (fun h2=>?_) (fun h2=>by simp at h2);refine Aa [6] [] sr ?_;exact Aj (Ac sr (by rw [if_pos (i (by rw [hb,hfd];rfl))]))
  rcases k with _ |j
  ·refine Ab (Ad (Am 6 Go.sr ?_));refine Mh 8 sr ?_;refine Af [1,3,5,18,19,20,46] [3,5] sr ?_;refine A7 rfl (fun h2=>by simp at h2) fun h2=>Ae (A3 [1,3,5,18,19,20] [3,5] Go.sr ?_);exact⟨d,aa (by rw [hb,hfd];simp),_,AS.le_refl _⟩
  ·have gp:=qe j om;have aw:j<ti.length:=om;have a5:IntKind.i64.wrap (((j+1:Nat):Int)-1)=(j:Int):=by rw [Bh om Go.om];omega
   have ai:=a4 j rfl;generalize t.elig.getD j 0=y at*;refine Aa [1,3,5,18,19,20,46] [3,5] (by simp [gp,aw,a5,-Int.natCast_add]<;>rfl) ?_
   refine Ao (fun h2=>?_) fun h2=>Ae ?_
   ·refine Aa [6] [] sr ?_;exact Aj (Ac sr (by rw [if_pos (i (by rw [ai,hfd];simpa using h2))]))
   refine A3 [1,3,5,18,19,20] [3,5] (by simp [Dg,-Int.natCast_add]<;>rfl) ?_;exact⟨d,aa (by rw [ai,hfd];simpa using h2),_,AS.le_refl _⟩
 ·refine Bb ?_;have af:k=t.elig.length:=by simp at h1;omega
  rw [af,Bg (by simp)]at hI;simp only [hI,Fh,if_false];refine Ab (Aa [1,3,5,54] [3,5] sr ?_)
  refine Ao (fun h3=>?_) fun h3=>Ae ?_
  ·refine Aa [6] [] sr ?_;exact Aj (Ac sr (by rw [if_pos (by simpa [ls]using h3)]))
  rw [if_neg (by simpa [ls]using h3)];refine Ab (Ad (Am 2 sr ?_));refine Ah au func106 ?_;refine Af [1,3,5,11] [3,5] sr ?_;refine Ab (Aa [1,3,5,11,59,60,61] [3,5] sr ?_);refine Ar (Br (fun k nx=>⟨[(1,V.ro 9 lv),(3,V.bp 3 (0) 18 0 0),(5,V.bp 5 (1) 6 0 0),(11,_),(59,.ro 2 ts),(60,_),(61,V.int .i64 k)],[(3,{ v:=0,sz:=18,ty:=36,es:=[V.agg [.int .i64 p.len,.ro 5 rv,.ro 1 pt,.ro 1 pr,.ro 2 ev,.int .i64 p.mn,.bool p.var.num.neg,.ro 1 vm,.ro 1 vd,.int .i64 p.cut,.bool p.lvl.num.neg,.ro 1 lm,.ro 1 ld,.int .i64 p.top,.bool p.rate.num.neg,.ro 1 rm,.ro 1 rd,.int .i64 p.slack]]}),(5,{ v:=1,sz:=6,ty:=54,es:=[V.agg [.ro 1 ti,.ro 2 ts,.int .i64 t.pend,.ro 1 tw,.int .u64 t.draw,.int .i64 t.stop]]})],nx,138⟩) (fun k=>((List.range t.steps.length).take k).any bs=false) t.steps.length _ sm (AS.le_refl _) ?_);intro k nx hk ae;refine Aa [1,3,5,11,59,60,61,62] [3,5] sr ?_;refine Ab ?_
  refine Ao (fun h4=>Ae ?_) fun h4=>?_
  ·have d:k<t.steps.length:=by simp at h4;omega
   have e:k<ts.length:=om;have ga:=qs k d;have hb:=ay k;have Dg:=A6 (k:=k) om;have aa:=fun h=>Ht t.steps.length k bs d ae h
   have i:=fun h=>Mm (f:=bs) d h
   have a:=ad (t.steps.getD k (0,0)).1;rw [pF]at a;have pm:=ak (t.steps.getD k (0,0)).1;have l:=ab (Afo (Lj pool (t.steps.getD k (0,0)).1)).m (t.steps.getD k (0,0)).2;have av:=ar (t.steps.getD k (0,0)).1;have ah:=a6 k (t.steps.getD k (0,0)).1;have gt:=a1 k;have aq:=a3 k;have aj:(0:Int)<=(k:Int)/\(k:Int)<=gi.length:=om;generalize t.steps.getD k (0,0)=sp at*;obtain⟨x,y⟩:=sp;simp only at hb ga a pm l av ah;generalize Eb (Afo (Lj pool x)).m=mv at*;refine Ab (Ar (Aa [1,3,5,11,12,13,59,60,61] [3,5,13] (by simp [ga,e]<;>rfl) ?_));refine Ab (Ad (Am 3 sr ?_));refine Ah a func163 ?_;refine Af [1,3,5,11,12,13,14,15,59,60,61] [3,5,13,14] sr ?_;refine Ab (Ab (C5 [(0,[]),(1,[]),(2,[]),(3,[]),(5,[]),(4,[]),(6,[]),(7,[]),(8,[]),(9,[]),(10,[]),(11,[]),(12,[]),(13,[]),(14,[]),(15,[]),(16,[]),(17,[])] Ds kr ?_));refine Cf 7 Go.sr ?_;refine Bu (fun hg=>av) func64 rfl kr rfl rfl sr rfl rfl sr (by simp) sr ?_;refine Cf 8 (by simp [aj,gt]<;>rfl) ?_;refine Bu (fun hg=>ah) func64 rfl kr rfl rfl sr rfl rfl sr (by simp) sr ?_;refine C6 [1,3,5,11,13,14,59,60,61,90] [3,5,13,14] sr ?_
   refine Ao (fun h5=>?_) fun h5=>Ae ?_
   ·refine Aa [6] [] sr ?_;exact Aj (Ac sr (by rw [if_pos (i (by rw [hb];simp at h5|-;exact .inl (by simpa [or_assoc]using h5)))]))
   refine Ab (Ad (Am 4 sr ?_));refine Ah l func164 ?_;refine Af [1,3,5,11,59,60,61,96] [3,5] sr ?_;have ag:(!(Lj pool x).isSome||(!decide (x∈t.elig)||decide (x∈(Hn t.steps).take k)))=false:=by simpa [and_assoc]using h5
   refine Ao (fun h6=>?_) fun h6=>Ae ?_
   ·refine Aa [6] [] sr ?_;exact Aj (Ac sr (by rw [if_pos (i (by rw [hb,ag];simpa using h6))]))
   refine A3 [1,3,5,11,59,60,61] [3,5] (by simp [Dg]<;>rfl) ?_;exact⟨d,aa (by rw [hb,ag];simpa using h6),_,AS.le_refl _⟩
  ·refine Bb ?_;have af:k=t.steps.length:=by simp at h4;omega
   rw [af,Bg (by simp)]at ae;simp only [ae,Fh,if_false];refine Ab (Ab (Ad (Am 8 sr ?_)));refine Db (c:= !decide (t.pend=0)) (fun hg=>ar t.pend) func64 rfl kr sr rfl rfl sr (by simp) sr ?_;refine Am 5 sr ?_;refine Db (c:= !decide (t.pend=0)&&decide (t.pend∈t.elig)) (fun hg=>ao t.pend) func64 rfl kr sr rfl rfl sr (by simp) sr ?_;refine Af [3,5,114] [3,5] sr ?_
   refine Ao (fun h7=>?_) fun h7=>Ae ?_
   ·refine Aa [6] [] sr ?_;exact Aj (Ac sr (by rw [if_pos (by simpa using h7)]))
   rw [if_neg (by simpa using h7)];refine Aa [3,5,16] [3,5] sr ?_;refine Ab (Ab (Ad (Am 12 sr ?_)));refine Np hG (fun hg=>al) func207 rfl kr sr rfl rfl sr (by simp) sr ?_;refine Af [5,129] [5] sr ?_
   refine Ao (fun h8=>?_) fun h8=>Ae ?_
   ·refine Aa [6] [] sr ?_;exact Aj (Ac sr (by rw [if_pos (by simpa [lw,an,Int.natCast_inj]using h8)]))
   rw [if_neg (by simpa [lw,an,Int.natCast_inj]using h8)];refine Aa [6] [] sr ?_;exact Aj (Ac sr (rfl))
def Yr(p:Po)(pool:List Pit)(t:Te):Int:=if Af2 p pool t=false then 1 else if t.stop≠0 then 21 else 0
theorem Anl{p:Po}{pool:List Pit}{t:Te}(a:Af2 p pool t=true)(f:Ku p.g=0)(j:J2 t.w 1000):sumsOk p.g t.w:=by
 unfold Af2 at a
 (repeat' split at a)<;>try(cases a)
 rename_i _ _ _ _ d
 have c:t.w.length=p.g.pts.length/\t.w.any Ank=true:=by
  refine⟨Hh fun h=>d (.inl h),?_⟩
  cases e:t.w.any Ank
  ·exact absurd (.inr e) d
  ·rfl
 refine⟨f,c.1,j,U6.2 ?_⟩;obtain⟨x,i,hp⟩:=Dz.1 c.2;refine⟨x,i,fun e=>?_⟩;subst e;revert hp;simp [Ank,A5h,Cv,bitLen]
theorem Ah7(p:Po)(pool:List Pit)(t:Te)(h:AdP p pool)(ht:teOk t):Hp gv prog 114 [p.v,.ro 9 (Ce pool),t.v] (fun r=>r=.int .i64 (Yr p pool t)):=by
 have c:=O0 p h.ok;have d:=Lz pool p.g.pts.length;have a:=A1u p pool t ht;rw [h.pe]at c;rw [h.le]at d;unfold Yr;generalize Af2 p pool t=fb at*;have f:=A4 p.g.pts;rw [<- f]at d;have u:t.v=.agg [.ro 1 (As t.elig),.ro 2 (A2 t.steps),.int .i64 t.pend,.ro 1 (Bw t.w),.int .u64 t.draw,.int .i64 t.stop]:=rfl;rw [u]at a|-;have ep:p.v=V.agg [.int .i64 p.len,.ro 5 (Ey p.rules),.ro 1 (As p.g.pts),.ro 1 (As p.g.pri),.ro 2 (A2 p.en),.int .i64 p.mn,.bool p.var.num.neg,.ro 1 (Av p.var.num.mag),.ro 1 (Av p.var.den),.int .i64 p.cut,.bool p.lvl.num.neg,.ro 1 (Av p.lvl.num.mag),.ro 1 (Av p.lvl.den),.int .i64 p.top,.bool p.rate.num.neg,.ro 1 (Av p.rate.num.mag),.ro 1 (Av p.rate.den),.int .i64 p.slack]:=rfl;rw [ep]at c a|-;clear ep;have q0:=C2 p.rules;have k:=Ag p.g.pts;have z:=Ag p.g.pri;have y:=A5 p.en;have s:=Ak p.var.num.mag;have q5:=Ak p.var.den;have x:=Ak p.lvl.num.mag;have i:=Ak p.lvl.den;have l:=Ak p.rate.num.mag;have o:=Ak p.rate.den;generalize Ey p.rules=rv,As p.g.pts=pt,As p.g.pri=pr,A2 p.en=ev,Av p.var.num.mag=vm,Av p.var.den=vd,Av p.lvl.num.mag=lm,Av p.lvl.den=ld,Av p.rate.num.mag=rm,Av p.rate.den=rd at*;have s1:=Ag t.elig;have m:=A5 t.steps;have n:=Bv t.w;have s4:=Ca pool;have aa:=Du t.steps;generalize As t.elig=ti,A2 t.steps=ts,Bw t.w=tw,Ce pool=lv at*;refine By func114 fun w0 N0 hG=>?_;refine Aa [1,3,5] [3,5] sr (Ab (Ab (Ad (Am 1 sr ?_))));refine Bq hG c func34 ?_;refine Af [1,3,5,7] [3,5] sr ?_;refine Aa [1,3,5,7,12] [3,5] sr ?_;refine A7 rfl (fun h1=>by simp at h1) (fun h1=>Ae (Ab (Ab (Ad (Am 5 sr ?_)))));refine Bq hG d func35 ?_;refine Af [1,3,5,8] [3,5] sr ?_;refine Aa [1,3,5,8,21] [3,5] sr ?_;refine A7 rfl (fun h2=>by simp at h2) (fun h2=>Ae (Ab (Ab (Ad (Am 3 sr ?_)))));refine Bq hG a func160 ?_;refine Af [5,27] [5] sr ?_
 refine Ao (fun e=>?_) fun e=>Ae ?_
 ·exact Aa [6] [] sr (Aj (Ac sr (by rw [if_pos (by simpa using e)])))
 refine Ab (Aa [30] [] sr ?_)
 refine Ao (fun j=>?_) fun j=>Ae ?_
 ·exact Aa [6] [] sr (Aj (Ac sr (by rw [if_neg (by simpa using e),if_pos (by simpa using j)])))
 exact Aa [6] [] sr (Aj (Ac sr (by rw [if_neg (by simpa using e),if_neg (by simpa using j)])))
def Anm(p:Po)(n:Nat):Nat:=min p.top.toNat n
def Af3(p:Po)(pool:List Pit)(t:Te):Int:=
 if Yr p pool t≠0 then Yr p pool t else if t.pend≠0 then 0 else if(t.steps.length:Int)=p.len then 21
 else if Vh p pool t≠0 then Vh p pool t else if Anm p (Qu p pool t).length=0 then 14 else 0
def T7(p:Po)(pool:List Pit)(t:Te):Te:=
 if t.pend≠0 then t else { t with pend:=(Qu p pool t).getD (Ol t.draw (Anm p (Qu p pool t).length)) 0,draw:=Sq t.draw}
theorem Aem{p:Po}{pool:List Pit}{t:Te}(h:Yr p pool t=0):Af2 p pool t=true/\t.stop=0:=by
 unfold Yr at h
 (repeat' split at h)<;>try omega
 rename_i h1 h2;exact⟨by simpa using h1,by simpa using h2⟩
theorem Ann(p:Po)(pool:List Pit)(t:Te)(h:AdP p pool)(ht:teOk t)(hw:J2 t.w 1000):Hp gv prog 74 [p.v,.ro 9 (Ce pool),t.v] (fun r=>r=teR (Af3 p pool t) (T7 p pool t)):=by
 refine Hp.relaxP ?_;have f:=Ah7 p pool t h ht;have i:=Ahz t ht;have ag:=fun(hc:Yr p pool t=0)=>Anl (Aem hc).1 (Wr h.pe).2.1 hw
 have j:=fun(hc:Yr p pool t=0)=>Ah6 p pool t h (ag hc) ht.sl
 have hb:=(Wr h.pe).2.2.2
 have aq:1<=p.top/\p.top<=5:=by
  unfold A4s at hb;simp only [F3,decide_eq_false_iff_not]at hb;omega
 unfold Af3 T7;have pL:=Ag (Aj6 (Vh p pool t) (Qu p pool t));have u:Vh p pool t=0->Aj6 (Vh p pool t) (Qu p pool t)=Qu p pool t:=fun e=>by unfold Aj6;rw [if_pos e]
 have ah:=fun(l:List Int)(k:Nat)(h:k<l.length)=>Dd (l:=l) h
 generalize aw:Vh p pool t=ce at*;generalize Aj6 ce (Qu p pool t)=a at*;generalize Qu p pool t=L at*;generalize Yr p pool t=ck at*;obtain⟨o,aa⟩:=Cl (show 0<=p.top by omega);have ak:Anm p L.length=min o L.length:=by unfold Anm;rw [aa];rfl
 rw [ak];have s:∀(pd d:Int),Bi (.agg [.ro 1 (As t.elig),.ro 2 (A2 t.steps),.int .i64 pd,.ro 1 (Bw t.w),.int .u64 d,.int .i64 t.stop]) (Te.v { t with pend:=pd,draw:=d}):=fun pd d=>Bi.refl _
 have x:Bi (.agg [.ro 1 (As t.elig),.ro 2 (A2 t.steps),.int .i64 t.pend,.ro 1 (Bw t.w),.int .u64 t.draw,.int .i64 t.stop]) (Te.v t):=Bi.refl _;have ab:t.v=.agg [.ro 1 (As t.elig),.ro 2 (A2 t.steps),.int .i64 t.pend,.ro 1 (Bw t.w),.int .u64 t.draw,.int .i64 t.stop]:=rfl;rw [ab]at f i j;rw [ab];have ep:p.v=V.agg [.int .i64 p.len,.ro 5 (Ey p.rules),.ro 1 (As p.g.pts),.ro 1 (As p.g.pri),.ro 2 (A2 p.en),.int .i64 p.mn,.bool p.var.num.neg,.ro 1 (Av p.var.num.mag),.ro 1 (Av p.var.den),.int .i64 p.cut,.bool p.lvl.num.neg,.ro 1 (Av p.lvl.num.mag),.ro 1 (Av p.lvl.den),.int .i64 p.top,.bool p.rate.num.neg,.ro 1 (Av p.rate.num.mag),.ro 1 (Av p.rate.den),.int .i64 p.slack]:=rfl;rw [ep]at f j|-;clear ep;have q0:=C2 p.rules;have q1:=Ag p.g.pts;have q2:=Ag p.g.pri;have q3:=A5 p.en;have q4:=Ak p.var.num.mag;have q5:=Ak p.var.den;have q6:=Ak p.lvl.num.mag;have y:=Ak p.lvl.den;have q8:=Ak p.rate.num.mag;have q9:=Ak p.rate.den;generalize Ey p.rules=rv at*;generalize As p.g.pts=pt at*;generalize As p.g.pri=pr at*;generalize A2 p.en=ev at*;generalize Av p.var.num.mag=vm at*;generalize Av p.var.den=vd at*;generalize Av p.lvl.num.mag=lm at*;generalize Av p.lvl.den=ld at*;generalize Av p.rate.num.mag=rm at*;generalize Av p.rate.den=rd at*;have s1:=Ag t.elig;have s2:=A5 t.steps;have s3:=Bv t.w;have s4:=Ca pool;have ad:=Du t.steps;generalize As t.elig=ti at*;generalize A2 t.steps=ts at*;generalize Bw t.w=tw at*;generalize Ce pool=lv at*;refine By func74 fun w0 N0 hG=>?_;refine Aa [1,3,5,6] [3,5,6] sr (Ab (Ab (Ad (Am 3 sr ?_))));refine Bq hG f func114 ?_;refine Af [1,3,5,6,8] [3,5,6] sr ?_;refine Aa [1,3,5,6,8,20] [3,5,6] sr ?_
 refine Ao (fun h1=>?_) fun h1=>Ae ?_
 ·exact Aa [6,7] [6] sr (Aj (Ac sr (by rw [if_pos (by simpa using h1)];exact Fq (by simpa using h1) _)))
 have ai:ck=0:=by simpa using h1
 replace j:=j ai;rw [if_neg (by simpa using h1)];refine Ab (Aa [1,3,5,6,25] [3,5,6] sr ?_)
 refine Ao (fun h2=>?_) fun h2=>Ae ?_
 ·refine Ab (Ad (Am 1 sr ?_));refine Ah i func115 ?_;refine Af [6,7] [6] sr ?_;exact Aj (Ac sr (by rw [if_pos (by simpa using h2)];unfold teR;rw [if_pos rfl,if_pos (by simpa using h2)];exact Bi.tup (.cons x (.cons (Bi.refl _) .nil))))
 rw [if_neg (by simpa using h2)];refine Ab (Aa [1,3,5,6,34] [3,5,6] sr ?_)
 refine Ao (fun h3=>?_) fun h3=>Ae ?_
 ·exact Aa [6,7] [6] sr (Aj (Ac sr (by rw [if_pos (by simpa [ad]using h3)];exact Fq dc _)))
 rw [if_neg (by simpa [ad]using h3)];refine Ab (Ad (Am 3 sr ?_));refine Bq hG j func69 ?_;refine Af [3,5,6,9,10] [3,5,6] sr ?_;refine Ab (Aa [3,5,6,9,10,44] [3,5,6] sr ?_)
 refine Ao (fun z=>?_) fun z=>Ae ?_
 ·exact Aa [6,7] [6] sr (Aj (Ac sr (by rw [if_pos (by simpa using z)];exact Fq (by simpa using z) _)))
 have ao:ce=0:=by simpa using z
 rw [if_neg (by simpa using z)];replace u:=u ao;subst u;have an:=ah a;have aj:=A4 a;rw [aa];generalize As a=cv at*;have c:(if cv.length<o then(cv.length:Int)else(o:Int))=((min o a.length:Nat):Int):=by rw [aj];split<;>omega
 refine Aa [5,6,9,11] [5,6] sr (Ab (Aa [5,6,9,11,53] [5,6] sr ?_))
 refine Ao (fun h5=>?_) fun h5=>Ae ?_
 ·exact Aa [6,7] [6] sr (Aj (Ac sr (by rw [c]at h5;rw [if_pos (show min o a.length=0 by simpa using h5)];exact Fq dc _)))
 have am:¬min o a.length=0:=fun e=>by rw [c,e]at h5;simp at h5
 rw [if_neg am,c];have ar:min o a.length<=a.length:=N5 _ _;have ax:min o a.length<=5:=om;generalize min o a.length=m at*;have af:=Azs t.draw m om om;have av:=Ag7 t.draw (n:=m) om;have gk:=an (Ol t.draw m) om;have al:Ol t.draw m<cv.length:=om;have s:=s (a.getD (Ol t.draw m) 0) (Sq t.draw);have ae:(if t.pend≠0 then t else { t with pend:=a.getD (Ol t.draw m) 0,draw:=Sq t.draw})= { t with pend:=a.getD (Ol t.draw m) 0,draw:=Sq t.draw}:=if_neg (by simpa using h2);rw [ae];unfold teR;rw [if_pos rfl];generalize Ol t.draw m=bk at*;generalize a.getD bk 0=au at*;refine Ab (Ad (Am 1 sr ?_));refine Ah i func115 ?_;refine Af [5,6,9,11,12] [5,6,12] sr ?_;refine Ab (Ad (Am 3 sr ?_));refine Ah af func116 ?_;refine Af [6,9,12,13,14] [6,12] sr ?_;refine Aa [6,12] [6,12] (by simp [gk,al]<;>rfl) (Aa [6,7] [6] sr ?_);exact Aj (Ac sr (Bi.tup (.cons s (.cons (Bi.refl _) .nil))))
theorem A8s(t:Te)(g:teOk t):AC prog 78 [t.v] (fun r=>r=teR (if t.stop≠0 then 21 else 0) { t with pend:=0,stop:=4}):=by
 refine AC.relaxP ?_;have a:=Ahz t g;have d:Bi (.agg [.ro 1 (As t.elig),.ro 2 (A2 t.steps),.int .i64 0,.ro 1 (Bw t.w),.int .u64 t.draw,.int .i64 4]) (Te.v { t with pend:=0,stop:=4}):=Bi.refl _;have c:t.v=.agg [.ro 1 (As t.elig),.ro 2 (A2 t.steps),.int .i64 t.pend,.ro 1 (Bw t.w),.int .u64 t.draw,.int .i64 t.stop]:=rfl;rw [c]at a;rw [c];have f:=Ag t.elig;have h:=A5 t.steps;have e:=Bv t.w;generalize As t.elig=ti,A2 t.steps=ts,Bw t.w=tw at*;refine Ax func78 fun w0 N0=>?_;refine Aa [1,2] [1,2] sr (Ab (Aa [1,2,7] [1,2] sr ?_))
 refine Ao (fun h1=>?_) fun h1=>Ae ?_
 ·exact Aa [2,3] [2] sr (Aj (Ac sr (by rw [if_pos (by simpa using h1)];exact Fq dc _)))
 refine Ab (Ad (Am 1 sr ?_));refine Ah a func115 ?_;refine Af [2,4] [2,4] sr ?_;refine Aa [2,4] [2,4] sr ?_;exact Aa [2,3] [2] sr (Aj (Ac sr (by rw [if_neg (by simpa using h1)];unfold teR;rw [if_pos rfl];exact Bi.tup (.cons d (.cons (Bi.refl _) .nil)))))
theorem A1v{p:Po}{pool:List Pit}{t:Te}(c:Af2 p pool t=true):(∀id∈t.elig,(Lj pool id).isSome=true)/\(t.pend≠0->t.pend∈t.elig/\t.pend∉Hn t.steps):=by
 unfold Af2 at c
 (repeat' split at c)<;>try(cases c)
 rename_i h1 _ _ d _
 refine⟨fun id a=>?_,fun g=>?_⟩
 ·obtain⟨k,f,rfl⟩:=Hu.1 a
  cases e:(Lj pool t.elig[k]).isSome
  ·exact absurd (Dz.2 ⟨k,Hv.2 f,by unfold As2;rw [Cp f,e];rfl⟩) h1
  ·rfl
 ·constructor
  ·exact Hh fun h=>d ⟨g,.inl h⟩
  ·exact fun h=>d ⟨g,.inr h⟩
def Om(pool:List Pit)(id:Int):Mo:=(Afo (Lj pool id)).m
theorem A5t{pool:List Pit}{n:Int}{id:Int}(h:Jp pool n=0)(hs:(Lj pool id).isSome=true):Kv (Om pool id) n=0:=by
 obtain⟨x,a⟩:=Cm.1 hs;unfold Om;rw [a];exact(X3 h).2.2 x (List.mem_of_find?_eq_some a)
def Vj(pool:List Pit)(t:Te)(c:Int):List Nat:=Pr (O1 t.w (Om pool t.pend) c.toNat)
def Af4(p:Po)(pool:List Pit)(t:Te)(c:Int):Int:=
 if Yr p pool t≠0 then Yr p pool t else if t.pend=0 then 8 else if Afn (Om pool t.pend) c=false then 3
 else(Avu p (t.steps.length+1) (Vj pool t c)).2
def Qv(p:Po)(pool:List Pit)(t:Te)(c:Int):Te:=
 { elig:=t.elig,steps:=t.steps++[(t.pend,c)],pend:=0,w:=Vj pool t c,draw:=t.draw,stop:=(Avu p (t.steps.length+1) (Vj pool t c)).1}
theorem Ah8{p:Po}{pool:List Pit}{t:Te}{c:Int}(h:AdP p pool)(r:Af2 p pool t=true)(u:t.pend≠0)(i:Afn (Om pool t.pend) c=true){n:Nat}(hn:n<=999)(l:J2 t.w n):
  sumsOk p.g (Vj pool t c)/\J2 (Vj pool t c) (n+1)/\J2 (O1 t.w (Om pool t.pend) c.toNat) (n+1)/\(O1 t.w (Om pool t.pend) c.toNat).length=t.w.length/\Kv (Om pool t.pend) t.w.length=0/\c.toNat<Vb (Om pool t.pend)/\0<=c:=by
 have hs:=Anl r (Wr h.pe).2.1 (fun x d=>Ai (l x d) om);have a:=A1v r;have m:Kv (Om pool t.pend) t.w.length=0:=by rw [hs.len];exact A5t h.le (a.1 _ (a.2 u).1)
 have e:0<=c/\c<Vb (Om pool t.pend):=by unfold Afn at i;simpa using i
 have k:c.toNat<Vb (Om pool t.pend):=om;obtain⟨o,j,s⟩:=A1r m k l hs.pos;have f:=Yq j;exact⟨⟨hs.grid,by unfold Vj;rw [Ab0,o,hs.len],fun x d=>Ai (f x d) om,A1q s⟩,f,j,o,m,k,e.1⟩
theorem Aqv(p:Po)(pool:List Pit)(t:Te)(c:Int)(h:AdP p pool)(ht:teOk t)(hw:J2 t.w 999)(av:t.steps.length<=900):
  Hp gv prog 117 [p.v,.ro 9 (Ce pool),t.v,.int .i64 c] (fun r=>r=teR (Af4 p pool t c) (Qv p pool t c)):=by
 refine Hp.relaxP ?_;have e:=Ah7 p pool t h ht;have i:=Ahy t ht;have f:=Ase pool t.pend;have l:=Asd (Om pool t.pend) c;have ak:=fun(hc:Yr p pool t=0)(h0:t.pend≠0)(hh:Afn (Om pool t.pend) c=true)=>Ah8 h (Aem hc).1 h0 hh (A9 999) hw
 have ar:=ht.wl;have a:=fun h1 h2=>Auz t.w (Om pool t.pend) c.toNat h1 h2 (fun x hx=>Ai (hw x hx) dc)
 have j:=fun h1=>Adh (O1 t.w (Om pool t.pend) c.toNat) h1
 have d:=fun h1=>Aqr p (t.steps.length+1) (Vj pool t c) h.ok h.pe h1
 change∀h1 h2,AC prog 67 _ (fun r=>r=.ro 1 (Bw (Vj pool t c)))at j;unfold Af4 Qv;have pu:=Bv (O1 t.w (Om pool t.pend) c.toNat);have pw:=Bv (Vj pool t c);have pm:=Do (Om pool t.pend);have ag:=Ge (Afo (Lj pool t.pend));rw [ag]at f;change AC _ _ _ (fun r=>r=V.tup [V.agg [_,_,_,_,_,_,_,_,V.ro 1 (Eb (Om pool t.pend))],_])at f;have al:moV (Om pool t.pend)=.agg [.ro 1 (Eb (Om pool t.pend))]:=rfl;rw [al]at l a;have ah:A2 t.steps++[V.agg [.int .i64 t.pend,.int .i64 c]]=A2 (t.steps++[(t.pend,c)]):=by simp [A2]
 have ab:=A5 (t.steps++[(t.pend,c)]);have aj:∀st:Int,Bi (.agg [.ro 1 (As t.elig),.ro 2 (A2 (t.steps++[(t.pend,c)])),.int .i64 0,.ro 1 (Bw (Vj pool t c)),.int .u64 t.draw,.int .i64 st]) (Te.v { elig:=t.elig,steps:=t.steps++[(t.pend,c)],pend:=0,w:=Vj pool t c,draw:=t.draw,stop:=st}):=fun st=>Bi.refl _
 have ai:t.steps.length+1<=maxLen/\(t.steps.length+1)*16<=140737488355328:=by unfold maxLen;omega
 generalize(Avu p (t.steps.length+1) (Vj pool t c))=rs,Bw (Vj pool t c)=rwv,Bw (O1 t.w (Om pool t.pend) c.toNat)=uv,Eb (Om pool t.pend)=mv,Afn (Om pool t.pend) c=hb,Yr p pool t=ck at*;unfold teV at i;have aa:t.v=.agg [.ro 1 (As t.elig),.ro 2 (A2 t.steps),.int .i64 t.pend,.ro 1 (Bw t.w),.int .u64 t.draw,.int .i64 t.stop]:=rfl;rw [aa]at e i;rw [aa];have ep:p.v=V.agg [.int .i64 p.len,.ro 5 (Ey p.rules),.ro 1 (As p.g.pts),.ro 1 (As p.g.pri),.ro 2 (A2 p.en),.int .i64 p.mn,.bool p.var.num.neg,.ro 1 (Av p.var.num.mag),.ro 1 (Av p.var.den),.int .i64 p.cut,.bool p.lvl.num.neg,.ro 1 (Av p.lvl.num.mag),.ro 1 (Av p.lvl.den),.int .i64 p.top,.bool p.rate.num.neg,.ro 1 (Av p.rate.num.mag),.ro 1 (Av p.rate.den),.int .i64 p.slack]:=rfl;rw [ep]at e d|-;clear ep;have q0:=C2 p.rules;have s:=Ag p.g.pts;have q2:=Ag p.g.pri;have q3:=A5 p.en;have q4:=Ak p.var.num.mag;have q5:=Ak p.var.den;have q6:=Ak p.lvl.num.mag;have m:=Ak p.lvl.den;have n:=Ak p.rate.num.mag;have z:=Ak p.rate.den;generalize Ey p.rules=rv,As p.g.pts=pt,As p.g.pri=pr,A2 p.en=ev,Av p.var.num.mag=vm,Av p.var.den=vd,Av p.lvl.num.mag=lm,Av p.lvl.den=ld,Av p.rate.num.mag=rm,Av p.rate.den=rd at*;have s1:=Ag t.elig;have u:=A5 t.steps;have y:=Bv t.w;have s4:=Ca pool;have am:=Du t.steps;generalize As t.elig=ti,A2 t.steps=ts,Bw t.w=tw,Ce pool=lv at*;refine By func117 fun w0 N0 hG=>?_;refine Aa [1,3,4,6,8] [4,6,8] sr (Ab (Ab (Ad (Am 3 sr ?_))));refine Bq hG e func114 ?_;refine Af [1,3,4,6,8,10] [4,6,8] sr ?_;refine Aa [1,3,4,6,8,10,21] [4,6,8] sr ?_
 refine Ao (fun h1=>?_) fun h1=>Ae ?_
 ·exact Aa [8,9] [8] sr (Aj (Ac sr (by rw [if_pos (by simpa using h1)];exact Fq (by simpa using h1) _)))
 have af:ck=0:=by simpa using h1
 rw [if_neg (by simpa using h1)];refine Ab (Aa [1,3,4,6,8,26] [4,6,8] sr ?_)
 refine Ao (fun h2=>?_) fun h2=>Ae ?_
 ·exact Aa [8,9] [8] sr (Aj (Ac sr (by rw [if_pos (by simpa using h2)];exact Fq dc _)))
 rw [if_neg (by simpa using h2)];refine Ab (Ad (Am 3 sr ?_));refine Ah f func163 ?_;refine Af [3,4,6,8,11] [4,6,8,11] sr ?_;refine Ab (Ab (Ad (Am 3 sr ?_)));refine Ah l func164 ?_;refine Af [3,4,6,8,11,39] [4,6,8,11] sr ?_
 refine Ao (fun h3=>?_) fun h3=>Ae ?_
 ·exact Aa [8,9] [8] sr (Aj (Ac sr (by rw [if_pos (by simpa using h3)];exact Fq dc _)))
 have ae:hb=true:=by simpa using h3
 rw [if_neg (by simpa using h3)];obtain⟨r1,r2,r3,r4,r5,r6,r7⟩:=ak af (show t.pend≠0 by simpa using h2) ae;replace a:=a r5 r6;replace j:=j (fun x hx=>Ai (r3 x hx) dc) om;replace d:=d r1;have an:((c.toNat:Nat):Int)=c:=om;rw [an]at a;refine Ab (Ad (Am 5 sr ?_));refine Ah a func165 ?_;refine Af [3,4,6,8,13,14] [4,6,8] sr ?_;refine Ab (Aa [3,4,6,8,13,14,51] [4,6,8] sr ?_);refine A7 rfl (fun h4=>by simp at h4) (fun h4=>Ae (Ab (Ad (Am 1 sr ?_))));refine El i func161 rfl kr rfl rfl rfl sr (fun k o hk=>by cases hk) ?_ fun ch ad=>ad.elim;rintro r ao au⟨y1,y2,rfl,rfl⟩aq;refine⟨fun k hk=>rfl,_,by simp<;>rfl,?_⟩;refine Af [3,4,6,8,13,15] [4,6,8,15,18,101] sr ?_;refine Aa [4,8,13,15] [4,8,15,101] (by simp [am,ai]<;>rfl) ?_;rw [ah];refine Bp 101 [4,8,13,15] [4,8,15] (by simp [ab]<;>rfl) (Ab (Ad (Am 1 sr ?_)));refine Ah j func67 ?_;refine Af [4,8,15] [4,8,15] sr ?_;refine Aa [4,8,15] [4,8,15] sr (Ab (Ad (Am 6 sr ?_)));refine Bq hG d func166 ?_;refine Af [8,14,15] [8,15] sr ?_;refine Ab (Aa [8,14,15,81] [8,15,63] sr ?_)
 refine Ao (fun h5=>?_) fun h5=>Ae ?_
 ·refine Aa [8,9] [8] sr ?_;exact Aj (Ac sr (Fq (by simpa using h5) _))
 refine Aa [8,9] [8] sr ?_;exact Aj (Ac sr ((fun h6:rs.2=0=>(by unfold teR;rw [h6,if_pos rfl];exact Bi.tup (.cons (aj rs.1) (.cons (Bi.refl _) .nil)):Bi _ _)) (by simpa using h5)))
def Aen(nu de ex:Int):Int:=if de<1\/100<de then 3 else if nu<de\/4*de<nu then 3 else if ex<0\/86400<ex then 3 else 0
theorem Aa0(nu de ex:Int):AC prog 27 [.agg [.int .i64 nu,.int .i64 de,.int .i64 ex]] (fun r=>r=.int .i64 (Aen nu de ex)):=by
 unfold Aen;refine Ax func27 fun w0 N0=>?_;refine Aa [1] [1] sr (Ab (Aa [1,10] [1] sr ?_))
 refine Ao (fun h1=>?_) fun h1=>Ae ?_
 ·exact Aa [2] [] sr (Aj (Ac sr (by rw [if_pos (by simpa using h1)])))
 rw [if_neg (by simpa using h1)];have hd:1<=de/\de<=100:=by simp at h1;omega
 have c:IntKind.i64.wrap (4*de)=4*de:=Bh om om;refine Ab (Aa [1,23] [1] (by simp [c]<;>rfl) ?_)
 refine Ao (fun h2=>?_) fun h2=>Ae ?_
 ·exact Aa [2] [] sr (Aj (Ac sr (by rw [if_pos (by simpa using h2)])))
 rw [if_neg (by simpa using h2)];refine Ab (Aa [31] [] sr ?_)
 refine Ao (fun a=>?_) fun a=>Ae ?_
 ·exact Aa [2] [] sr (Aj (Ac sr (by rw [if_pos (by simpa using a)])))
 exact Aa [2] [] sr (Aj (Ac sr (by rw [if_neg (by simpa using a)])))
def Aj7(sc nu de ex:Int):Int:=if Aen nu de ex≠0\/sc<0\/9999999<sc then 3 else 0
def Aj8(sc nu de ex:Int):Int:=if Aj7 sc nu de ex≠0 then 0 else(sc*nu+de-1)/de+ex
theorem A5u{nu de ex:Int}(h:Aen nu de ex=0):(1<=de/\de<=100)/\(de<=nu/\nu<=4*de)/\0<=ex/\ex<=86400:=by
 unfold Aen at h
 (repeat' split at h)<;>omega
theorem A1w{sc nu de ex:Int}(h:Aj7 sc nu de ex=0):0<=sc*nu+de-1/\sc*nu+de-1<=4000000099/\0<=sc*nu/\(0<=(sc*nu+de-1)/de/\(sc*nu+de-1)/de<=4000000099)/\1<=de/\0<=ex/\ex<=86400:=by
 unfold Aj7 at h
 split at h
 ·omega
 rename_i h2;have c:Aen nu de ex=0:=Hh fun e=>h2 (.inl e)
 have hs:0<=sc/\sc<=9999999:=by
  constructor
  ·exact Hh fun e=>h2 (.inr (.inl om))
  ·exact Hh fun e=>h2 (.inr (.inr om))
 obtain⟨a,h4,d⟩:=A5u c;have f:0<=sc*nu:=Int.mul_nonneg hs.1 om;have m2:sc*nu<=9999999*400:=Int.mul_le_mul hs.2 om om om;refine⟨by omega,by omega,f,⟨Int.ediv_nonneg om om,?_⟩,a.1,d⟩;exact Int.le_trans (Int.ediv_le_self _ om) om
theorem A1x(sc nu de ex:Int):AC prog 17 [.int .i64 sc,.agg [.int .i64 nu,.int .i64 de,.int .i64 ex]] (fun r=>r=.tup [.int .i64 (Aj8 sc nu de ex),.int .i64 (Aj7 sc nu de ex)]):=by
 have e:=Aa0 nu de ex;have d:=A1w (sc:=sc) (nu:=nu) (de:=de) (ex:=ex);have a:Aj7 sc nu de ex=if Aen nu de ex≠0\/sc<0\/9999999<sc then 3 else 0:=rfl
 unfold Aj8;generalize Aj7 sc nu de ex=le,Aen nu de ex=ae at*;refine Ax func17 fun w0 N0=>?_;refine Aa [0,3] [3] sr (Ab (Ab (Ad (Am 1 sr ?_))));refine Ah e func27 ?_;refine Af [0,3,16] [3] sr ?_
 refine Ao (fun h1=>?_) fun h1=>Ae ?_
 ·exact Aa [4,5] [] sr (Aj (Ac sr (by rw [a.trans (if_pos (by simpa [or_assoc]using h1))];rfl)))
 rw [if_neg (by simpa [or_assoc,and_assoc]using h1)]at a;subst a;obtain⟨k,b2,b3,b4,b5,b6⟩:=d rfl;have j:IntKind.i64.wrap (sc*nu)=sc*nu:=Bh om om;have g:IntKind.i64.wrap (sc*nu+de)=sc*nu+de:=Bh om om;have l:IntKind.i64.wrap (sc*nu+de-1)=sc*nu+de-1:=Bh om om;have f:(sc*nu+de-1).tdiv de=(sc*nu+de-1)/de:=Int.tdiv_eq_ediv_of_nonneg k;have h:IntKind.i64.wrap ((sc*nu+de-1)/de)=(sc*nu+de-1)/de:=Bh om om;have i:IntKind.i64.wrap ((sc*nu+de-1)/de+ex)=(sc*nu+de-1)/de+ex:=Bh om om;have c:¬de=0:=om;refine Dq [(0,[]),(1,[]),(4,[]),(8,[]),(11,[]),(2,[]),(3,[]),(5,[]),(6,[]),(7,[]),(9,[]),(10,[]),(12,[]),(13,[]),(14,[]),(15,[])] [4,5] [] Ds kr (by simp [j,g,l,f,h,i,c]<;>rfl) ?_;exact Aj (Ac sr sm)
def A5v(a us:Int):Int:=N9 (IntKind.i64.wrap (N9 a-N9 us))
structure In4 where
 ki:Int
 ti:Int
 lo:Int
 gr:Int
def In4.v(i:In4):V:=.agg [.int .i64 i.ki,.int .i64 i.ti,.int .i64 i.lo,.int .i64 i.gr]
def Dt(l:List In4):List V:=l.map In4.v
@[simp]theorem F6(l:List In4):(Dt l).length=l.length:=by simp [Dt]
theorem Z8{l:List In4}{k:Nat}(h:k<l.length):G8 (Dt l) k=some l[k].v:=by rw [C0];simp [Dt,h]
theorem Ec(l:List In4):(Dt l).all V.pureE=true:=by
 rw [Aw];intro x a;simp only [Dt,Bm]at a;obtain⟨n,_,rfl⟩:=a;rfl
def O3(i:In4):Int:=
 if i.ki<1\/6<i.ki then 1
 else if i.ti<0\/1099511627776<i.ti\/i.lo<0\/86400<i.lo\/i.gr<0\/3<i.gr then 3 else 0
theorem Aa1(i:In4):AC prog 54 [i.v] (fun r=>r=.int .i64 (O3 i)):=by
 obtain⟨ki,ti,lo,gr⟩:=i;unfold O3 In4.v;simp only;refine Ax func54 fun w0 N0=>?_;refine Aa [1] [1] sr (Ab (Aa [1,10] [1] sr ?_))
 refine Ao (fun h1=>?_) fun h1=>Ae ?_
 ·exact Aa [2] [] sr (Aj (Ac sr (by rw [if_pos (by simpa using h1)])))
 rw [if_neg (by simpa using h1)];refine Ab (Aa [38] [] sr ?_)
 refine Ao (fun h2=>?_) fun h2=>Ae ?_
 ·exact Aa [2] [] sr (Aj (Ac sr (by rw [if_pos (by simpa [or_assoc]using h2)])))
 exact Aa [2] [] sr (Aj (Ac sr (by rw [if_neg (by simpa [or_assoc,and_assoc]using h2)])))
def Aba(l:List In4):Int:=if 300<l.length then 5 else Kt O3 l
theorem Ano(l:List In4):AC prog 28 [.ro 4 (Dt l)] (fun r=>r=.int .i64 (Aba l)):=by
 have s:=Aa1;have w:=fun(k:Nat)(h:k<l.length)=>Z8 h
 have u:=F6 l;have pl:=Ec l;have n:=fun(k:Nat)(h:k<l.length)=>Nt O3 h
 unfold Aba;generalize Dt l=j at*;refine Ax func28 fun w0 N0=>?_;refine Aa [0] [] sr (Ab (Aa [0,8] [] sr ?_))
 refine Ao (fun h1=>?_) fun h1=>Ae ?_
 ·exact Aa [2] [] sr (Aj (Ac sr (by rw [if_pos (by simp [u]at h1;omega)])))
 have m:¬300<l.length:=by simp [u]at h1;omega
 rw [if_neg m];refine Ab (Aa [9,10,11] [] sr (Ar (Br (fun k nx=>⟨[(9,V.ro 4 j),(10,V.int .i64 j.length),(11,V.int .i64 k)],[],nx,21⟩) (fun k=>Kt O3 (l.drop k)=Kt O3 l) l.length _ rfl (AS.le_refl _) ?_)));intro k nx hk d;refine Aa [9,10,11,12] [] sr (Ab ?_)
 refine Ao (fun h2=>Ae ?_) fun h2=>?_
 ·have c:k<l.length:=by simp at h2;omega
  have e:k<j.length:=om;have t:=w k c;have o:=n k c;have a:=s l[k];have Dg:=A6 (k:=k) om;rw [o]at d;unfold In4.v at t a;generalize l[k]=i at*;refine Ab (Ar (Aa [4,9,10,11] [4] (by simp [t,e]<;>rfl) (Ab (Ad (Am 1 sr ?_)))));refine Ah a func54 ?_;refine Af [5,9,10,11] [] sr ?_;refine Aa [5,9,10,11,18] [] sr ?_
  refine Ao (fun f=>?_) fun f=>Ae ?_
  ·exact Aa [2] [] sr (Aj (Ac sr (by rw [<- d,if_pos (by simpa using f)])))
  rw [if_neg (by simpa using f)]at d;refine A3 [9,10,11] [] (by simp [Dg]<;>rfl) ?_;exact⟨c,d,_,AS.le_refl _⟩
 ·refine Bb ?_;have g:k=l.length:=by simp at h2;omega
  rw [g,Cd]at d;exact Aa [2] [] sr (Aj (Ac sr (by rw [<- d];rfl)))
def Mn(l:List In4):Nat->Int
 |0=>0
 |k+1=>if(l.getD k ⟨0,0,0,0⟩).ki=1\/(l.getD k ⟨0,0,0,0⟩).ki=2\/(l.getD k ⟨0,0,0,0⟩).ki=3 then IntKind.i64.wrap (Mn l k+(l.getD k ⟨0,0,0,0⟩).lo)else Mn l k
def Rl(l:List In4)(a:Int):Int:=if Aba l≠0 then 0 else if N9 a<Mn l l.length then N9 a else Mn l l.length
theorem A5w(l:List In4)(a:Int):AC prog 18 [.ro 4 (Dt l),.int .i64 a] (fun r=>r=.tup [.int .i64 (Rl l a),.int .i64 (Aba l)]):=by
 have n:=Ano l;have w:∀k,k<l.length->G8 (Dt l) k=some (l.getD k ⟨0,0,0,0⟩).v:=fun(k:Nat)(h:k<l.length)=>by rw [Cp h];exact Z8 h
 have lq:=F6 l;have pl:=Ec l;have j:Aba l=0->l.length<=300:=fun h=>by unfold Aba at h;split at h;omega;omega
 have s:∀k,Mn l (k+1)=if(l.getD k ⟨0,0,0,0⟩).ki=1\/(l.getD k ⟨0,0,0,0⟩).ki=2\/(l.getD k ⟨0,0,0,0⟩).ki=3 then IntKind.i64.wrap (Mn l k+(l.getD k ⟨0,0,0,0⟩).lo)else Mn l k:=fun k=>rfl
 have o:Mn l 0=0:=rfl;unfold Rl;generalize Mn l=x,Aba l=y,Dt l=m at*;refine Ax func18 fun w0 N0=>?_;refine Aa [0,1] [] sr (Ab (Ab (Ad (Am 1 sr ?_))));refine Ah n func28 ?_;refine Af [0,1,6] [] sr ?_;refine Aa [0,1,6,13] [] sr ?_
 refine Ao (fun h1=>?_) fun h1=>Ae ?_
 ·exact Aa [4,5] [] sr (Aj (Ac sr (by rw [if_pos (by simpa using h1)])))
 have f:y=0:=by simpa using h1
 have z:=j f;rw [if_neg (by simpa using h1)];refine Aa [0,1,7] [] sr (Ab (Aa [1,7,15,16,17] [] sr (Ar (Br (fun k nx=>⟨[(1,V.int .i64 a),(7,V.int .i64 (x k)),(15,V.ro 4 m),(16,V.int .i64 m.length),(17,V.int .i64 k)],[],nx,43⟩) (fun k=>True) l.length _ trivial (by simp only [o];exact AS.le_refl _) ?_))));intro k nx hk hI;refine Aa [1,7,15,16,17,18] [] sr (Ab ?_)
 refine Ao (fun h2=>Ae ?_) fun h2=>?_
 ·have c:k<l.length:=by simp at h2;omega
  have e:k<m.length:=om;have u:=w k c;have d:=s k;have Dg:=A6 (k:=k) om;unfold In4.v at u;generalize l.getD k ⟨0,0,0,0⟩=i at*;refine Ab (Ar (Aa [1,7,9,15,16,17] [9] (by simp [u,e]<;>rfl) (Aa [1,7,9,15,16,17,33] [9] sr ?_)))
  refine Ao (fun g=>?_) fun g=>Ae ?_
  ·refine A3 [1,7,15,16,17] [] sr (A3 [1,7,15,16,17] [] (by simp [Dg]<;>rfl) ?_);exact⟨c,trivial,_,by rw [d,if_pos (by simpa [or_assoc]using g)];exact AS.le_refl _⟩
  refine A3 [1,7,15,16,17] [] (by simp [Dg]<;>rfl) ?_;exact⟨c,trivial,_,by rw [d,if_neg (by simpa [or_assoc,and_assoc]using g)];exact AS.le_refl _⟩
 ·refine Bb ?_;have t:k=l.length:=by simp at h2;omega
  subst t;exact Aa [4,5] [] sr (Aj (Ac sr (by unfold N9;simp [f])))
structure It where
 id:Int
 ver:Int
 kind:Int
 stem:List UInt8
 opts:List (List UInt8)
 ch:List Int
 val:Int
 tol:Int
 txts:List (List UInt8)
 pts:Int
 code:List UInt8
 fam:Int
 set:Int
 wo:Int
 se:Int
 ass:List Int
 rub:Int
def Ed(l:List (List UInt8)):List V:=l.map V.str
@[simp]theorem Eu(l:List (List UInt8)):(Ed l).length=l.length:=by simp [Ed]
theorem Ys{l:List (List UInt8)}{k:Nat}(h:k<l.length):G8 (Ed l) k=some (.str (l.getD k [])):=by rw [C0,Cp h];simp [Ed,h]
theorem Cw(l:List (List UInt8)):(Ed l).all V.pureE=true:=by
 rw [Aw];intro x a;simp only [Ed,Bm]at a;obtain⟨n,_,rfl⟩:=a;rfl
def It.v(it:It):V:=V.agg [.int .i64 it.id,.int .i64 it.ver,.int .i64 it.kind,.str it.stem,.ro 1 (Ed it.opts),.ro 1 (As it.ch),.int .i64 it.val,.int .i64 it.tol,.ro 1 (Ed it.txts),.int .i64 it.pts,.str it.code,.int .i64 it.fam,.int .i64 it.set,.int .i64 it.wo,.int .i64 it.se,.ro 1 (As it.ass),.int .i64 it.rub]
def Jv(n c a:Int):Bool:=decide (c<=n)&&decide (n<=a)
theorem Pv(n c a:Int):AC prog 93 [.int .i64 n,.int .i64 c,.int .i64 a] (fun r=>r=.bool (Jv n c a)):=by
 unfold Jv;refine Ax func93 fun w0 N0=>?_;refine Aa [0,1,2] [] sr ?_;exact Aa [6] [] sr (Aj (Ac sr rf))
def As3(it:It):Bool:=
 Jv it.id 1 9999999&&Jv it.ver 1 50&&Jv it.pts 1 5&&Jv it.wo 0 2000&&Jv it.se 1 2000&&Jv it.fam 0 9999999&&Jv it.set 0 9999999&&Jv it.rub 0 9999999
theorem A5x(it:It):AC prog 92 [it.v] (fun r=>r=.bool (As3 it)):=by
 have a:=Pv;unfold As3;have d:it.v=V.agg [.int .i64 it.id,.int .i64 it.ver,.int .i64 it.kind,.str it.stem,.ro 1 (Ed it.opts),.ro 1 (As it.ch),.int .i64 it.val,.int .i64 it.tol,.ro 1 (Ed it.txts),.int .i64 it.pts,.str it.code,.int .i64 it.fam,.int .i64 it.set,.int .i64 it.wo,.int .i64 it.se,.ro 1 (As it.ass),.int .i64 it.rub]:=rfl;rw [d];have i1:=Cw it.opts;have i2:=Ag it.ch;have i3:=Cw it.txts;have i4:=Ag it.ass;have e:=Eu it.opts;have g:=A4 it.ch;have f:=Eu it.txts;have m:=A4 it.ass;generalize Ed it.opts=k,As it.ch=h,Ed it.txts=n,As it.ass=av at*;have j:k= []↔it.opts= []:=by rw [<- Aq,e,Aq]
 have i:h= []↔it.ch= []:=by rw [<- Aq,g,Aq]
 have l:n= []↔it.txts= []:=by rw [<- Aq,f,Aq]
 generalize Jv=wi at*;refine Ax func92 fun w0 N0=>?_;refine Aa [1] [1] sr (Ab (Ad (Am 2 sr ?_)));refine Ah (a it.id 1 9999999) func93 ?_;refine Am 3 sr ?_;refine Db (fun c=>a it.ver 1 50) func93 rfl kr sr rfl rfl sr sm sr ?_;refine Am 4 sr ?_;refine Db (fun c=>a it.pts 1 5) func93 rfl kr sr rfl rfl sr sm sr ?_;refine Am 4 sr ?_;refine Db (fun c=>a it.wo 0 2000) func93 rfl kr sr rfl rfl sr sm sr ?_;refine Am 4 sr ?_;refine Db (fun c=>a it.se 1 2000) func93 rfl kr sr rfl rfl sr sm sr ?_;refine Am 4 sr ?_;refine Db (fun c=>a it.fam 0 9999999) func93 rfl kr sr rfl rfl sr sm sr ?_;refine Am 4 sr ?_;refine Db (fun c=>a it.set 0 9999999) func93 rfl kr sr rfl rfl sr sm sr ?_;refine Am 4 sr ?_;refine Db (fun c=>a it.rub 0 9999999) func93 rfl kr sr rfl rfl sr sm sr ?_;refine Af [2] [] sr ?_;exact Aj (Ac sr (rfl))
def prb(b:UInt8):Bool:=decide (32<=b.toNat)&&decide (b.toNat<=126)
def prB(s:List UInt8)(a:Int):Bool:=s.all prb&&decide ((1:Int)<=s.length)&&decide ((s.length:Int)<=a)
theorem Aqw(s:List UInt8)(a:Int)(hs:s.length<=4000000000):AC prog 137 [.str s,.int .i64 a] (fun r=>r=.bool (prB s a)):=by
 unfold prB;refine Ax func137 fun w0 N0=>?_;refine Aa [0,1] [] sr (Ab (Aa [0,1,5] [] sr (Ar (Br (fun k nx=>⟨[(0,V.str s),(1,V.int .i64 a),(5,V.int .i64 k)],[],nx,31⟩) (fun k=>(s.take k).all prb=true) s.length _ sm (AS.le_refl _) ?_))));intro k nx hk i;refine Ab (Aa [0,1,5,9] [] sr ?_)
 refine Ao (fun h1=>Ae ?_) fun h1=>?_
 ·have c:k<s.length:=by simp at h1;omega
  have Dg:=A6 (k:=k) om;have j:G8 s k=some s[k]:=by rw [C0];simp [c]
  have g:prb s[k]=true->(s.take (k+1)).all prb=true:=fun h=>by rw [A1 c,H8,i];simp [h]
  have f:prb s[k]=false->s.all prb=false:=fun h=>by rw [I4];exact⟨s[k],Az c,by rw [h];simp⟩
  have d:prb s[k]=(decide (32<=s[k].toNat)&&decide (s[k].toNat<=126)):=rfl;generalize s[k]=b at*;refine Ab (Ar (Aa [0,1,5,21] [] (by simp [c,j]<;>rfl) ?_))
  refine Ao (fun h2=>?_) fun h2=>Ae ?_
  ·exact Aa [4] [] sr (Aj (Ac sr (by rw [f (by rw [d];simp at h2|-;omega)];rfl)))
  refine A3 [0,1,5] [] (by simp [Dg]<;>rfl) ?_;exact⟨c,g (by rw [d];simp at h2|-;omega),_,AS.le_refl _⟩
 ·refine Bb ?_;have e:k=s.length:=by simp at h1;omega
  rw [e,Bl]at i;exact Aa [4] [] sr (Aj (Ac sr (by rw [i];simp)))
def A1y(l:List Int)(c a:Int)(k:Nat):Bool:= !Jv (l.getD k 0) c a||(decide (0<k)&&decide (l.getD k 0<=l.getD (k-1) 0))
def Anp(l:List Int)(c a:Int):Bool:= !(List.range l.length).any (A1y l c a)
theorem Aqx(l:List Int)(e d:Int)(hl:l.length<=4000000000):AC prog 97 [.ro 1 (As l),.int .i64 e,.int .i64 d] (fun r=>r=.bool (Anp l e d)):=by
 have ad:=fun n=>Pv n e d
 have qe:=fun(k:Nat)(h:k<l.length)=>Dd h
 have le:=A4 l;have pl:=Ag l;unfold Anp;have ab:∀k,A1y l e d k=(!Jv (l.getD k 0) e d||(decide (0<k)&&decide (l.getD k 0<=l.getD (k-1) 0))):=fun k=>rfl
 generalize As l=s,A1y l e d=u at*;refine Ax func97 fun w0 N0=>?_;refine Aa [0,1,2] [] sr (Ab (Aa [0,1,2,9,10,11] [] sr (Ar (Br (fun k nx=>⟨[(0,V.ro 1 s),(1,V.int .i64 e),(2,V.int .i64 d),(9,V.ro 1 s),(10,V.int .i64 s.length),(11,V.int .i64 k)],[],nx,35⟩) (fun k=>((List.range l.length).take k).any u=false) l.length _ sm (AS.le_refl _) ?_))));intro k nx hk hI;refine Aa [0,1,2,9,10,11,12] [] sr (Ab ?_)
 refine Ao (fun h1=>Ae ?_) fun h1=>?_
 ·have c:k<l.length:=by simp at h1;omega
  have t:k<s.length:=om;have ga:=qe k c;have hb:=ab k;have Dg:=A6 (k:=k) om;have o:=fun h=>Ht l.length k u c hI h
  have i:=fun h=>Mm (f:=u) c h
  have z:∀j,k=j+1->u k=(!Jv (l.getD k 0) e d||decide (l.getD k 0<=l.getD j 0)):=fun j hj=>by rw [hb,hj];simp
  generalize l.getD k 0=x at*;have a:=ad x;refine Ab (Ar (Aa [0,1,2,7,8,9,10,11] [] (by simp [ga,t]<;>rfl) ?_))
  cases hfd:Jv x e d
  ·rw [hfd]at a;refine Ab (Ad (Am 3 sr ?_));refine Ah a func93 ?_;refine Am 2 sr ?_;refine Mh 11 sr ?_;refine Af [0,1,2,9,10,11,33] [] sr ?_;refine A7 rfl (fun h2=>?_) (fun h2=>by simp at h2);exact Aa [6] [] sr (Aj (Ac sr (by rw [i (by rw [hb,hfd];rfl)];rfl)))
  rw [hfd]at a
  rcases k with _ |j
  ·refine Ab (Ad (Am 3 sr ?_));refine Ah a func93 ?_;refine Am 5 sr ?_;refine Mh 7 sr ?_;refine Af [0,1,2,9,10,11,33] [] sr ?_;refine A7 rfl (fun h2=>by simp at h2) fun h2=>Ae (A3 [0,1,2,9,10,11] [] Go.sr ?_);exact⟨c,o (by rw [hb,hfd];simp),_,AS.le_refl _⟩
  ·have gp:=qe j om;have aa:j<s.length:=om;have w:IntKind.i64.wrap (((j+1:Nat):Int)-1)=(j:Int):=by rw [Bh om Go.om];omega
   have m:IntKind.i64.wrap (j:Int)=(j:Int):=Bh om om;have g:=z j rfl;generalize l.getD j 0=y at*;refine Ab (Ad (Am 3 sr ?_));refine Ah a func93 ?_;refine Af [0,1,2,9,10,11,33] [] (by simp [gp,aa,m,-Int.natCast_add]<;>rfl) ?_
   refine Ao (fun h2=>?_) fun h2=>Ae ?_
   ·exact Aa [6] [] sr (Aj (Ac sr (by rw [i (by rw [g,hfd];simpa using h2)];rfl)))
   have Pm:IntKind.i64.wrap ((j:Int)+1+1)=((j+1+1:Nat):Int):=by rw [Bh om Go.om];omega
   refine A3 [0,1,2,9,10,11] [] (by simp [Pm,-Int.natCast_add]<;>rfl) ?_;exact⟨c,o (by rw [g,hfd];simpa using h2),_,AS.le_refl _⟩
 ·refine Bb ?_;have ae:k=l.length:=by simp at h1;omega
  rw [ae,Bg (by simp)]at hI;exact Aa [6] [] sr (Aj (Ac sr (by rw [hI];rfl)))
def As4(it:It):Bool:=
 if 3<it.kind/\(it.opts≠ []\/it.ch≠ [])then false
 else if it.kind≠4/\(it.val≠0\/it.tol≠0)then false
 else(decide (it.kind=5)||decide (it.txts= []))&&(decide (it.kind=6)||decide (it.rub=0))
theorem A5y(it:It):AC prog 95 [it.v] (fun r=>r=.bool (As4 it)):=by
 unfold As4;have d:it.v=V.agg [.int .i64 it.id,.int .i64 it.ver,.int .i64 it.kind,.str it.stem,.ro 1 (Ed it.opts),.ro 1 (As it.ch),.int .i64 it.val,.int .i64 it.tol,.ro 1 (Ed it.txts),.int .i64 it.pts,.str it.code,.int .i64 it.fam,.int .i64 it.set,.int .i64 it.wo,.int .i64 it.se,.ro 1 (As it.ass),.int .i64 it.rub]:=rfl;rw [d];have i1:=Cw it.opts;have i2:=Ag it.ch;have i3:=Cw it.txts;have i4:=Ag it.ass;have f:=Eu it.opts;have h:=A4 it.ch;have g:=Eu it.txts;have j:=A4 it.ass;generalize Ed it.opts=k,As it.ch=i,Ed it.txts=l,As it.ass=av at*;have c:k= []↔it.opts= []:=by rw [<- Aq,f,Aq]
 have a:i= []↔it.ch= []:=by rw [<- Aq,h,Aq]
 have e:l= []↔it.txts= []:=by rw [<- Aq,g,Aq]
 refine Ax func95 fun w0 N0=>?_;refine Aa [1] [1] sr (Ab (Aa [1,17] [1] sr ?_))
 refine Ao (fun h1=>?_) fun h1=>Ae ?_
 ·exact Aa [2] [] sr (Aj (Ac sr (by rw [if_pos (by simpa [Em,c,a]using h1)])))
 rw [if_neg (by simpa [Em,c,a]using h1)];refine Ab (Aa [1,30] [1] sr ?_)
 refine Ao (fun h2=>?_) fun h2=>Ae ?_
 ·exact Aa [2] [] sr (Aj (Ac sr (by rw [if_pos (by simpa using h2)])))
 rw [if_neg (by simpa using h2)];exact Aa [2] [] sr (Aj (Ac sr (by simp [e])))
section
open Go.RowKit Go.Sort Go.Lib
def Avz(s:List UInt8)(a b:UInt8):List UInt8:=Lib.replaceAll s [a] [b]
theorem A1z(s:List UInt8)(a b:UInt8)(hs:s.length<4294967281):Hp gv prog 138 [.str s,.str [a],.str [b]] (fun r=>r=.str (Avz s a b)):=by
 intro w N xs g _ h hp
 obtain⟨x,y,z,rfl,d,f,c⟩:∃x y z,xs= [x,y,z]/\Pur w N x (.str s)/\Pur w N y (.str [a])/\Pur w N z (.str [b]):=by
  match xs,h with
  | [x,y,z],_ =>exact⟨x,y,z,rfl,hp 0 x _ rfl rfl,hp 1 y _ rfl rfl,hp 2 z _ rfl rfl⟩
 cases d;cases f;cases c
 obtain⟨m,i⟩:=g;have j:(⟨s.toArray⟩:ByteArray).size=s.length:=by rw [Lib.size_eq]
 have h1:(⟨#[a]⟩:ByteArray).size=1:=rfl;have hc:=Lib.countB_le ⟨#[a]⟩ (I5 h1.symm) _ ⟨s.toArray⟩ (A9 _);refine(strings_ReplaceAll ⟨s.toArray⟩ ⟨#[a]⟩ ⟨#[b]⟩ m w om i (I5 h1.symm) (by show _ +_ *1<=_;omega)).mono ?_;rintro e w'⟨rfl,k⟩;exact⟨_,_,rfl,rfl,.str _,k⟩
theorem A5z(s sub:List UInt8)(hs:s.length<4294967281):Hp gv prog 178 [.str s,.str sub] (fun r=>r=.bool (Lib.contains s sub)):=by
 intro w N xs d _ f hp;obtain⟨x,y,rfl,a,c⟩:=Alx f hp;cases a;cases c
 obtain⟨m,g⟩:=d;refine(strings_Contains ⟨s.toArray⟩ ⟨sub.toArray⟩ m w (by rw [Lib.size_eq];simpa using hs) g).mono ?_;rintro e w'⟨rfl,rfl⟩;exact⟨_,_,rfl,rfl,.bool _,Below.refl _ _⟩
end
def sfB(s:List UInt8):Bool:=decide (1<=s.length)&&decide (s.drop (s.length-1)= [32])
theorem Av0(s:List UInt8)(d:s.length<=4000000000):AC prog 219 [.str s,.str [32]] (fun r=>r=.bool (sfB s)):=by
 unfold sfB
 by_cases hs:s= []
 ·subst hs;refine Ax func219 fun w0 N0=>?_;refine Aa [0,1] [] sr (Ab (Ad (Am 6 sr ?_)));refine Mh 9 sr ?_;refine Af [4] [] sr ?_;exact Aj (Ac sr rfl)
 ·have c:1<=s.length:=Em.2 hs;have a:(1:Int)<=s.length:=om;have g:IntKind.i64.wrap ((s.length:Int)-1)=((s.length-1:Nat):Int):=by rw [Bh om Go.om];omega
  have e:((s.length-1:Nat):Int)<=s.length:=om;have f:(s.drop (s.length-1)).take (s.length-(s.length-1))=s.drop (s.length-1):=Bg sm;refine Ax func219 fun w0 N0=>?_;refine Aa [0,1] [] sr ?_;exact Aa [4] [] (by simp [a,g,e,f]<;>rfl) (Aj (Ac sr (by simp [c])))
theorem Aj9(s:List UInt8)(c:s.length<=4000000000):AC prog 177 [.str s,.str [32]] (fun r=>r=.bool (sfB s)):=by
 have a:=Av0 s c;generalize sfB s=b at*;refine Ax func177 fun w0 N0=>?_;refine Aa [0,1] [] sr (Ab (Ad (Am 2 sr ?_)));refine Ah a func219 ?_;refine Af [4] [] sr ?_;exact Aj (Ac sr (rfl))
def nrm(b:UInt8):Bool:=decide ((b.toNat:Int)=32)||Jv b.toNat 97 122||Jv b.toNat 48 57
def Av1(s:List UInt8):Bool:=if s.all nrm=false then false else !Au9 s [32]&& !sfB s&& !Lib.contains s [32,32]
theorem A50(s:List UInt8)(hs:s.length<=4000000000):Hp gv prog 141 [.str s] (fun r=>r=.bool (Av1 s)):=by
 have g:=Pv;have j:=X4 s [32];have l:=Aj9 s hs;have i:=A5z s [32,32] om;unfold Av1;generalize Au9 s [32]=hp,sfB s=y,Lib.contains s [32,32]=ct at*;refine By func141 fun w0 N0 x=>?_;refine Aa [0] [] sr (Ab (Aa [0,3] [] sr (Ar (Br (fun k nx=>⟨[(0,V.str s),(3,V.int .i64 k)],[],nx,43⟩) (fun k=>(s.take k).all nrm=true) s.length _ sm (AS.le_refl _) ?_))));intro k nx hk u;refine Ab (Aa [0,3,7] [] sr ?_)
 refine Ao (fun h1=>Ae ?_) fun h1=>?_
 ·have a:k<s.length:=by simp at h1;omega
  have Dg:=A6 (k:=k) om;have w:G8 s k=some s[k]:=by rw [C0];simp [a]
  have t:nrm s[k]=true->(s.take (k+1)).all nrm=true:=fun h=>by rw [A1 a,H8,u];simp [h]
  have o:nrm s[k]=false->s.all nrm=false:=fun h=>by rw [I4];exact⟨s[k],Az a,by rw [h];simp⟩
  have f:nrm s[k]=(decide ((s[k].toNat:Int)=32)||Jv s[k].toNat 97 122||Jv s[k].toNat 48 57):=rfl;have d:IntKind.i64.wrap (s[k].toNat:Int)=(s[k].toNat:Int):=by have:=s[k].toNat_lt;rw [Bh om Go.om]
  generalize s[k]=b at*;refine Ab (Ar (Ab (Ad (Am 9 (by simp [a,w,d]<;>rfl) ?_))));refine Db (c:= !decide ((b.toNat:Int)=32)) (fun m=>g b.toNat 97 122) func93 rfl kr sr rfl rfl sr sm sr ?_;refine Am 7 (by simp [w,d]<;>rfl) ?_;refine Db (c:= !decide ((b.toNat:Int)=32)&& !Jv b.toNat 97 122) (fun m=>g b.toNat 48 57) func93 rfl kr sr rfl rfl sr sm sr ?_;refine Af [0,3,29] [] sr ?_
  refine Ao (fun h2=>?_) fun h2=>Ae ?_
  ·exact Aa [2] [] sr (Aj (Ac sr (by rw [if_pos (o (by rw [f];simpa [and_assoc]using h2))])))
  refine A3 [0,3] [] (by simp [Dg]<;>rfl) ?_;exact⟨a,t (by rw [f];by_cases e:(b.toNat:Int)=32<;>cases e2:Jv b.toNat 97 122<;>simp_all),_,AS.le_refl _⟩
 ·refine Bb ?_;have n:k=s.length:=by simp at h1;omega
  rw [n,Bl]at u;rw [if_neg (by rw [u];simp)];refine Ab (Ad (Am 1 sr ?_));refine Ah j func168 ?_;refine Am 3 sr ?_;refine Db (c:= !hp) (fun m=>l) func177 rfl kr sr rfl rfl sr sm sr ?_;refine Am 4 sr ?_;refine Np (c:= !hp&& !y) x (fun m=>i) func178 rfl kr sr rfl rfl sr sm sr ?_;refine Af [2] [] sr ?_;exact Aj (Ac sr sm)
def A51(it:It):Bool:=
 if prB (Avz it.stem 10 32) 2000=false then false
 else if it.opts.all (fun s=>prB s 200)=false then false
 else if it.txts.all (fun s=>prB s 200)=false then false else Nx it.code
structure It.small(it:It):Prop where
 stem:it.stem.length<=2000000
 opts:it.opts.length<=2000000/\∀s∈it.opts,s.length<=2000000
 txts:it.txts.length<=2000000/\∀s∈it.txts,s.length<=2000000
 ch:it.ch.length<=2000000
 ass:it.ass.length<=2000000
theorem Ah9(a b:UInt8):∀(k:Nat)(s:List UInt8),(Lib.replaceK [a] [b] k s).length<=s.length+k
 |0,s=>by simp [Lib.replaceK]
 |k+1,s=>by
  rw [Lib.replaceK]
  split
  ·omega
  ·have ih:=Ah9 a b k (s.drop ((Lib.index s [a]).toNat+[a].length));simp only [Bf,Cs,F7,Ba,Bx]at ih|-;omega
theorem A10(s:List UInt8)(hs:s.length<=2000000):(Avz s 10 32).length<=4000001:=by
 have a:=Lib.count_le s [10];have h1:=Ah9 10 32 (Lib.replaceNum s [10] (-1)) s
 have h2:Lib.replaceNum s [10] (-1)<=s.length+1:=by
  unfold Lib.replaceNum;rw [if_pos Go.om];exact a
 unfold Avz Lib.replaceAll Lib.replace;split<;>omega
theorem A11(it:It)(u:it.small):Hp gv prog 94 [it.v] (fun r=>r=.bool (A51 it)):=by
 have af:=u.stem;have ho:=u.opts.1;have ht:=u.txts.1;have w:=A1z it.stem 10 32 om;have t:=Aqw (Avz it.stem 10 32) 2000 (by have:=A10 it.stem af;omega);have i:=fun(k:Nat)(h:k<it.opts.length)=>Aqw (it.opts.getD k []) 200 (Ai (Gl u.opts.2 h []) dc)
 have l:=fun(k:Nat)(h:k<it.txts.length)=>Aqw (it.txts.getD k []) 200 (Ai (Gl u.txts.2 h []) dc)
 have ad:=Wg it.code;have qo:=fun(k:Nat)(h:k<it.opts.length)=>Ys h
 have qt:=fun(k:Nat)(h:k<it.txts.length)=>Ys h
 unfold A51;generalize prB (Avz it.stem 10 32) 2000=b1,Nx it.code=b4 at*;generalize ab:(fun s:List UInt8=>prB s 200)=c at*;have f:∀s,prB s 200=c s:=fun s=>by rw [<- ab]
 have ag:it.v=V.agg [.int .i64 it.id,.int .i64 it.ver,.int .i64 it.kind,.str it.stem,.ro 1 (Ed it.opts),.ro 1 (As it.ch),.int .i64 it.val,.int .i64 it.tol,.ro 1 (Ed it.txts),.int .i64 it.pts,.str it.code,.int .i64 it.fam,.int .i64 it.set,.int .i64 it.wo,.int .i64 it.se,.ro 1 (As it.ass),.int .i64 it.rub]:=rfl;rw [ag];have i1:=Cw it.opts;have i2:=Ag it.ch;have i3:=Cw it.txts;have i4:=Ag it.ass;have ae:=Eu it.opts;have aa:=A4 it.ch;have z:=Eu it.txts;have ak:=A4 it.ass;generalize Ed it.opts=o,As it.ch=cv,Ed it.txts=n,As it.ass=av at*;have ah:o= []↔it.opts= []:=by rw [<- Aq,ae,Aq]
 have aj:cv= []↔it.ch= []:=by rw [<- Aq,aa,Aq]
 have ai:n= []↔it.txts= []:=by rw [<- Aq,z,Aq]
 refine By func94 fun w0 N0 hG=>?_;refine Aa [1] [1] sr (Ab (Ab (Ad (Am 2 sr ?_))));refine Bq hG w func138 ?_;refine Ah t func137 ?_;refine Af [1,11] [1] sr ?_
 refine Ao (fun h1=>?_) fun h1=>Ae ?_
 ·exact Aa [2] [] sr (Aj (Ac sr (by rw [if_pos (by simpa using h1)])))
 rw [if_neg (by simpa using h1)];refine Ab (Aa [1,13,14,15] [1] sr (Ar (Br (fun k nx=>⟨[(1,V.bp 1 0 17 0 0),(13,V.ro 1 o),(14,V.int .i64 o.length),(15,V.int .i64 k)],[(1,⟨0,17,93,[V.agg [.int .i64 it.id,.int .i64 it.ver,.int .i64 it.kind,.str it.stem,.ro 1 o,.ro 1 cv,.int .i64 it.val,.int .i64 it.tol,.ro 1 n,.int .i64 it.pts,.str it.code,.int .i64 it.fam,.int .i64 it.set,.int .i64 it.wo,.int .i64 it.se,.ro 1 av,.int .i64 it.rub]]⟩)],nx,37⟩) (fun k=>(it.opts.take k).all c=true) it.opts.length _ sm (AS.le_refl _) ?_)));intro k nx hk hI;refine Aa [1,13,14,15,16] [1] sr (Ab ?_)
 refine Ao (fun h2=>Ae ?_) fun h2=>?_
 ·have a:k<it.opts.length:=by simp at h2;omega
  have e:k<o.length:=om;have ga:=qo k a;have Dg:=A6 (k:=k) om;have x:=i k a;rw [f]at x;have d:c (it.opts.getD k [])=true->(it.opts.take (k+1)).all c=true:=fun h=>by rw [A1 a,H8,hI];rw [Cp a]at h;simp [h]
  have j:c (it.opts.getD k [])=false->it.opts.all c=false:=fun h=>by rw [Cp a]at h;rw [I4];exact⟨_,Az a,by rw [h];simp⟩
  generalize it.opts.getD k []=s at*;refine Ab (Ar (Aa [1,4,13,14,15] [1] (by simp [ga,e]<;>rfl) (Ab (Ad (Am 1 sr ?_)))));refine Ah x func137 ?_;refine Af [1,13,14,15,21] [1] sr ?_
  refine Ao (fun h3=>?_) fun h3=>Ae ?_
  ·exact Aa [2] [] sr (Aj (Ac sr (by rw [if_pos (j (by simpa using h3))])))
  refine A3 [1,13,14,15] [1] (by simp [Dg]<;>rfl) ?_;exact⟨a,d (by simpa using h3),_,AS.le_refl _⟩
 ·refine Bb ?_;have m:k=it.opts.length:=by simp at h2;omega
  rw [m,Bl]at hI;rw [if_neg (by rw [hI];simp)];refine Ab (Aa [1,24,25,26] [1] sr (Ar (Br (fun k nx=>⟨[(1,V.bp 1 0 17 0 0),(24,V.ro 1 n),(25,V.int .i64 n.length),(26,V.int .i64 k)],[(1,⟨0,17,93,[V.agg [.int .i64 it.id,.int .i64 it.ver,.int .i64 it.kind,.str it.stem,.ro 1 o,.ro 1 cv,.int .i64 it.val,.int .i64 it.tol,.ro 1 n,.int .i64 it.pts,.str it.code,.int .i64 it.fam,.int .i64 it.set,.int .i64 it.wo,.int .i64 it.se,.ro 1 av,.int .i64 it.rub]]⟩)],nx,37⟩) (fun k=>(it.txts.take k).all c=true) it.txts.length _ sm (AS.le_refl _) ?_)));intro k nx hk g;refine Aa [1,24,25,26,27] [1] sr (Ab ?_)
  refine Ao (fun y=>Ae ?_) fun y=>?_
  ·have a:k<it.txts.length:=by simp at y;omega
   have e:k<n.length:=om;have ga:=qt k a;have Dg:=A6 (k:=k) om;have x:=l k a;rw [f]at x;have d:c (it.txts.getD k [])=true->(it.txts.take (k+1)).all c=true:=fun h=>by rw [A1 a,H8,g];rw [Cp a]at h;simp [h]
   have j:c (it.txts.getD k [])=false->it.txts.all c=false:=fun h=>by rw [Cp a]at h;rw [I4];exact⟨_,Az a,by rw [h];simp⟩
   generalize it.txts.getD k []=s at*;refine Ab (Ar (Aa [1,6,24,25,26] [1] (by simp [ga,e]<;>rfl) (Ab (Ad (Am 1 sr ?_)))));refine Ah x func137 ?_;refine Af [1,24,25,26,32] [1] sr ?_
   refine Ao (fun h5=>?_) fun h5=>Ae ?_
   ·exact Aa [2] [] sr (Aj (Ac sr (by rw [if_pos (j (by simpa using h5))])))
   refine A3 [1,24,25,26] [1] (by simp [Dg]<;>rfl) ?_;exact⟨a,d (by simpa using h5),_,AS.le_refl _⟩
  ·refine Bb ?_;have m:k=it.txts.length:=by simp at y;omega
   rw [m,Bl]at g;rw [if_neg (by rw [g];simp)];refine Ab (Ad (Am 2 sr ?_));refine Bq hG ad func90 ?_;refine Af [2] [] sr ?_;exact Aj (Ac sr (rfl))
theorem Aqy(l:List Int):AC prog 140 [.ro 1 (As l)] (fun r=>r=.fc 176 [] [.rp (.ro 1 (As l))]):=by
 have pl:=Ag l;generalize As l=lv at*;refine Ax func140 fun w0 N0=>?_;refine Aa [1] [1] sr (Bp 1 [1] [] Go.sr (Aa [2] [] sr ?_));exact Aj (Ac (by simp [results140]<;>rfl) (rfl))
def Jh:Prop:=∀l:List Int,l.length<=2000000->AC prog 139 [.fc 176 [] [.rp (.ro 1 (As l))]] (fun r=>r=.ro 1 (As (J5 l)))
def leS(a b:List UInt8):Bool:=Op.bytesLess a b||decide (a=b)
def A8v(l:List (List UInt8))(k:Nat):Bool:= !Av1 (l.getD k [])||(decide (0<k)&&leS (l.getD k []) (l.getD (k-1) []))
def Abb(it:It):Bool:=
 if it.kind=1 then decide (1<=(it.opts.length:Int)-1)&&decide ((it.ch.length:Int)=1)&&Jv (it.ch.getD 0 0) 0 ((it.opts.length:Int)-1)
 else if it.kind=2 then decide (1<=(it.opts.length:Int)-1)&&decide ((1:Int)<=it.ch.length)&&Anp it.ch 0 ((it.opts.length:Int)-1)
 else if it.kind=3 then decide (1<=(it.opts.length:Int)-1)&&decide ((it.ch.length:Int)=it.opts.length)&&Anp (J5 it.ch) 0 ((it.opts.length:Int)-1)
 else if it.kind=4 then Jv it.val (-9999999) 9999999&&Jv it.tol 0 9999999
 else if it.kind=5 then(if(List.range it.txts.length).any (A8v it.txts)=true then false else decide ((1:Int)<=it.txts.length))
 else decide (1<=it.rub)
theorem A12(hS:Jh)(it:It)(hi:it.small):Hp gv prog 96 [it.v] (fun r=>r=.bool (Abb it)):=by
 have ho:=hi.opts.1;have ht:=hi.txts.1;have hc:=hi.ch;have m:=Pv;have aw:=Aqx it.ch 0 ((it.opts.length:Int)-1) om;have ab:=Aqx (J5 it.ch) 0 ((it.opts.length:Int)-1) (by rw [N3];omega);have ah:=Aqy it.ch;have ad:=hS it.ch hc;have s:=fun(k:Nat)(h:k<it.txts.length)=>A50 (it.txts.getD k []) (Ai (Gl hi.txts.2 h []) dc)
 have qt:=fun(k:Nat)(h:k<it.txts.length)=>Ys h
 have qc:=fun(k:Nat)(h:k<it.ch.length)=>Dd h
 have l:=Ag (J5 it.ch);have aq:∀k,A8v it.txts k=(!Av1 (it.txts.getD k [])||(decide (0<k)&&leS (it.txts.getD k []) (it.txts.getD (k-1) []))):=fun k=>rfl
 have am:IntKind.i64.wrap ((it.opts.length:Int)-1)=(it.opts.length:Int)-1:=Bh om om;have ae:IntKind.i64.wrap ((it.opts.length:Int)-1+1)=(it.opts.length:Int):=by rw [Bh om Go.om];omega
 have t:IntKind.i64.wrap (it.opts.length:Int)=(it.opts.length:Int):=Bh om om;unfold Abb;generalize Anp (J5 it.ch) 0 ((it.opts.length:Int)-1)=rs,Anp it.ch 0 ((it.opts.length:Int)-1)=rc,As (J5 it.ch)=sv,A8v it.txts=be at*;have ay:it.v=V.agg [.int .i64 it.id,.int .i64 it.ver,.int .i64 it.kind,.str it.stem,.ro 1 (Ed it.opts),.ro 1 (As it.ch),.int .i64 it.val,.int .i64 it.tol,.ro 1 (Ed it.txts),.int .i64 it.pts,.str it.code,.int .i64 it.fam,.int .i64 it.set,.int .i64 it.wo,.int .i64 it.se,.ro 1 (As it.ass),.int .i64 it.rub]:=rfl;rw [ay];have i1:=Cw it.opts;have i2:=Ag it.ch;have i3:=Cw it.txts;have i4:=Ag it.ass;have af:=Eu it.opts;have e:=A4 it.ch;have w:=Eu it.txts;have a1:=A4 it.ass;generalize Ed it.opts=ov,As it.ch=i,Ed it.txts=n,As it.ass=av at*;have az:ov= []↔it.opts= []:=by rw [<- Aq,af,Aq]
 have al:i= []↔it.ch= []:=by rw [<- Aq,e,Aq]
 have a0:n= []↔it.txts= []:=by rw [<- Aq,w,Aq]
 refine By func96 fun w0 N0 hG=>?_;refine Aa [1] [1] sr (Aa [1,3] [1] (by simp [af,am]<;>rfl) (Ab (Aa [1,3,11] [1] sr (Ar (Aa [1,3,11,12] [1] sr ?_)))))
 refine Ao (fun h1=>?_) fun h1=>?_
 ·rw [if_pos (by simpa using h1)]
  by_cases he:it.ch= []
  ·have an:=al.2 he;refine Ab (Ad (Am 9 (by simp [an]<;>rfl) ?_));refine Mh 6 sr ?_;refine Af [2] [] sr ?_;exact Aj (Ac sr (by simp [he]))
  have ar:0<it.ch.length:=Em.2 he;have g0:=qc 0 ar;have ax:0<i.length:=om;have cw:=m (it.ch.getD 0 0) 0 ((it.opts.length:Int)-1);generalize it.ch.getD 0 0=x0 at*;refine Ab (Ad (Am 14 (by simp [g0,ax]<;>rfl) ?_));refine Db (c:=decide (1<=(it.opts.length:Int)-1)&&decide ((i.length:Int)=1)) (fun o=>cw) func93 rfl kr sr rfl rfl sr sm sr ?_;refine Af [2] [] sr ?_;exact Aj (Ac sr (by simp [e]))
 ·rw [if_neg (by simpa using h1)];refine Aa [1,3,11,30] [1] sr ?_
  refine Ao (fun h2=>?_) fun h2=>?_
  ·rw [if_pos (by simpa using h2)];refine Ab (Ad (Am 12 sr ?_));refine Db (c:=decide (1<=(it.opts.length:Int)-1)&&decide (1<=(i.length:Int))) (fun o=>aw) func97 rfl kr sr rfl rfl sr (by simp) sr ?_;refine Af [2] [] sr ?_;exact Aj (Ac sr (by simp [e]))
  ·rw [if_neg (by simpa using h2)];refine Aa [1,3,11,46] [1] sr ?_
   refine Ao (fun h3=>?_) fun h3=>?_
   ·rw [if_pos (by simpa using h3)];refine Ab (Ad (Am 13 (by simp [t]<;>rfl) ?_));refine Db (c:=decide (1<=(it.opts.length:Int)-1)&&decide ((i.length:Int)=it.opts.length)) (fun o=>ah) func140 rfl kr sr rfl rfl sr (by simp) sr ?_;refine Db (c:=decide (1<=(it.opts.length:Int)-1)&&decide ((i.length:Int)=it.opts.length)) (fun o=>ad) func139 rfl kr sr rfl rfl sr (by simp) sr ?_;refine Am 1 sr ?_;refine Db (c:=decide (1<=(it.opts.length:Int)-1)&&decide ((i.length:Int)=it.opts.length)) (fun o=>ab) func97 rfl kr sr rfl rfl sr (by simp) sr ?_;refine Af [2] [] sr ?_;exact Aj (Ac sr (by simp [e]))
   ·rw [if_neg (by simpa using h3)];refine Aa [1,11,66] [1] sr ?_
    refine Ao (fun h4=>?_) fun h4=>?_
    ·rw [if_pos (by simpa using h4)];refine Ab (Ad (Am 2 sr ?_));refine Ah (m it.val (-9999999) 9999999) func93 ?_;refine Am 3 sr ?_;refine Db (c:=Jv it.val (-9999999) 9999999) (fun o=>m it.tol 0 9999999) func93 rfl kr sr rfl rfl sr sm sr ?_;refine Af [2] [] sr ?_;exact Aj (Ac sr sm)
    ·rw [if_neg (by simpa using h4)];refine Aa [1,76] [1] sr ?_
     refine Ao (fun h5=>?_) fun h5=>Ae ?_
     ·rw [if_pos (by simpa using h5)];refine Ab (Aa [1,79,80,81] [1] sr (Ar (Br (fun k nx=>⟨[(1,V.bp 1 0 17 0 0),(79,V.ro 1 n),(80,V.int .i64 n.length),(81,V.int .i64 k)],[(1,⟨0,17,93,[V.agg [.int .i64 it.id,.int .i64 it.ver,.int .i64 it.kind,.str it.stem,.ro 1 ov,.ro 1 i,.int .i64 it.val,.int .i64 it.tol,.ro 1 n,.int .i64 it.pts,.str it.code,.int .i64 it.fam,.int .i64 it.set,.int .i64 it.wo,.int .i64 it.se,.ro 1 av,.int .i64 it.rub]]⟩)],nx,111⟩) (fun k=>((List.range it.txts.length).take k).any be=false) it.txts.length _ sm (AS.le_refl _) ?_)));intro k nx hk hI;refine Aa [1,79,80,81,82] [1] sr (Ab ?_)
      refine Ao (fun h6=>Ae ?_) fun h6=>?_
      ·have d:k<it.txts.length:=by simp at h6;omega
       have ai:k<n.length:=om;have ga:=qt k d;have hb:=aq k;have Dg:=A6 (k:=k) om;have ag:=fun h=>Ht it.txts.length k be d hI h
       have z:=fun h=>Mm (f:=be) d h
       have ak:∀j,k=j+1->be k=(!Av1 (it.txts.getD k [])||leS (it.txts.getD k []) (it.txts.getD j [])):=fun j hj=>by rw [hb,hj];simp
       have a:=s k d;generalize it.txts.getD k []=x at*;refine Ab (Ar (Aa [1,4,5,79,80,81] [1] (by simp [ga,ai]<;>rfl) ?_))
       cases hfd:Av1 x
       ·rw [hfd]at a;refine Ab (Ad (Am 1 sr ?_));refine Bq hG a func141 ?_;refine Am 2 sr ?_;refine Mh 12 sr ?_;refine Af [1,79,80,81,102] [1] sr ?_;refine A7 rfl (fun g=>?_) (fun g=>by simp at g);exact Aa [2] [] sr (Aj (Ac sr (by rw [if_pos (z (by rw [hb,hfd];rfl))])))
       rw [hfd]at a
       rcases k with _ |j
       ·refine Ab (Ad (Am 1 sr ?_));refine Bq hG a func141 ?_;refine Am 5 sr ?_;refine Mh 8 sr ?_;refine Af [1,79,80,81,102] [1] sr ?_;refine A7 rfl (fun g=>by simp at g) fun g=>Ae (A3 [1,79,80,81] [1] Go.sr ?_);exact⟨d,ag (by rw [hb,hfd];simp),_,AS.le_refl _⟩
       ·have gp:=qt j om;have ao:j<n.length:=om;have aj:IntKind.i64.wrap (((j+1:Nat):Int)-1)=(j:Int):=by rw [Bh om Go.om];omega
        have aa:IntKind.i64.wrap (j:Int)=(j:Int):=Bh om om;have Pm:IntKind.i64.wrap ((j:Int)+1+1)=((j+1+1:Nat):Int):=by rw [Bh om Go.om];omega
        have u:=ak j rfl;generalize it.txts.getD j []=y at*;refine Ab (Ad (Am 1 sr ?_));refine Bq hG a func141 ?_;refine Af [1,79,80,81,102] [1] (by simp [gp,ao,aa,-Int.natCast_add]<;>rfl) ?_
        refine Ao (fun g=>?_) fun g=>Ae ?_
        ·exact Aa [2] [] sr (Aj (Ac sr (by rw [if_pos (z (by rw [u,hfd];unfold leS;simpa using g))])))
        refine A3 [1,79,80,81] [1] (by simp [Pm,-Int.natCast_add]<;>rfl) ?_;exact⟨d,ag (by rw [u,hfd];unfold leS;simpa using g),_,AS.le_refl _⟩
      ·refine Bb ?_;have au:k=it.txts.length:=by simp at h6;omega
       rw [au,Bg (by simp)]at hI;rw [if_neg (by rw [hI];simp)];exact Aa [2] [] sr (Aj (Ac sr (by simp [w])))
     rw [if_neg (by simpa using h5)];exact Aa [2] [] sr (Aj (Ac sr sm))
def Pw(it:It):Int:=
 if As3 it=false then 3 else if Jv it.kind 1 6=false then 1 else if A51 it=false then 2
 else if(10:Int)<it.opts.length\/(10:Int)<it.txts.length\/(8:Int)<it.ass.length then 5
 else if As4 it=false\/Abb it=false then 19 else if Anp it.ass 1 9999999=false then 23 else 0
theorem Anq(hS:Jh)(it:It)(n:it.small):Hp gv prog 61 [it.v] (fun r=>r=.int .i64 (Pw it)):=by
 have ha:=n.ass;have l:=A5x it;have x:=Pv it.kind 1 6;have g:=A11 it n;have i:=A5y it;have j:=A12 hS it n;have w:=Aqx it.ass 1 9999999 om;unfold Pw;generalize As3 it=b1,Jv it.kind 1 6=b2,A51 it=b3,As4 it=b4,Abb it=b5,Anp it.ass 1 9999999=b6 at*;have y:it.v=V.agg [.int .i64 it.id,.int .i64 it.ver,.int .i64 it.kind,.str it.stem,.ro 1 (Ed it.opts),.ro 1 (As it.ch),.int .i64 it.val,.int .i64 it.tol,.ro 1 (Ed it.txts),.int .i64 it.pts,.str it.code,.int .i64 it.fam,.int .i64 it.set,.int .i64 it.wo,.int .i64 it.se,.ro 1 (As it.ass),.int .i64 it.rub]:=rfl;rw [y]at l g i j|-;have e:=Cw it.opts;have f:=Ag it.ch;have a:=Cw it.txts;have d:=Ag it.ass;have k:=Eu it.opts;have o:=A4 it.ch;have h:=Eu it.txts;have z:=A4 it.ass;generalize Ed it.opts=ov,As it.ch=cv,Ed it.txts=xv,As it.ass=av at*;have aa:ov= []↔it.opts= []:=by rw [<- Aq,k,Aq]
 have ad:cv= []↔it.ch= []:=by rw [<- Aq,o,Aq]
 have ab:xv= []↔it.txts= []:=by rw [<- Aq,h,Aq]
 refine By func61 fun w0 N0 hG=>?_;refine Aa [1] [1] sr (Ab (Ar (Ab (Ad (Am 1 sr ?_)))));refine Ah l func92 ?_;refine Af [1,3] [1] sr ?_
 refine Ao (fun h1=>?_) fun h1=>?_
 ·exact Aa [2] [] sr (Aj (Ac sr (by rw [if_pos (by simpa using h1)])))
 ·rw [if_neg (by simpa using h1)];refine Ab (Ad (Am 2 sr ?_));refine Ah x func93 ?_;refine Af [1,7] [1] sr ?_
  refine Ao (fun h2=>?_) fun h2=>?_
  ·exact Aa [2] [] sr (Aj (Ac sr (by rw [if_pos (by simpa using h2)])))
  ·rw [if_neg (by simpa using h2)];refine Ab (Ad (Am 1 sr ?_));refine Bq hG g func94 ?_;refine Af [1,12] [1] sr ?_
   refine Ao (fun t=>?_) fun t=>?_
   ·exact Aa [2] [] sr (Aj (Ac sr (by rw [if_pos (by simpa using t)])))
   ·rw [if_neg (by simpa using t)];refine Aa [1,16] [1] (by simp [k,h,z]<;>rfl) ?_
    refine Ao (fun m=>?_) fun m=>?_
    ·exact Aa [2] [] sr (Aj (Ac sr (by rw [if_pos (by simpa [or_assoc]using m)])))
    ·rw [if_neg (by simpa [or_assoc,and_assoc]using m)];refine Ab (Ad (Am 1 sr ?_));refine Ah i func95 ?_;refine Am 3 sr ?_;refine Np (c:=b4) hG (fun hg=>j) func96 rfl kr sr rfl rfl sr (by simp) sr ?_;refine Af [1,33] [1] sr ?_
     refine Ao (fun s=>?_) fun s=>?_
     ·exact Aa [2] [] sr (Aj (Ac sr (by rw [if_pos (by simpa using s)])))
     ·rw [if_neg (by simpa using s)];refine Ab (Ad (Am 2 sr ?_));refine Ah w func97 ?_;refine Af [42] [] sr ?_
      refine Ao (fun u=>?_) fun u=>Ae ?_
      ·exact Aa [2] [] sr (Aj (Ac sr (by rw [if_pos (by simpa using u)])))
      rw [if_neg (by simpa using u)];exact Aa [2] [] sr (Aj (Ac sr rf))
def A8w(l:List Int)(k:Nat):Bool:=decide (l.getD (k+1) 0<=l.getD k 0)
def Av2(l:List Int):Bool:= !(List.range (l.length-1)).any (A8w l)
theorem As5(l:List Int)(hl:l.length<=4000000000):AC prog 120 [.ro 1 (As l)] (fun r=>r=.bool (Av2 l)):=by
 have z:=fun(k:Nat)(h:k<l.length)=>Dd h
 have le:=A4 l;unfold Av2;have j:∀k,A8w l k=decide (l.getD (k+1) 0<=l.getD k 0):=fun k=>rfl
 generalize As l=d,A8w l=g at*;refine Ax func120 fun w0 N0=>?_;refine Aa [0] [] sr (Ab (Aa [0,3] [] sr (Ar (Br (fun k nx=>⟨[(0,V.ro 1 d),(3,V.int .i64 ((k+1:Nat):Int))],[],nx,20⟩) (fun k=>((List.range (l.length-1)).take k).any g=false) (l.length-1) _ sm (AS.le_refl _) ?_))));intro k nx hk u;refine Ab (Aa [0,3,7] [] sr ?_)
 refine Ao (fun h1=>Ae ?_) fun h1=>?_
 ·have a:k<l.length-1:=by simp at h1;omega
  have i:k<d.length:=om;have w:k+1<d.length:=om;have n:((k:Int)+1)<d.length:=om;have m:(0:Int)<=(k:Int)+1:=om;have ga:=z k om;have gb:=z (k+1) om;have hb:=j k;have s:=fun h=>Ht (l.length-1) k g a u h
  have t:=fun h=>Mm (f:=g) a h
  generalize l.getD k 0=x,l.getD (k+1) 0=y at*;have o:IntKind.i64.wrap (((k+1:Nat):Int)-1)=(k:Int):=by rw [Bh om Go.om];omega
  have c:IntKind.i64.wrap (k:Int)=(k:Int):=Bh om om;have Pm:IntKind.i64.wrap ((k:Int)+1+1)=((k+1+1:Nat):Int):=by rw [Bh om Go.om];omega
  refine Ab (Ar (Dq [(0,[]),(1,[]),(2,[]),(4,[]),(5,[]),(6,[]),(7,[]),(3,[]),(8,[]),(9,[])] [0,3,19] [] Ds kr (by simp [ga,gb,m,i,n,c,-Int.natCast_add]<;>rfl) ?_))
  refine Ao (fun h2=>?_) fun h2=>Ae ?_
  ·exact Aa [2] [] sr (Aj (Ac sr (by rw [t (by rw [hb];simpa using h2)];rfl)))
  refine A3 [0,3] [] (by simp [Pm,-Int.natCast_add]<;>rfl) ?_;exact⟨a,s (by rw [hb];simpa using h2),_,AS.le_refl _⟩
 ·refine Bb ?_;have e:k=l.length-1:=by simp at h1;omega
  rw [e,Bg (by simp)]at u;exact Aa [2] [] sr (Aj (Ac sr (by rw [u];rfl)))
def A52(k:Int):Bool:=decide (k=1)||decide (k=2)||decide (k=3)
theorem A8x(k:Int):AC prog 79 [.int .i64 k] (fun r=>r=.bool (A52 k)):=by
 unfold A52;refine Ax func79 fun w0 N0=>?_;refine Aa [0] [] sr ?_;exact Aa [2] [] sr (Aj (Ac sr (by simp [Bool.or_assoc])))
def A53(k:Int):Bool:=decide (k=5)||decide (k=6)
theorem A8y(k:Int):AC prog 80 [.int .i64 k] (fun r=>r=.bool (A53 k)):=by
 unfold A53;refine Ax func80 fun w0 N0=>?_;refine Aa [0] [] sr ?_;exact Aa [2] [] sr (Aj (Ac sr (by simp)))
def Bal(n:Int)(c:Int):Bool:=decide (c<0)||decide (n<=c)
def A13(it:It)(a:List Int):Bool:=
 if it.kind=1 then decide ((a.length:Int)=1)else if it.kind=2 then Av2 a
 else if it.kind=3 then decide ((a.length:Int)=it.opts.length)&&Av2 (J5 a)else false
def Aka(it:It)(a:List Int):Int:=if a.any (Bal it.opts.length)=true then 3 else if A13 it a=false then 23 else 0
theorem V3(es:List V)(hp:es.all V.pureE=true)(c:es.all Lu=true)(f:es.length<=2000000):ACO prog 110 [.ro 1 es] 1 3 (fun F a=>(F=fun d q=>.sl d q 1 es.length)/\a=es):=by
 have e:es.length<=maxLen/\es.length*8<=140737488355328:=⟨Ai f dc,by omega⟩;refine Kr func110 fun w0 N0=>?_;refine Aa [0] [] sr (Ab (Ab (Ad (Am 1 sr ?_))));refine No rfl rfl sr rfl kr (fun b h=>⟨_,by simp<;>rfl,?_⟩);refine Af [0,4] [] sr ?_
 refine Ao (fun h1=>?_) fun h1=>Ae ?_
 ·refine Aa [2] [] sr ?_;have g:=Aq.1 (h h1);subst g;refine Fp 2 2 1 3 [2] [2] sr sr ?_;exact Aj (Ii 2 sr rfl rfl sm sr ⟨rfl,rfl⟩)
 refine Aa [2] [5] (by simp [e]<;>rfl) ?_;exact Aj (Ii 5 sr rfl rfl (by simpa using c) sr ⟨rfl,rfl⟩)
theorem Akb(es:List V)(hp:es.all V.pureE=true)(a:es.all Lu=true)(c:es.length<=2000000):AC prog 110 [.ro 1 es] (fun r=>r=.ro 1 es):=by
 refine(V3 es hp a c).ac ?_;rintro F d⟨rfl,rfl⟩;exact⟨_,by simp [hp]<;>rfl,rfl⟩
theorem A8z(it:It)(ch:List Int)(hc:ch.length<=2000000)(ho:it.opts.length<=2000000):AC prog 81 [it.v,.ro 1 (As ch)] (fun r=>r=.int .i64 (Aka it ch)):=by
 have w:=As5 ch om;have g:=As5 (J5 ch) (by rw [N3];omega);have m:=V3 (As ch) (Ag ch) (Rg ch) (by rw [A4];omega);have am:=Adk ch om;have qc:=fun(k:Nat)(h:k<ch.length)=>Dd h
 have a:=A4 ch;have ab:=A4 (J5 ch);have o:=Ag (J5 ch);have ag:=Rg ch;have aj:=Rg (J5 ch);have l:=Ag ch;have aa:=N3 ch;unfold Aka A13;generalize Av2 (J5 ch)=rs,Av2 ch=rc,As (J5 ch)=sv,As ch=t at*;generalize al:Bal it.opts.length=i at*;have ak:it.v=V.agg [.int .i64 it.id,.int .i64 it.ver,.int .i64 it.kind,.str it.stem,.ro 1 (Ed it.opts),.ro 1 (As it.ch),.int .i64 it.val,.int .i64 it.tol,.ro 1 (Ed it.txts),.int .i64 it.pts,.str it.code,.int .i64 it.fam,.int .i64 it.set,.int .i64 it.wo,.int .i64 it.se,.ro 1 (As it.ass),.int .i64 it.rub]:=rfl;rw [ak];have i1:=Cw it.opts;have i2:=Ag it.ch;have i3:=Cw it.txts;have i4:=Ag it.ass;have s:=Eu it.opts;have af:=A4 it.ch;have ad:=Eu it.txts;have ar:=A4 it.ass;generalize Ed it.opts=ov,As it.ch=cv,Ed it.txts=xv,As it.ass=av at*;have an:ov= []↔it.opts= []:=by rw [<- Aq,s,Aq]
 have aq:cv= []↔it.ch= []:=by rw [<- Aq,af,Aq]
 have ao:xv= []↔it.txts= []:=by rw [<- Aq,ad,Aq]
 refine Ax func81 fun w0 N0=>?_;refine Aa [1,2] [2] sr (Aa [1,2,5] [2] sr (Ab (Aa [1,2,5,13,14,15] [2] sr (Ar (Br (fun k nx=>⟨[(1,V.ro 1 t),(2,V.bp 2 0 17 0 0),(5,V.int .i64 it.opts.length),(13,V.ro 1 t),(14,V.int .i64 t.length),(15,V.int .i64 k)],[(2,⟨0,17,93,[V.agg [.int .i64 it.id,.int .i64 it.ver,.int .i64 it.kind,.str it.stem,.ro 1 ov,.ro 1 cv,.int .i64 it.val,.int .i64 it.tol,.ro 1 xv,.int .i64 it.pts,.str it.code,.int .i64 it.fam,.int .i64 it.set,.int .i64 it.wo,.int .i64 it.se,.ro 1 av,.int .i64 it.rub]]⟩)],nx,54⟩) (fun k=>(ch.take k).any i=false) ch.length _ sm (by simp only [s];exact AS.le_refl _) ?_)))));intro k nx hk hI;refine Aa [1,2,5,13,14,15,16] [2] sr (Ab ?_)
 refine Ao (fun h1=>Ae ?_) fun h1=>?_
 ·have f:k<ch.length:=by simp at h1;omega
  have u:k<t.length:=om;have ga:=qc k f;have Dg:=A6 (k:=k) om;have ah:i (ch.getD k 0)=false->(ch.take (k+1)).any i=false:=fun h=>by rw [A1 f,List.any_append,hI];rw [Cp f]at h;simp [h]
  have ae:i (ch.getD k 0)=true->ch.any i=true:=fun h=>by rw [Cp f]at h;exact Dz.2 ⟨_,Az f,h⟩
  generalize ch.getD k 0=x at*;have j:i x=(decide (x<0)||decide ((it.opts.length:Int)<=x)):=by rw [<- al];rfl
  refine Ab (Ar (Aa [1,2,5,7,13,14,15] [2] (by simp [ga,u]<;>rfl) (Aa [1,2,5,13,14,15,25] [2] sr ?_)))
  refine Ao (fun h2=>?_) fun h2=>Ae ?_
  ·exact Aa [4] [] sr (Aj (Ac sr (by rw [if_pos (ae (by rw [j];simpa using h2))])))
  refine A3 [1,2,5,13,14,15] [2] (by simp [Dg]<;>rfl) ?_;exact⟨f,ah (by rw [j];simpa using h2),_,AS.le_refl _⟩
 ·refine Bb ?_;have ai:k=ch.length:=by simp at h1;omega
  rw [ai,Bl]at hI;rw [if_neg (by rw [hI];simp)];refine Aa [1,2,5,8] [2] sr (Ab (Aa [1,5,8,28] [] sr (Ar (Aa [1,5,8,28,29] [] sr ?_))))
  refine Ao (fun h3=>?_) fun h3=>?_
  ·rw [if_pos (show it.kind=1 by simpa using h3)];refine A3 [8] [] sr (Ab (Aa [53] [] sr ?_))
   refine Ao (fun z=>?_) fun z=>Ae ?_
   ·exact Aa [4] [] sr (Aj (Ac sr (by rw [if_pos (by simpa [a]using z)])))
   exact Aa [4] [] sr (Aj (Ac sr (by rw [if_neg (by simpa [a]using z)])))
  ·rw [if_neg (show¬it.kind=1 by simpa using h3)];refine Aa [1,5,8,28,34] [] sr ?_
   refine Ao (fun h5=>?_) fun h5=>?_
   ·rw [if_pos (show it.kind=2 by simpa using h5)];refine Ad (Am 1 sr ?_);refine Ah w func120 ?_;refine Af [8] [] sr ?_;refine Ab (Aa [53] [] sr ?_)
    refine Ao (fun h6=>?_) fun h6=>Ae ?_
    ·exact Aa [4] [] sr (Aj (Ac sr (by rw [if_pos (by simpa using h6)])))
    exact Aa [4] [] sr (Aj (Ac sr (by rw [if_neg (by simpa using h6)])))
   ·rw [if_neg (show¬it.kind=2 by simpa using h5)];refine Aa [1,5,8,38] [] sr ?_
    refine Ao (fun h7=>?_) fun h7=>Ae ?_
    ·rw [if_pos (show it.kind=3 by simpa using h7)];refine Ab (Ad (Am 1 sr ?_));refine L7 110 m func110 rfl kr rfl rfl rfl sr (by simp [AS.views,AS.view,AS.viewC]<;>rfl) sr ?_;refine Af [1,5,9] [110] sr ?_;refine Ab (Ad (Am 1 sr ?_));refine Up (d:=110) (v:=_) am ag aj func101 rfl kr rfl rfl rfl (by simp [a]<;>rfl) Go.sr (by simp [a]<;>rfl) ?_;refine Af [1,5,9] [110] sr ?_;refine Bp 110 [1,5,9] [] (by simp [o,ab,aa]<;>rfl) (Ad (Am 6 sr ?_));refine Db (c:=decide ((t.length:Int)=it.opts.length)) (fun hg=>g) func120 rfl kr sr rfl rfl sr (by simp) sr ?_;refine Af [8] [] sr ?_;refine Ab (Aa [53] [] sr ?_)
     refine Ao (fun y=>?_) fun y=>Ae ?_
     ·exact Aa [4] [] sr (Aj (Ac sr (by rw [if_pos (by simp [a]at y|-;exact fun e=>y.resolve_left (fun n=>n e))])))
     exact Aa [4] [] sr (Aj (Ac sr (by rw [if_neg (by simpa [a]using y)])))
    rw [if_neg (show¬it.kind=3 by simpa using h7)];refine Ab (Aa [53] [] sr ?_)
    refine A7 rfl (fun h9=>?_) (fun h9=>by simp at h9)
    ·exact Aa [4] [] sr (Aj (Ac sr (by rw [if_pos rfl])))
structure An where
 item:Int
 ch:List Int
 val:Int
 txt:List UInt8
 om:Bool
def An.v(a:An):V:=V.agg [.int .i64 a.item,.ro 1 (As a.ch),.int .i64 a.val,.str a.txt,.bool a.om]
def Bam(it:It)(a:An):Bool:=
 ((decide (0<a.ch.length)&&(a.om|| !A52 it.kind))||(!decide (a.val=0)&&(a.om|| !decide (it.kind=4))))||(!decide (a.txt= [])&&(a.om|| !A53 it.kind))
def Z9(it:It)(a:An):Int:=
 if Pw it≠0 then Pw it else if a.item≠it.id then 6 else if Bam it a=true then 1 else if a.om=true then 0
 else if it.kind=4 then(if a.val< -9999999\/9999999<a.val then 3 else 0)
 else if it.kind=5 then(if(200:Int)<a.txt.length then 5 else 0)
 else if it.kind=6 then(if(2000:Int)<a.txt.length then 5 else 0)else Aka it a.ch
structure An.small(a:An):Prop where
 ch:a.ch.length<=2000000
 txt:a.txt.length<=2000000
theorem Yt(hS:Jh)(it:It)(a:An)(hi:it.small)(ha:a.small):Hp gv prog 47 [it.v,a.v] (fun r=>r=.int .i64 (Z9 it a)):=by
 have f:=Anq hS it hi;have w:=A8x it.kind;have y:=A8y it.kind;have e:=A8z it a.ch ha.ch hi.opts.1;unfold Z9 Bam;generalize Pw it=ie,A52 it.kind=b1,A53 it.kind=b2,Aka it a.ch=ce at*;have t:it.v=V.agg [.int .i64 it.id,.int .i64 it.ver,.int .i64 it.kind,.str it.stem,.ro 1 (Ed it.opts),.ro 1 (As it.ch),.int .i64 it.val,.int .i64 it.tol,.ro 1 (Ed it.txts),.int .i64 it.pts,.str it.code,.int .i64 it.fam,.int .i64 it.set,.int .i64 it.wo,.int .i64 it.se,.ro 1 (As it.ass),.int .i64 it.rub]:=rfl;have u:a.v=V.agg [.int .i64 a.item,.ro 1 (As a.ch),.int .i64 a.val,.str a.txt,.bool a.om]:=rfl;rw [t]at f e|-;rw [u];have i1:=Cw it.opts;have i2:=Ag it.ch;have z:=Cw it.txts;have i4:=Ag it.ass;have s:=Eu it.opts;have l:=A4 it.ch;have k:=Eu it.txts;have ae:=A4 it.ass;generalize Ed it.opts=ov,As it.ch=cv,Ed it.txts=xv,As it.ass=av at*;have aa:ov= []↔it.opts= []:=by rw [<- Aq,s,Aq]
 have ad:cv= []↔it.ch= []:=by rw [<- Aq,l,Aq]
 have ab:xv= []↔it.txts= []:=by rw [<- Aq,k,Aq]
 have i5:=Ag a.ch;have g:=A4 a.ch;generalize As a.ch=hv at*;refine By func47 fun w0 N0 hG=>?_;refine Aa [2,3] [2,3] sr (Ab (Ab (Ad (Am 1 sr ?_))));refine Bq hG f func61 ?_;refine Af [2,3,5] [2,3] sr ?_;refine Aa [2,3,5,9] [2,3] sr ?_
 refine Ao (fun h1=>?_) fun h1=>Ae ?_
 ·exact Aa [4] [] sr (Aj (Ac sr (by rw [if_pos (by simpa using h1)])))
 rw [if_neg (by simpa using h1)];refine Ab (Aa [2,3,15] [2,3] sr ?_)
 refine Ao (fun h2=>?_) fun h2=>Ae ?_
 ·exact Aa [4] [] sr (Aj (Ac sr (by rw [if_pos (by simpa using h2)])))
 rw [if_neg (by simpa using h2)];refine Ab (Ab (Ad (Am 10 sr ?_)));refine Db (c:=decide (0<hv.length)&& !a.om) (fun hg=>w) func79 rfl kr sr rfl rfl sr sm sr ?_;refine Am 27 sr ?_;refine Db (c:=(!((decide (0<hv.length)&&(a.om|| !b1))||(!decide (a.val=0)&&(a.om|| !decide (it.kind=4))))&& !decide (a.txt= []))&& !a.om) (fun hg=>y) func80 rfl kr sr rfl rfl sr sm sr ?_;refine Af [2,3,58] [2,3] sr ?_
 refine Ao (fun n=>?_) fun n=>Ae ?_
 ·exact Aa [4] [] sr (Aj (Ac sr (by rw [if_pos (by rw [<- g];simpa using n)])))
 rw [if_neg (by rw [<- g];simpa using n)];refine Ab (Aa [2,3,60] [2,3] sr ?_)
 refine Ao (fun h=>?_) fun h=>Ae ?_
 ·exact Aa [4] [] sr (Aj (Ac sr (by rw [if_pos (by simpa using h)])))
 rw [if_neg (by simpa using h)];refine Ab (Aa [2,3,62] [2,3] sr (Ar (Aa [2,3,62,67] [2,3] sr ?_)))
 refine Ao (fun m=>?_) fun m=>?_
 ·rw [if_pos (show it.kind=4 by simpa using m)];refine Aa [76] [] sr ?_
  refine Ao (fun o=>?_) fun o=>Ae ?_
  ·exact Aa [4] [] sr (Aj (Ac sr (by rw [if_pos (by simpa using o)])))
  exact Aa [4] [] sr (Aj (Ac sr (by rw [if_neg (by simpa using o)])))
 ·rw [if_neg (show¬it.kind=4 by simpa using m)];refine Aa [2,3,62,77] [2,3] sr ?_
  refine Ao (fun x=>?_) fun x=>?_
  ·rw [if_pos (show it.kind=5 by simpa using x)];refine Aa [82] [] sr ?_
   refine Ao (fun i=>?_) fun i=>Ae ?_
   ·exact Aa [4] [] sr (Aj (Ac sr (by rw [if_pos (by simpa using i)])))
   exact Aa [4] [] sr (Aj (Ac sr (by rw [if_neg (by simpa using i)])))
  ·rw [if_neg (show¬it.kind=5 by simpa using x)];refine Aa [2,3,83] [2,3] sr ?_
   refine Ao (fun j=>?_) fun j=>?_
   ·rw [if_pos (show it.kind=6 by simpa using j)];refine Aa [88] [] sr ?_
    refine Ao (fun d=>?_) fun d=>Ae ?_
    ·exact Aa [4] [] sr (Aj (Ac sr (by rw [if_pos (by simpa using d)])))
    exact Aa [4] [] sr (Aj (Ac sr (by rw [if_neg (by simpa using d)])))
   ·rw [if_neg (show¬it.kind=6 by simpa using j)];refine Ab (Ad (Am 3 sr ?_));refine Ah e func81 ?_;refine Af [4] [] sr ?_;exact Aj (Ac sr (rfl))
theorem Av3(l:List (List UInt8))(x:List UInt8):AC prog 83 [.ro 1 (Ed l),.str x] (fun r=>r=.int .i64 (Hs (fun y=>decide (x=y)) l 0)):=by
 refine Rs 0 rfl fun g=>?_;have j:∀(k:Nat)(h:k<l.length),G8 (Ed l) k=some (.str l[k]):=fun k h=>by rw [Ys h,Cp h]
 have n:=Eu l;rw [n]at g;have m:maxLen<=9223372036854775807:=dc;generalize Ed l=f at*;refine Ax func83 fun w0 N0=>?_;refine Aa [0,1] [] sr (Ab (Aa [0,1,7,8] [] sr (Ar (Br (fun k nx=>⟨[(0,V.ro 1 f),(1,V.str x),(7,V.int .i64 f.length),(8,V.int .i64 k)],[],nx,19⟩) (fun k=>Hs (fun y=>decide (x=y)) (l.drop k) k=Hs (fun y=>decide (x=y)) l 0) l.length _ rfl (AS.le_refl _) ?_))));intro k nx hk c;refine Aa [0,1,7,8,9] [] sr (Ab ?_)
 refine Ao (fun h1=>Ae ?_) fun h1=>?_
 ·have a:k<l.length:=by simp at h1;omega
  have d:k<f.length:=om;have i:=j k a;have Dg:=A6 (k:=k) om;rw [Nz _ a]at c;generalize l[k]=y at i c;refine Ab (Ar (Aa [0,1,5,7,8] [] sr (Aa [0,1,5,7,8,16] [] (by simp [i,d]<;>rfl) ?_)))
  refine Ao (fun h2=>?_) fun h2=>Ae ?_
  ·exact Aa [4] [] sr (Aj (Ac sr (by rw [<- c,if_pos h2])))
  refine A3 [0,1,7,8] [] (by simp [Dg]<;>rfl) ?_;exact⟨a,by rw [<- c,if_neg (by rw [h2];decide)],_,AS.le_refl _⟩
 ·refine Bb ?_;have e:k=l.length:=by simp at h1;omega
  rw [e,Cd,Hs]at c;exact Aa [4] [] sr (Aj (Ac sr (by rw [<- c])))
theorem A54(l:List (List UInt8))(x:List UInt8):AC prog 50 [.ro 1 (Ed l),.str x] (fun r=>r=.bool (decide (x∈l))):=by
 have a:=Av3 l x
 have d:decide (x∈l)=decide (0<=Hs (fun y=>decide (x=y)) l 0):=by
  rw [Of]
  by_cases h:x∈l
  ·rw [decide_eq_true h];symm;rw [Dz];exact⟨x,h,by simp⟩
  ·rw [decide_eq_false h];symm;rw [Na];intro y c;simp;exact fun e=>h (e▸c)
 rw [d];have pl:=Cw l;generalize Ed l=lv,Hs (fun y=>decide (x=y)) l 0=z at*;refine Ax func50 fun w0 N0=>?_;refine Aa [0,1] [] sr (Ab (Ad (Am 2 sr ?_)));refine Ah a func83 ?_;refine Af [4] [] sr ?_;exact Aj (Ac sr (rfl))
def Anr(it:It)(ch:List Int):Nat->Int
 |0=>0
 |k+1=>if ch.getD k 0∈it.ch then IntKind.i64.wrap (Anr it ch k+1)else IntKind.i64.wrap (Anr it ch k-1)
def A55(it:It)(ch:List Int):Int:=IntKind.i64.wrap ((IntKind.i64.wrap (N9 (Anr it ch ch.length)*it.pts)).tdiv it.ch.length)
theorem A14(it:It)(ch:List Int)(f:it.ch≠ [])(hl:ch.length<=2000000):AC prog 48 [it.v,.ro 1 (As ch)] (fun r=>r=.int .i64 (A55 it ch)):=by
 have t:=Qd it.ch;have qc:=fun(k:Nat)(h:k<ch.length)=>Dd h
 have ab:=A4 ch;have ae:=Ag ch;have ah:0<it.ch.length:=Em.2 f;unfold A55;have l:∀k,Anr it ch (k+1)=if ch.getD k 0∈it.ch then IntKind.i64.wrap (Anr it ch k+1)else IntKind.i64.wrap (Anr it ch k-1):=fun k=>rfl
 have j:Anr it ch 0=0:=rfl;generalize Anr it ch=nk,As ch=o at*;have s:it.v=V.agg [.int .i64 it.id,.int .i64 it.ver,.int .i64 it.kind,.str it.stem,.ro 1 (Ed it.opts),.ro 1 (As it.ch),.int .i64 it.val,.int .i64 it.tol,.ro 1 (Ed it.txts),.int .i64 it.pts,.str it.code,.int .i64 it.fam,.int .i64 it.set,.int .i64 it.wo,.int .i64 it.se,.ro 1 (As it.ass),.int .i64 it.rub]:=rfl;rw [s];have i1:=Cw it.opts;have i2:=Ag it.ch;have i3:=Cw it.txts;have i4:=Ag it.ass;have n:=Eu it.opts;have e:=A4 it.ch;have m:=Eu it.txts;have ag:=A4 it.ass;generalize Ed it.opts=z,As it.ch=y,Ed it.txts=w,As it.ass=av at*;have aa:z= []↔it.opts= []:=by rw [<- Aq,n,Aq]
 have af:y= []↔it.ch= []:=by rw [<- Aq,e,Aq]
 have ad:w= []↔it.txts= []:=by rw [<- Aq,m,Aq]
 refine Ax func48 fun w0 N0=>?_;refine Aa [1,2] [2] sr (Aa [1,2,5] [2] sr (Ab (Aa [2,5,8,9,10] [2] sr (Ar (Br (fun k nx=>⟨[(2,V.bp 2 0 17 0 0),(5,V.int .i64 (nk k)),(8,V.ro 1 o),(9,V.int .i64 o.length),(10,V.int .i64 k)],[(2,⟨0,17,93,[V.agg [.int .i64 it.id,.int .i64 it.ver,.int .i64 it.kind,.str it.stem,.ro 1 z,.ro 1 y,.int .i64 it.val,.int .i64 it.tol,.ro 1 w,.int .i64 it.pts,.str it.code,.int .i64 it.fam,.int .i64 it.set,.int .i64 it.wo,.int .i64 it.se,.ro 1 av,.int .i64 it.rub]]⟩)],nx,32⟩) (fun k=>True) ch.length _ trivial (by simp only [j];exact AS.le_refl _) ?_)))));intro k nx hk hI;refine Aa [2,5,8,9,10,11] [2] sr (Ab ?_)
 refine Ao (fun h1=>Ae ?_) fun h1=>?_
 ·have a:k<ch.length:=by simp at h1;omega
  have g:k<o.length:=om;have ga:=qc k a;have d:=l k;have Dg:=A6 (k:=k) om;generalize ch.getD k 0=x at*;have c:=t x;refine Ab (Ar (Aa [2,5,7,8,9,10] [2] (by simp [ga,g]<;>rfl) (Ab (Ad (Am 3 sr ?_)))));refine Ah c func64 ?_;refine Af [2,5,8,9,10,17] [2] sr ?_
  refine Ao (fun h2=>?_) fun h2=>?_
  ·refine A3 [2,5,8,9,10] [2] sr (A3 [2,5,8,9,10] [2] (by simp [Dg]<;>rfl) ?_);exact⟨a,trivial,_,by rw [d,if_pos (by simpa using h2)];exact AS.le_refl _⟩
  ·refine A3 [2,5,8,9,10] [2] sr (A3 [2,5,8,9,10] [2] (by simp [Dg]<;>rfl) ?_);exact⟨a,trivial,_,by rw [d,if_neg (by simpa using h2)];exact AS.le_refl _⟩
 ·refine Bb ?_;have u:k=ch.length:=by simp at h1;omega
  subst u;have i:¬it.ch= []:=f;exact Aa [4] [] (by simp [e,i]<;>rfl) (Aj (Ac sr (by unfold N9;rfl)))
def fIx(it:It)(x:Int):Int:=Hs (fun y=>decide (x=y)) it.ch 0
def inK(it:It)(a:List Int)(k:Nat)(s:Int × Int):Nat->Int × Int
 |0=>s
 |j+1=>(if fIx it (a.getD k 0)<fIx it (a.getD (k+1+j) 0)then IntKind.i64.wrap ((inK it a k s j).1+1)else IntKind.i64.wrap ((inK it a k s j).1-1),IntKind.i64.wrap ((inK it a k s j).2+1))
def Aaa(it:It)(a:List Int):Nat->Int × Int
 |0=>(0,0)
 |k+1=>inK it a k (Aaa it a k) (a.length-(k+1))
def A56(it:It)(a:List Int):Int:=IntKind.i64.wrap ((IntKind.i64.wrap (N9 (Aaa it a a.length).1*it.pts)).tdiv (Aaa it a a.length).2)
theorem As7(it:It)(a:List Int)(k:Nat)(s:Int × Int)(c:0<=s.2/\s.2<=1000000000):∀j:Nat,j<=1000->(inK it a k s j).2=s.2+j
 |0,_ =>by simp [inK]
 |j+1,h=>by
  rw [inK];simp only;rw [As7 it a k s c j om,Bh om Go.om];omega
theorem Ans(it:It)(a:List Int)(d:a.length<=1000):∀k:Nat,k<=a.length->(0<=(Aaa it a k).2/\(Aaa it a k).2<=1000*(k:Int))/\(1<=k->2<=a.length->1<=(Aaa it a k).2)
 |0,_ =>by simp [Aaa]
 |k+1,h=>by
  have ih:=Ans it a d k om;rw [Aaa,As7 it a k _ ⟨ih.1.1,by omega⟩ _ Go.om];refine⟨by omega,fun _ h2=>?_⟩
  by_cases c:1<=k
  ·have:=ih.2 c h2;omega
  ·omega
theorem A15(it:It)(ch:List Int)(h2:2<=ch.length)(hl:ch.length<=1000):AC prog 49 [it.v,.ro 1 (As ch)] (fun r=>r=.int .i64 (A56 it ch)):=by
 have e:∀x,AC prog 82 [.ro 1 (As it.ch),.int .i64 x] (fun r=>r=.int .i64 (fIx it x)):=fun x=>Ahd it.ch x
 have qc:=fun(k:Nat)(h:k<ch.length)=>Dd h
 have qd:∀(k j:Nat),k+1+j<ch.length->G8 ((As ch).drop (k+1)) j=some (.int .i64 (ch.getD (k+1+j) 0)):=fun k j h=>by
  rw [C0,Cy,<- C0];exact Dd h
 have ah:∀k,((As ch).drop (k+1)).length=ch.length-(k+1):=fun k=>by simp
 have ar:=A4 ch;have ax:=Ag ch;have am:¬(Aaa it ch ch.length).2=0:=by have:=(Ans it ch hl ch.length (A9 _)).2 om h2;omega
 unfold A56;have ag:∀k s j,inK it ch k s (j+1)=(if fIx it (ch.getD k 0)<fIx it (ch.getD (k+1+j) 0)then IntKind.i64.wrap ((inK it ch k s j).1+1)else IntKind.i64.wrap ((inK it ch k s j).1-1),IntKind.i64.wrap ((inK it ch k s j).2+1)):=fun k s j=>rfl
 have aa:∀k s,inK it ch k s 0=s:=fun k s=>rfl
 have w:∀k,Aaa it ch (k+1)=inK it ch k (Aaa it ch k) (ch.length-(k+1)):=fun k=>rfl
 have o:Aaa it ch 0=(0,0):=rfl;generalize Aaa it ch=ok,inK it ch=ik,fIx it=fi,As ch=a at*;have al:it.v=V.agg [.int .i64 it.id,.int .i64 it.ver,.int .i64 it.kind,.str it.stem,.ro 1 (Ed it.opts),.ro 1 (As it.ch),.int .i64 it.val,.int .i64 it.tol,.ro 1 (Ed it.txts),.int .i64 it.pts,.str it.code,.int .i64 it.fam,.int .i64 it.set,.int .i64 it.wo,.int .i64 it.se,.ro 1 (As it.ass),.int .i64 it.rub]:=rfl;rw [al];have i1:=Cw it.opts;have i2:=Ag it.ch;have i3:=Cw it.txts;have i4:=Ag it.ass;have ai:=Eu it.opts;have af:=A4 it.ch;have ae:=Eu it.txts;have az:=A4 it.ass;generalize Ed it.opts=ov,As it.ch=cv,Ed it.txts=xv,As it.ass=av at*;have aq:ov= []↔it.opts= []:=by rw [<- Aq,ai,Aq]
 have ay:cv= []↔it.ch= []:=by rw [<- Aq,af,Aq]
 have aw:xv= []↔it.txts= []:=by rw [<- Aq,ae,Aq]
 refine Ax func49 fun w0 N0=>?_;refine Aa [1,2] [2] sr (Aa [1,2,5,6] [2] sr (Ab (Aa [1,2,5,6,11,12,13] [2] sr (Ar (Br (fun k nx=>⟨[(1,V.ro 1 a),(2,V.bp 2 0 17 0 0),(5,V.int .i64 (ok k).1),(6,V.int .i64 (ok k).2),(11,V.ro 1 a),(12,V.int .i64 a.length),(13,V.int .i64 k)],[(2,⟨0,17,93,[V.agg [.int .i64 it.id,.int .i64 it.ver,.int .i64 it.kind,.str it.stem,.ro 1 ov,.ro 1 cv,.int .i64 it.val,.int .i64 it.tol,.ro 1 xv,.int .i64 it.pts,.str it.code,.int .i64 it.fam,.int .i64 it.set,.int .i64 it.wo,.int .i64 it.se,.ro 1 av,.int .i64 it.rub]]⟩)],nx,51⟩) (fun k=>True) ch.length _ trivial (by simp only [o];exact AS.le_refl _) ?_)))));intro k nx hk hI;refine Aa [1,2,5,6,11,12,13,14] [2] sr (Ab ?_)
 refine Ao (fun h1=>Ae ?_) fun h1=>?_
 ·have l:k<ch.length:=by simp at h1;omega
  have n:k<a.length:=om;have ga:=qc k l;have an:=w k;have Dg:=A6 (k:=k) om;have t:=qd k;have au:=ah k;have u:=ag k (ok k);have g:=aa k (ok k);generalize ch.getD k 0=x at*;have c:=e x;have z:(0:Int)<=(k:Int)+1/\(k:Int)+1<=a.length:=om;have ab:(a.drop (k+1)).take (a.length-(k+1))=a.drop (k+1):=Bg sm;generalize ik k (ok k)=ii at*;refine Ab (Ar (Aa [1,2,5,6,7,8,11,12,13] [2] (by simp [ga,n]<;>rfl) (Aa [1,2,5,6,8,11,12,13,21,22,23] [2] (by simp [z,ab,Dg]<;>rfl) ?_)));generalize a.drop (k+1)=dv at*;refine Ar (Br (fun j nx=>⟨[(1,V.ro 1 a),(2,V.bp 2 0 17 0 0),(5,V.int .i64 (ii j).1),(6,V.int .i64 (ii j).2),(8,V.int .i64 x),(11,V.ro 1 a),(12,V.int .i64 a.length),(13,V.int .i64 k),(21,V.ro 1 dv),(22,V.int .i64 ((a.length-(k+1):Nat):Int)),(23,V.int .i64 j)],[(2,⟨0,17,93,[V.agg [.int .i64 it.id,.int .i64 it.ver,.int .i64 it.kind,.str it.stem,.ro 1 ov,.ro 1 cv,.int .i64 it.val,.int .i64 it.tol,.ro 1 xv,.int .i64 it.pts,.str it.code,.int .i64 it.fam,.int .i64 it.set,.int .i64 it.wo,.int .i64 it.se,.ro 1 av,.int .i64 it.rub]]⟩)],nx,51⟩) (fun j=>True) (ch.length-(k+1)) _ trivial (by simp only [g];exact AS.le_refl _) ?_);intro j nx hj ao;refine Aa [1,2,5,6,8,11,12,13,21,22,23,24] [2] sr (Ab ?_)
  refine Ao (fun h2=>Ae ?_) fun h2=>?_
  ·have f:j<ch.length-(k+1):=by simp at h2;omega
   have ad:j<dv.length:=om;have gj:=t j om;have m:=u j;have d:=A6 (k:=j) om;generalize ch.getD (k+1+j) 0=y at*;have i:=e y;refine Ab (Ar (Aa [1,2,5,6,8,10,11,12,13,21,22,23] [2] (by simp [gj,ad]<;>rfl) (Aa [1,2,5,6,8,10,11,12,13,21,22,23] [2] sr (Ab (C5 [(0,[]),(2,[]),(4,[]),(6,[]),(1,[]),(3,[]),(5,[]),(7,[]),(8,[])] Ds kr ?_)))));refine Cf 5 sr ?_;refine Bu (fun hg=>c) func82 rfl kr rfl rfl sr rfl rfl sr (by simp) sr ?_;refine Cf 1 sr ?_;refine Bu (fun hg=>i) func82 rfl kr rfl rfl sr rfl rfl sr (by simp) sr ?_;refine C6 [1,2,5,6,8,11,12,13,21,22,23,37] [2] sr ?_
   refine Ao (fun h3=>?_) fun h3=>?_
   ·refine A3 [1,2,5,6,8,11,12,13,21,22,23] [2] sr (A3 [1,2,5,6,8,11,12,13,21,22,23] [2] (by simp [d]<;>rfl) ?_);exact⟨f,trivial,_,by rw [m,if_pos (by simpa using h3)];exact AS.le_refl _⟩
   ·refine A3 [1,2,5,6,8,11,12,13,21,22,23] [2] sr (A3 [1,2,5,6,8,11,12,13,21,22,23] [2] (by simp [d]<;>rfl) ?_);exact⟨f,trivial,_,by rw [m,if_neg (by simpa using h3)];exact AS.le_refl _⟩
  ·refine Bb ?_;have ak:j=ch.length-(k+1):=by simp at h2;omega
   rw [ak,<- an];refine A3 [1,2,5,6,11,12,13] [2] (by simp [Dg]<;>rfl) ?_;exact⟨l,trivial,_,AS.le_refl _⟩
 ·refine Bb ?_;have aj:k=ch.length:=by simp at h1;omega
  subst aj;exact Aa [4] [] (by simp [am]<;>rfl) (Aj (Ac sr (by unfold N9;rfl)))
def u8v(l:List UInt8):List V:=l.map fun b=>V.int .u8 (b.toNat:Int)
theorem U7(l m:List UInt8):u8v (l++m)=u8v l++u8v m:=by simp [u8v]
theorem U8(b:UInt8):u8v [b]= [V.int .u8 (b.toNat:Int)]:=rfl
theorem As8(l:List UInt8):(u8v l).length=l.length:=by simp [u8v]
theorem A16(l:List UInt8):(u8v l).all V.pureE=true:=by
 rw [Aw];intro x a;simp only [u8v,Bm]at a;obtain⟨n,_,rfl⟩:=a;rfl
theorem Aia:∀l:List UInt8,Rn (u8v l)=some l
 | []=>rfl
 |b::r=>by
  have ih:=Aia r;have h1:(0:Int)<=(b.toNat:Int)/\(b.toNat:Int)<256:=by have:=b.toNat_lt;omega
  simp only [u8v,Ct]at ih|-;rw [Rn,ih];simp [h1]
def Yu(s:List UInt8 × Bool)(c:UInt8):List UInt8 × Bool:=if s.2=true then(s.1++[32]++[c],false)else(s.1++[c],s.2)
def Ant(s:List UInt8 × Bool)(b:UInt8):List UInt8 × Bool:=
 if 65<=b.toNat/\b.toNat<=90 then Yu s (b+32)
 else if 97<=b.toNat/\b.toNat<=122 then Yu s b
 else if 48<=b.toNat/\b.toNat<=57 then Yu s b
 else if b.toNat=32 then(s.1,decide (0<s.1.length))else s
def nK(s:List UInt8):Nat->List UInt8 × Bool
 |0=>([],false)
 |k+1=>Ant (nK s k) (s.getD k 0)
def As9(s:List UInt8):List UInt8:=(nK s s.length).1
theorem Aib(s:List UInt8 × Bool)(c:UInt8):(Yu s c).1.length<=s.1.length+2:=by unfold Yu;split<;>simp
theorem Av4(s:List UInt8 × Bool)(b:UInt8):(Ant s b).1.length<=s.1.length+2:=by
 unfold Ant;have:=Aib s (b+32);have:=Aib s b
 (repeat' split)<;>first|omega|(dsimp only;omega)
theorem A17(s:List UInt8):∀k,(nK s k).1.length<=2*k
 |0=>by simp [nK]
 |k+1=>by have:=Av4 (nK s k) (s.getD k 0);have:=A17 s k;rw [nK];omega
theorem Anu(s:List UInt8)(hs:s.length<=2000000):AC prog 51 [.str s] (fun r=>r=.str (As9 s)):=by
 have aa:∀k,nK s (k+1)=Ant (nK s k) (s.getD k 0):=fun k=>rfl
 have ab:=A17 s;have ae:∀j b,Ant j b=if 65<=b.toNat/\b.toNat<=90 then Yu j (b+32)else if 97<=b.toNat/\b.toNat<=122 then Yu j b else if 48<=b.toNat/\b.toNat<=57 then Yu j b else if b.toNat=32 then(j.1,decide (0<j.1.length))else j:=fun j b=>rfl
 have w:∀j c,Yu j c=if j.2=true then(j.1++[32]++[c],false)else(j.1++[c],j.2):=fun j c=>rfl
 refine Ax func51 fun w0 N0=>?_;refine Aa [0] [] sr (Aa [0,3] [] sr (Aa [0,3,4] [] sr (Ab (Aa [0,3,4,8,9] [] sr ?_))));refine Fp 3 100 1 5 [0,3,4,8,9] [100] sr sr ?_;refine Ar (Di (fun x:Nat × Nat × Nat=>⟨[(0,V.str s),(3,.sl 100 x.2.1 1 (nK s x.1).1.length),(4,V.bool (nK s x.1).2),(8,V.int .i64 s.length),(9,V.int .i64 (x.1:Nat))],[(100,⟨x.2.1,1,5,u8v (nK s x.1).1⟩)],x.2.2,54⟩) (fun x=>x.1<=s.length) (fun x=>s.length-x.1) (0,_,_) (B4 _) (AS.le_refl _) ?_);rintro⟨k,qv,nx⟩hk;simp only at hk|-;refine Aa [0,3,4,8,9,10] [100] sr (Ab ?_)
 refine Ao (fun h1=>Ae ?_) fun h1=>?_
 ·have f:k<s.length:=by simp at h1;omega
  have gb:G8 s k=some (s.getD k 0):=by rw [C0,Cp f];simp [f]
  have Dg:=A6 (k:=k) om;have d:=aa k;have ag:=ab k;rw [ae]at d;have ai:=(s.getD k 0).toNat_lt;generalize s.getD k 0=b,nK s k=j at*;obtain⟨e,bl⟩:=j;simp only at d ag|-;have i:=As8 e;refine Ab (Ar (Aa [0,3,4,5,8,9] [100] sr (Aa [0,3,4,6,8,9] [100] (by simp [gb]<;>rfl) (Ab (Ar (Aa [0,3,4,6,8,9,15] [100] sr ?_))))))
  refine Ao (fun h2=>?_) fun h2=>?_
  ·have o:65<=b.toNat/\b.toNat<=90:=by simp at h2;omega
   rw [if_pos o]at d;have a:=d.trans (w _ _);simp only at a
   have ad:((b+32).toNat:Int)=(b.toNat:Int)+32:=by
    have h:(b+32).toNat=(b.toNat+32)%256:=by simp [UInt8.toNat_add]
    rw [h,Ci Go.om];omega
   have af:IntKind.u8.wrap ((b.toNat:Int)+32)=((b+32).toNat:Int):=by rw [ad,IntKind.wrap_u8];omega
   generalize b+32=c at*;have g:e.length+1<=maxLen/\e.length+1<=140737488355328:=by constructor;exact Ai (show e.length+1<=5000000 by omega) Go.dc;omega
   have l:e.length+1+1<=maxLen/\e.length+1+1<=140737488355328:=by constructor;exact Ai (show e.length+1+1<=5000000 by omega) Go.dc;omega
   have m:True:=trivial;refine A3 [0,3,4,6,8,9] [100] (by simp [af]<;>rfl) (Ab (Aa [0,3,4,6,8,9,43] [100] sr ?_))
   refine Ao (fun h3=>?_) fun h3=>Ae ?_
   ·refine Aa [0,3,6,8,9] [100] (by simp [g,i]<;>rfl) (A3 [0,3,4,6,8,9] [100] sr (A3 [0,3,4,8,9] [100] (by simp [l,i]<;>rfl) (A3 [0,3,4,8,9] [100] (by simp [Dg]<;>rfl) ?_)));rw [if_pos (by simpa using h3)]at a;exact⟨(k+1,_,_),f,by simp only;omega,by simp only [a,U7,U8,Bf,Ba,Bx];simp [u8v];exact AS.le_refl _⟩
   refine A3 [0,3,4,8,9] [100] (by simp [g,i]<;>rfl) (A3 [0,3,4,8,9] [100] (by simp [Dg]<;>rfl) ?_);rw [if_neg (by simpa using h3)]at a;exact⟨(k+1,_,_),f,by simp only;omega,by simp only [a,U7,U8,Bf,Ba,Bx];exact AS.le_refl _⟩
  ·have o:¬(65<=b.toNat/\b.toNat<=90):=by simp at h2;omega
   rw [if_neg o]at d;have g:e.length+1<=maxLen/\e.length+1<=140737488355328:=by constructor;exact Ai (show e.length+1<=5000000 by omega) Go.dc;omega
   have l:e.length+1+1<=maxLen/\e.length+1+1<=140737488355328:=by constructor;exact Ai (show e.length+1+1<=5000000 by omega) Go.dc;omega
   have m:True:=trivial;refine Ab (Aa [0,3,4,6,8,9,24] [100] sr ?_)
   refine Ao (fun y=>Ae ?_) fun y=>?_
   ·have n:97<=b.toNat/\b.toNat<=122:=by simp at y;omega
    rw [if_pos n]at d;have a:=d.trans (w _ _);simp only at a
    refine A7 rfl (fun h5=>Ae ?_) (fun h5=>by simp at y h5;omega)
    ·refine Ab (Aa [0,3,4,6,8,9,43] [100] sr ?_)
     refine Ao (fun h6=>?_) fun h6=>Ae ?_
     ·refine Aa [0,3,6,8,9] [100] (by simp [g,i]<;>rfl) (A3 [0,3,4,6,8,9] [100] sr (A3 [0,3,4,8,9] [100] (by simp [l,i]<;>rfl) (A3 [0,3,4,8,9] [100] (by simp [Dg]<;>rfl) ?_)));rw [if_pos (by simpa using h6)]at a;exact⟨(k+1,_,_),f,by simp only;omega,by simp only [a,U7,U8,Bf,Ba,Bx];simp [u8v];exact AS.le_refl _⟩
     refine A3 [0,3,4,8,9] [100] (by simp [g,i]<;>rfl) (A3 [0,3,4,8,9] [100] (by simp [Dg]<;>rfl) ?_);rw [if_neg (by simpa using h6)]at a;exact⟨(k+1,_,_),f,by simp only;omega,by simp only [a,U7,U8,Bf,Ba,Bx];exact AS.le_refl _⟩
   ·have n:¬(97<=b.toNat/\b.toNat<=122):=by simp at y;omega
    rw [if_neg n]at d;refine A3 [0,3,4,6,8,9,24] [100] sr ?_
    refine Ao (fun z=>Ae ?_) fun z=>?_
    ·have u:48<=b.toNat/\b.toNat<=57:=by simp at z;omega
     rw [if_pos u]at d;have a:=d.trans (w _ _);simp only at a;refine Ab (Aa [0,3,4,6,8,9,43] [100] sr ?_)
     refine Ao (fun h9=>?_) fun h9=>Ae ?_
     ·refine Aa [0,3,6,8,9] [100] (by simp [g,i]<;>rfl) (A3 [0,3,4,6,8,9] [100] sr (A3 [0,3,4,8,9] [100] (by simp [l,i]<;>rfl) (A3 [0,3,4,8,9] [100] (by simp [Dg]<;>rfl) ?_)));rw [if_pos (by simpa using h9)]at a;exact⟨(k+1,_,_),f,by simp only;omega,by simp only [a,U7,U8,Bf,Ba,Bx];simp [u8v];exact AS.le_refl _⟩
     refine A3 [0,3,4,8,9] [100] (by simp [g,i]<;>rfl) (A3 [0,3,4,8,9] [100] (by simp [Dg]<;>rfl) ?_);rw [if_neg (by simpa using h9)]at a;exact⟨(k+1,_,_),f,by simp only;omega,by simp only [a,U7,U8,Bf,Ba,Bx];exact AS.le_refl _⟩
    ·have u:¬(48<=b.toNat/\b.toNat<=57):=by simp at z;omega
     rw [if_neg u]at d;refine Aa [0,3,4,8,9,37] [100] sr ?_
     refine Ao (fun t=>?_) fun t=>?_
     ·rw [if_pos (show b.toNat=32 by simp at t;omega)]at d;refine Aa [0,3,4,8,9] [100] sr (Bb ?_);refine A3 [0,3,4,8,9] [100] (by simp [Dg]<;>rfl) ?_;exact⟨(k+1,_,_),f,by simp only;omega,by simp only [d];exact AS.le_refl _⟩
     ·rw [if_neg (show¬b.toNat=32 by simp at t;omega)]at d;refine Bb ?_;refine A3 [0,3,4,8,9] [100] (by simp [Dg]<;>rfl) ?_;exact⟨(k+1,_,_),f,by simp only;omega,by simp only [d];exact AS.le_refl _⟩
 ·refine Bb ?_;have ah:k=s.length:=by simp at h1;omega
  subst ah;refine Bp 100 [3] [] (by simp [A16,As8]<;>rfl) ?_;exact Aa [2] [] (by simp [Aia]<;>rfl) (Aj (Ac sr rf))
theorem A80{it:It}{a:An}(h:Z9 it a=0):Pw it=0/\a.item=it.id/\(a.om=false->it.kind≠4->it.kind≠5->it.kind≠6->Aka it a.ch=0):=by
 unfold Z9 at h
 split at h
 ·rename_i h1;exact absurd h h1
 rename_i h1
 split at h
 ·omega
 rename_i h2;refine⟨by omega,by omega,fun e d c f=>?_⟩;rw [if_neg d,if_neg c,if_neg f,e]at h
 split at h
 ·omega
 ·simpa using h
theorem A18{it:It}(h:Pw it=0):Abb it=true/\Jv it.kind 1 6=true:=by
 unfold Pw at h
 (repeat' split at h)<;>try omega
 rename_i h1 h2 h3 h4 a h6
 constructor
 ·cases e:Abb it
  ·exact absurd (.inr e) a
  ·rfl
 ·cases e:Jv it.kind 1 6
  ·exact absurd e h2
  ·rfl
theorem A57{it:It}(h:Abb it=true)(a:it.kind=1):it.ch.length=1:=by
 unfold Abb at h;rw [if_pos a]at h;simp at h;omega
theorem A58{it:It}(h:Abb it=true)(a:it.kind=2):it.ch≠ []:=by
 unfold Abb at h;rw [if_neg om,if_pos a]at h;simp at h;intro e;rw [e]at h;simp at h
theorem Av5{it:It}(h:Abb it=true)(a:it.kind=3):2<=it.opts.length:=by
 unfold Abb at h;rw [if_neg om,if_neg om,if_pos a]at h;simp at h;omega
theorem Ata{it:It}{a:List Int}(h:Aka it a=0):A13 it a=true:=by
 unfold Aka at h
 (repeat' split at h)<;>try omega
 rename_i h1 h2;simpa using h2
def A81(x y:Int):Int:=if x<y then y else x
def Ban(it:It)(a:An):Bool:=
 if it.kind=1 then decide (a.ch.getD 0 0=it.ch.getD 0 0)
 else if it.kind=4 then decide (A81 (IntKind.i64.wrap (a.val-it.val)) (IntKind.i64.wrap (it.val-a.val))<=it.tol)
 else if it.kind=5 then decide (As9 a.txt∈it.txts)else false
def J6(it:It)(a:An):Int × Int:=
 if Z9 it a≠0 then(0,Z9 it a)else if it.kind=6 then(0,8)else if a.om=true then(0,0)
 else if it.kind=2 then(A55 it a.ch,0)else if it.kind=3 then(A56 it a.ch,0)
 else if Ban it a=true then(it.pts,0)else(0,0)
theorem Av6(hS:Jh)(it:It)(a:An)(hi:it.small)(ha:a.small)(a7:a.ch.length<=2000000):
  Hp gv prog 24 [it.v,a.v] (fun r=>r=.tup [.int .i64 (J6 it a).1,.int .i64 (J6 it a).2]):=by
 have l:=Yt hS it a hi ha;have e:=fun h=>A14 it a.ch h ha.ch
 have f:=fun h1 h2=>A15 it a.ch h1 h2
 have af:=Anu a.txt ha.txt;have ax:=A54 it.txts (As9 a.txt)
 have ao:Pw it=0->it.opts.length<=10:=fun h=>by
  unfold Pw at h
  (repeat' split at h)<;>omega
 have aa:=fun(h:Z9 it a=0)=>A80 h
 have ab:=fun(h:Pw it=0)=>A18 h
 have ad:=fun h=>A57 (it:=it) h
 have al:=fun h=>A58 (it:=it) h
 have au:=fun h=>Av5 (it:=it) h
 have am:Aka it a.ch=0->it.kind=1->a.ch.length=1:=fun h c=>by
  have:=Ata h;unfold A13 at this;rw [if_pos c]at this;simp at this;omega
 have aw:Aka it a.ch=0->it.kind=3->a.ch.length=it.opts.length:=fun h c=>by
  have:=Ata h;unfold A13 at this;rw [if_neg om,if_neg om,if_pos c]at this;simp at this;omega
 have q1:=fun(h:0<it.ch.length)=>Dd h
 have q2:=fun(h:0<a.ch.length)=>Dd h
 unfold J6 Ban;generalize Z9 it a=ve,A55 it a.ch=mv at*;generalize A56 it a.ch=a2 at*;generalize As9 a.txt=nf,it.ch.getD 0 0=y0,a.ch.getD 0 0=x0 at*;have k:it.v=V.agg [.int .i64 it.id,.int .i64 it.ver,.int .i64 it.kind,.str it.stem,.ro 1 (Ed it.opts),.ro 1 (As it.ch),.int .i64 it.val,.int .i64 it.tol,.ro 1 (Ed it.txts),.int .i64 it.pts,.str it.code,.int .i64 it.fam,.int .i64 it.set,.int .i64 it.wo,.int .i64 it.se,.ro 1 (As it.ass),.int .i64 it.rub]:=rfl;have w:a.v=V.agg [.int .i64 a.item,.ro 1 (As a.ch),.int .i64 a.val,.str a.txt,.bool a.om]:=rfl;rw [k,w]at l;rw [k]at e f;rw [k,w];have u:=Cw it.opts;have x:=Ag it.ch;have m:=Cw it.txts;have n:=Ag it.ass;have an:=Eu it.opts;have ai:=A4 it.ch;have ag:=Eu it.txts;have a8:=A4 it.ass;generalize Ed it.opts=ov,As it.ch=cv,Ed it.txts=xv,As it.ass=av at*;have az:ov= []↔it.opts= []:=by rw [<- Aq,an,Aq]
 have a3:cv= []↔it.ch= []:=by rw [<- Aq,ai,Aq]
 have a1:xv= []↔it.txts= []:=by rw [<- Aq,ag,Aq]
 have t:=Ag a.ch;have a5:=A4 a.ch;generalize As a.ch=hv at*;refine By func24 fun w0 N0 hG=>?_;refine Aa [2,3] [2,3] sr (Ab (Ab (Ad (Am 2 sr ?_))));refine Bq hG l func47 ?_;refine Af [2,3,6] [2,3] sr ?_;refine Aa [2,3,6,12] [2,3] sr ?_
 refine Ao (fun h1=>?_) fun h1=>Ae ?_
 ·exact Aa [4,5] [] sr (Aj (Ac sr (by rw [if_pos (by simpa using h1)])))
 have aj:ve=0:=by simpa using h1
 obtain⟨o,a0,y⟩:=aa aj;have d:=ab o;rw [if_neg (by simpa using h1)];refine Ab (Aa [2,3,16] [2,3] sr ?_)
 refine Ao (fun h2=>?_) fun h2=>Ae ?_
 ·exact Aa [4,5] [] sr (Aj (Ac sr (by rw [if_pos (by simpa using h2)])))
 have j:¬it.kind=6:=by simpa using h2
 rw [if_neg j];refine Ab (Aa [2,3,18] [2,3] sr ?_)
 refine Ao (fun h3=>?_) fun h3=>Ae ?_
 ·exact Aa [4,5] [] sr (Aj (Ac sr (by rw [if_pos (by simpa using h3)])))
 have z:a.om=false:=by simpa using h3
 rw [if_neg (by simpa using h3)];refine Aa [2,3,7] [2,3] sr (Ab (Aa [2,3,7,20] [2,3] sr (Ar (Aa [2,3,7,20,21] [2,3] sr ?_))))
 refine Ao (fun h4=>?_) fun h4=>?_
 ·have c:it.kind=2:=by simpa using h4
  rw [if_pos c];replace e:=e (al d.1 c);refine Ab (Ad (Am 3 sr ?_));refine Ah e func48 ?_;refine Af [4,5] [] sr ?_;exact Aj (Ac sr (rfl))
 ·have aq:¬it.kind=2:=by simpa using h4
  rw [if_neg aq];refine Aa [2,3,7,20,27] [2,3] sr ?_
  refine Ao (fun h5=>?_) fun h5=>?_
  ·have c:it.kind=3:=by simpa using h5
   rw [if_pos c];have ay:=ao o;have a6:=aw (y z om om j) c;have a4:=au d.1 c;replace f:=f om om;refine Ab (Ad (Am 3 sr ?_));refine Ah f func49 ?_;refine Af [4,5] [] sr ?_;exact Aj (Ac sr (rfl))
  ·have ak:¬it.kind=3:=by simpa using h5
   rw [if_neg ak];refine Aa [2,3,7,20,33] [2,3] sr ?_
   refine Ao (fun h6=>?_) fun h6=>?_
   ·have c:it.kind=1:=by simpa using h6
    rw [if_pos c];have l1:=ad d.1 c;have l2:=am (y z om om j) c;have g1:=q1 om;have g2:=q2 om;have k1:0<cv.length:=om;have k2:0<hv.length:=om;refine Rr [(0,[]),(4,[]),(1,[]),(2,[]),(3,[]),(5,[]),(6,[]),(7,[]),(8,[]),(9,[])] [2,7] [2] Ds kr (by simp [g1,g2,k1,k2]<;>rfl) ?_;refine Ab (Aa [2,68] [2] sr ?_)
    refine Ao (fun h7=>?_) fun h7=>Ae ?_
    ·exact Aa [4,5] [] sr (Aj (Ac sr (by rw [if_pos (by simpa using h7)])))
    exact Aa [4,5] [] sr (Aj (Ac sr (by rw [if_neg (by simpa using h7)])))
   ·have ah:¬it.kind=1:=by simpa using h6
    rw [if_neg ah];refine Aa [2,3,7,20,44] [2,3] sr ?_
    refine Ao (fun h8=>?_) fun h8=>?_
    ·have c:it.kind=4:=by simpa using h8
     rw [if_pos c];refine A3 [2,7] [2] sr (Ab (Aa [2,68] [2] sr ?_))
     refine Ao (fun h9=>?_) fun h9=>Ae ?_
     ·exact Aa [4,5] [] sr (Aj (Ac sr (by unfold A81;rw [if_pos (by simpa using h9)])))
     exact Aa [4,5] [] sr (Aj (Ac sr (by unfold A81;rw [if_neg (by simpa using h9)])))
    ·have ar:¬it.kind=4:=by simpa using h8
     rw [if_neg ar];refine Aa [2,3,7,60] [2,3] sr ?_
     refine Ao (fun i=>?_) fun i=>Ae ?_
     ·have c:it.kind=5:=by simpa using i
      rw [if_pos c];refine C5 [(0,[]),(2,[]),(1,[]),(3,[]),(4,[]),(5,[]),(6,[])] Ds kr ?_;refine Cf 4 sr ?_;refine Bu (fun hg=>af) func51 rfl kr rfl rfl sr rfl rfl sr (by simp) sr ?_;refine Bu (fun hg=>ax) func50 rfl kr rfl rfl sr rfl rfl sr (by simp) sr ?_;refine C6 [2,7] [2] sr ?_;refine Ab (Aa [2,68] [2] sr ?_)
      refine Ao (fun g=>?_) fun g=>Ae ?_
      ·exact Aa [4,5] [] sr (Aj (Ac sr (by rw [if_pos (by simpa using g)])))
      exact Aa [4,5] [] sr (Aj (Ac sr (by rw [if_neg (by simpa using g)])))
     have ae:¬it.kind=5:=by simpa using i
     rw [if_neg ae];refine Ab (Aa [2,68] [2] sr ?_);refine A7 rfl (fun s=>by simp at s) fun s=>Ae ?_;exact Aa [4,5] [] sr (Aj (Ac sr sm))
def Ip(l:List It):List V:=l.map It.v
@[simp]theorem Hj(l:List It):(Ip l).length=l.length:=by simp [Ip]
theorem Anv{l:List It}{k:Nat}(h:k<l.length):G8 (Ip l) k=some l[k].v:=by rw [C0];simp [Ip,h]
theorem A59(it:It):it.v.pureE=true:=by
 have h1:=Cw it.opts;have h2:=Ag it.ch;have a:=Cw it.txts;have c:=Ag it.ass;unfold It.v;simp [V.pureE,V.pureC]
theorem Gh(l:List It):(Ip l).all V.pureE=true:=by
 rw [Aw];intro x a;simp only [Ip,Bm]at a;obtain⟨n,_,rfl⟩:=a;exact A59 n
def Fu(l:List An):List V:=l.map An.v
@[simp]theorem Gy(l:List An):(Fu l).length=l.length:=by simp [Fu]
theorem Yv{l:List An}{k:Nat}(h:k<l.length):G8 (Fu l) k=some l[k].v:=by rw [C0];simp [Fu,h]
theorem A6a(a:An):a.v.pureE=true:=by
 have h2:=Ag a.ch;unfold An.v;simp [V.pureE,V.pureC]
theorem Ew(l:List An):(Fu l).all V.pureE=true:=by
 rw [Aw];intro x a;simp only [Fu,Bm]at a;obtain⟨n,_,rfl⟩:=a;exact A6a n
structure Dl where
 ses:Int
 cand:Int
 p:Po
 pool:List Pit
 items:List It
 ess:List Int
 uses:List (Int × Int)
 served:Int
 sec:Int
 nu:Int
 de:Int
 ex:Int
 seed:Int
def Dl.v(d:Dl):V:=V.agg [.int .i64 d.ses,.int .i64 d.cand,.int .i64 d.p.len,.ro 5 (Ey d.p.rules),.ro 1 (As d.p.g.pts),.ro 1 (As d.p.g.pri),.ro 2 (A2 d.p.en),.int .i64 d.p.mn,.bool d.p.var.num.neg,.ro 1 (Av d.p.var.num.mag),.ro 1 (Av d.p.var.den),.int .i64 d.p.cut,.bool d.p.lvl.num.neg,.ro 1 (Av d.p.lvl.num.mag),.ro 1 (Av d.p.lvl.den),.int .i64 d.p.top,.bool d.p.rate.num.neg,.ro 1 (Av d.p.rate.num.mag),.ro 1 (Av d.p.rate.den),.int .i64 d.p.slack,.ro 9 (Ce d.pool),.ro 17 (Ip d.items),.ro 1 (As d.ess),.ro 2 (A2 d.uses),.int .i64 d.served,.int .i64 d.sec,.int .i64 d.nu,.int .i64 d.de,.int .i64 d.ex,.int .u64 d.seed]
structure Se where
 st:Int
 us:Int
 la:Int
 sh:Int
 t:Te
 ans:List An
 inc:List In4
def Se.v(s:Se):V:=V.agg [.int .i64 s.st,.int .i64 s.us,.int .i64 s.la,.int .i64 s.sh,.ro 1 (As s.t.elig),.ro 2 (A2 s.t.steps),.int .i64 s.t.pend,.ro 1 (Bw s.t.w),.int .u64 s.t.draw,.int .i64 s.t.stop,.ro 5 (Fu s.ans),.ro 4 (Dt s.inc)]
theorem Anw(n:Int):AC prog 33 [.int .i64 n] (fun r=>r=.bool (Jv n 1 9999999)):=by
 unfold Jv;refine Ax func33 fun w0 N0=>?_;refine Aa [0] [] sr ?_;exact Aa [2] [] sr (Aj (Ac sr rf))
def Kx(s:Se)(n:Int):Bool:=decide (0<=n)&&decide (s.la<=n)&&decide (n<=1099511627776)
theorem Av7(s:Se)(n:Int):AC prog 29 [s.v,.int .i64 n] (fun r=>r=.bool (Kx s n)):=by
 unfold Kx;have a:s.v=V.agg [.int .i64 s.st,.int .i64 s.us,.int .i64 s.la,.int .i64 s.sh,.ro 1 (As s.t.elig),.ro 2 (A2 s.t.steps),.int .i64 s.t.pend,.ro 1 (Bw s.t.w),.int .u64 s.t.draw,.int .i64 s.t.stop,.ro 5 (Fu s.ans),.ro 4 (Dt s.inc)]:=rfl;rw [a];have z1:=Ag s.t.elig;have z2:=A5 s.t.steps;have z3:=Bv s.t.w;have z4:=Ew s.ans;have z5:=Ec s.inc;have c:=Gy s.ans;have e:=F6 s.inc;generalize As s.t.elig=ti,A2 s.t.steps=ts,Bw s.t.w=tw,Fu s.ans=d,Dt s.inc=f at*;refine Ax func29 fun w0 N0=>?_;refine Aa [1,2] [2] sr ?_;exact Aa [4] [] sr (Aj (Ac sr rf))
def H9(s:Se)(n:Int):Int:=if s.st=1 then IntKind.i64.wrap (IntKind.i64.wrap (s.us+n)-s.la)else s.us
theorem Yw(s:Se)(n:Int):AC prog 32 [s.v,.int .i64 n] (fun r=>r=.int .i64 (H9 s n)):=by
 unfold H9;have a:s.v=V.agg [.int .i64 s.st,.int .i64 s.us,.int .i64 s.la,.int .i64 s.sh,.ro 1 (As s.t.elig),.ro 2 (A2 s.t.steps),.int .i64 s.t.pend,.ro 1 (Bw s.t.w),.int .u64 s.t.draw,.int .i64 s.t.stop,.ro 5 (Fu s.ans),.ro 4 (Dt s.inc)]:=rfl;rw [a];have z1:=Ag s.t.elig;have z2:=A5 s.t.steps;have z3:=Bv s.t.w;have z4:=Ew s.ans;have z5:=Ec s.inc;have c:=Gy s.ans;have e:=F6 s.inc;generalize As s.t.elig=ti,A2 s.t.steps=ts,Bw s.t.w=tw,Fu s.ans=d,Dt s.inc=f at*;refine Ax func32 fun w0 N0=>?_;refine Aa [1,2] [2] sr (Ab (Aa [1,2,7] [2] sr ?_))
 refine Ao (fun h1=>?_) fun h1=>Ae ?_
 ·exact Aa [4] [] sr (Aj (Ac sr (by rw [if_pos (by simpa using h1)])))
 exact Aa [4] [] sr (Aj (Ac sr (by rw [if_neg (by simpa using h1)])))
def A6b(s:Se):Bool:=decide (s.st=1)||decide (s.st=2)
theorem Atb(s:Se):AC prog 77 [s.v] (fun r=>r=.bool (A6b s)):=by
 unfold A6b;have a:s.v=V.agg [.int .i64 s.st,.int .i64 s.us,.int .i64 s.la,.int .i64 s.sh,.ro 1 (As s.t.elig),.ro 2 (A2 s.t.steps),.int .i64 s.t.pend,.ro 1 (Bw s.t.w),.int .u64 s.t.draw,.int .i64 s.t.stop,.ro 5 (Fu s.ans),.ro 4 (Dt s.inc)]:=rfl;rw [a];have z1:=Ag s.t.elig;have z2:=A5 s.t.steps;have z3:=Bv s.t.w;have z4:=Ew s.ans;have z5:=Ec s.inc;have c:=Gy s.ans;have e:=F6 s.inc;generalize As s.t.elig=ti,A2 s.t.steps=ts,Bw s.t.w=tw,Fu s.ans=d,Dt s.inc=f at*;refine Ax func77 fun w0 N0=>?_;refine Aa [1] [1] sr ?_;exact Aa [2] [] sr (Aj (Ac sr rf))
def Ig(d:Dl)(s:Se):Int:=IntKind.i64.wrap (Aj8 d.sec d.nu d.de d.ex+Rl s.inc d.sec)
theorem Aeo(d:Dl)(s:Se):AC prog 31 [d.v,s.v] (fun r=>r=.int .i64 (Ig d s)):=by
 have k:=A1x d.sec d.nu d.de d.ex;have i:=A5w s.inc d.sec;unfold Ig;generalize Aj8 d.sec d.nu d.de d.ex=x1,Rl s.inc d.sec=x2 at*;have h:d.v=V.agg [.int .i64 d.ses,.int .i64 d.cand,.int .i64 d.p.len,.ro 5 (Ey d.p.rules),.ro 1 (As d.p.g.pts),.ro 1 (As d.p.g.pri),.ro 2 (A2 d.p.en),.int .i64 d.p.mn,.bool d.p.var.num.neg,.ro 1 (Av d.p.var.num.mag),.ro 1 (Av d.p.var.den),.int .i64 d.p.cut,.bool d.p.lvl.num.neg,.ro 1 (Av d.p.lvl.num.mag),.ro 1 (Av d.p.lvl.den),.int .i64 d.p.top,.bool d.p.rate.num.neg,.ro 1 (Av d.p.rate.num.mag),.ro 1 (Av d.p.rate.den),.int .i64 d.p.slack,.ro 9 (Ce d.pool),.ro 17 (Ip d.items),.ro 1 (As d.ess),.ro 2 (A2 d.uses),.int .i64 d.served,.int .i64 d.sec,.int .i64 d.nu,.int .i64 d.de,.int .i64 d.ex,.int .u64 d.seed]:=rfl;have j:s.v=V.agg [.int .i64 s.st,.int .i64 s.us,.int .i64 s.la,.int .i64 s.sh,.ro 1 (As s.t.elig),.ro 2 (A2 s.t.steps),.int .i64 s.t.pend,.ro 1 (Bw s.t.w),.int .u64 s.t.draw,.int .i64 s.t.stop,.ro 5 (Fu s.ans),.ro 4 (Dt s.inc)]:=rfl;rw [h,j];have d0:=C2 d.p.rules;have d1:=Ag d.p.g.pts;have d2:=Ag d.p.g.pri;have o:=A5 d.p.en;have x:=Ak d.p.var.num.mag;have z:=Ak d.p.var.den;have d6:=Ak d.p.lvl.num.mag;have y:=Ak d.p.lvl.den;have u:=Ak d.p.rate.num.mag;have d9:=Ak d.p.rate.den;have e:=Ca d.pool;have a:=Gh d.items;have f:=Ag d.ess;have c:=A5 d.uses;generalize Ey d.p.rules=rv,As d.p.g.pts=pt,As d.p.g.pri=pr,A2 d.p.en=ev,Av d.p.var.num.mag=vm,Av d.p.var.den=vd,Av d.p.lvl.num.mag=lm,Av d.p.lvl.den=ld,Av d.p.rate.num.mag=rm,Av d.p.rate.den=rd at*;have ad:=Dx d.pool;have ag:=Hj d.items;have ai:=A4 d.ess;generalize Ce d.pool=lv,Ip d.items=aj,As d.ess=af,A2 d.uses=uv at*;have z1:=Ag s.t.elig;have m:=A5 s.t.steps;have n:=Bv s.t.w;have z4:=Ew s.ans;have l:=Ec s.inc;have ah:=Gy s.ans;have aa:=F6 s.inc;generalize As s.t.elig=ti,A2 s.t.steps=ts,Bw s.t.w=tw,Fu s.ans=ae,Dt s.inc=ab at*;refine Ax func31 fun w0 N0=>?_;refine Aa [2,3] [2,3] sr (Ab (Ad (Am 4 sr ?_)));refine Ah k func17 ?_;refine Af [2,3,5] [2,3] sr ?_;refine Ab (Ad (Am 4 sr ?_));refine Ah i func18 ?_;refine Af [5,7] [] sr ?_;exact Aa [4] [] sr (Aj (Ac sr rf))
def it0:It:=⟨0,0,0,[],[],[],0,0,[],0,[],0,0,0,0,[],0⟩
def Hz(l:List It)(id:Int):Option It:=l.find? fun it=>decide (it.id=id)
def Ki(o:Option It):It:=match o with|some it=>it|none=>it0
theorem Av8:Bi (.agg [.int .i64 0,.int .i64 0,.int .i64 0,.str [],.nils,.nils,.int .i64 0,.int .i64 0,.nils,.int .i64 0,.str [],.int .i64 0,.int .i64 0,.int .i64 0,.int .i64 0,.nils,.int .i64 0]) it0.v:=
 Bi.agg (.cons (Bi.refl _) (.cons (Bi.refl _) (.cons (Bi.refl _) (.cons (Bi.refl _) (.cons (Bi.nils 1) (.cons (Bi.nils 1) (.cons (Bi.refl _) (.cons (Bi.refl _) (.cons (Bi.nils 1) (.cons (Bi.refl _) (.cons (Bi.refl _) (.cons (Bi.refl _) (.cons (Bi.refl _) (.cons (Bi.refl _) (.cons (Bi.refl _) (.cons (Bi.nils 1) (.cons (Bi.refl _) .nil)))))))))))))))))
theorem Aep(l:List It)(id:Int)(hl:l.length<=4000000):AC prog 62 [.ro 17 (Ip l),.int .i64 id] (fun r=>r=.tup [(Ki (Hz l id)).v,.bool (Hz l id).isSome]):=by
 refine AC.relaxP ?_;have n:=fun(k:Nat)(h:k<l.length)=>Anv h
 have lq:=Hj l;have i:=fun(k:Nat)(h:k<l.length)=>Zr (fun it:It=>decide (it.id=id)) h
 unfold Hz;generalize Ip l=e at*;refine Ax func62 fun w0 N0=>?_;refine Aa [0,1,4] [4] sr (Ab (Aa [1,4,8,9,10] [4] sr (Ar (Br (fun k nx=>⟨[(1,V.int .i64 id),(4,V.bp 4 (0) 17 0 0),(8,V.ro 17 e),(9,V.int .i64 e.length),(10,V.int .i64 k)],[(4,{ v:=0,sz:=17,ty:=93,es:=[.agg [.int .i64 0,.int .i64 0,.int .i64 0,.str [],.nils,.nils,.int .i64 0,.int .i64 0,.nils,.int .i64 0,.str [],.int .i64 0,.int .i64 0,.int .i64 0,.int .i64 0,.nils,.int .i64 0]]})],nx,21⟩) (fun k=>(l.drop k).find? (fun it=>decide (it.id=id))=l.find? (fun it=>decide (it.id=id))) l.length _ sm (AS.le_refl _) ?_))));intro k nx hk c;refine Aa [1,4,8,9,10,11] [4] sr (Ab ?_)
 refine Ao (fun h1=>Ae ?_) fun h1=>?_
 ·have a:k<l.length:=by simp at h1;omega
  have d:k<e.length:=om;have j:=n k a;have Dg:=A6 (k:=k) om;rw [i k a]at c;generalize l[k]=it at*;have g:it.v=V.agg [.int .i64 it.id,.int .i64 it.ver,.int .i64 it.kind,.str it.stem,.ro 1 (Ed it.opts),.ro 1 (As it.ch),.int .i64 it.val,.int .i64 it.tol,.ro 1 (Ed it.txts),.int .i64 it.pts,.str it.code,.int .i64 it.fam,.int .i64 it.set,.int .i64 it.wo,.int .i64 it.se,.ro 1 (As it.ass),.int .i64 it.rub]:=rfl;rw [g]at j;have m:=Cw it.opts;have o:=Ag it.ch;have t:=Cw it.txts;have s:=Ag it.ass;refine Ab (Ar (Aa [1,4,7,8,9,10] [4,7] (by simp [j,d]<;>rfl) (Aa [1,4,7,8,9,10,17] [4,7] sr ?_)))
  refine Ao (fun h2=>?_) fun h2=>Ae ?_
  ·refine Aa [4,5] [4] sr ?_;exact Aj (Ac (by simp [results62]<;>rfl) (by rw [<- c,if_pos (by simpa using h2)];exact Bi.refl _))
  rw [if_neg (by simpa using h2)]at c;refine A3 [1,4,8,9,10] [4] (by simp [Dg]<;>rfl) ?_;exact⟨a,c,_,AS.le_refl _⟩
 ·refine Bb ?_;have f:k=l.length:=by simp at h1;omega
  rw [f,Cd]at c;exact Aa [4,5] [4] sr (Aj (Ac sr (by rw [<- c];exact Bi.tup (.cons Av8 (.cons (Bi.refl _) .nil)))))
instance:Inhabited It:=⟨it0⟩
theorem A6c{l:List It}{k:Nat}(h:k<l.length):G8 (Ip l) k=some (l.getD k it0).v:=by rw [Cp h];exact Anv h
def A82(l:List It)(k:Nat):Bool:=decide ((l.getD (k+1) it0).id<=(l.getD k it0).id)
def ciE(l:List It):Int:=if(60:Int)<l.length then 5 else if(List.range (l.length-1)).any (A82 l)=true then 23 else Kt Pw l
theorem Aeq(hS:Jh)(l:List It)(hl:l.length<=4000000)(s:∀it∈l,it.small):Hp gv prog 36 [.ro 17 (Ip l)] (fun r=>r=.int .i64 (ciE l)):=by
 have af:=fun(k:Nat)(h:k<l.length)=>Anq hS (l.getD k it0) (Gl s h it0)
 have t:=fun(k:Nat)(h:k<l.length)=>A6c h
 have li:=Hj l;have ak:=Gh l;have ah:=fun(k:Nat)(h:k<l.length)=>Nt Pw h
 have aj:=fun(k:Nat)(h:k<l.length)=>Cp h it0
 unfold ciE;have aa:∀k,A82 l k=decide ((l.getD (k+1) it0).id<=(l.getD k it0).id):=fun k=>rfl
 generalize Ip l=e,A82 l=be at*;refine By func36 fun w0 N0 hG=>?_;refine Aa [0] [] sr (Ab (Aa [0,9] [] sr ?_))
 refine Ao (fun h1=>?_) fun h1=>Ae ?_
 ·exact Aa [2] [] sr (Aj (Ac sr (by rw [if_pos (by simpa [li]using h1)])))
 rw [if_neg (by simpa [li]using h1)];refine Ab (Aa [0,3] [] sr (Ar (Br (fun k nx=>⟨[(0,V.ro 17 e),(3,V.int .i64 ((k+1:Nat):Int))],[],nx,40⟩) (fun k=>((List.range (l.length-1)).take k).any be=false) (l.length-1) _ sm (AS.le_refl _) ?_)));intro k nx hk hI;refine Ab (Aa [0,3,13] [] sr ?_)
 refine Ao (fun h2=>Ae ?_) fun h2=>?_
 ·have a:k<l.length-1:=by simp at h2;omega
  have ag:k<e.length:=om;have w:k+1<e.length:=om;have ad:((k:Int)+1)<e.length:=om;have ab:(0:Int)<=(k:Int)+1:=om;have i:=t k om;have gb:=t (k+1) om;have hb:=aa k;have ae:=fun h=>Ht (l.length-1) k be a hI h
  have u:=fun h=>Mm (f:=be) a h
  unfold It.v at i gb;generalize l.getD k it0=x,l.getD (k+1) it0=y at*;have ai:IntKind.i64.wrap (((k+1:Nat):Int)-1)=(k:Int):=by rw [Bh om Go.om];omega
  have j:IntKind.i64.wrap (k:Int)=(k:Int):=Bh om om;have Pm:IntKind.i64.wrap ((k:Int)+1+1)=((k+1+1:Nat):Int):=by rw [Bh om Go.om];omega
  refine Ab (Ar (Dq [(0,[]),(1,[]),(2,[]),(3,[]),(5,[]),(6,[]),(7,[]),(8,[]),(9,[]),(4,[]),(10,[]),(11,[])] [0,3,27] [] Ds kr (by simp [i,gb,ab,ag,ad,j,-Int.natCast_add]<;>rfl) ?_))
  refine Ao (fun h3=>?_) fun h3=>Ae ?_
  ·exact Aa [2] [] sr (Aj (Ac sr (by rw [if_pos (u (by rw [hb];simpa using h3))])))
  refine A3 [0,3] [] (by simp [Pm,-Int.natCast_add]<;>rfl) ?_;exact⟨a,ae (by rw [hb];simpa using h3),_,AS.le_refl _⟩
 ·refine Bb ?_;have g:k=l.length-1:=by simp at h2;omega
  rw [g,Bg (by simp)]at hI;rw [if_neg (by rw [hI];simp)];refine Ab (Aa [28,29,30] [] sr (Ar (Br (fun k nx=>⟨[(28,V.ro 17 e),(29,V.int .i64 e.length),(30,V.int .i64 k)],[],nx,40⟩) (fun k=>Kt Pw (l.drop k)=Kt Pw l) l.length _ rfl (AS.le_refl _) ?_)));intro k nx hk c;refine Aa [28,29,30,31] [] sr (Ab ?_)
  refine Ao (fun n=>Ae ?_) fun n=>?_
  ·have a:k<l.length:=by simp at n;omega
   have m:k<e.length:=om;have i:=t k a;have o:=ah k a;have d:=af k a;have Dg:=A6 (k:=k) om;rw [o,<- aj k a]at c;generalize l.getD k it0=it at*;have j1:=Cw it.opts;have j2:=Ag it.ch;have j3:=Cw it.txts;have j4:=Ag it.ass;unfold It.v at i d;refine Ab (Ar (Aa [5,28,29,30] [5] (by simp [i,m]<;>rfl) (Ab (Ad (Am 1 sr ?_)))));refine Bq hG d func61 ?_;refine Af [6,28,29,30] [] sr ?_;refine Aa [6,28,29,30,37] [] sr ?_
   refine Ao (fun z=>?_) fun z=>Ae ?_
   ·exact Aa [2] [] sr (Aj (Ac sr (by rw [<- c,if_pos (by simpa using z)])))
   rw [if_neg (by simpa using z)]at c;refine A3 [28,29,30] [] (by simp [Dg]<;>rfl) ?_;exact⟨a,c,_,AS.le_refl _⟩
  ·refine Bb ?_;have g:k=l.length:=by simp at n;omega
   rw [g,Cd]at c;exact Aa [2] [] sr (Aj (Ac sr (by rw [<- c];rfl)))
def Anx(l:List It)(x:Pit):Int:=
 if(Hz l x.id).isSome=false then 6
 else if(Ki (Hz l x.id)).kind=6\/(Ki (Hz l x.id)).pts≠x.pt\/(Vb x.m:Int)≠IntKind.i64.wrap ((Ki (Hz l x.id)).pts+1)then 19 else 0
theorem Akc(l:List It)(x:Pit)(g:l.length<=4000000):AC prog 37 [.ro 17 (Ip l),x.v] (fun r=>r=.int .i64 (Anx l x)):=by
 have c:=Aep l x.id g;have a:=Ai9 x.m;have d:=Gh l;unfold Anx;have j1:=Cw (Ki (Hz l x.id)).opts;have j2:=Ag (Ki (Hz l x.id)).ch;have j3:=Cw (Ki (Hz l x.id)).txts;have j4:=Ag (Ki (Hz l x.id)).ass;have e:=Do x.m;have f:moV x.m=.agg [.ro 1 (Eb x.m)]:=rfl;rw [f]at a;unfold It.v at c;rw [Ge];generalize(Hz l x.id).isSome=fs,Ki (Hz l x.id)=it,Ip l=lv,Eb x.m=mv at*;refine Ax func37 fun w0 N0=>?_;refine Aa [0,3] [3] sr (Ab (Ad (Am 3 sr ?_)));refine Ah c func62 ?_;refine Af [3,5,6] [3,5] sr ?_;refine Ab (Aa [3,5,15] [3,5] sr ?_)
 refine Ao (fun h1=>?_) fun h1=>Ae ?_
 ·exact Aa [4] [] sr (Aj (Ac sr (by rw [if_pos (by simpa using h1)])))
 rw [if_neg (by simpa using h1)];refine Ab (Ab (C5 [(0,[]),(1,[]),(2,[]),(3,[]),(4,[]),(6,[]),(5,[]),(7,[]),(8,[]),(9,[]),(10,[]),(11,[]),(14,[]),(12,[]),(13,[]),(15,[]),(16,[]),(17,[]),(18,[])] Ds kr ?_));refine Cf 14 sr ?_;refine Bu (fun hg=>a) func63 rfl kr rfl rfl sr rfl rfl sr (by simp) sr ?_;refine C6 [34] [] sr ?_
 refine Ao (fun h2=>?_) fun h2=>Ae ?_
 ·exact Aa [4] [] sr (Aj (Ac sr (by rw [if_pos (by simpa [or_assoc]using h2)])))
 exact Aa [4] [] sr (Aj (Ac sr (by rw [if_neg (by simpa [or_assoc,and_assoc]using h2)])))
def Anz(d:Dl)(i:Nat):Int:=
 if decide (d.ess.getD i 0∈d.ess.take i)=true then 7 else if(Hz d.items (d.ess.getD i 0)).isSome=false then 6 else if(Ki (Hz d.items (d.ess.getD i 0))).kind≠6 then 1 else 0
theorem Af5(d:Dl)(i:Nat)(hi:i<d.ess.length)(hl:d.items.length<=4000000)(he:d.ess.length<=4000000):AC prog 38 [d.v,.int .i64 i] (fun r=>r=.int .i64 (Anz d i)):=by
 have c:=Aep d.items (d.ess.getD i 0) hl;have t:=Qd (d.ess.take i) (d.ess.getD i 0);have ge:=Dd hi;have n:(As d.ess).take i=As (d.ess.take i):=by simp [As]
 have l:=Ag (d.ess.take i);unfold Anz;have j1:=Cw (Ki (Hz d.items (d.ess.getD i 0))).opts;have j2:=Ag (Ki (Hz d.items (d.ess.getD i 0))).ch;have j3:=Cw (Ki (Hz d.items (d.ess.getD i 0))).txts;have j4:=Ag (Ki (Hz d.items (d.ess.getD i 0))).ass;unfold It.v at c;generalize(Hz d.items (d.ess.getD i 0)).isSome=fs at*;generalize Ki (Hz d.items (d.ess.getD i 0))=it at*;generalize decide (d.ess.getD i 0∈d.ess.take i)=mb at*;generalize d.ess.getD i 0=x at*;have k:d.v=V.agg [.int .i64 d.ses,.int .i64 d.cand,.int .i64 d.p.len,.ro 5 (Ey d.p.rules),.ro 1 (As d.p.g.pts),.ro 1 (As d.p.g.pri),.ro 2 (A2 d.p.en),.int .i64 d.p.mn,.bool d.p.var.num.neg,.ro 1 (Av d.p.var.num.mag),.ro 1 (Av d.p.var.den),.int .i64 d.p.cut,.bool d.p.lvl.num.neg,.ro 1 (Av d.p.lvl.num.mag),.ro 1 (Av d.p.lvl.den),.int .i64 d.p.top,.bool d.p.rate.num.neg,.ro 1 (Av d.p.rate.num.mag),.ro 1 (Av d.p.rate.den),.int .i64 d.p.slack,.ro 9 (Ce d.pool),.ro 17 (Ip d.items),.ro 1 (As d.ess),.ro 2 (A2 d.uses),.int .i64 d.served,.int .i64 d.sec,.int .i64 d.nu,.int .i64 d.de,.int .i64 d.ex,.int .u64 d.seed]:=rfl;rw [k];have d0:=C2 d.p.rules;have d1:=Ag d.p.g.pts;have d2:=Ag d.p.g.pri;have u:=A5 d.p.en;have y:=Ak d.p.var.num.mag;have d5:=Ak d.p.var.den;have d6:=Ak d.p.lvl.num.mag;have z:=Ak d.p.lvl.den;have w:=Ak d.p.rate.num.mag;have d9:=Ak d.p.rate.den;have h:=Ca d.pool;have a:=Gh d.items;have j:=Ag d.ess;have f:=A5 d.uses;generalize Ey d.p.rules=rv at*;generalize As d.p.g.pts=pt at*;generalize As d.p.g.pri=pr at*;generalize A2 d.p.en=ev at*;generalize Av d.p.var.num.mag=vm at*;generalize Av d.p.var.den=vd at*;generalize Av d.p.lvl.num.mag=lm at*;generalize Av d.p.lvl.den=ld at*;generalize Av d.p.rate.num.mag=rm at*;generalize Av d.p.rate.den=rd at*;have aa:=Dx d.pool;have ab:=Hj d.items;have ad:=A4 d.ess;generalize Ce d.pool=lv at*;generalize Ip d.items=ae at*;generalize As d.ess=e at*;generalize A2 d.uses=uv at*;have o:i<e.length:=om;have m:(0:Int)<=(i:Int)/\(i:Int)<=e.length:=om;refine Ax func38 fun w0 N0=>?_;refine Aa [1,2] [2] sr (Aa [1,2,5] [2] (by simp [ge,o]<;>rfl) (Ab (Ab (Ad (Am 5 (by simp [m,n]<;>rfl) ?_)))));refine Ah t func64 ?_;refine Af [2,5,18] [2] sr ?_
 refine Ao (fun h1=>?_) fun h1=>Ae ?_
 ·exact Aa [4] [] sr (Aj (Ac sr (by rw [if_pos (by simpa using h1)])))
 rw [if_neg (by simpa using h1)];refine Ab (Ad (Am 3 sr ?_));refine Ah c func62 ?_;refine Af [6,7] [6] sr ?_;refine Ab (Aa [6,27] [6] sr ?_)
 refine Ao (fun h2=>?_) fun h2=>Ae ?_
 ·exact Aa [4] [] sr (Aj (Ac sr (by rw [if_pos (by simpa using h2)])))
 rw [if_neg (by simpa using h2)];refine Ab (Aa [30] [] sr ?_)
 refine Ao (fun s=>?_) fun s=>Ae ?_
 ·exact Aa [4] [] sr (Aj (Ac sr (by rw [if_pos (by simpa using s)])))
 exact Aa [4] [] sr (Aj (Ac sr (by rw [if_neg (by simpa using s)])))
structure DlOk(d:Dl):Prop where
 pok:d.p.ok
 pl:d.pool.length<=9
 st:Fa d.p.rules<=3
 il:d.items.length<=4000000
 is:∀it∈d.items,it.small
 el:d.ess.length<=4000000
def I8(d:Dl):Int:=
 if Jv d.ses 1 9999999=false\/Jv d.cand 1 9999999=false\/Jv d.sec 1 9999999=false then 3
 else if Tq d.p≠0 then Tq d.p
 else if Jp d.pool d.p.g.pts.length≠0 then Jp d.pool d.p.g.pts.length
 else if ciE d.items≠0 then ciE d.items
 else if Kt (Anx d.items) d.pool≠0 then Kt (Anx d.items) d.pool
 else if(5:Int)<d.ess.length then 5
 else if Kt (Anz d) (List.range d.ess.length)≠0 then Kt (Anz d) (List.range d.ess.length)
 else if Aen d.nu d.de d.ex≠0 then Aen d.nu d.de d.ex
 else A1s d.p d.pool d.uses d.served d.seed
def Dp(d:Dl):Te:=Anj d.p d.pool d.uses d.served d.seed
theorem Ws(hS:Jh)(d:Dl)(h:DlOk d):Hp gv prog 20 [d.v] (fun r=>r=teR (I8 d) (Dp d)):=by
 refine Hp.relaxP ?_;have ab:=Anw;have ah:=O0 d.p h.pok;have al:=Lz d.pool d.p.g.pts.length;have a3:=Aeq hS d.items h.il h.is;have av:=fun x=>Akc d.items x h.il
 have aj:=fun(i:Nat)(hi:i<d.ess.length)=>Af5 d i hi h.il h.el
 have ay:=Aa0 d.nu d.de d.ex;have u:=Avx d.p d.pool d.uses d.served d.seed h.pok h.pl (fun _ =>h.st);have a6:=h.pl;have a7:=h.el;have qp:=fun(k:Nat)(h:k<d.pool.length)=>Ij h
 have az:=fun(k:Nat)(h:k<d.pool.length)=>Nt (Anx d.items) h
 have a0:=fun(k:Nat)(h:k<(List.range d.ess.length).length)=>Nt (Anz d) h
 have aq:=A4 d.p.g.pts;have hT:∀e,teR e (Dp d)=.tup [(if e=0 then Dp d else Vi).v,.int .i64 e]:=fun e=>rfl
 change Hp _ _ _ _ (fun r=>r=teR (A1s d.p d.pool d.uses d.served d.seed) (Dp d))at u;unfold I8;generalize A1s d.p d.pool d.uses d.served d.seed=s at*;have aw:=hT s;rw [aw]at u;have a1:∀t:Te,t.v=.agg [.ro 1 (As t.elig),.ro 2 (A2 t.steps),.int .i64 t.pend,.ro 1 (Bw t.w),.int .u64 t.draw,.int .i64 t.stop]:=fun t=>rfl
 rw [a1]at u;have y1:=Ag (if s=0 then Dp d else Vi).elig;have y2:=A5 (if s=0 then Dp d else Vi).steps;have y3:=Bv (if s=0 then Dp d else Vi).w;have ax:Bi (.tup [.agg [.ro 1 (As (if s=0 then Dp d else Vi).elig),.ro 2 (A2 (if s=0 then Dp d else Vi).steps),.int .i64 (if s=0 then Dp d else Vi).pend,.ro 1 (Bw (if s=0 then Dp d else Vi).w),.int .u64 (if s=0 then Dp d else Vi).draw,.int .i64 (if s=0 then Dp d else Vi).stop],.int .i64 s]) (teR s (Dp d)):=Bi.refl _;generalize(if s=0 then Dp d else Vi)=tt at*;have a2:d.p.v=.agg [.int .i64 d.p.len,.ro 5 (Ey d.p.rules),.ro 1 (As d.p.g.pts),.ro 1 (As d.p.g.pri),.ro 2 (A2 d.p.en),.int .i64 d.p.mn,.bool d.p.var.num.neg,.ro 1 (Av d.p.var.num.mag),.ro 1 (Av d.p.var.den),.int .i64 d.p.cut,.bool d.p.lvl.num.neg,.ro 1 (Av d.p.lvl.num.mag),.ro 1 (Av d.p.lvl.den),.int .i64 d.p.top,.bool d.p.rate.num.neg,.ro 1 (Av d.p.rate.num.mag),.ro 1 (Av d.p.rate.den),.int .i64 d.p.slack]:=rfl;rw [a2]at ah u;have ar:d.v=V.agg [.int .i64 d.ses,.int .i64 d.cand,.int .i64 d.p.len,.ro 5 (Ey d.p.rules),.ro 1 (As d.p.g.pts),.ro 1 (As d.p.g.pri),.ro 2 (A2 d.p.en),.int .i64 d.p.mn,.bool d.p.var.num.neg,.ro 1 (Av d.p.var.num.mag),.ro 1 (Av d.p.var.den),.int .i64 d.p.cut,.bool d.p.lvl.num.neg,.ro 1 (Av d.p.lvl.num.mag),.ro 1 (Av d.p.lvl.den),.int .i64 d.p.top,.bool d.p.rate.num.neg,.ro 1 (Av d.p.rate.num.mag),.ro 1 (Av d.p.rate.den),.int .i64 d.p.slack,.ro 9 (Ce d.pool),.ro 17 (Ip d.items),.ro 1 (As d.ess),.ro 2 (A2 d.uses),.int .i64 d.served,.int .i64 d.sec,.int .i64 d.nu,.int .i64 d.de,.int .i64 d.ex,.int .u64 d.seed]:=rfl;rw [ar]at aj;rw [ar];rw [<- aq]at al;generalize ak:Jp d.pool (As d.p.g.pts).length=qe at*;rw [aq]at ak;rw [ak];generalize Tq d.p=pe at*;generalize ciE d.items=ce at*;generalize Aen d.nu d.de d.ex=ae at*;generalize Anz d=eE at*;generalize Anx d.items=pE at*;have d0:=C2 d.p.rules;have d1:=Ag d.p.g.pts;have d2:=Ag d.p.g.pri;have d3:=A5 d.p.en;have d4:=Ak d.p.var.num.mag;have d5:=Ak d.p.var.den;have d6:=Ak d.p.lvl.num.mag;have d7:=Ak d.p.lvl.den;have d8:=Ak d.p.rate.num.mag;have d9:=Ak d.p.rate.den;have n:=Ca d.pool;have f:=Gh d.items;have l:=Ag d.ess;have o:=A5 d.uses;generalize Ey d.p.rules=rv at*;generalize As d.p.g.pts=pt at*;generalize As d.p.g.pri=pr at*;generalize A2 d.p.en=ev at*;generalize Av d.p.var.num.mag=vm at*;generalize Av d.p.var.den=vd at*;generalize Av d.p.lvl.num.mag=lm at*;generalize Av d.p.lvl.den=ld at*;generalize Av d.p.rate.num.mag=rm at*;generalize Av d.p.rate.den=rd at*;have a4:=Dx d.pool;have a5:=Hj d.items;have am:=A4 d.ess;generalize Ce d.pool=lv at*;generalize Ip d.items=ao at*;generalize As d.ess=au at*;generalize A2 d.uses=uv at*;refine By func20 fun w0 N0 hG=>?_;refine Aa [1,2] [1,2] sr ?_;refine Ab (Ab (Ad (Am 2 sr ?_)));refine Ah (ab d.ses) func33 ?_;refine Am 4 sr ?_;refine Db (c:=Jv d.ses 1 9999999) (fun hg=>ab d.cand) func33 rfl kr sr rfl rfl sr sm sr ?_;refine Am 5 sr ?_;refine Db (c:=Jv d.ses 1 9999999&&Jv d.cand 1 9999999) (fun hg=>ab d.sec) func33 rfl kr sr rfl rfl sr sm sr ?_;refine Af [1,2,28] [1,2] sr ?_
 refine Ao (fun h1=>?_) fun h1=>Ae ?_
 ·refine Aa [2,3] [2] sr ?_;exact Aj (Ac sr (by rw [if_pos (by simpa [or_assoc]using h1)];exact Fq dc _))
 rw [if_neg (by simpa [or_assoc,and_assoc]using h1)];refine Ab (Ab (Ad (Am 2 sr ?_)));refine Bq hG ah func34 ?_;refine Af [1,2,4] [1,2] sr ?_;refine Aa [1,2,4,34] [1,2] sr ?_
 refine Ao (fun h2=>?_) fun h2=>Ae ?_
 ·refine Aa [2,3] [2] sr ?_;exact Aj (Ac sr (by rw [if_pos (by simpa using h2)];exact Fq (by simpa using h2) _))
 rw [if_neg (by simpa using h2)];refine Ab (Ab (Ad (Am 7 sr ?_)));refine Bq hG al func35 ?_;refine Af [1,2,5] [1,2] sr ?_;refine Aa [1,2,5,46] [1,2] sr ?_
 refine Ao (fun h3=>?_) fun h3=>Ae ?_
 ·refine Aa [2,3] [2] sr ?_;exact Aj (Ac sr (by rw [if_pos (by simpa using h3)];exact Fq (by simpa using h3) _))
 rw [if_neg (by simpa using h3)];refine Ab (Ab (Ad (Am 2 sr ?_)));refine Bq hG a3 func36 ?_;refine Af [1,2,6] [1,2] sr ?_;refine Aa [1,2,6,53] [1,2] sr ?_
 refine Ao (fun h4=>?_) fun h4=>Ae ?_
 ·refine Aa [2,3] [2] sr ?_;exact Aj (Ac sr (by rw [if_pos (by simpa using h4)];exact Fq (by simpa using h4) _))
 rw [if_neg (by simpa using h4)];refine Ab (Aa [1,2,57,58,59] [1,2] sr ?_);refine Ar (Br (fun k nx=>⟨[(1,V.bp 1 (0) 30 0 0),(2,V.bp 2 (1) 6 0 0),(57,.ro 9 lv),(58,_),(59,V.int .i64 k)],[(1,{ v:=0,sz:=30,ty:=44,es:=[V.agg [.int .i64 d.ses,.int .i64 d.cand,.int .i64 d.p.len,.ro 5 rv,.ro 1 pt,.ro 1 pr,.ro 2 ev,.int .i64 d.p.mn,.bool d.p.var.num.neg,.ro 1 vm,.ro 1 vd,.int .i64 d.p.cut,.bool d.p.lvl.num.neg,.ro 1 lm,.ro 1 ld,.int .i64 d.p.top,.bool d.p.rate.num.neg,.ro 1 rm,.ro 1 rd,.int .i64 d.p.slack,.ro 9 lv,.ro 17 ao,.ro 1 au,.ro 2 uv,.int .i64 d.served,.int .i64 d.sec,.int .i64 d.nu,.int .i64 d.de,.int .i64 d.ex,.int .u64 d.seed]]}),(2,{ v:=1,sz:=6,ty:=54,es:=[.agg [.nils,.nils,.int .i64 0,.nils,.int .u64 0,.int .i64 0]]})],nx,111⟩) (fun k=>Kt pE (d.pool.drop k)=Kt pE d.pool) d.pool.length _ sm (AS.le_refl _) ?_);intro k nx hk hI;refine Aa [1,2,57,58,59,60] [1,2] sr ?_;refine Ab ?_
 refine Ao (fun h5=>Ae ?_) fun h5=>?_
 ·have j:k<d.pool.length:=by simp at h5;omega
  have an:k<lv.length:=om;have ga:=qp k j;have aa:=az k j;have Dg:=A6 (k:=k) om;rw [aa]at hI;generalize d.pool[k]=x at*;have z:=av x;have pm:=Do x.m;rw [Ge]at ga z;refine Ab (Ar (Aa [1,2,8,57,58,59] [1,2,8] (by simp [ga,an]<;>rfl) ?_));refine Ab (Ad (Am 3 sr ?_));refine Ah z func37 ?_;refine Af [1,2,9,57,58,59] [1,2] sr ?_;refine Aa [1,2,9,57,58,59,68] [1,2] sr ?_
  refine Ao (fun h6=>?_) fun h6=>Ae ?_
  ·refine Aa [2,3] [2] sr ?_;exact Aj (Ac sr (by have ai:pE x≠0:=(by simpa using h6);rw [if_pos ai]at hI;rw [<- hI,if_pos ai];exact Fq (by simpa using h6) _))
  rw [if_neg (by simpa using h6)]at hI;refine A3 [1,2,57,58,59] [1,2] (by simp [Dg]<;>rfl) ?_;exact⟨j,hI,_,AS.le_refl _⟩
 ·refine Bb ?_;have ad:k=d.pool.length:=by simp at h5;omega
  rw [ad,Cd]at hI;rw [if_neg (by rw [<- hI];simp [Kt])];refine Ab (Aa [1,2,75] [1,2] sr ?_)
  refine Ao (fun h7=>?_) fun h7=>Ae ?_
  ·refine Aa [2,3] [2] sr ?_;exact Aj (Ac sr (by rw [if_pos (by simpa [am]using h7)];exact Fq dc _))
  rw [if_neg (by simpa [am]using h7)];refine Ab (Aa [1,2,79,80] [1,2] sr ?_);refine Ar (Br (fun k nx=>⟨[(1,V.bp 1 (0) 30 0 0),(2,V.bp 2 (1) 6 0 0),(79,_),(80,V.int .i64 k)],[(1,{ v:=0,sz:=30,ty:=44,es:=[V.agg [.int .i64 d.ses,.int .i64 d.cand,.int .i64 d.p.len,.ro 5 rv,.ro 1 pt,.ro 1 pr,.ro 2 ev,.int .i64 d.p.mn,.bool d.p.var.num.neg,.ro 1 vm,.ro 1 vd,.int .i64 d.p.cut,.bool d.p.lvl.num.neg,.ro 1 lm,.ro 1 ld,.int .i64 d.p.top,.bool d.p.rate.num.neg,.ro 1 rm,.ro 1 rd,.int .i64 d.p.slack,.ro 9 lv,.ro 17 ao,.ro 1 au,.ro 2 uv,.int .i64 d.served,.int .i64 d.sec,.int .i64 d.nu,.int .i64 d.de,.int .i64 d.ex,.int .u64 d.seed]]}),(2,{ v:=1,sz:=6,ty:=54,es:=[.agg [.nils,.nils,.int .i64 0,.nils,.int .u64 0,.int .i64 0]]})],nx,111⟩) (fun k=>Kt eE ((List.range d.ess.length).drop k)=Kt eE (List.range d.ess.length)) d.ess.length _ sm (AS.le_refl _) ?_);intro k nx hk a;refine Aa [1,2,79,80,81] [1,2] sr ?_;refine Ab ?_
  refine Ao (fun h8=>Ae ?_) fun h8=>?_
  ·have j:k<d.ess.length:=by simp at h8;omega
   have aa:=a0 k (by simpa using j);have Dg:=A6 (k:=k) om;rw [aa]at a;simp only [List.getElem_range]at a;have af:=aj k j;generalize eE k=ek at*;refine Ab (Ar (Aa [1,2,10,79,80] [1,2] sr ?_));refine Ab (Ad (Am 2 sr ?_));refine Ah af func38 ?_;refine Af [1,2,11,79,80] [1,2] sr ?_;refine Aa [1,2,11,79,80,87] [1,2] sr ?_
   refine Ao (fun h9=>?_) fun h9=>Ae ?_
   ·refine Aa [2,3] [2] sr ?_;exact Aj (Ac sr (by have ag:ek≠0:=(by simpa using h9);rw [if_pos ag]at a;rw [<- a,if_pos ag];exact Fq (by simpa using h9) _))
   rw [if_neg (by simpa using h9)]at a;refine A3 [1,2,79,80] [1,2] (by simp [Dg]<;>rfl) ?_;exact⟨j,a,_,AS.le_refl _⟩
  ·refine Bb ?_;have ad:k=d.ess.length:=by simp at h8;omega
   rw [ad,List.drop_of_length_le (by simp)]at a;rw [if_neg (by rw [<- a];simp [Kt])];refine Ab (Ab (Ad (Am 2 sr ?_)));refine Ah ay func27 ?_;refine Af [1,2,12] [1,2] sr ?_;refine Aa [1,2,12,95] [1,2] sr ?_
   refine Ao (fun y=>?_) fun y=>Ae ?_
   ·refine Aa [2,3] [2] sr ?_;exact Aj (Ac sr (by rw [if_pos (by simpa using y)];exact Fq (by simpa using y) _))
   rw [if_neg (by simpa using y)];refine Ab (Ad (Am 10 sr ?_));refine Bq hG u func39 ?_;refine Af [2,3] [2] sr ?_;exact Aj (Ac (by simp [results20]<;>rfl) (ax))
theorem A6d(e:Int)(t:Te):teR e t=.tup [(if e=0 then t else Vi).v,.int .i64 e]:=rfl
theorem Aer(hS:Jh)(d:Dl)(h:DlOk d):Hp gv prog 8 [d.v] (fun r=>r=.int .i64 (I8 d)):=by
 have a:=Ws hS d h;rw [A6d]at a;generalize(if I8 d=0 then Dp d else Vi)=tt at*;generalize I8 d=e at*;have i:tt.v=.agg [.ro 1 (As tt.elig),.ro 2 (A2 tt.steps),.int .i64 tt.pend,.ro 1 (Bw tt.w),.int .u64 tt.draw,.int .i64 tt.stop]:=rfl;rw [i]at a;have y1:=Ag tt.elig;have y2:=A5 tt.steps;have y3:=Bv tt.w;have c:d.v=V.agg [.int .i64 d.ses,.int .i64 d.cand,.int .i64 d.p.len,.ro 5 (Ey d.p.rules),.ro 1 (As d.p.g.pts),.ro 1 (As d.p.g.pri),.ro 2 (A2 d.p.en),.int .i64 d.p.mn,.bool d.p.var.num.neg,.ro 1 (Av d.p.var.num.mag),.ro 1 (Av d.p.var.den),.int .i64 d.p.cut,.bool d.p.lvl.num.neg,.ro 1 (Av d.p.lvl.num.mag),.ro 1 (Av d.p.lvl.den),.int .i64 d.p.top,.bool d.p.rate.num.neg,.ro 1 (Av d.p.rate.num.mag),.ro 1 (Av d.p.rate.den),.int .i64 d.p.slack,.ro 9 (Ce d.pool),.ro 17 (Ip d.items),.ro 1 (As d.ess),.ro 2 (A2 d.uses),.int .i64 d.served,.int .i64 d.sec,.int .i64 d.nu,.int .i64 d.de,.int .i64 d.ex,.int .u64 d.seed]:=rfl;rw [c]at a|-;have z:=C2 d.p.rules;have d1:=Ag d.p.g.pts;have d2:=Ag d.p.g.pri;have m:=A5 d.p.en;have o:=Ak d.p.var.num.mag;have u:=Ak d.p.var.den;have x:=Ak d.p.lvl.num.mag;have t:=Ak d.p.lvl.den;have n:=Ak d.p.rate.num.mag;have d9:=Ak d.p.rate.den;have k:=Ca d.pool;have f:=Gh d.items;have l:=Ag d.ess;have j:=A5 d.uses;generalize Ey d.p.rules=rv at*;generalize As d.p.g.pts=pt at*;generalize As d.p.g.pri=pr at*;generalize A2 d.p.en=ev at*;generalize Av d.p.var.num.mag=vm at*;generalize Av d.p.var.den=vd at*;generalize Av d.p.lvl.num.mag=lm at*;generalize Av d.p.lvl.den=ld at*;generalize Av d.p.rate.num.mag=rm at*;generalize Av d.p.rate.den=rd at*;have s:=Dx d.pool;have aa:=Hj d.items;have ab:=A4 d.ess;generalize Ce d.pool=lv at*;generalize Ip d.items=ad at*;generalize As d.ess=y at*;generalize A2 d.uses=uv at*;refine By func8 fun w0 N0 hG=>?_;refine Aa [1] [1] sr (Ab (Ad (Am 1 sr ?_)));refine Bq hG a func20 ?_;refine Af [4] [] sr ?_;exact Aa [2] [] sr (Aj (Ac sr rf))
theorem A19(l:List An)(g:FuncId)(us vs:List V)(f:An->Bool)(x:∀p∈l,FCQ gv prog (.fc g us vs) [An.v p] (fun r=>r=.bool (f p))):Hp gv prog 167 [.ro 5 (Fu l),.fc g us vs] (fun r=>r=.int .i64 (Hs f l 0)):=by
 have s:=fun(k:Nat)(h:k<l.length)=>Yv h
 have u:(Fu l).length=l.length:=Gy l;refine Tc 0 rfl fun n=>?_;rw [u]at n
 have o:(l.length:Int)<=9223372036854775807:=by
  have:maxLen<=9223372036854775807:=dc;omega
 generalize Fu l=m at*;refine By func167 fun w0 N0 t=>?_;refine Aa [0,1] [] sr (Ab (Aa [0,1,7,8] [] sr (Ar (Br (fun k nx=>⟨[(0,V.ro 5 m),(1,V.fc g us vs),(7,V.int .i64 m.length),(8,V.int .i64 k)],[],nx,19⟩) (fun k=>Hs f (l.drop k) k=Hs f l 0) l.length _ rfl (AS.le_refl _) ?_))));intro k nx hk c;refine Aa [0,1,7,8,9] [] sr (Ab ?_)
 refine Ao (fun h1=>Ae ?_) fun h1=>?_
 ·have a:k<l.length:=by simp at h1;omega
  have d:k<m.length:=om;have i:=s k a;have e:=x _ (Az a);have Dg:=A6 (k:=k) om;rw [Nz _ a]at c;generalize l[k]=y at i c e;have w:=Ag y.ch;unfold An.v at i e;generalize f _ =fb at c e;refine Ab (Ar (Aa [0,1,5,7,8] [] sr (Ab (Ad (Am 5 (by simp [i,d]<;>rfl) ?_)))));refine O7 t e sm rfl rfl sr sr (by simp) sr ?_;refine Af [0,1,5,7,8,16] [] sr ?_
  refine Ao (fun h2=>?_) fun h2=>Ae ?_
  ·exact Aa [4] [] sr (Aj (Ac sr (by rw [<- c,if_pos h2])))
  refine A3 [0,1,7,8] [] (by simp [Dg]<;>rfl) ?_;exact⟨a,by rw [<- c,if_neg (by rw [h2];decide)],_,AS.le_refl _⟩
 ·refine Bb ?_;have j:k=l.length:=by simp at h1;omega
  rw [j,Cd,Hs]at c;exact Aa [4] [] sr (Aj (Ac sr (by rw [<- c])))
theorem A2a(l:List An)(g:FuncId)(us vs:List V)(f:An->Bool)(d:∀p∈l,FCQ gv prog (.fc g us vs) [An.v p] (fun r=>r=.bool (f p))):Hp gv prog 118 [.ro 5 (Fu l),.fc g us vs] (fun r=>r=.bool (l.any f)):=by
 have a:=A19 l g us vs f d;rw [<- Of f l 0];have pl:=Ew l;generalize Fu l=lv,Hs f l 0=z at*;refine By func118 fun w0 N0 c=>?_;refine Aa [0,1] [] sr (Ab (Ad (Am 2 sr ?_)));refine Bq c a func167 ?_;refine Af [4] [] sr ?_;exact Aj (Ac sr (rfl))
theorem A6e(a:An)(id:Int):AC prog 119 [a.v,.rp (.int .i64 id)] (fun r=>r=.bool (decide (a.item=id))):=by
 have c:a.v=V.agg [.int .i64 a.item,.ro 1 (As a.ch),.int .i64 a.val,.str a.txt,.bool a.om]:=rfl;rw [c];have i5:=Ag a.ch;have d:=A4 a.ch;generalize As a.ch=hv at*;refine Ax func119 fun w0 N0=>?_;refine Aa [1,2] [2] sr ?_;exact Aa [3] [] sr (Aj (Ac sr rf))
def Aes(c:List An)(id:Int):Bool:=c.any fun a=>decide (a.item=id)
def Abc(a:List Int)(c:List An):Option Int:=a.find? fun id=> !Aes c id
theorem Av9(c:List Int)(d:List An)(he:c.length<=4000000):Hp gv prog 76 [.ro 1 (As c),.ro 5 (Fu d)] (fun r=>r=.int .i64 ((Abc c d).getD 0)):=by
 have e:=fun(id:Int)=>A2a d 119 [] [.rp (.int .i64 id)] (fun a=>decide (a.item=id)) (fun a _ =>Ape (us:=[]) (vs:=[.rp (.int .i64 id)]) (args:=[a.v]) ((A6e a id).q gv) func119 kr rfl)
 have u:=fun(k:Nat)(h:k<c.length)=>E8 h
 have le:=A4 c;have n:=fun(k:Nat)(h:k<c.length)=>Zr (fun id=> !Aes d id) h
 have m:∀id,Aes d id=d.any fun a=>decide (a.item=id):=fun id=>rfl
 unfold Abc;have t:=Ew d;simp only [<- m]at e;generalize Aes d=o,As c=ev,Fu d=w at*;refine By func76 fun w0 N0 y=>?_;refine Aa [0,1] [] sr (Ab (Aa [1,7,8,9] [] sr (Ar (Br (fun k nx=>⟨[(1,V.ro 5 w),(7,V.ro 1 ev),(8,V.int .i64 ev.length),(9,V.int .i64 k)],[],nx,19⟩) (fun k=>(c.drop k).find? (fun id=> !o id)=c.find? (fun id=> !o id)) c.length _ sm (AS.le_refl _) ?_))));intro k nx hk j;refine Aa [1,7,8,9,10] [] sr (Ab ?_)
 refine Ao (fun h1=>Ae ?_) fun h1=>?_
 ·have f:k<c.length:=by simp at h1;omega
  have i:k<ev.length:=om;have s:=u k f;have Dg:=A6 (k:=k) om;rw [n k f]at j;generalize c[k]=x at*;have g:=e x;refine Ab (Ar (Aa [1,6,7,8,9] [6] (by simp [s,i]<;>rfl) (Bp 6 [1,6,7,8,9] [] sr (Ab (Ad (Am 2 sr ?_))))));refine Bq y g func118 ?_;refine Af [1,6,7,8,9,16] [] sr ?_
  refine Ao (fun h2=>?_) fun h2=>Ae ?_
  ·exact Aa [4] [] sr (Aj (Ac sr (by rw [<- j,if_pos (by simpa using h2)];rfl)))
  refine A3 [1,7,8,9] [] (by simp [Dg]<;>rfl) ?_;exact⟨f,by rw [<- j,if_neg (by simpa using h2)],_,AS.le_refl _⟩
 ·refine Bb ?_;have l:k=c.length:=by simp at h1;omega
  rw [l,Cd]at j;exact Aa [4] [] sr (Aj (Ac sr (by rw [<- j];rfl)))
theorem An0(a:An)(ha:a.ch.length<=2000000):AC prog 72 [a.v] (fun r=>r=a.v):=by
 have c:=Akb (As a.ch) (Ag _) (Rg _) (by rw [A4];omega);have d:a.v=V.agg [.int .i64 a.item,.ro 1 (As a.ch),.int .i64 a.val,.str a.txt,.bool a.om]:=rfl;rw [d];have e:=Ag a.ch;have f:=A4 a.ch;generalize As a.ch=hv at*;refine Ax func72 fun w0 N0=>?_;refine Aa [1,2] [1,2] sr (Ab (Ad (Am 2 sr ?_)));refine Ah c func110 ?_;refine Af [1,2] [1,2] sr ?_;refine Aa [2] [2] sr ?_;exact Aj (Ac (by simp [results72]<;>rfl) (rfl))
theorem A2b(t:Te)(h:teOk t):AC prog 70 [t.v] (fun r=>r=t.v):=by
 have af:=h.sl;have ad:=h.el;have ae:=h.wl;have x:=fun(k:Nat)(f:k<t.w.length)=>h.wd _ (Az f)
 have g:=Aax (As t.elig) (Ag _) (Rg _) (by rw [A4];omega);have l:=Amy (A2 t.steps) (A5 _) (flatP _) (by rw [Du];omega);have e:=Ajr (Bw t.w) (Bv _) (by rw [Hk];omega);have j:=fun(n:Nat)(h:(F5 n).length<=100000)=>Aay (F5 n) (Ff n) (Ahx n) h
 have hq:∀(k:Nat)(h:k<t.w.length),G8 (Bw t.w) k=some (.ro 1 (F5 t.w[k])):=fun k h=>Kc h
 have z:∀(k:Nat)(h:k<t.w.length),(Bw t.w)[k]? =some (.ro 1 (F5 t.w[k])):=fun k h=>Pb h
 have u:t.v=.agg [.ro 1 (As t.elig),.ro 2 (A2 t.steps),.int .i64 t.pend,.ro 1 (Bw t.w),.int .u64 t.draw,.int .i64 t.stop]:=rfl;rw [u];have s1:=Ag t.elig;have s2:=A5 t.steps;have s3:=Bv t.w;have m:=Hk t.w;generalize As t.elig=ti,A2 t.steps=ts,Bw t.w=tw at*;refine Ax func70 fun w0 N0=>?_;refine Aa [1,2] [1,2] sr (Ab (Ad (Am 2 sr ?_)));refine Ah g func110 ?_;refine Af [1,2] [1,2] sr ?_;refine Ab (Ad (Am 2 sr ?_));refine Ah l func111 ?_;refine Af [1,2] [1,2] sr ?_;refine Ab (Ad (Am 2 sr ?_));refine El e func112 rfl kr rfl rfl rfl sr (fun k o f=>by cases f) ?_ fun ch s=>s.elim;rintro r aa ag⟨v,rfl,rfl⟩ab;refine⟨fun k f=>rfl,_,by simp<;>rfl,?_⟩;refine Af [1,2] [1,2,5] sr ?_;refine Ab (Aa [1,2,18,19,20] [1,2,5] sr (Ar (Br (fun k nx=>⟨[(1,V.bp 1 0 6 0 0),(2,V.bp 2 1 6 0 0),(18,V.sl 5 v 1 t.w.length),(19,V.int .i64 t.w.length),(20,V.int .i64 k)],[(1,⟨0,6,54,[V.agg [V.ro 1 ti,V.ro 2 ts,V.int .i64 t.pend,V.sl 5 v 1 t.w.length,V.int .u64 t.draw,V.int .i64 t.stop]]⟩),(2,⟨1,6,54,[V.agg [V.nils,V.nils,V.int .i64 0,V.nils,V.int .u64 0,V.int .i64 0]]⟩),(5,⟨v,1,30,tw⟩)],nx,33⟩) (fun k=>True) t.w.length _ trivial (by simp only [m];exact AS.le_refl _) ?_)));intro k nx f hI;refine Aa [1,2,18,19,20,21] [1,2,5] sr (Ab ?_)
 refine Ao (fun h1=>Ae ?_) fun h1=>?_
 ·have a:k<t.w.length:=by simp at h1;omega
  have c:k<tw.length:=om;have ga:=hq k a;have gg:=z k a;have Dg:=A6 (k:=k) om;have y:(F5 t.w[k]).length<=100000:=by have:=x k a;simpa [F5,Av]using this
  have d:=j t.w[k] y;have pn:=Ff t.w[k];generalize F5 t.w[k]=nv at*;have i:=Aec gg;refine Ab (Ar (Aa [1,2,3,4,18,19,20] [1,2,5] (by simp [ga,a]<;>rfl) ?_));refine C5 [(0,[]),(2,[]),(3,[]),(4,[]),(1,[]),(5,[]),(6,[])] Ds kr ?_;refine Cf 3 sr ?_;refine Bu (fun z=>d) func113 rfl kr rfl rfl sr rfl rfl sr (by simp) sr ?_;refine C6 [1,2,18,19,20] [1,2,5] (by simp [a,ga,i]<;>rfl) ?_;refine A3 [1,2,18,19,20] [1,2,5] (by simp [Dg]<;>rfl) ?_;exact⟨a,trivial,_,AS.le_refl _⟩
 ·refine Bb ?_;refine Bp 5 [1,2] [1,2] (by simp [s3,m]<;>rfl) (Aa [2] [2] sr ?_);exact Aj (Ac (by simp [results70]<;>rfl) (rfl))
theorem An1(es:List V)(hp:es.all V.pureE=true)(f:es.length<=100000):ACS prog 71 [.ro 5 es] [] (fun r c=>∃v,r=.sl 85 v 5 es.length/\c= [(85,⟨v,5,62,es⟩)]) (fun _ =>False):=by
 have e:=Mk (b:=64) f dc;refine Gs func71 fun w0 N0 a=>?_;refine Aa [0] [] sr (Ab (Ab (Ad (Am 1 sr ?_))));refine No rfl rfl sr rfl kr (fun b h=>⟨_,by simp<;>rfl,?_⟩);refine Af [0,4] [] sr ?_
 refine Ao (fun h1=>?_) fun h1=>Ae ?_
 ·refine Aa [2] [] sr ?_;have g:=Aq.1 (h h1);subst g;refine Fp 2 85 5 62 [2] [85] sr sr ?_;exact C1 a (Dr (A8 _ _) sr ⟨_,rfl,rfl⟩ (fun k o d=>Dk gt d))
 refine Axq 80 [2] [85] (by simp [e]<;>rfl) ?_;exact C1 a (Dr (A8 _ _) sr ⟨_,rfl,rfl⟩ (fun k o d=>Dk gt d))
theorem An2(es:List V)(hp:es.all V.pureE=true)(c:es.all Lu=true)(f:es.length<=100000):ACO prog 73 [.ro 4 es] 4 64 (fun F a=>(F=fun d q=>.sl d q 4 es.length)/\a=es):=by
 have e:=Mk (b:=32) f dc;refine Kr func73 fun w0 N0=>?_;refine Aa [0] [] sr (Ab (Ab (Ad (Am 1 sr ?_))));refine No rfl rfl sr rfl kr (fun b h=>⟨_,by simp<;>rfl,?_⟩);refine Af [0,4] [] sr ?_
 refine Ao (fun h1=>?_) fun h1=>Ae ?_
 ·refine Aa [2] [] sr ?_;have g:=Aq.1 (h h1);subst g;refine Fp 2 2 4 64 [2] [2] sr sr ?_;exact Aj (Ii 2 sr rfl rfl sm sr ⟨rfl,rfl⟩)
 refine Aa [2] [5] (by simp [e]<;>rfl) ?_;exact Aj (Ii 5 sr rfl rfl (by simpa using c) sr ⟨rfl,rfl⟩)
def seC(s:Se)(a c:V):V:=
 V.agg [.int .i64 s.st,.int .i64 s.us,.int .i64 s.la,.int .i64 s.sh,.ro 1 (As s.t.elig),.ro 2 (A2 s.t.steps),.int .i64 s.t.pend,.ro 1 (Bw s.t.w),.int .u64 s.t.draw,.int .i64 s.t.stop,a,c]
structure SeOk(s:Se):Prop where
 t:teOk s.t
 al:s.ans.length<=1000
 ac:∀a∈s.ans,a.small
 il:s.inc.length<=1000
theorem Bap(l:List In4):(Dt l).all Lu=true:=by
 rw [Aw];intro x a;simp only [Dt,Bm]at a;obtain⟨k,_,rfl⟩:=a;rfl
theorem Awa(s:Se)(h:SeOk s):
  ACS prog 41 [s.v] [] (fun r g=>∃q1 q2,r=seC s (.sl 85 q1 5 s.ans.length) (.sl 73 q2 4 s.inc.length)/\g= [(85,⟨q1,5,62,Fu s.ans⟩),(73,⟨q2,4,64,Dt s.inc⟩)]) (fun _ =>False):=by
 have ai:=h.al;have ag:=h.il;have m:=A2b s.t h.t;have u:=An1 (Fu s.ans) (Ew _) (by rw [Gy];omega);have z:=An2 (Dt s.inc) (Ec _) (Bap _) (by rw [F6];omega);have aa:=fun(k:Nat)(c:k<s.ans.length)=>An0 s.ans[k] (h.ac _ (Az c)).ch
 have hq:=fun(k:Nat)(c:k<s.ans.length)=>Yv c
 have hg:∀(k:Nat)(c:k<s.ans.length),(Fu s.ans)[k]? =some s.ans[k].v:=fun k c=>by rw [<- C0];exact Yv c
 have ad:s.t.v=.agg [.ro 1 (As s.t.elig),.ro 2 (A2 s.t.steps),.int .i64 s.t.pend,.ro 1 (Bw s.t.w),.int .u64 s.t.draw,.int .i64 s.t.stop]:=rfl;rw [ad]at m;unfold seC;have ab:s.v=V.agg [.int .i64 s.st,.int .i64 s.us,.int .i64 s.la,.int .i64 s.sh,.ro 1 (As s.t.elig),.ro 2 (A2 s.t.steps),.int .i64 s.t.pend,.ro 1 (Bw s.t.w),.int .u64 s.t.draw,.int .i64 s.t.stop,.ro 5 (Fu s.ans),.ro 4 (Dt s.inc)]:=rfl;rw [ab];have z1:=Ag s.t.elig;have z2:=A5 s.t.steps;have z3:=Bv s.t.w;have z4:=Ew s.ans;have z5:=Ec s.inc;have ae:=Gy s.ans;have x:=F6 s.inc;generalize As s.t.elig=ti,A2 s.t.steps=ts,Bw s.t.w=tw,Fu s.ans=e,Dt s.inc=y at*;refine Gs func41 fun w0 N0 d=>?_;refine Aa [1,2] [1,2] sr (Ab (Ad (Am 2 sr ?_)));refine Ah m func70 ?_;refine Af [1,2] [1,2] sr ?_;refine Ab (Ad (Am 2 sr ?_));refine El u func71 rfl kr rfl rfl rfl sr (fun k o c=>by cases c) ?_ fun ch n=>n.elim;rintro r g ah⟨v,rfl,rfl⟩af;refine⟨fun k c=>rfl,_,by simp<;>rfl,?_⟩;refine Af [1,2] [1,2,85] sr ?_;refine Ab (Aa [1,2,14,15,16] [1,2,85] sr (Ar (Br (fun k nx=>⟨[(1,V.bp 1 d 12 0 0),(2,V.bp 2 (d+1) 12 0 0),(14,V.sl 85 v 5 e.length),(15,V.int .i64 e.length),(16,V.int .i64 k)],[(1,⟨d,12,58,[V.agg [.int .i64 s.st,.int .i64 s.us,.int .i64 s.la,.int .i64 s.sh,.ro 1 ti,.ro 2 ts,.int .i64 s.t.pend,.ro 1 tw,.int .u64 s.t.draw,.int .i64 s.t.stop,V.sl 85 v 5 e.length,V.ro 4 y]]⟩),(2,⟨d+1,12,58,[V.agg [V.int .i64 0,V.int .i64 0,V.int .i64 0,V.int .i64 0,V.nils,V.nils,V.int .i64 0,V.nils,V.int .u64 0,V.int .i64 0,V.nils,V.nils]]⟩),(85,⟨v,5,62,e⟩)],nx,33⟩) (fun k=>True) s.ans.length _ trivial (AS.le_refl _) ?_)));intro k nx c hI;refine Aa [1,2,14,15,16,17] [1,2,85] sr (Ab ?_)
 refine Ao (fun h1=>Ae ?_) fun h1=>?_
 ·have f:k<s.ans.length:=by simp at h1;omega
  have j:k<e.length:=om;have ga:=hq k f;have gg:=hg k f;have Dg:=A6 (k:=k) om;have i:=aa k f;have pn:=Ag s.ans[k].ch;unfold An.v at ga gg i;generalize s.ans[k]=a at*;have l:=Aec gg;refine Ab (Ar (Aa [1,2,3,4,14,15,16] [1,2,4,85] (by simp [ga,j]<;>rfl) ?_));refine C5 [(0,[]),(2,[]),(1,[]),(3,[]),(4,[]),(5,[]),(6,[])] Ds kr ?_;refine Cf 4 sr ?_;refine Bu (fun hg=>i) func72 rfl kr rfl rfl sr rfl rfl sr (by simp) sr ?_;refine C6 [1,2,14,15,16] [1,2,85] (by simp [ga,l,j]<;>rfl) ?_;refine A3 [1,2,14,15,16] [1,2,85] (by simp [Dg]<;>rfl) ?_;exact⟨f,trivial,_,AS.le_refl _⟩
 ·refine Bb ?_;refine Ab (Ad (Am 2 sr ?_));refine L7 73 z func73 rfl kr rfl rfl rfl sr (by simp [AS.views,AS.view,AS.viewC]<;>rfl) sr ?_;refine Af [1,2] [1,2,73,85] sr ?_;refine Aa [2] [2,73,85] sr ?_;exact C1 d (Dr (A8 _ _) sr ⟨_,_,by rw [ae,x],rfl⟩ (fun k o c=>Ass gt gt c))
def Aet(s:Se)(v c a:Nat):List (Nat × Ob):=
 [(10,⟨v,12,58,[seC s (.sl 85 c 5 s.ans.length) (.sl 73 a 4 s.inc.length)]⟩),(85,⟨c,5,62,Fu s.ans⟩),(73,⟨a,4,64,Dt s.inc⟩)]
def evR(e:Int)(v:Nat)(s':Se)(r:V)(a:List (Nat × Ob)):Prop:=
 r=.int .i64 e/\((e≠0/\a= [])\/(e=0/\a= [(10,⟨v,12,58,[s'.v]⟩)]))
theorem Is{e:Int}{v:Nat}{s':Se}(h:e≠0):evR e v s' (.int .i64 e) []:=⟨rfl,.inl ⟨h,rfl⟩⟩
theorem Aq1{v:Nat}{s':Se}:evR 0 v s' (.int .i64 0) [(10,⟨v,12,58,[s'.v]⟩)]:=⟨rfl,.inr ⟨rfl,rfl⟩⟩
theorem Iu{a:List (Nat × Ob)}(k:Nat)(o:Ob)(h:Eng.get ([]:List (Nat × Ob)) k=some o):Eng.get a k=some o:=by cases h
def An4(d:Dl)(st:Te)(s:Se):Int:=if s.st≠0 then 8 else Af3 d.p d.pool st
def Vk(d:Dl)(st:Te)(s:Se):Se:={ s with st:=1,t:=T7 d.p d.pool st,sh:=(T7 d.p d.pool st).pend}
theorem Awb(d:Dl)(t:Te)(s:Se)(v aq iq:Nat)(h:AdP d.p d.pool)(ht:teOk t)(hw:J2 t.w 1000):
  U9 gv prog 42 [d.v,t.v,.bp 10 v 12 0 0] (Aet s v aq iq) (evR (An4 d t s) v (Vk d t s)):=by
 have c:=Ann d.p d.pool t h ht hw;have hT:∀e x,teR e x=.tup [(if e=0 then x else Vi).v,.int .i64 e]:=fun e x=>rfl
 rw [hT]at c;have aa:∀x:Te,Se.v { s with st:=1,t:=x,sh:=x.pend}=V.agg [.int .i64 1,.int .i64 s.us,.int .i64 s.la,.int .i64 x.pend,.ro 1 (As x.elig),.ro 2 (A2 x.steps),.int .i64 x.pend,.ro 1 (Bw x.w),.int .u64 x.draw,.int .i64 x.stop,.ro 5 (Fu s.ans),.ro 4 (Dt s.inc)]:=fun x=>rfl
 unfold An4 Vk Aet;generalize T7 d.p d.pool t=a,Af3 d.p d.pool t=ne at*;have m:=fun(h:ne≠0)=>Is (v:=v) (s':={ s with st:=1,t:=a,sh:=a.pend}) h
 have f:ne=0->∀r o,r=V.int .i64 0->o= [(10,(⟨v,12,58,[V.agg [.int .i64 1,.int .i64 s.us,.int .i64 s.la,.int .i64 (if ne=0 then a else Vi).pend,.ro 1 (As (if ne=0 then a else Vi).elig),.ro 2 (A2 (if ne=0 then a else Vi).steps),.int .i64 (if ne=0 then a else Vi).pend,.ro 1 (Bw (if ne=0 then a else Vi).w),.int .u64 (if ne=0 then a else Vi).draw,.int .i64 (if ne=0 then a else Vi).stop,.ro 5 (Fu s.ans),.ro 4 (Dt s.inc)]]⟩:Ob))]->evR ne v { s with st:=1,t:=a,sh:=a.pend} r o:=by
  intro h0 r o hr ho;rw [h0,if_pos rfl]at ho;rw [h0,hr,ho,<- aa];exact Aq1
 have j:∀x:Te,x.v=.agg [.ro 1 (As x.elig),.ro 2 (A2 x.steps),.int .i64 x.pend,.ro 1 (Bw x.w),.int .u64 x.draw,.int .i64 x.stop]:=fun x=>rfl
 rw [j,j]at c;rw [j];have l:=Ag (if ne=0 then a else Vi).elig;have u:=A5 (if ne=0 then a else Vi).steps;have n:=Bv (if ne=0 then a else Vi).w;have x1:=Ag t.elig;have x2:=A5 t.steps;have x3:=Bv t.w;generalize(if ne=0 then a else Vi)=tt at*;have ah:d.p.v=.agg [.int .i64 d.p.len,.ro 5 (Ey d.p.rules),.ro 1 (As d.p.g.pts),.ro 1 (As d.p.g.pri),.ro 2 (A2 d.p.en),.int .i64 d.p.mn,.bool d.p.var.num.neg,.ro 1 (Av d.p.var.num.mag),.ro 1 (Av d.p.var.den),.int .i64 d.p.cut,.bool d.p.lvl.num.neg,.ro 1 (Av d.p.lvl.num.mag),.ro 1 (Av d.p.lvl.den),.int .i64 d.p.top,.bool d.p.rate.num.neg,.ro 1 (Av d.p.rate.num.mag),.ro 1 (Av d.p.rate.den),.int .i64 d.p.slack]:=rfl;rw [ah]at c;unfold seC;have y:d.v=V.agg [.int .i64 d.ses,.int .i64 d.cand,.int .i64 d.p.len,.ro 5 (Ey d.p.rules),.ro 1 (As d.p.g.pts),.ro 1 (As d.p.g.pri),.ro 2 (A2 d.p.en),.int .i64 d.p.mn,.bool d.p.var.num.neg,.ro 1 (Av d.p.var.num.mag),.ro 1 (Av d.p.var.den),.int .i64 d.p.cut,.bool d.p.lvl.num.neg,.ro 1 (Av d.p.lvl.num.mag),.ro 1 (Av d.p.lvl.den),.int .i64 d.p.top,.bool d.p.rate.num.neg,.ro 1 (Av d.p.rate.num.mag),.ro 1 (Av d.p.rate.den),.int .i64 d.p.slack,.ro 9 (Ce d.pool),.ro 17 (Ip d.items),.ro 1 (As d.ess),.ro 2 (A2 d.uses),.int .i64 d.served,.int .i64 d.sec,.int .i64 d.nu,.int .i64 d.de,.int .i64 d.ex,.int .u64 d.seed]:=rfl;rw [y];have d0:=C2 d.p.rules;have d1:=Ag d.p.g.pts;have d2:=Ag d.p.g.pri;have d3:=A5 d.p.en;have d4:=Ak d.p.var.num.mag;have d5:=Ak d.p.var.den;have d6:=Ak d.p.lvl.num.mag;have d7:=Ak d.p.lvl.den;have d8:=Ak d.p.rate.num.mag;have d9:=Ak d.p.rate.den;have ag:=Ca d.pool;have ab:=Gh d.items;have ai:=Ag d.ess;have af:=A5 d.uses;generalize Ey d.p.rules=rv,As d.p.g.pts=pt,As d.p.g.pri=pr,A2 d.p.en=ev,Av d.p.var.num.mag=vm,Av d.p.var.den=vd,Av d.p.lvl.num.mag=lm,Av d.p.lvl.den=ld,Av d.p.rate.num.mag=rm,Av d.p.rate.den=rd at*;have ak:=Dx d.pool;have ao:=Hj d.items;have ar:=A4 d.ess;generalize Ce d.pool=lv,Ip d.items=au,As d.ess=an,A2 d.uses=uv at*;have z1:=Ag s.t.elig;have z2:=A5 s.t.steps;have z3:=Bv s.t.w;have z4:=Ew s.ans;have z5:=Ec s.inc;have ae:=Gy s.ans;have z:=F6 s.inc;generalize As s.t.elig=ti,A2 s.t.steps=ts,Bw s.t.w=tw,Fu s.ans=am,Dt s.inc=aj at*;have al:=Fo z4;have ad:=Fo z5;generalize As t.elig=xi,A2 t.steps=xs,Bw t.w=xw,As tt.elig=yi,A2 tt.steps=ys,Bw tt.w=yw at*;refine Hr func42 fun w0 N0 i hG=>?_;refine Aa [2,3,4] [3,4,10,73,85] sr (Ab (Aa [2,3,4,13] [3,4,10,73,85] sr ?_))
 refine Ao (fun h1=>?_) fun h1=>Ae ?_
 ·refine Aa [6] [10,73,85] sr ?_;exact C1 i (Dr (A8 _ _) sr (by rw [if_pos (by simpa using h1)];exact Is dc) Iu)
 rw [if_neg (by simpa using h1)];refine Ab (Ad (Am 5 sr ?_));refine Bq hG c func74 ?_;refine Af [2,7,8] [7,10,73,85] sr ?_;refine Ab (Aa [2,7,8,24] [7,10,73,85] sr ?_)
 refine Ao (fun h2=>?_) fun h2=>Ae ?_
 ·refine Aa [6] [10,73,85] sr ?_;exact C1 i (Dr (A8 _ _) sr (m (by simpa using h2)) Iu)
 refine Aa [2,7] [7,10,73,85] Go.sr (Aa [2,7] [7,10,73,85] Go.sr (Aa [] [10,73,85] Go.sr (Aa [6] [10,73,85] sr (Bp 85 [6] [10,73] (by simp [z4,ae,ad]<;>rfl) (Bp 73 [6] [10] (by simp [z5,z]<;>rfl) ?_)))));exact C1 i (Dr (A8 _ _) sr (f (by simpa using h2) _ _ rfl rfl) (fun k o hk=>Dk gt hk))
def Af6(s:Se):Int:=if s.st≠1 then 8 else 0
def Su(d:Dl)(s:Se)(n:Int):Se:={ s with st:=2,us:=L0 (H9 s n) (Ig d s)}
theorem Awc(d:Dl)(s:Se)(n:Int)(v aq iq:Nat):
  U9 gv prog 44 [d.v,.bp 10 v 12 0 0,.int .i64 n] (Aet s v aq iq) (evR (Af6 s) v (Su d s n)):=by
 have m:=Yw s n;have f:=Aeo d s;have e:Se.v (Su d s n)=V.agg [.int .i64 2,.int .i64 (L0 (H9 s n) (Ig d s)),.int .i64 s.la,.int .i64 s.sh,.ro 1 (As s.t.elig),.ro 2 (A2 s.t.steps),.int .i64 s.t.pend,.ro 1 (Bw s.t.w),.int .u64 s.t.draw,.int .i64 s.t.stop,.ro 5 (Fu s.ans),.ro 4 (Dt s.inc)]:=rfl;unfold L0 at e
 have a:∀r o,r=V.int .i64 0->o= [(10,(⟨v,12,58,[V.agg [.int .i64 2,.int .i64 (if Ig d s<H9 s n then Ig d s else H9 s n),.int .i64 s.la,.int .i64 s.sh,.ro 1 (As s.t.elig),.ro 2 (A2 s.t.steps),.int .i64 s.t.pend,.ro 1 (Bw s.t.w),.int .u64 s.t.draw,.int .i64 s.t.stop,.ro 5 (Fu s.ans),.ro 4 (Dt s.inc)]]⟩:Ob))]->evR 0 v (Su d s n) r o:=by
  intro r o hr ho;rw [hr,ho,<- e];exact Aq1
 unfold Af6 Aet seC;clear e;generalize Su d s n=ps,H9 s n=uu,Ig d s=ll at*;have aa:s.v=V.agg [.int .i64 s.st,.int .i64 s.us,.int .i64 s.la,.int .i64 s.sh,.ro 1 (As s.t.elig),.ro 2 (A2 s.t.steps),.int .i64 s.t.pend,.ro 1 (Bw s.t.w),.int .u64 s.t.draw,.int .i64 s.t.stop,.ro 5 (Fu s.ans),.ro 4 (Dt s.inc)]:=rfl;have i:d.v=V.agg [.int .i64 d.ses,.int .i64 d.cand,.int .i64 d.p.len,.ro 5 (Ey d.p.rules),.ro 1 (As d.p.g.pts),.ro 1 (As d.p.g.pri),.ro 2 (A2 d.p.en),.int .i64 d.p.mn,.bool d.p.var.num.neg,.ro 1 (Av d.p.var.num.mag),.ro 1 (Av d.p.var.den),.int .i64 d.p.cut,.bool d.p.lvl.num.neg,.ro 1 (Av d.p.lvl.num.mag),.ro 1 (Av d.p.lvl.den),.int .i64 d.p.top,.bool d.p.rate.num.neg,.ro 1 (Av d.p.rate.num.mag),.ro 1 (Av d.p.rate.den),.int .i64 d.p.slack,.ro 9 (Ce d.pool),.ro 17 (Ip d.items),.ro 1 (As d.ess),.ro 2 (A2 d.uses),.int .i64 d.served,.int .i64 d.sec,.int .i64 d.nu,.int .i64 d.de,.int .i64 d.ex,.int .u64 d.seed]:=rfl;rw [aa]at m f;rw [i]at f;rw [i];have d0:=C2 d.p.rules;have d1:=Ag d.p.g.pts;have d2:=Ag d.p.g.pri;have d3:=A5 d.p.en;have d4:=Ak d.p.var.num.mag;have d5:=Ak d.p.var.den;have d6:=Ak d.p.lvl.num.mag;have d7:=Ak d.p.lvl.den;have d8:=Ak d.p.rate.num.mag;have d9:=Ak d.p.rate.den;have x:=Ca d.pool;have l:=Gh d.items;have y:=Ag d.ess;have u:=A5 d.uses;generalize Ey d.p.rules=rv,As d.p.g.pts=pt,As d.p.g.pri=pr,A2 d.p.en=ev,Av d.p.var.num.mag=vm,Av d.p.var.den=vd,Av d.p.lvl.num.mag=lm,Av d.p.lvl.den=ld,Av d.p.rate.num.mag=rm,Av d.p.rate.den=rd at*;have ae:=Dx d.pool;have ah:=Hj d.items;have ai:=A4 d.ess;generalize Ce d.pool=lv,Ip d.items=aj,As d.ess=ag,A2 d.uses=uv at*;have z1:=Ag s.t.elig;have z2:=A5 s.t.steps;have z3:=Bv s.t.w;have z4:=Ew s.ans;have z:=Ec s.inc;have h:=Gy s.ans;have c:=F6 s.inc;generalize As s.t.elig=ti,A2 s.t.steps=ts,Bw s.t.w=tw,Fu s.ans=af,Dt s.inc=ad at*;have ab:=Fo z;refine Hr func44 fun w0 N0 j hG=>?_;refine Aa [1,2,3] [3,10,73,85] sr (Bp 85 [1,2,3] [3,10,73] (by simp [z4,h,ab]<;>rfl) (Bp 73 [1,2,3] [3,10] (by simp [z,c]<;>rfl) (Ab (Aa [1,2,3,11] [3,10] sr ?_))))
 refine Ao (fun h1=>?_) fun h1=>Ae ?_
 ·refine Aa [6] [10] sr ?_;exact C1 j (Dr (A8 _ _) sr (by rw [if_pos (by simpa using h1)];exact Is dc) Iu)
 rw [if_neg (by simpa using h1)];refine Ab (C5 [(0,[]),(1,[]),(2,[]),(4,[]),(7,[]),(8,[]),(3,[]),(5,[]),(6,[]),(9,[]),(10,[]),(11,[]),(12,[]),(13,[]),(14,[])] Ds kr ?_);refine Cf 7 sr ?_;refine Bu (fun hg=>m) func32 rfl kr rfl rfl sr rfl rfl sr (by simp) sr ?_;refine Cf 2 sr ?_;refine Bu (fun hg=>f) func31 rfl kr rfl rfl sr rfl rfl sr (by simp) sr ?_;refine C6 [1] [10] sr ?_;refine Aa [] [10] sr (Aa [6] [10] sr ?_);exact C1 j (Dr (A8 _ _) sr (a _ _ rfl rfl) (fun k o hk=>Dk gt hk))
def Aq2(s:Se):Int:=if A6b s=false then 8 else 0
def P5(t:Te):Te:=if t.stop=0 then { t with pend:=0,stop:=4}else t
def T8(d:Dl)(s:Se)(n:Int):Se:={ s with st:=3,us:=L0 (H9 s n) (Ig d s),sh:=0,t:=P5 s.t}
theorem Wt{v:Nat}{s':Se}{r x:V}{o:List (Nat × Ob)}(a:s'.v=x)(d:r=.int .i64 0)(c:o= [(10,⟨v,12,58,[x]⟩)]):evR 0 v s' r o:=by
 rw [d,c,<- a];exact Aq1
theorem Aq3(d:Dl)(s:Se)(n:Int)(v aq iq:Nat)(ht:teOk s.t):
  U9 gv prog 46 [d.v,.bp 10 v 12 0 0,.int .i64 n] (Aet s v aq iq) (evR (Aq2 s) v (T8 d s n)):=by
 have ad:=Atb s;have ab:=A8s s.t ht;have aj:=Yw s n;have ae:=Aeo d s;have i:=Yw { s with t:=P5 s.t} n;have e:=Aeo d { s with t:=P5 s.t};change AC _ _ _ (fun r=>r=.int .i64 (H9 s n))at i;change AC _ _ _ (fun r=>r=.int .i64 (Ig d s))at e
 have f:∀r o,r=V.int .i64 0->o= [(10,(⟨v,12,58,[V.agg [.int .i64 3,.int .i64 (if Ig d s<H9 s n then Ig d s else H9 s n),.int .i64 s.la,.int .i64 0,.ro 1 (As (P5 s.t).elig),.ro 2 (A2 (P5 s.t).steps),.int .i64 (P5 s.t).pend,.ro 1 (Bw (P5 s.t).w),.int .u64 (P5 s.t).draw,.int .i64 (P5 s.t).stop,.ro 5 (Fu s.ans),.ro 4 (Dt s.inc)]]⟩:Ob))]->evR 0 v (T8 d s n) r o:=
  fun r o hr ho=>Wt rfl hr ho
 unfold Aq2 Aet seC;generalize T8 d s n=ps,H9 s n=uu,Ig d s=ll at*;have ak:Se.v { s with t:=P5 s.t}=V.agg [.int .i64 s.st,.int .i64 s.us,.int .i64 s.la,.int .i64 s.sh,.ro 1 (As (P5 s.t).elig),.ro 2 (A2 (P5 s.t).steps),.int .i64 (P5 s.t).pend,.ro 1 (Bw (P5 s.t).w),.int .u64 (P5 s.t).draw,.int .i64 (P5 s.t).stop,.ro 5 (Fu s.ans),.ro 4 (Dt s.inc)]:=rfl;rw [ak]at i e;have an:s.t.v=.agg [.ro 1 (As s.t.elig),.ro 2 (A2 s.t.steps),.int .i64 s.t.pend,.ro 1 (Bw s.t.w),.int .u64 s.t.draw,.int .i64 s.t.stop]:=rfl;rw [an]at ab;have hT:teR 0 { s.t with pend:=0,stop:=4}=.tup [.agg [.ro 1 (As s.t.elig),.ro 2 (A2 s.t.steps),.int .i64 0,.ro 1 (Bw s.t.w),.int .u64 s.t.draw,.int .i64 4],.int .i64 0]:=rfl;have ag:s.t.stop=0->P5 s.t= { s.t with pend:=0,stop:=4}:=fun h=>if_pos h
 have ah:¬s.t.stop=0->P5 s.t=s.t:=fun h=>if_neg h
 have am:s.v=V.agg [.int .i64 s.st,.int .i64 s.us,.int .i64 s.la,.int .i64 s.sh,.ro 1 (As s.t.elig),.ro 2 (A2 s.t.steps),.int .i64 s.t.pend,.ro 1 (Bw s.t.w),.int .u64 s.t.draw,.int .i64 s.t.stop,.ro 5 (Fu s.ans),.ro 4 (Dt s.inc)]:=rfl;have ai:d.v=V.agg [.int .i64 d.ses,.int .i64 d.cand,.int .i64 d.p.len,.ro 5 (Ey d.p.rules),.ro 1 (As d.p.g.pts),.ro 1 (As d.p.g.pri),.ro 2 (A2 d.p.en),.int .i64 d.p.mn,.bool d.p.var.num.neg,.ro 1 (Av d.p.var.num.mag),.ro 1 (Av d.p.var.den),.int .i64 d.p.cut,.bool d.p.lvl.num.neg,.ro 1 (Av d.p.lvl.num.mag),.ro 1 (Av d.p.lvl.den),.int .i64 d.p.top,.bool d.p.rate.num.neg,.ro 1 (Av d.p.rate.num.mag),.ro 1 (Av d.p.rate.den),.int .i64 d.p.slack,.ro 9 (Ce d.pool),.ro 17 (Ip d.items),.ro 1 (As d.ess),.ro 2 (A2 d.uses),.int .i64 d.served,.int .i64 d.sec,.int .i64 d.nu,.int .i64 d.de,.int .i64 d.ex,.int .u64 d.seed]:=rfl;rw [am]at ad aj ae;rw [ai]at ae e;rw [ai];have d0:=C2 d.p.rules;have d1:=Ag d.p.g.pts;have d2:=Ag d.p.g.pri;have d3:=A5 d.p.en;have d4:=Ak d.p.var.num.mag;have d5:=Ak d.p.var.den;have d6:=Ak d.p.lvl.num.mag;have d7:=Ak d.p.lvl.den;have d8:=Ak d.p.rate.num.mag;have d9:=Ak d.p.rate.den;have m:=Ca d.pool;have j:=Gh d.items;have u:=Ag d.ess;have l:=A5 d.uses;generalize Ey d.p.rules=rv,As d.p.g.pts=pt,As d.p.g.pri=pr,A2 d.p.en=ev,Av d.p.var.num.mag=vm,Av d.p.var.den=vd,Av d.p.lvl.num.mag=lm,Av d.p.lvl.den=ld,Av d.p.rate.num.mag=rm,Av d.p.rate.den=rd at*;have au:=Dx d.pool;have aw:=Hj d.items;have ax:=A4 d.ess;generalize Ce d.pool=lv,Ip d.items=ay,As d.ess=av,A2 d.uses=uv at*
 by_cases aa:s.t.stop=0
 ·rw [ag aa]at i e f;have ar:(if s.t.stop≠0 then(21:Int)else 0)=0:=if_neg (by simp [aa]);rw [ar,hT]at ab;clear ag ah;have z1:=Ag s.t.elig;have z2:=A5 s.t.steps;have z3:=Bv s.t.w;have y:=Ew s.ans;have x:=Ec s.inc;have c:=Gy s.ans;have a:=F6 s.inc;generalize As s.t.elig=ti,A2 s.t.steps=ts,Bw s.t.w=tw,Fu s.ans=ao,Dt s.inc=al at*;have af:=Fo x;refine Hr func46 fun w0 N0 z hG=>?_;refine Aa [1,2,3] [3,10,73,85] sr (Bp 85 [1,2,3] [3,10,73] (by simp [y,c,af]<;>rfl) (Bp 73 [1,2,3] [3,10] (by simp [x,a]<;>rfl) (Ab (Ab (Ad (Am 3 sr ?_))))));refine Ah ad func77 ?_;refine Af [1,2,3,13] [3,10] sr ?_
  refine Ao (fun h1=>?_) fun h1=>Ae ?_
  ·refine Aa [6] [10] sr ?_;exact C1 z (Dr (A8 _ _) sr (by rw [if_pos (by simpa using h1)];exact Is dc) Iu)
  rw [if_neg (by simpa using h1)];refine Ab (Aa [1,2,3,19] [3,10] sr ?_)
  refine A7 rfl (fun h2=>?_) (fun h2=>by simp [aa]at h2)
  ·refine Ab (Ad (Am 4 sr ?_));refine Ah ab func78 ?_;refine Af [1,2,3,7,8] [3,7,10] sr ?_;refine Ab (Aa [1,2,3,7,8,29] [3,7,10] sr ?_);refine A7 rfl (fun h3=>by simp at h3) (fun h3=>Ae (A3 [1,2,3] [3,10] sr (Ab (C5 [(0,[]),(1,[]),(2,[]),(4,[]),(7,[]),(8,[]),(3,[]),(5,[]),(6,[]),(9,[]),(10,[]),(11,[]),(12,[]),(13,[]),(14,[])] Ds kr ?_))));refine Cf 7 sr ?_;refine Bu (fun hg=>i) func32 rfl kr rfl rfl sr rfl rfl sr (by simp) sr ?_;refine Cf 2 sr ?_;refine Bu (fun hg=>e) func31 rfl kr rfl rfl sr rfl rfl sr (by simp) sr ?_;refine C6 [1] [10] sr ?_;refine Aa [1] [10] sr (Aa [] [10] sr (Aa [6] [10] sr ?_));exact C1 z (Dr (A8 _ _) sr (f _ _ rfl rfl) (fun k o hk=>Dk gt hk))
 ·rw [ah aa]at i e f;clear ag ah hT;have z1:=Ag s.t.elig;have z2:=A5 s.t.steps;have z3:=Bv s.t.w;have y:=Ew s.ans;have x:=Ec s.inc;have c:=Gy s.ans;have a:=F6 s.inc;generalize As s.t.elig=ti,A2 s.t.steps=ts,Bw s.t.w=tw,Fu s.ans=ao,Dt s.inc=al at*;have af:=Fo x;refine Hr func46 fun w0 N0 z hG=>?_;refine Aa [1,2,3] [3,10,73,85] sr (Bp 85 [1,2,3] [3,10,73] (by simp [y,c,af]<;>rfl) (Bp 73 [1,2,3] [3,10] (by simp [x,a]<;>rfl) (Ab (Ab (Ad (Am 3 sr ?_))))));refine Ah ad func77 ?_;refine Af [1,2,3,13] [3,10] sr ?_
  refine Ao (fun h1=>?_) fun h1=>Ae ?_
  ·refine Aa [6] [10] sr ?_;exact C1 z (Dr (A8 _ _) sr (by rw [if_pos (by simpa using h1)];exact Is dc) Iu)
  rw [if_neg (by simpa using h1)];refine Ab (Aa [1,2,3,19] [3,10] sr ?_);refine A7 rfl (fun h2=>absurd (by simpa using h2) aa) (fun h2=>Ae (Ab (C5 [(0,[]),(1,[]),(2,[]),(4,[]),(7,[]),(8,[]),(3,[]),(5,[]),(6,[]),(9,[]),(10,[]),(11,[]),(12,[]),(13,[]),(14,[])] Ds kr ?_)));refine Cf 7 sr ?_;refine Bu (fun hg=>aj) func32 rfl kr rfl rfl sr rfl rfl sr (by simp) sr ?_;refine Cf 2 sr ?_;refine Bu (fun hg=>ae) func31 rfl kr rfl rfl sr rfl rfl sr (by simp) sr ?_;refine C6 [1] [10] sr ?_;refine Aa [1] [10] sr (Aa [] [10] sr (Aa [6] [10] sr ?_));exact C1 z (Dr (A8 _ _) sr (f _ _ rfl rfl) (fun k o hk=>Dk gt hk))
end Go.Proofs.YtpaccopbbffkaaaGreatDoor
