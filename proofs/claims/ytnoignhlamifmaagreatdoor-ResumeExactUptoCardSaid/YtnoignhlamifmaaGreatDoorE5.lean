/- Resuming, part 5. No condition. -/
import Derived.Test.YtnoignhlamifmaaGreatDoorE4
import Derived.Lib.ReplaceLaws
import Derived.RangeFuncBox
import Derived.Shelf.SlIterI.Sorted
set_option maxHeartbeats 8000000
set_option linter.all false
set_option maxRecDepth 10000
open Go.Proofs.Tryz
namespace Go.Proofs.YtnoignhlamifmaaGreatDoor
open Go.Eng Go.Eng.Limb
def Atd(p q:List Nat):Rat:=mkRat (Gj p:Int) (Gj q)
def Bim(a b:Nat):∃f,Pv (Limb.sgn false a) (Limb.sgn false b)=.tup [(nR (mkRat (a:Int) b)).v,.bool f]:=by
 unfold Pv Limb.sgn
 by_cases h:b=0
 .subst h;exact⟨false,by simp[X2]⟩
 .refine⟨true,?_⟩;have h2:((b:Nat):Int)≠0:=om;have c:G8 (b:Int)=1:=by unfold G8;(repeat' split)<;>omega
  simp[h,c]
def Bin(a b:Nat)(k:Nat)(h1:(B0 a).length<=k)(h2:(B0 b).length<=k)(c:1<=k):Q2 (mkRat (a:Int) b)<=k:=by
 by_cases h:b=0
 .subst h;rw[X2];have e:(0:Rat)=mkRat (Limb.sgn false 0) 1:=by first|rfl|simp[Limb.sgn,Sf]
  rw[e];exact Ad2 dc Gi (Ae (E7 (m:=1) dc) c)
 .exact Ad2 (b:=false) h h1 h2
def A8i(p q:List Nat)(a:RR)(hp:Ks p 1000000)(u:p.length<=1000000)(y:Ks q 1000000)(w:q.length<=1000000)(ha:a.ok 137438953472):
  AC prog 330 [.ro 1 (B9 p),.ro 1 (B9 q),a.v] (λx=>x=.bool (decide (0<=Ot (Atd p q) a.val))):=by
 have z:(B0 (Gj p)).length<=2000000:=by have:=Xf hp p.length (A2 _);rw[Bb]at this;omega
 have l2:(B0 (Gj q)).length<=2000000:=by have:=Xf y q.length (A2 _);rw[Bb]at this;omega
 have g:=Kr false (Gj p) om;have d:=Kr false (Gj q) om;have c:=Ab9 (nI (Limb.sgn false (Gj p))) (nI (Limb.sgn false (Gj q))) (Hp (Ae (show Pd (Limb.sgn false (Gj p))<=2000000 from z) dc)) (Hp (Ae (show Pd (Limb.sgn false (Gj q))<=2000000 from l2) dc));rw[I9,I9]at c;have⟨f,hf⟩:=Bim (Gj p) (Gj q);rw[hf]at c;have e:=S4 (nR (Atd p q)) a (N7 (Ae (Bin _ _ 2000000 z l2 dc) dc)) ha;rw[M5]at e;rw[(vRR a)]at e|-;change AC _ _ _ (λr=>r=V.tup [(nR (Atd p q)).v,.bool f])at c;generalize Atd p q=s at*;simp only[Y2,Avs]at g d c e|-;have l:=Ws;have i:=Jl;have j:=Jm;have m:=Bx p;have o:=Bx q;have k:=Af a.num.mag;have n:=Af a.den;generalize a.val=r,Az a.num.mag=am,Az a.den=ad,a.num.neg=ab at*;generalize Ot s r=cv at*;refine Ai func330 λw0 N0=>?_;refine Y [0,1,5] [5] sr (Au 1 sr ?_);refine Aw (App p hp u) func349 ?_;refine Aw g func215 ?_;refine C3 1 sr (Aw (App q y w) func349 ?_);refine Aw d func215 ?_;refine Ge [5,7] [5,7] c func161 ?_;refine Au 2 sr ?_;refine Ge [6] [] e func104 ?_;exact Bv sr (rfl)
def Bd5(p:List Nat)(k:Int)(r:Rat):V:=
 if A20 p≠0 then .tup [.i 0,.i (A20 p)]
 else if k<1\/(p.length:Int)-1<k\/Ot r (Afu 1 2)<=0\/0<Ot r (Afu 1 1)then .tup [.i 0,.i 3]
 else if 0<=Ot (Atd (p.drop k.toNat) p) r then .tup [.i 1,.i 0]
 else if 0<=Ot (Atd (p.take k.toNat) p) r then .tup [.i 0,.i 0]else .tup [.i (-1),.i 0]
def A8j(p:List Nat)(k:Int)(a:RR)(hp:Ks p 1000000)(j:p.length<=1000000)(u:a.ok 137438953472):
  AC prog 294 [.ro 1 (B9 p),.i k,a.v] (λx=>x=Bd5 p k a.val):=by
 have t:=Bil p hp j;have h:=Azf 1 2 dc dc dc dc dc;have d:=Azf 1 1 dc dc dc dc dc;have z1:Q2 (Afu 1 2)<=1:=Ad2 (b:=false) (n:=1) dc (E7 (m:=1) dc) (E7 (m:=1) dc);have z2:Q2 (Afu 1 1)<=1:=Ad2 (b:=false) (n:=1) dc (E7 (m:=1) dc) (E7 (m:=1) dc);have f:=S4 a (nR (Afu 1 2)) u (N7 (Ae z1 dc));have c:=S4 a (nR (Afu 1 1)) u (N7 (Ae z2 dc));rw[M5]at f c;have w:=Bx p;have lp:=Ib p;have ae:IntKind.i64.wrap ((p.length:Int)-1)=(p.length:Int)-1:=Bm om om;have p1:=Jl;have p2:=Jm;have l:=λ(p q:List Nat)=>A8i p q a
 have ea:=vRR a;rw[ea]at f c l|-;have p6:=Af a.num.mag;have p7:=Af a.den;unfold Bd5;generalize a.val=r,Az a.num.mag=am,Az a.den=ad,a.num.neg=ab,Afu 1 2=aa,Afu 1 1=z at*;simp only[Y2]at h d f c|-;refine Ai func294 λw0 N0=>?_;refine Y [0,1,5] [5] sr (J (Au 1 sr ?_));refine Ge [0,1,5,8] [5] t func328 ?_;refine Y [0,1,5,8,12] [5] sr ?_
 refine A1 (λh1=>?_) λh1=>?_
 .exact Y [6,7] [] sr (Aj (Aa sr (by rw[Ab (sG h1)])))
 refine J (J (H6 [0,10,11,1,10,1,12,4,17,1,16,1,18,3] sr ?_));refine B8 10 sr ?_;refine D7 (λo=>h) func329 rfl kr rfl rfl sr rfl rfl sr sm sr ?_;refine B8 1 sr ?_;refine D7 (λo=>f) func104 rfl kr rfl rfl sr rfl rfl sr sm sr ?_;refine B8 3 sr ?_;refine D7 (λo=>d) func329 rfl kr rfl rfl sr rfl rfl sr sm sr ?_;refine B8 1 sr ?_;refine D7 (λo=>c) func104 rfl kr rfl rfl sr rfl rfl sr sm sr ?_;refine C5 [0,1,5,34] [5] C1 ?_
 refine A1 (λh2=>?_) λh2=>?_
 .exact Y [6,7] [] sr (Aj (Aa sr (by rw[I (sG h1),Ab (by simpa[or_assoc]using h2)])))
 have hk:¬(k<1\/(p.length:Int)-1<k\/Ot r aa<=0\/0<Ot r z):=by simpa[or_assoc,and_assoc]using h2
 rw[I (sG h1),I hk];obtain⟨n,rfl⟩:∃n:Nat,k=n:=⟨k.toNat,by omega⟩;have hn:1<=n/\n<p.length:=om;have s:(0:Int)<=(n:Int)/\(n:Int)<=p.length:=om;have e1:(B9 p).drop n=B9 (p.drop n):=by simp[B9]
 have e2:(B9 p).take n=B9 (p.take n):=by simp[B9]
 have e3:(B9 (p.drop n)).take (p.length-n)=B9 (p.drop n):=Ba sm;have g:=l (p.drop n) p (λx hx=>hp x (Df hx)) so hp j u;have e:=l (p.take n) p (λx hx=>hp x (Da hx)) so hp j u;have i:=Bx (p.drop n);have af:=Bx (p.take n);simp only[C4]at g e|-;refine J (J (H6 [0,6] sr ?_));refine B8 5 C1 ?_;refine D7 (λo=>g) func330 rfl kr rfl rfl sR rfl rfl sR sm sR ?_;refine C5 [0,1,5,40] [5] sr ?_
 refine A1 (λy=>?_) λy=>?_
 .exact Y [6,7] [] sr (Aj (Aa sr (by rw[Ab (sG y)])))
 refine J (J (H6 [0,6] sr ?_));refine B8 5 C1 ?_;refine D7 (λo=>e) func330 rfl kr rfl rfl sr rfl rfl sr sm sr ?_;refine C5 [46] [] sr ?_
 refine Co (λh4=>?_) λh4=>D9 ?_
 .exact Y [6,7] [] sr (Aj (Aa sr (by rw[I (sG y),Ab (sG h4)])))
 exact Y [6,7] [] sr (Aj (Aa sr (by rw[I (sG y),I (sG h4)])))
def Bd6(g:Gr)(w:List Nat)(h:sumsOk g w):AE 253 [g.v,.ro 1 (B9 w)] (.tup [(nR (Aag g w)).v,.i 0]):=by
 have a:=Ar3 g w h;have i:g.v=.agg [.ro 1 (Ap g.pts),.ro 1 (Ap g.pri)]:=rfl;rw[i]at a|-;have d:=Ac g.pts;have j:=Ac g.pri;have c:=Bx w;simp only[Y2]at a|-;have p1:=Jl;have p2:=Jm;generalize Aag g w=q,Ap g.pts=f,Ap g.pri=e,B9 w=wv at*;refine Ai func253 λw0 N0=>?_;refine Y [1,2,4] [2,4] sr (Au 2 sr ?_);refine Ge [4,5] [4] a func293 ?_;exact Bv sr (rfl)
variable {free y:List Int}{i k m n:Nat}
structure NumP(vals:List Int)(rows:List Rw):Prop where
 hn:vals.length<=24
 hr:rows.length<=60
 hv:Bnd vals
 hc:∀r∈rows,r.coef.length=vals.length/\Bnd r.coef
 hm:∀r∈rows,(-24000000<=r.mn/\r.mn<=24000000)/\(-24000000<=r.mx/\r.mx<=24000000)
def Y8(free:List Int)(e:Nat):Nat:=(free.getD e 0).toNat
def Qh(free:List Int):Nat->Nat->List Nat
 |_,0=>[]
 |a,m+1=>Y8 free a::Qh free (a+1) m
structure FrOk(free:List Int)(n:Nat):Prop where
 lt:∀e,e<free.length->Y8 free e<n
 inj:∀e e',e<free.length->e'<free.length->Y8 free e=Y8 free e'->e=e'
 len:free.length<=24
def Agl:∀ {m a:Nat},i∈Qh free a m->∃e,a<=e/\e<a+m/\i=Y8 free e
 |0,_,h=>by simp[Qh]at h
 |m+1,a,h=>by
  rw[Qh]at h
  rcases Bu.1 h with h|h
  .exact⟨a,A2 _,by omega,h⟩
  .have⟨e,h1,h2,c⟩:=Agl h;exact⟨e,by omega,by omega,c⟩
def Bio(f:FrOk free n){a:Nat}(hd:a+m=free.length):∀i∈Qh free a m,i<n:=by
 intro i d;have⟨e,_,h2,c⟩:=Agl d;rw[c];exact f.lt e om
def Acy(d:FrOk free n){a:Nat}(hd:a+(m+1)=free.length):Y8 free a∉Qh free (a+1) m:=by
 intro h;have⟨e,h1,h2,c⟩:=Agl h;have:=d.inj a e om om c;omega
def Anf(c:FrOk free n):∀(m a:Nat),a+m=free.length->(Qh free a m).Nodup
 |0,_,_=>by simp[Qh]
 |m+1,a,h=>by
  rw[Qh,I2];exact⟨Acy c h,Anf c m (a+1) om⟩
def Apq(free:List Int):∀(m a:Nat),(Qh free a m).length=m
 |0,_=>rfl
 |m+1,a=>by rw[Qh,Ax,Apq free m]
structure SsOk(s:Ss):Prop where
 num:NumP s.vals s.rows
 fr:FrOk s.free s.vals.length
 low:s.low=loL mn0 s.rows s.free
 high:s.high=loL Tz s.rows s.free
 wide:s.wide=A7w s.rows
 order:s.order=Hk (Ak3 s.vals s.free) (R5 s.vals s.free s.free.length)
structure OkD(s:Ss)(d:Sd):Prop where
 bits:Ak2 s.vals.length d.x
 val:d.value=M7 s.vals d.x s.vals.length
 len:d.sums.length=s.rows.length
 sums:∀k,k<s.rows.length->d.sums.getD k 0=M7 (s.rows.getD k default).coef d.x s.vals.length
def Ate(s:Ss)(y:List Int):Prop:=Ak2 s.vals.length y/\∀k,k<s.rows.length->(s.rows.getD k default).mn<=M7 (s.rows.getD k default).coef y s.vals.length/\M7 (s.rows.getD k default).coef y s.vals.length<=(s.rows.getD k default).mx
def Bd7(s:Ss)(y x:List Int)(a m:Nat):Prop:=(∀i∈Qh s.free a m,x.getD i 0=0)/\(∀i,i∉Qh s.free a m->y.getD i 0=x.getD i 0)
def Awo{a:List Rw}{g:Int->Int}(d:k<a.length)(c:∀i,-1000000<=g ((a.getD k default).coef.getD i 0)/\g ((a.getD k default).coef.getD i 0)<=1000000)(e:free.length<=24):
  ∀m,m<=free.length->(loT g a free m).getD k 0=Iy (λi=>g ((a.getD k default).coef.getD i 0)) (Qh free (free.length-m) m)
 |0,_=>by simp[loT,Qh,Iy,List.getD,d]
 |m+1,hm=>by
  have f:=Apj (l:=Qh free (free.length-m) m) (λi _=>c i);rw[Apq]at f;have h1:free.length-(m+1)+1=free.length-m:=om
  have h2:(loT g a free (m+1)).getD k 0=IntKind.i64.wrap ((loT g a free m).getD k 0+g ((a.getD k default).coef.getD (free.getD (free.length-(m+1)) 0).toNat 0)):=by
   simp[loT,List.getD,d]
  rw[h2,(Awo d c e m om),Qh,Iy,h1];have h3:=c (Y8 free (free.length-(m+1)));show IntKind.i64.wrap (_ +g ((a.getD k default).coef.getD (Y8 free (free.length-(m+1))) 0))=_
  rw[Bm om oM];omega
def A8k{c:List Int}(h:Bnd c)(i:Nat): -1000000<=mn0 (c.getD i 0)/\mn0 (c.getD i 0)<=1000000:=by
 have:=h i;unfold mn0;split<;>omega
def A8l{c:List Int}(h:Bnd c)(i:Nat): -1000000<=Tz (c.getD i 0)/\Tz (c.getD i 0)<=1000000:=by
 have:=h i;unfold Tz;split<;>omega
def Atf{s:Ss}(hs:SsOk s){d:Sd}(g:OkD s d){a:Nat}(hm:a+m=s.free.length)(e:k<s.rows.length):
  Apg s d a k=(decide ((s.rows.getD k default).mx<M7 (s.rows.getD k default).coef d.x s.vals.length+Iy (λi=>mn0 ((s.rows.getD k default).coef.getD i 0)) (Qh s.free a m))||
   decide (M7 (s.rows.getD k default).coef d.x s.vals.length+Iy (λi=>Tz ((s.rows.getD k default).coef.getD i 0)) (Qh s.free a m)<(s.rows.getD k default).mn)):=by
 have c:=(Gy hs.num.hc e default).2;have f:=hs.fr.len;have hn:=hs.num.hn;have h1:=Awo (free:=s.free) e (A8k c) f m om;have h2:=Awo (free:=s.free) e (A8l c) f m om;have j:s.free.length-m=a:=om;have n:s.free.length-a=m:=om;rw[j]at h1 h2;unfold Apg;rw[hs.low,hs.high,Awk mn0 s.rows s.free om,Awk Tz s.rows s.free om,n,h1,h2,g.sums k e];have o:=Apj (l:=Qh s.free a m) (λi _=>A8k c i);have h:=Apj (l:=Qh s.free a m) (λi _=>A8l c i);have b3:=Vh c g.bits s.vals.length;rw[Apq]at o h;rw[Bm om om,Bm om oM]
def Ai4(s:Ss)(d:Sd)(a:Nat):∀k,Aio s d a k=true↔∀j,j<k->Apg s d a j=false
 |0=>by simp[Aio]
 |k+1=>by
  rw[Aio,Be,Ai4 s d a k]
  constructor
  .intro⟨h1,h2⟩ j c
   by_cases e:j=k
   .subst e;simpa using h2
   .exact h1 j om
  .intro h;exact⟨λj c=>h j om,by rw[h k oM];rfl⟩
def Apr{s:Ss}(hs:SsOk s){d:Sd}(h:OkD s d)(g:Ak2 s.vals.length y){a:Nat}(e:a+m=s.free.length)(f:Bd7 s y d.x a m)(c:List Int):
  M7 c y s.vals.length=M7 c d.x s.vals.length+Iy (λi=>c.getD i 0*y.getD i 0) (Qh s.free a m):=
 Ay5 c g _ h.bits (Anf hs.fr m a e) (Bio hs.fr e) f.1 f.2
def Atg{s:Ss}(hs:SsOk s){d:Sd}(g:OkD s d)(c:Ate s y){a:Nat}(f:a+m=s.free.length)(l:Bd7 s y d.x a m):Ak1 s d a=true:=by
 unfold Ak1;rw[Ai4];intro k e;rw[Atf hs g f e];have j:=(Gy hs.num.hc e default).2;have h1:=Apr hs g c.1 f l (s.rows.getD k default).coef;have h2:=c.2 k e
 have h3:Iy (λi=>mn0 ((s.rows.getD k default).coef.getD i 0)) (Qh s.free a m)<=Iy (λi=>(s.rows.getD k default).coef.getD i 0*y.getD i 0) (Qh s.free a m):=
  Agj λi _=>by rcases c.1.2 i with h|h<;>rw[h]<;>unfold mn0<;>split<;>omega
 have h4:Iy (λi=>(s.rows.getD k default).coef.getD i 0*y.getD i 0) (Qh s.free a m)<=Iy (λi=>Tz ((s.rows.getD k default).coef.getD i 0)) (Qh s.free a m):=
  Agj λi _=>by rcases c.1.2 i with h|h<;>rw[h]<;>unfold Tz<;>split<;>omega
 rw[E8,decide_eq_false_iff_not,decide_eq_false_iff_not];omega
def A21{s:Ss}(hs:SsOk s){d:Sd}(c:OkD s d)(h:Ak1 s d s.free.length=true):Ate s d.x:=by
 unfold Ak1 at h;rw[Ai4]at h;refine⟨c.bits,λk a=>?_⟩;have:=h k a;rw[Atf hs c (m:=0) om a,Qh,Iy,Iy,E8,decide_eq_false_iff_not,decide_eq_false_iff_not]at this;omega
def Ang(a:List Rw):∀k,k<=a.length->0<=(Tq a k).2/\(0<=(Tq a k).1->∀i,(a.getD (Tq a k).1.toNat default).coef.getD i 0=0\/(a.getD (Tq a k).1.toNat default).coef.getD i 0=1)
 |0,_=>by simp[Tq]
 |k+1,h=>by
  have ih:=Ang a k om;rw[Tq]
  split
  .rename_i h1;refine⟨by simp only;omega,λ_ i=>?_⟩;simp only[C4]
   by_cases e:(a.getD k default).coef.any W9=true
   .unfold Aim at h1;rw[Ab e]at h1;omega
   .by_cases d:i<(a.getD k default).coef.length
    .rw[Es]at e
     have h2:∀c∈(a.getD k default).coef,c=0\/c=1:=λc j=>by
      by_cases f:c=0
      .exact .inl f
      .by_cases g:c=1
       .exact .inr g
       .exact absurd ⟨c,j,by simp[W9,f,g]⟩ e
     exact Gy h2 d 0
    .left;generalize(a.getD k default).coef=c at d|-;simp[List.getD,Eg (P6 d)]
  .exact ih
def LLF(free:List Int)(a:Nat)(c:List Int):List Nat:=(c.filter (λe=>decide ((a:Int)<=e))).map (λe=>Y8 free e.toNat)
def A8m(free:List Int)(a:Nat){l m:List Int}(h:l.Perm m):(LLF free a l).Perm (LLF free a m):=(h.filter _).map _
def Azg(free:List Int)(a:Nat)(l:List Int)(k:Nat):LLF free a (l++[(k:Int)])=LLF free a l++if a<=k then [Y8 free k]else []:=by
 unfold LLF;rw[La,Cg]
 by_cases h:a<=k
 .rw[Ab h];simp[show(a:Int)<=k by omega]
 .rw[I h];simp[show¬(a:Int)<=k by omega]
def pv(a:List Int)(f:Nat->Int)(i:Nat):Int:=if 0<a.getD i 0 then f i else 0
def Azh(d free:List Int)(f:Nat->Int)(a:Nat):∀k,Iy f (LLF free a (R5 d free k))=(if a<k then pv d f (Y8 free a)else 0)+Iy f (LLF free (a+1) (R5 d free k))
 |0=>by simp[R5,LLF,Iy]
 |k+1=>by
  have ih:=Azh d free f a k;rw[R5]
  by_cases h:0<d.getD (free.getD k 0).toNat 0
  .rw[Ab h,Azg,Azg,As6,As6,ih]
   by_cases h1:a=k
   .subst h1;rw[I (c:=a<a) om,Ab (c:=a<=a) om,Ab (c:=a<a+1) om,I (c:=a+1<=a) oM];unfold pv;have e:0<d.getD (Y8 free a) 0:=h;rw[Ab e];simp only[Iy];omega
   .by_cases h2:a<k
    .rw[Ab (c:=a<k) h2,Ab (c:=a<=k) om,Ab (c:=a<k+1) om,Ab (c:=a+1<=k) oM];omega
    .rw[I (c:=a<k) h2,I (c:=a<=k) om,I (c:=a<k+1) om,I (c:=a+1<=k) oM];omega
  .rw[I h,ih]
   by_cases h1:a=k
   .subst h1;have e:¬0<d.getD (Y8 free a) 0:=h;rw[I (c:=a<a) om,Ab (c:=a<a+1) oM];unfold pv;rw[I e]
   .by_cases h2:a<k
    .rw[Ab (c:=a<k) h2,Ab (c:=a<k+1) oM]
    .rw[I (c:=a<k) h2,I (c:=a<k+1) oM]
def Awp(a free:List Int)(f:Nat->Int):∀(m c:Nat),c+m=free.length->Iy f (LLF free c (R5 a free free.length))=Iy (pv a f) (Qh free c m)
 |0,c,h=>by
  have:LLF free c (R5 a free free.length)=[]:=by
   unfold LLF;rw[List.map_eq_nil_iff,List.filter_eq_nil_iff];intro e d;have:=Acx a free free.length e d;simp;omega
  rw[this];rfl
 |m+1,c,h=>by
  rw[Azh,Ab om,Awp a free f m (c+1) om,Qh,Iy]
def Aps{c:List Int}(d:Bnd c)(a b:Int):Ak3 c free a b=c.getD (Y8 free b.toNat) 0-c.getD (Y8 free a.toNat) 0:=by
 have h1:=d (Y8 free b.toNat);have h2:=d (Y8 free a.toNat);show IntKind.i64.wrap (c.getD (Y8 free b.toNat) 0-c.getD (Y8 free a.toNat) 0)=_
 rw[Bm om oM]
def Bd8{a:List Int}(free:List Int)(c:Bnd a):CmpOk (Ak3 a free) (λ_=>True):=
 ⟨λx y _ _ h=>by rw[Aps c]at h|-;omega,λx y z _ _ _ h1 h2=>by rw[Aps c]at h1 h2|-;omega⟩
def Afm(s:Ss)(d:Sd):Int:=if 0<=s.wide then(s.rows.getD s.wide.toNat default).mx-d.sums.getD s.wide.toNat 0 else 0
def A8n{s:Ss}(hs:SsOk s){d:Sd}(f:OkD s d)(c:Nat):(Pe s d c 0).1=Afm s d/\ -48000000<=Afm s d/\Afm s d<=48000000:=by
 have hn:=hs.num.hn;show(if 0<=s.wide then IntKind.i64.wrap ((s.rows.getD s.wide.toNat default).mx-d.sums.getD s.wide.toNat 0)else 0)=_ /\_
 unfold Afm
 by_cases e:0<=s.wide
 .have h:=Agk s.rows s.rows.length (A2 _);have i:s.wide=(Tq s.rows s.rows.length).1:=hs.wide;have a:s.wide.toNat<s.rows.length:=om;have h1:=(Gy hs.num.hm a default).2;have g:=Vh (Gy hs.num.hc a default).2 f.bits s.vals.length;rw[<-f.sums _ a]at g;simp only[Ab e];rw[Bm om oM];exact⟨rfl,by omega,by omega⟩
 .simp only[I e];exact⟨trivial,by omega,by omega⟩
def Azi{s:Ss}(hs:SsOk s){d:Sd}(h:OkD s d)(a:Nat)(n:∀e∈s.order,0<=e/\e<s.free.length)(l:s.order.length<=24):∀k,k<=s.order.length->
  ((-48000000-(k:Int)<=(Pe s d a k).1/\(Pe s d a k).1<=48000000)/\(-24000000-1000000*(k:Int)<=(Pe s d a k).2/\(Pe s d a k).2<=24000000+1000000*(k:Int)))/\
  (Pe s d a k).2+gre (Mq s) (λi=>s.vals.getD i 0) (Pe s d a k).1 (LLF s.free a (s.order.drop k))=d.value+gre (Mq s) (λi=>s.vals.getD i 0) (Afm s d) (LLF s.free a s.order)
 |0,_=>by
  have hn:=hs.num.hn;have y:=Vh hs.num.hv h.bits s.vals.length;rw[<-h.val]at y;have z:=A8n hs h a;have g:(Pe s d a 0).2=d.value:=rfl;rw[g,z.1];exact⟨⟨by omega,by omega⟩,rfl⟩
 |k+1,hk=>by
  have⟨⟨hr,o⟩,c⟩:=(Azi hs h a n l k om);have f:k<s.order.length:=om;have m:s.order.drop k=s.order.getD k 0::s.order.drop (k+1):=by rw[Cr f];exact Bo f
  have r:=Gy n f 0;rw[m]at c;have w:=hs.num.hv (s.free.getD (s.order.getD k 0).toNat 0).toNat;rw[Pe];generalize s.order.getD k 0=e,d.value+gre (Mq s) (λi=>s.vals.getD i 0) (Afm s d) (LLF s.free a s.order)=u,Pe s d a k=p at*
  by_cases h1:e<a
  .rw[Ab h1]
   have:LLF s.free a (e::s.order.drop (k+1))=LLF s.free a (s.order.drop (k+1)):=by
    unfold LLF;rw[Iu (sG h1)]
   rw[this]at c;exact⟨⟨by omega,by omega⟩,c⟩
  .rw[I h1]
   have t:LLF s.free a (e::s.order.drop (k+1))=Y8 s.free e.toNat::LLF s.free a (s.order.drop (k+1)):=by
    unfold LLF;rw[Is so,Br]
   rw[t,gre]at c;have j:Y8 s.free e.toNat=(s.free.getD e.toNat 0).toNat:=rfl;rw[j]at c
   by_cases h2:Mq s (s.free.getD e.toNat 0).toNat=true
   .rw[Ab h2]at c|-
    by_cases g:p.1<=0
    .rw[Ab g]at c|-;exact⟨⟨by omega,by omega⟩,c⟩
    .rw[I g]at c|-;simp only;rw[Bm (x:=p.1-1) om om,Bm (x:=p.2+_) om oM];exact⟨⟨by omega,by omega⟩,by omega⟩
   .rw[I h2]at c|-;simp only;rw[Bm (x:=p.2+_) om oM];exact⟨⟨by omega,by omega⟩,by omega⟩
def A8o{s:Ss}(hs:SsOk s){d:Sd}(w:OkD s d)(r:Ate s y){f:Nat}(hm:f+m=s.free.length)(he:Bd7 s y d.x f m):M7 s.vals y s.vals.length<=Awh s d f:=by
 have ah:=hs.fr.len;have ag:s.order.length<=24:=by rw[hs.order,N9];have:=Acw s.vals s.free s.free.length;omega
 have ho:∀e∈s.order,0<=e/\e<s.free.length:=by rw[hs.order];exact λe h=>Acx s.vals s.free _ e (Up h)
 have⟨_,o⟩:=(Azi hs w f ho ag s.order.length (A2 _));rw[Cl]at o;have z:LLF s.free f []=[]:=rfl;rw[z,gre,Int.add_zero]at o;unfold Awh;rw[o,(Apr hs w r.1 hm he s.vals),<-w.val];have g:(LLF s.free f s.order).Perm (LLF s.free f (R5 s.vals s.free s.free.length)):=A8m _ _ (by rw[hs.order];exact R4 _ _)
 have h1:Iy (λi=>s.vals.getD i 0*y.getD i 0) (Qh s.free f m)<=Iy (λi=>s.vals.getD i 0*y.getD i 0) (LLF s.free f s.order):=by
  rw[Am6 _ g,Awp s.vals s.free _ m f hm];exact Agj λi _=>by unfold pv;dsimp only;split<;>rcases r.1.2 i with h|h<;>rw[h]<;>omega
 have h2:=Aiu (W:=Mq s) (v:=λi=>s.vals.getD i 0) (y:=λi=>y.getD i 0) r.1.2 (LLF s.free f s.order) (Afm s d) ?_ ?_ ?_
 .omega
 .unfold LLF;rw[List.pairwise_map];refine List.Pairwise.filter _ ?_;have:=Aej (Bd8 s.free hs.num.hv) (l:=R5 s.vals s.free s.free.length) (λ_ _=>trivial);rw[<-hs.order]at this;exact this.imp λ{a b}h=>by rw[Aps hs.num.hv]at h;omega
 .intro i hi;have n:=g.mem_iff.1 hi;unfold LLF at n;rw[Bc]at n;have⟨e,ae,ab⟩:=n;have af:=(Nj.1 ae).1
  have:∀k,∀e∈R5 s.vals s.free k,0<s.vals.getD (Y8 s.free e.toNat) 0:=by
   intro k
   induction k with
   |zero=>intro e h;simp[R5]at h
   |succ k ih=>
    intro e h;rw[R5]at h
    split at h
    .rename_i hp
     rcases Cc.1 h with h|h
     .exact ih e h
     .rw[Bz.1 h];exact hp
    .exact ih e h
  have h4:=this _ e af;rw[ab]at h4;exact h4
 .unfold Afm
  by_cases hw:0<=s.wide
  .rw[Ab hw];have ad:s.wide=(Tq s.rows s.rows.length).1:=hs.wide;have ai:=Agk s.rows s.rows.length (A2 _);have aa:s.wide.toNat<s.rows.length:=om;have j:=(Ang s.rows s.rows.length (A2 _)).2 om;rw[<-ad]at j;have h5:=Apr hs w r.1 hm he (s.rows.getD s.wide.toNat default).coef;have h6:=(r.2 _ aa).2;rw[w.sums _ aa]
   have h7:Iy (λi=>if Mq s i=true then y.getD i 0 else 0) (LLF s.free f s.order)<=Iy (λi=>(s.rows.getD s.wide.toNat default).coef.getD i 0*y.getD i 0) (Qh s.free f m):=by
    rw[Am6 _ g,Awp s.vals s.free _ m f hm];refine Agj λi _=>?_
    unfold pv Mq;have hb:=j i;have h:=r.1.2 i
    dsimp only
    generalize(s.rows.getD s.wide.toNat default).coef.getD i 0=c at hb|-;generalize y.getD i 0=u at h|-;rcases hb with rfl|rfl<;>rcases h with rfl|rfl<;>split<;>simp[hw]
   omega
  .rw[I hw];have:∀i,Mq s i=false:=λi=>by unfold Mq;simp[hw]
   refine Int.le_of_eq ?_;generalize LLF s.free f s.order=t
   induction t with
   |nil=>rfl
   |cons a t ih=>rw[Iy,ih,this a];rfl
def Apt(d:List Rw)(i:Nat)(f:Int)(a:List Int):∀k j,j<a.length->(Aaj d i f a k).getD j 0=if j<k then IntKind.i64.wrap (a.getD j 0+IntKind.i64.wrap (f*(d.getD j default).coef.getD i 0))else a.getD j 0
 |0,j,_=>by rw[I oM];rfl
 |k+1,j,g=>by
  rw[Aaj,Kt,Xb]
  by_cases h:j=k
  .subst h;rw[Ab (c:=j=j/\j<a.length) ⟨rfl,g⟩,Ab (c:=j<j+1) om,Apt d i f a j j g,I oM]
  .rw[I (c:=j=k/\k<a.length) (λe=>h e.1),Apt d i f a k j g]
   by_cases h2:j<k
   .rw[Ab (c:=j<k) h2,Ab (c:=j<k+1) oM]
   .rw[I (c:=j<k) h2,I (c:=j<k+1) oM]
def Yp{s:Ss}(hs:SsOk s){d:Sd}(e:OkD s d)(l:i<s.vals.length){b:Int}(m:(b=1/\d.x.getD i 0=0)\/(b=0/\d.x.getD i 0=1)):OkD s (I4 s d i b):=by
 have hn:=hs.num.hn;have j:b=0\/b=1:=om;have f:i<d.x.length:=by rw[e.bits.1];exact l
 have a:=As5 e.bits i j
 have g:∀c:Int,-1000000<=c/\c<=1000000->IntKind.i64.wrap (Proofs.YtnoignhlamifmaaGreatDoor.sgn b*c)=c*(b-d.x.getD i 0):=by
  intro c hc
  rcases m with⟨h1,h2⟩|⟨h1,h2⟩
  .rw[h1,h2,show Proofs.YtnoignhlamifmaaGreatDoor.sgn 1=1 from by decide,Int.one_mul,Bm om oM];omega
  .rw[h1,h2,show Proofs.YtnoignhlamifmaaGreatDoor.sgn 0= -1 from by decide,Bm om oM];omega
 refine⟨a,?_,?_,?_⟩
 .show IntKind.i64.wrap (d.value+IntKind.i64.wrap (Proofs.YtnoignhlamifmaaGreatDoor.sgn b*s.vals.getD i 0))=M7 s.vals (d.x.set i b) s.vals.length
  have h1:=Vh hs.num.hv a s.vals.length;rw[Acs s.vals b f,Ab l]at h1|-;rw[g _ (hs.num.hv i),e.val,Bm om oM]
 .show(Aaj s.rows i _ d.sums s.rows.length).length=_
  rw[Xb];exact e.len
 .intro k h;show(Aaj s.rows i (Proofs.YtnoignhlamifmaaGreatDoor.sgn b) d.sums s.rows.length).getD k 0=M7 _ (d.x.set i b) _
  have hc:=(Gy hs.num.hc h default).2;have h1:=Vh hc a s.vals.length;rw[Apt _ _ _ _ _ _ (by rw[e.len];exact h),Ab h,g _ (hc i),e.sums k h];rw[Acs _ b f,Ab l]at h1|-;rw[Bm om oM]
def A8p{s:Ss}{d:Sd}(a:OkD s d):OkD s (Amy s d):=⟨a.bits,a.val,a.len,a.sums⟩
def Ai5{x:List Int}{b:Int}(h:x.getD i 0=b)(c:Int)(a:i<x.length):(x.set i c).set i b=x:=by
 rw[List.set_set];apply Lu;intro k;rw[Lv]
 by_cases e:i=k
 .subst e;rw[Ab rfl,Ab a,<-h,Cr a];simp[a]
 .rw[I e]
def Yq{s:Ss}(hs:SsOk s):∀(m a:Nat)(d:Sd),a+m=s.free.length->OkD s d->(∀i∈Qh s.free a m,d.x.getD i 0=0)->OkD s (Hi s m a d)/\(Hi s m a d).x=d.x
 |0,a,d,_,h,_=>by
  rw[Hi];split
  .exact⟨h,rfl⟩
  .exact⟨A8p h,rfl⟩
 |m+1,a,d,z,h,w=>by
  have r:vI s a=Y8 s.free a:=rfl;have u:vI s a<s.vals.length:=by rw[r];exact hs.fr.lt a om
  have t:vI s a∉Qh s.free (a+1) m:=Acy hs.fr z;have l:d.x.getD (vI s a) 0=0:=w _ (by rw[Qh];simp[r]);have g:∀i∈Qh s.free (a+1) m,d.x.getD i 0=0:=λi f=>w i (by rw[Qh];simp[f])
  have n:vI s a<d.x.length:=by rw[h.bits.1];exact u
  have o:∀e:Sd,OkD s e->e.x=d.x->OkD s (I4 s (Hi s m (a+1) (I4 s e (vI s a) 1)) (vI s a) 0)/\(I4 s (Hi s m (a+1) (I4 s e (vI s a) 1)) (vI s a) 0).x=d.x:=by
   intro e he k;have h1:=Yp hs he u (b:=1) (.inl ⟨rfl,by rw[k];exact l⟩);have j:(I4 s e (vI s a) 1).x=d.x.set (vI s a) 1:=by show e.x.set _ _ =_;rw[k]
   have h2:=Yq hs m (a+1) _ om h1 (λi f=>by
    rw[j,Kt,I (c:=i=vI s a/\_) (λe=>t (e.1▸f))];exact g i f)
   refine⟨(Yp hs h2.1 u (b:=0) (.inr ⟨rfl,by rw[h2.2,j,Kt,Ab ⟨rfl,n⟩]⟩)),?_⟩;show(Hi s m (a+1) (I4 s e (vI s a) 1)).x.set _ _ =_
   rw[h2.2,j,Ai5 l 1 n]
  rw[Hi]
  split
  .exact⟨h,rfl⟩
  .split
   .have h1:=Yq hs m (a+1) d om h g;exact o _ h1.1 h1.2
   .have h1:=o d h rfl;have h2:=Yq hs m (a+1) _ om h1.1 (λi f=>by rw[h1.2];exact g i f);exact⟨h2.1,by rw[h2.2,h1.2]⟩
def Azj(s:Ss)(a:Nat->Int)(d:Sd):Prop:=d.found=true->∃y,Ate s y/\(∀i,(∀e,e<s.free.length->i≠Y8 s.free e)->y.getD i 0=a i)/\d.most=M7 s.vals y s.vals.length
def Yr{s:Ss}(hs:SsOk s)(k:Nat->Int):∀(m a:Nat)(d:Sd),a+m=s.free.length->OkD s d->(∀i∈Qh s.free a m,d.x.getD i 0=0)->(∀i,(∀e,e<s.free.length->i≠Y8 s.free e)->d.x.getD i 0=k i)->Azj s k d->Azj s k (Hi s m a d)
 |0,a,d,hm,l,_,y,n=>by
  rw[Hi];split
  .exact n
  .rename_i h;intro _
   have hp:Ak1 s d s.free.length=true:=by
    unfold Zq at h;have:a=s.free.length:=om;rw[this]at h;simp at h;exact h.1
   exact⟨d.x,A21 hs l hp,y,l.val⟩
 |m+1,a,d,hm,l,h0,y,n=>by
  have u:vI s a=Y8 s.free a:=rfl;have hi:vI s a<s.vals.length:=by rw[u];exact hs.fr.lt a om
  have z:vI s a∉Qh s.free (a+1) m:=Acy hs.fr hm;have w:d.x.getD (vI s a) 0=0:=h0 _ (by rw[Qh];simp[u]);have g:∀i∈Qh s.free (a+1) m,d.x.getD i 0=0:=λi f=>h0 i (by rw[Qh];simp[f])
  have r:vI s a<d.x.length:=by rw[l.bits.1];exact hi
  have t:∀e:Sd,OkD s e->e.x=d.x->Azj s k e->OkD s (I4 s (Hi s m (a+1) (I4 s e (vI s a) 1)) (vI s a) 0)/\(I4 s (Hi s m (a+1) (I4 s e (vI s a) 1)) (vI s a) 0).x=d.x/\Azj s k (I4 s (Hi s m (a+1) (I4 s e (vI s a) 1)) (vI s a) 0):=by
   intro e he o aa;have h1:=Yp hs he hi (b:=1) (.inl ⟨rfl,by rw[o];exact w⟩);have j:(I4 s e (vI s a) 1).x=d.x.set (vI s a) 1:=by show e.x.set _ _ =_;rw[o]
   have hz:∀i∈Qh s.free (a+1) m,(I4 s e (vI s a) 1).x.getD i 0=0:=λi f=>by
    rw[j,Kt,I (c:=i=vI s a/\_) (λe=>z (e.1▸f))];exact g i f
   have h2:=Yq hs m (a+1) _ om h1 hz;have h3:=Yp hs h2.1 hi (b:=0) (.inr ⟨rfl,by rw[h2.2,j,Kt,Ab ⟨rfl,r⟩]⟩)
   refine⟨h3,?_,?_⟩
   .show(Hi s m (a+1) (I4 s e (vI s a) 1)).x.set _ _ =_
    rw[h2.2,j,Ai5 w 1 r]
   .exact Yr hs k m (a+1) _ om h1 hz (λi f=>by
     rw[j,Kt,I (c:=i=vI s a/\_) (λe=>f a om e.1)];exact y i f) aa
  rw[Hi]
  split
  .exact n
  .split
   .have h1:=Yq hs m (a+1) d om l g;exact(t _ h1.1 h1.2 (Yr hs k m (a+1) d om l g y n)).2.2
   .have h1:=t d l rfl n;exact Yr hs k m (a+1) _ om h1.1 (λi f=>by rw[h1.2.1];exact g i f) (λi f=>by rw[h1.2.1];exact y i f) h1.2.2
def Aen(s:Ss):∀(m a:Nat)(d:Sd),(d.best.isSome=true->(Hi s m a d).best.isSome=true)/\((Hi s m a d).best=none->(Hi s m a d).least=d.least)
 |0,a,d=>by
  rw[Hi];split
  .exact⟨λh=>h,λ_=>rfl⟩
  .exact⟨λ_=>rfl,λh=>by simp[Amy]at h⟩
 |m+1,a,d=>by
  have c:=Aen s m (a+1)
  have f:∀e:Sd,(Hi s m (a+1) e).best=none->e.best=none:=λe h=>by
   cases hb:e.best with
   |none=>rfl
   |some b=>have:=(c e).1 (by rw[hb];rfl);rw[h]at this;simp at this
  rw[Hi]
  split
  .exact⟨λh=>h,λ_=>rfl⟩
  .split
   .refine⟨λh=>(c (I4 s (Hi s m (a+1) d) (vI s a) 1)).1 ((c d).1 h),λh=>?_⟩;have g:=h;exact((c _).2 g).trans ((c d).2 (f (I4 s (Hi s m (a+1) d) (vI s a) 1) g))
   .refine⟨λh=>(c _).1 ((c (I4 s d (vI s a) 1)).1 h),λh=>?_⟩;exact((c _).2 h).trans ((c _).2 (f (I4 s (Hi s m (a+1) (I4 s d (vI s a) 1)) (vI s a) 0) h))
def Aam{s:Ss}(hs:SsOk s)(h1:s.one=true)(r:Ate s y):∀(m a:Nat)(d:Sd),a+m=s.free.length->OkD s d->Bd7 s y d.x a m->d.least<=M7 s.vals y s.vals.length->(Hi s m a d).best.isSome=true
 |0,a,d,t,j,h,hl=>by
  have hb:=A8o hs j r t h;have n:Zq s d a=false:=by unfold Zq;rw[(Atg hs j r t h)];simp;omega
  rw[Hi,n];rfl
 |m+1,a,d,t,j,h,hl=>by
  have hb:=A8o hs j r t h;have n:Zq s d a=false:=by unfold Zq;rw[(Atg hs j r t h)];simp;omega
  have aa:Asz s a=false:=by unfold Asz;rw[h1];rfl
  have w:vI s a=Y8 s.free a:=rfl;have hi:vI s a<s.vals.length:=by rw[w];exact hs.fr.lt a om
  have ab:vI s a∉Qh s.free (a+1) m:=Acy hs.fr t;have l:d.x.getD (vI s a) 0=0:=h.1 _ (by rw[Qh];simp[w]);have z:∀i∈Qh s.free (a+1) m,d.x.getD i 0=0:=λi f=>h.1 i (by rw[Qh];simp[f])
  have k:vI s a<d.x.length:=by rw[j.bits.1];exact hi
  have o1:=Yp hs j hi (b:=1) (.inl ⟨rfl,l⟩);have g:(I4 s d (vI s a) 1).x=d.x.set (vI s a) 1:=rfl
  have hz:∀i∈Qh s.free (a+1) m,(I4 s d (vI s a) 1).x.getD i 0=0:=λi f=>by
   rw[g,Kt,I (c:=i=vI s a/\_) (λe=>ab (e.1▸f))];exact z i f
  have o2:=Yq hs m (a+1) _ om o1 hz;have o3:=Yp hs o2.1 hi (b:=0) (.inr ⟨rfl,by rw[o2.2,g,Kt,Ab ⟨rfl,k⟩]⟩)
  have u:(I4 s (Hi s m (a+1) (I4 s d (vI s a) 1)) (vI s a) 0).x=d.x:=by
   show(Hi s m (a+1) (I4 s d (vI s a) 1)).x.set _ _ =_
   rw[o2.2,g,Ai5 l 1 k]
  rw[Hi,n,aa];simp only[F3,if_false]
  by_cases hn:(Hi s m (a+1) (I4 s d (vI s a) 1)).best.isSome=true
  .exact(Aen s m (a+1) _).1 hn
  .rcases r.1.2 (vI s a)with o|o
   .refine Aam hs h1 r m (a+1) _ om o3 ⟨λi f=>by rw[u];exact z i f,λi f=>?_⟩ ?_
    .rw[u]
     by_cases e:i=vI s a
     .rw[e,o,l]
     .exact h.2 i (by rw[Qh];simp[f];exact e)
    .show(Hi s m (a+1) (I4 s d (vI s a) 1)).least<=_
     rw[((Aen s m (a+1) (I4 s d (vI s a) 1)).2 (sG hn))];exact hl
   .refine absurd (Aam hs h1 r m (a+1) _ om o1 ⟨hz,λi f=>?_⟩ hl) hn;rw[g,Kt]
    by_cases e:i=vI s a
    .rw[Ab ⟨e,k⟩,e,o]
    .rw[I (λe2=>e e2.1)];exact h.2 i (by rw[Qh];simp[f];exact e)
def Xg(s:Ss)(n:Nat):∀(m c:Nat)(d:Sd),d.x.length=n->(∀b,d.best=some b->b.length=n)->(Hi s m c d).x.length=n/\(∀b,(Hi s m c d).best=some b->b.length=n)
 |0,c,d,h1,h2=>by
  rw[Hi];split
  .exact⟨h1,h2⟩
  .exact⟨h1,λb f=>by simp only[Amy,Am]at f;rw[<-f];exact h1⟩
 |m+1,c,d,h1,h2=>by
  have hs:∀(e:Sd)(i:Nat)(b:Int),e.x.length=n->(I4 s e i b).x.length=n:=λe i b h=>by simp[I4,h]
  rw[Hi]
  split
  .exact⟨h1,h2⟩
  .split
   .have a:=Xg s n m (c+1) d h1 h2;have b:=Xg s n m (c+1) (I4 s (Hi s m (c+1) d) (vI s c) 1) (hs _ _ _ a.1) a.2;exact⟨hs _ _ _ b.1,b.2⟩
   .have a:=Xg s n m (c+1) (I4 s d (vI s c) 1) (hs _ _ _ h1) h2;exact Xg s n m (c+1) _ (hs _ _ _ a.1) a.2
def Apu{c m:Int}(h:inB c m=true): -m<=c/\c<=m:=by unfold inB at h;simpa using h
def A8q{l:List Int}(h:l.any (λc=> !inB c 1000000)≠true):Bnd l:=by
 intro i
 by_cases a:i<l.length
 .have:inB (l.getD i 0) 1000000=true:=by
   cases e:inB (l.getD i 0) 1000000
   .exact absurd (Es.2 ⟨l.getD i 0,by rw[Cr a];exact As a,by rw[e];rfl⟩) h
   .rfl
  exact Apu this
 .simp[List.getD,Eg (P6 a)]
def Bd9{a:List Int}{c:List Rw}{f:List Int}(h:Aeg a c f=0):NumP a c/\f.length=a.length/\∀i,-1<=f.getD i 0/\f.getD i 0<=1:=by
 unfold Aeg at h
 split at h
 .omega
 .rename_i h1
  split at h
  .omega
  .rename_i h2
   split at h
   .omega
   .rename_i k
    split at h
    .omega
    .rename_i l
     split at h
     .omega
     .rename_i n
      split at h
      .omega
      .rename_i m
       have g:∀r∈c,Ak0 r=false:=λr g=>by
        cases e:Ak0 r
        .rfl
        .exact absurd (Es.2 ⟨r,g,e⟩) n
       refine⟨⟨by omega,by omega,A8q l,λr d=>⟨?_,?_⟩,λr d=>?_⟩,by omega,λi=>?_⟩
       .by_cases e:r.coef.length=a.length
        .exact e
        .exact absurd (Es.2 ⟨r,d,by simpa using e⟩) k
       .have:=g r d;unfold Ak0 at this;simp only[E8]at this;exact A8q (by rw[this.1];simp)
       .have:=g r d;unfold Ak0 at this;simp only[E8,Bool.not_eq_false']at this;exact⟨Apu this.2.1,Apu this.2.2⟩
       .by_cases j:i<f.length
        .by_cases e:f.getD i 0< -1\/1<f.getD i 0
         .exact absurd (Es.2 ⟨f.getD i 0,by rw[Cr j];exact As j,by simpa using e⟩) m
         .omega
        .simp[List.getD,Eg (P6 j)]
def Xh(c:List Int):∀k,(J6 c k).Nodup
 |0=>by simp[J6]
 |k+1=>by
  rw[J6];split
  .rw[O1];refine⟨Xh c k,by simp,λa d b e=>?_⟩;have:=Acn c k a d;have:=Bz.1 e;omega
  .exact Xh c k
def Aeo(a:List Int):∀k,∀i∈J6 a k,a.getD i.toNat 0<0
 |0,i,h=>by simp[J6]at h
 |k+1,i,h=>by
  rw[J6]at h;split at h
  .rename_i hp
   rcases Cc.1 h with h|h
   .exact Aeo a k i h
   .rw[Bz.1 h];exact hp
  .exact Aeo a k i h
def Azk{a:List Int}(hn:n<=24)(hx:a.length=n)(hp:free.Perm (E0 a)):FrOk free n:=by
 have d:∀e,e<free.length->0<=free.getD e 0/\free.getD e 0<n:=λe c=>by
  have:=Acn a a.length (free.getD e 0) (hp.mem_iff.1 (by rw[Cr c];exact As c));omega
 have g:=hp.nodup_iff.2 (Xh a _)
 refine⟨λe c=>by have:=d e c;unfold Y8;omega,λe e' c f h=>?_,?_⟩
 .have h1:=d e c;have h2:=d e' f;unfold Y8 at h;have i:free.getD e 0=free.getD e' 0:=om;rw[Cr c,Cr f]at i;exact(List.getElem_inj g).1 i
 .rw[hp.length_eq];have:=Un a a.length;unfold E0;omega
def A8r(a:List Int)(i:Nat):(xP a).getD i 0=Tz (a.getD i 0):=by
 unfold xP
 by_cases h:i<a.length
 .rw[Cr (sG h),Cr h];simp
 .simp[List.getD,Eg (P6 h),Tz]
def Bk5(a:List Int)(c:List Rw)(d:List Int):Azc a c d:=by
 intro hz _ o;have⟨g,t,aj⟩:=Bd9 hz;have hn:=g.hn;have j:Ak2 a.length (xP d):=⟨by simp[xP,t],λi=>by rw[A8r];have:=aj i;unfold Tz;split<;>omega⟩;have x:=R4 (Ts a) (E0 d);have sg:SsOk (grS a c d):=⟨g,(Azk hn t x),rfl,rfl,rfl,rfl⟩;have sf:SsOk (Aix a c d):=⟨g,(Azk hn t (List.Perm.refl (E0 d))),rfl,rfl,rfl,rfl⟩
 have aa:∀k,k<c.length->(smP c (xP d)).getD k 0=M7 (c.getD k default).coef (xP d) a.length:=by
  intro k z;have hc:=Gy g.hc z default;unfold smP;rw[Cr (sG z),List.getElem_map,<-Cr z default];unfold Zp;rw[hc.1,Air hc.2 j _ oM]
 have r:Zp a (xP d)=M7 a (xP d) a.length:=by unfold Zp;exact Air g.hv j _ om
 have l:∀(free:List Int)(m f:Nat),free.Perm (E0 d)->f+m=free.length->∀i∈Qh free f m,(xP d).getD i 0=0:=by
  intro free m f hp hm i hi;have⟨e,_,h2,h3⟩:=Agl hi;have he:e<free.length:=om;have:=Aeo d d.length (free.getD e 0) (hp.mem_iff.1 (by rw[Cr he];exact As he));rw[A8r,h3];unfold Y8 Tz;rw[Ab this]
 have og:OkD (grS a c d) {nwD a c d with least:= -24000000}:=⟨j,r,by simp[nwD,smP,grS,nwS],aa⟩
 have s:=Yr sg (λi=>(xP d).getD i 0) (Hk (Ts a) (E0 d)).length 0 _ (show 0+(Hk (Ts a) (E0 d)).length=(grS a c d).free.length from Dn _) og
  (l _ _ _ x (Dn _)) (λi _=>rfl) (λh=>by simp[nwD]at h) o
 have⟨y,hy,ai,w⟩:=s;have off:OkD (Aix a c d) {nwD a c d with least:=(grD a c d).most}:=⟨j,r,by simp[nwD,smP,Aix,nwS],aa⟩
 have u:=Aam (y:=y) sf rfl hy (E0 d).length 0 {nwD a c d with least:=(grD a c d).most} (show 0+(E0 d).length=(Aix a c d).free.length from Dn _) off
  ⟨l _ _ _ (.refl _) (Dn _),λi hi=>ai i (λe he h=>hi ?_)⟩ (Int.le_of_eq w)
 .have⟨b,hb⟩:=Cv.1 u;exact⟨b,hb,(Xg (Aix a c d) a.length (E0 d).length 0 {nwD a c d with least:=(grD a c d).most} j.1 (λb hb=>by simp[nwD]at hb)).2 b hb⟩
 .have ad:e<(Hk (Ts a) (E0 d)).length:=he;have ab:(Hk (Ts a) (E0 d)).getD e 0∈E0 d:=x.mem_iff.1 (by rw[Cr ad];exact As ad);have h:i=((Hk (Ts a) (E0 d)).getD e 0).toNat:=h
  have ae:∀(m f:Nat),f+m=(E0 d).length->∀e,f<=e->e<(E0 d).length->Y8 (E0 d) e∈Qh (E0 d) f m:=by
   intro m
   induction m with
   |zero=>intro f h1 e h2 h3;omega
   |succ m ih=>
    intro f h1 e h2 h3;rw[Qh]
    by_cases h4:e=f
    .rw[h4];simp
    .exact Dt _ (ih (f+1) om e om h3)
  have⟨k,z,ak⟩:=Kb.1 ab;have h7:=ae (E0 d).length 0 om k om z;have h8:Y8 (E0 d) k=i:=by unfold Y8;rw[Cr z,ak,h]
  rw[h8]at h7;exact h7
def Apv(W:List (Int×Int))(a b:Int):Aem W a b<0↔Fi W b<Fi W a\/(Fi W b=Fi W a/\a<b):=by
 unfold Aem;simp only[orF,Go.Proofs.YtnoignhlamifmaaGreatDoor.cmpI];generalize Fi W a=u,Fi W b=v
 (repeat' split)<;>omega
def Bea(W:List (Int×Int)):CmpOk (Aem W) (λ_=>True):=
 ⟨λx y _ _ h=>by rw[Apv]at h|-;omega,λx y z _ _ _ h1 h2=>by rw[Apv]at h1 h2|-;omega⟩
def A8s(W:List (Int×Int)){l m:List Int}(c:l.Nodup)(d:m.Nodup)(h:∀a,a∈l↔a∈m):Hk (Aem W) l=Hk (Aem W) m:=
 A2u (Bea W) (λ_ _=>trivial) ((List.perm_ext_iff_of_nodup c d).2 h) (λx y _ _ h1 h2=>by rw[Apv]at h1 h2;omega)
def Ath(d:Int):∀(l e c:List Int)(t:Rat),0<=t->0<=Pj d l e c t
 |a::l,b::e,w::c,t,h=>by
  rw[Pj];refine Ath d l e c _ ?_
  have h1:(0:Rat)<=mkRat ((b-a)*(b-a)) (1000*d*d*w).natAbs:=by
   rw[<-Rat.divInt_ofNat];refine Rat.divInt_nonneg ?_ (Int.natCast_nonneg _)
   rcases Int.le_total 0 (b-a)with h|h
   .exact Int.mul_nonneg h h
   .exact Int.mul_nonneg_of_nonpos_of_nonpos h h
  exact Rat.add_nonneg h h1
 |[],_,_,t,h=>by unfold Pj;exact h
 |_ ::_,[],_,t,h=>by unfold Pj;exact h
 |_ ::_,_ ::_,[],t,h=>by unfold Pj;exact h
def Awq(a:List Int)(m:Mo)(q:Nat):0<=W0 (Qr a m q)/\W0 (Qr a m q)<=1000000:=by
 have c:0<=Qr a m q:=by
  unfold Qr;split
  .exact Rat.le_refl
  .exact Ath _ _ _ _ _ Rat.le_refl
 have h1:0<=(Qr a m q*(100000000:Int)).floor:=by
  rw[Rat.le_floor_iff];exact Rat.mul_nonneg c dc
 unfold W0;split<;>omega
variable {w:List Nat}
def Awr(p:List Nat)(k:Int)(r:Rat):Int×Int:=
 if A20 p≠0 then(0,A20 p)
 else if k<1\/(p.length:Int)-1<k\/Ot r (Afu 1 2)<=0\/0<Ot r (Afu 1 1)then(0,3)
 else if 0<=Ot (Atd (p.drop k.toNat) p) r then(1,0)
 else if 0<=Ot (Atd (p.take k.toNat) p) r then(0,0)else(-1,0)
def Beb(p:List Nat)(k:Int)(r:Rat):Bd5 p k r=.tup [.i (Awr p k r).1,.i (Awr p k r).2]:=by
 unfold Bd5 Awr;(repeat' split)<;>rfl
def Aws(p:Po)(w:List Nat):Bool×Int:=
 if p.cut=0 then(false,0)else if(Awr w p.cut p.lvl.val).2≠0 then(false,(Awr w p.cut p.lvl.val).2)else(decide ((Awr w p.cut p.lvl.val).1≠ -1),0)
def Awt(p:Po)(w:List Nat)(d:p.ok)(n:Ks w 1000000)(c:w.length<=1000000):
  AC prog 254 [p.v,.ro 1 (B9 w)] (λr=>r=.tup [.bool (Aws p w).1,.i (Aws p w).2]):=by
 have a:=A8j w p.cut p.lvl n c d.lvl;rw[Beb]at a;unfold Aws;generalize Awr w p.cut p.lvl.val=cc at*;rw[(vRR p.lvl)]at a;have e:=vPo p;rw[e]at|-;clear e;have l:=Dm p.rules;have s:=Ac p.g.pts;have k:=Ac p.g.pri;have m:=A8 p.en;have o:=Af p.var.num.mag;have f:=Af p.var.den;have j:=Af p.lvl.num.mag;have i:=Af p.lvl.den;have t:=Af p.rate.num.mag;have h:=Af p.rate.den;generalize Hw p.rules=rv,Ap p.g.pts=pt,Ap p.g.pri=pr,A9 p.en=ev,Az p.var.num.mag=vm,Az p.var.den=vd,Az p.lvl.num.mag=lm,Az p.lvl.den=ld,Az p.rate.num.mag=rm,Az p.rate.den=rd at*;have u:=Bx w;generalize B9 w=wv at*;refine Ai func254 λw0 N0=>?_;refine Y [1,2] [2] sr (J (Y [1,2,10] [2] sr ?_))
 refine Co (λh1=>?_) λh1=>D9 ?_
 .exact Y [4,5] [] sr (Aj (Aa sr (by rw[Ab (sG h1)])))
 rw[I (sG h1)];refine J (Cb (C3 5 sr ?_));refine Ge [6,7] [] a func294 ?_;refine J (Y [6,7,21] [] sr ?_)
 refine Co (λh2=>?_) λh2=>D9 ?_
 .exact Y [4,5] [] sr (Aj (Aa sr (by rw[Ab (sG h2)])))
 exact Y [4,5] [] sr (Aj (Aa sr (by rw[I (sG h2)];simp)))
def Bec{g:Gr}(h:sumsOk g w):Q2 (Aag g w)<=2047:=by
 unfold Aag;refine Vc (J1 h.pos h.pos) ?_ (Ae (Oq (Ad7 h.sz0) (Ad7 h.sz0)) dc);have h2:=Mm h.sz1 h.sz1;have a:Pd (-(Nq g.pts w*Nq g.pts w))<=2044:=by unfold Pd at h2|-;rw[O7];omega
 rw[Sg];exact Ae (Vb (k:=2046) (Ae (Mm h.sz0 h.sz2) dc) (Ae a dc)) dc
def A22(p:Po)(n:Nat)(w:List Nat):Int×Int:=
 if p.len<=n then(1,0)else if(n:Int)<p.mn then(0,0)
 else if 0<Afg p.var.val/\Ot (Aag p.g w) p.var.val<=0 then(2,0)
 else if(Aws p w).2≠0 then(0,(Aws p w).2)else if(Aws p w).1=true then(3,0)else(0,0)
def Awu(p:Po)(n:Nat)(w:List Nat)(a:p.ok)(hp:Y4 p=0)(hs:sumsOk p.g w):
  Jp gv prog 207 [p.v,.i n,.ro 1 (B9 w)] (λr=>r=.tup [.i (A22 p n w).1,.i (A22 p n w).2]):=by
 have h:=Q6 p a;rw[hp]at h;have aa:w.length<=1000000:=by have:=hs.len;have:=(Kn hs.grid).len;omega
 have e:=Awt p w a (λx hx=>Ae (hs.sz x hx) dc) aa;have c:=Bd6 p.g w hs;have y:=Aru p.var a.var.lim a.var.num.lim;have d:=S4 (nR (Aag p.g w)) p.var (N7 (Ae (Bec hs) dc)) a.var;rw[M5]at d;unfold A22;generalize Aws p w=dc,Afg p.var.val=sg,ab:Ot (Aag p.g w) p.var.val=cv,Aag p.g w=q at*;have eg:p.g.v=.agg [.ro 1 (Ap p.g.pts),.ro 1 (Ap p.g.pri)]:=rfl;rw[eg]at c;simp only[Y2]at c d;rw[(vRR p.var)]at y d;have ep:=vPo p;rw[ep]at h e|-;clear ep;have q0:=Dm p.rules;have k:=Ac p.g.pts;have q2:=Ac p.g.pri;have t:=A8 p.en;have s:=Af p.var.num.mag;have q5:=Af p.var.den;have u:=Af p.lvl.num.mag;have j:=Af p.lvl.den;have l:=Af p.rate.num.mag;have o:=Af p.rate.den;generalize Hw p.rules=rv,Ap p.g.pts=pt,Ap p.g.pri=pr,A9 p.en=ev,Az p.var.num.mag=vm,Az p.var.den=vd,Az p.lvl.num.mag=lm,Az p.lvl.den=ld,Az p.rate.num.mag=rm,Az p.rate.den=rd at*;have p1:=Jl;have p2:=Jm;have m:=Bx w;generalize B9 w=wv at*;have hn:¬(n:Int)<0:=om;refine Bp func207 λw0 N0 hG=>?_;refine Y [1,2,3] [3] sr (J (Au 1 sr ?_));refine Jk [1,2,3,8] [3] hG h func28 ?_;refine Y [1,2,3,8,15] [3] sr ?_;refine Ce (J (Y [1,2,3,18] [3] sr ?_));refine Ce (J (Cb (C3 3 sr ?_)));refine Ge [1,2,3,9,10] [3,9] c func253 ?_;refine J (Y [1,2,3,9,10,27] [3,9] sr ?_);refine Ce (J (Y [1,2,3,9,33] [3,9] sr ?_))
 refine A1 (λf=>?_) λf=>?_
 .exact Y [6,7] [] sr (Aj (Aa sr (by rw[Ab (sG f)])))
 refine J (Y [2,3,9,37] [3,9] sr ?_)
 refine A1 (λi=>?_) λi=>?_
 .exact Y [6,7] [] sr (Aj (Aa sr (by rw[I (sG f),Ab (sG i)])))
 refine J (Au 2 sr ?_);refine Aw y func56 ?_;refine C3 5 sr (Ff (λhg=>d) func104 rfl kr sr rfl rfl sr sM sr ?_);refine Ak [2,3,48] [3] sr ?_
 refine A1 (λz=>?_) λz=>?_
 .exact Y [6,7] [] sr (Aj (Aa sr (by rw[I (sG f),I (sG i),Ab (sG z)])))
 refine Au 2 sr ?_;refine Ge [10,11] [] e func254 ?_;refine J (Y [10,11,56] [] sr ?_)
 refine A1 (λh7=>?_) λh7=>?_
 .exact Y [6,7] [] sr (Aj (Aa sr (by rw[I (sG f),I (sG i),I (sG z),Ab (sG h7)])))
 refine J (Y [58] [] sr ?_)
 refine Co (λh8=>?_) λh8=>D9 ?_
 .exact Y [6,7] [] sr (Aj (Aa sr (by rw[I (sG f),I (sG i),I (sG z),I (sG h7),Ab (sG h8)])))
 exact Y [6,7] [] sr (Aj (Aa sr (by rw[I (sG f),I (sG i),I (sG z),I (sG h7),I (sG h8)])))
def Aan{p:Po}(h:Y4 p=0):Uj p.len p.rules=0/\L5 p.g=0/\p.en.length<=400/\Bdc p=false:=by
 unfold Y4 at h
 (repeat' split at h)<;>try omega
 rename_i h1 h2 h3 a;exact⟨by omega,by omega,by omega,by simpa using a⟩
structure AdP(p:Po)(pool:List Pit):Prop where
 ok:p.ok
 pe:Y4 p=0
 le:Kh pool p.g.pts.length=0
 pl:pool.length<=9
def Bed{a:List Int}{rs:List Ru}(h:a.length<=12)(hn:∀v∈a,0<=v/\v<=1000000):Vz (Vg a rs):=by
 intro k
 have e:(Vg a rs).getD k 0=a.getD k 0:=by
  unfold Vg;rw[Dq,Dq,List.getElem?_append]
  split
  .rfl
  .rename_i g;rw[Eg (show a.length<=k by omega),Hd];split<;>rfl
 rw[e]
 by_cases g:k<a.length
 .rw[Cr g];have:=hn _ (As g);exact⟨this.1,this.2,λq=>by omega⟩
 .rw[Dq,Eg om];exact⟨by decide,by decide,λ_=>rfl⟩
def Bee(pool:List Pit)(a c giv:List Int):Int:=
 if c.any (λid=> !Xe (Atc pool a) id)=true\/giv.any (λid=> !Xe (Atc pool a) id)=true then 6 else 0
def Bef(pool:List Pit)(c d giv:List Int):List Int:=Hk (Aem (Atc pool c)) (d.filter λa=> !decide (a∈giv))
def A8t(pool:List Pit)(c d giv:List Int)(i:pool.length<=18)(j:c.length=pool.length)(e:∀v∈c,-1000000<=v/\v<=1000000)(g:d.length<=12)(f:giv.length<=1000)(k:d.Nodup):
  AE 125 [.ro 9 (C7 pool),.ro 1 (Ap c),.ro 1 (Ap d),.ro 1 (Ap giv)] (Ai1 (Bee pool c d giv) (Bef pool c d giv)):=by
 refine(A8h pool c d giv i j e g f).mono λr h=>?_
 unfold Bik at h;unfold Ai1 Bee Bef
 split at h
 .rename_i h1;rw[Ab h1];exact h
 .rename_i h1;have⟨C,n,m,l⟩:=h;rw[I h1,l,Ab rfl];rw[A8s (Atc pool c) n (k.filter (λa=> !decide (a∈giv))) (λa=>by rw[m];simp[Nj])]
def Ati(x:List Int)(pool:List Pit):∀k,k<=pool.length->(Ael x pool k).Sublist ((Q5 pool).take k)
 |0,_=>by simp[Ael]
 |k+1,h=>by
  have ih:=Ati x pool k om
  have e:(Q5 pool).take (k+1)=(Q5 pool).take k++[(pool.getD k default).id]:=by
   rw[Av (by simp[Q5];omega),Cr (show k<pool.length by omega)];simp[Q5]
  rw[Ael,e]
  split
  .exact ih.append (List.Sublist.refl _)
  .exact ih.trans (List.sublist_append_left _ _)
def Awv{l:List Int}(h:Uh 0 l=true):l.Nodup:=by
 exact((Agd h).2).imp λh=>by omega
def Jw(pool:List Pit)(t:Te):List Pit:=Ayv pool t.elig
def Aep(p:Po)(pool:List Pit)(t:Te):Int:=
 if A8d p.len p.rules (Jw pool t) p.en (Ju t.steps) (Hq p.g t.w (Jw pool t))≠0 then A8d p.len p.rules (Jw pool t) p.en (Ju t.steps) (Hq p.g t.w (Jw pool t))
 else Bee (Jw pool t) (Hq p.g t.w (Jw pool t)) (Apo p.len p.rules (Jw pool t) p.en (Ju t.steps) (Hq p.g t.w (Jw pool t))) (Ju t.steps)
def Aeq(p:Po)(pool:List Pit)(t:Te):List Int:=
 Bef (Jw pool t) (Hq p.g t.w (Jw pool t)) (Apo p.len p.rules (Jw pool t) p.en (Ju t.steps) (Hq p.g t.w (Jw pool t))) (Ju t.steps)
def A8u(p:Po)(pool:List Pit)(t:Te)(h:AdP p pool)(hs:sumsOk p.g t.w)(ah:t.steps.length<=1000):
  Jp gv prog 68 [p.v,.ro 9 (C7 pool),t.v] (λr=>r=Ai1 (Aep p pool t) (Aeq p pool t)):=by
 obtain⟨ak,ar,ao,-⟩:=Aan h.pe;have av:=h.pl;have aw:=Acl p.rules;have ax:=(Agh ak).2.2.1;have d:=Asb pool t.elig om;change AC _ _ _ (λx=>x=.ro 9 (C7 (Jw pool t)))at d;have ad:=A2a pool t.elig;have au:(Jw pool t).length<=pool.length:=ad.length_le;have ae:=A19 ad h.le;have aa:=Asc t.steps ah;have aj:(Ju t.steps).length<=1000:=by rw[Ah7];exact ah
 have s:=Ase p.g t.w (Jw pool t) hs ae;have ai:(Hq p.g t.w (Jw pool t)).length=(Jw pool t).length:=by simp[Hq,Vs]
 have ag:∀v∈Hq p.g t.w (Jw pool t),0<=v/\v<=1000000:=by
  intro v hv;simp only[Hq,Vs,Bc]at hv;obtain⟨x,_,rfl⟩:=hv;exact Awq p.g.pts x.m (Ahu p.g.pts (Qq p.g t.w))
 have af:=λv hv=>(⟨by have:=ag v hv;omega,(ag v hv).2⟩:-1000000<=v/\v<=1000000);have a:=A8f p.len p.rules (Jw pool t) p.en (Ju t.steps) (Hq p.g t.w (Jw pool t)) p.g.pts.length ak ae om (Bed om ag) ao aj ai af (Bk5 _ _ _) om
 have am:(Apo p.len p.rules (Jw pool t) p.en (Ju t.steps) (Hq p.g t.w (Jw pool t))).Nodup:=by
  unfold Apo shT;exact((Awv (Yn ae).2.1).sublist (List.take_sublist _ _)).sublist (Ati _ _ _ (A2 _))
 have aq:(Apo p.len p.rules (Jw pool t) p.en (Ju t.steps) (Hq p.g t.w (Jw pool t))).length<=12:=by
  unfold Apo shT;have:=Ai0 (Y7 (Vg (Hq p.g t.w (Jw pool t)) p.rules) (V2 p.len p.rules (Jw pool t) p.en ((Jw pool t).length+Gb p.rules)) (Aal (Jw pool t) (Q8 p.rules (Jw pool t)) (Ju t.steps) (Ju t.steps).length)) (Jw pool t) (Jw pool t).length;omega
 have u:=A8t (Jw pool t) (Hq p.g t.w (Jw pool t)) _ (Ju t.steps) om ai af aq aj am;unfold Aep Aeq;generalize A8d p.len p.rules (Jw pool t) p.en (Ju t.steps) (Hq p.g t.w (Jw pool t))=te,Apo p.len p.rules (Jw pool t) p.en (Ju t.steps) (Hq p.g t.w (Jw pool t))=tt at*;generalize Bee (Jw pool t) (Hq p.g t.w (Jw pool t)) tt (Ju t.steps)=fe,Bef (Jw pool t) (Hq p.g t.w (Jw pool t)) tt (Ju t.steps)=fl at*;have pf:=Ac fl;unfold Ai1 at*;have al:Ry p.len p.rules=.agg [.i p.len,.ro 5 (Hw p.rules)]:=rfl;have eg:p.g.v=.agg [.ro 1 (Ap p.g.pts),.ro 1 (Ap p.g.pri)]:=rfl;rw[eg]at s;rw[al]at a;rw[(vTe t)];have ep:=vPo p;rw[ep]at|-;clear ep;have q0:=Dm p.rules;have f:=Ac p.g.pts;have q2:=Ac p.g.pri;have n:=A8 p.en;have l:=Af p.var.num.mag;have q5:=Af p.var.den;have o:=Af p.lvl.num.mag;have c:=Af p.lvl.den;have e:=Af p.rate.num.mag;have k:=Af p.rate.den;generalize Hw p.rules=rv,Ap p.g.pts=pt,Ap p.g.pri=pr,A9 p.en=ev,Az p.var.num.mag=vm,Az p.var.den=vd,Az p.lvl.num.mag=lm,Az p.lvl.den=ld,Az p.rate.num.mag=rm,Az p.rate.den=rd at*;have s1:=Ac t.elig;have i:=A8 t.steps;have j:=Bx t.w;have s4:=Cw pool;have y:=Cw (Jw pool t);have s6:=Ac (Ju t.steps);have z:=Ac (Hq p.g t.w (Jw pool t));have s8:=Ac tt;generalize Ap t.elig=ti,A9 t.steps=ts,B9 t.w=tw,C7 pool=lv,C7 (Jw pool t)=iv,Ap (Ju t.steps)=gi,Ap (Hq p.g t.w (Jw pool t))=vv,Ap tt=tv at*
 by_cases ab:te=0
 .subst ab;simp only[if_true,ne_eq,not_true_eq_false,if_false]at a|-
  by_cases ag:fe=0
  .subst ag;simp only[if_true]at u|-;refine Bp func68 λw0 N0 hG=>?_;refine Y [1,3,5] [3,5] sr (Au 3 sr ?_);refine Ge [3,5,8] [3,5] d func121 ?_;refine Au 2 sr ?_;refine Ge [3,5,8,9] [3,5] aa func122 ?_;refine Au 5 sr ?_;refine Jk [3,8,9,10,11] [3] hG s func123 ?_;refine J (Y [3,8,9,10,11,30] [3] sr ?_);refine Ce (J (Cb (C3 7 sr ?_)));refine Jk [8,9,10,11,12] [] hG a func124 ?_;refine J (Y [8,9,10,11,12,44] [] sr ?_);refine Ce (J (Cb (C3 4 sr ?_)));refine Ge [6,7] [] u func125 ?_;exact Aj (Aa sr (rfl))
  .simp only[I ag]at u|-;refine Bp func68 λw0 N0 hG=>?_;refine Y [1,3,5] [3,5] sr (Au 3 sr ?_);refine Ge [3,5,8] [3,5] d func121 ?_;refine Au 2 sr ?_;refine Ge [3,5,8,9] [3,5] aa func122 ?_;refine Au 5 sr ?_;refine Jk [3,8,9,10,11] [3] hG s func123 ?_;refine J (Y [3,8,9,10,11,30] [3] sr ?_);refine Ce (J (Cb (C3 7 sr ?_)));refine Jk [8,9,10,11,12] [] hG a func124 ?_;refine J (Y [8,9,10,11,12,44] [] sr ?_);refine Ce (J (Cb (C3 4 sr ?_)));refine Ge [6,7] [] u func125 ?_;exact Aj (Aa sr (rfl))
 .simp only[I ab,Ab ab,ne_eq]at a|-;refine Bp func68 λw0 N0 hG=>?_;refine Y [1,3,5] [3,5] sr (Au 3 sr ?_);refine Ge [3,5,8] [3,5] d func121 ?_;refine Au 2 sr ?_;refine Ge [3,5,8,9] [3,5] aa func122 ?_;refine Au 5 sr ?_;refine Jk [3,8,9,10,11] [3] hG s func123 ?_;refine J (Y [3,8,9,10,11,30] [3] sr ?_);refine Ce (J (Cb (C3 7 sr ?_)));refine Jk [8,9,10,11,12] [] hG a func124 ?_;refine J (Y [8,9,10,11,12,44] [] sr ?_)
  refine Ek ?_
  .exact Y [6,7] [] sr (Aj (Aa sr rf))
variable {e:Int}
def Zs:∀(l:List Nat)(a:Nat),l.foldl Nat.gcd a∣a/\∀x∈l,l.foldl Nat.gcd a∣x
 |[],a=>⟨Nat.dvd_refl _,λx c=>by cases c⟩
 |y::r,a=>by
  have ih:=Zs r (Nat.gcd a y);rw[Ni];refine⟨Nat.dvd_trans ih.1 (U0 a y),λx c=>?_⟩
  rcases Bu.1 c with h|h
  .rw[h];exact Nat.dvd_trans ih.1 (Nat.gcd_dvd_right a y)
  .exact ih.2 x h
def Ys:Gj w≠0↔∃x∈w,x≠0:=by
 induction w with
 |nil=>simp[Gj]
 |cons a r ih=>
  rw[Gj]
  constructor
  .intro h
   by_cases ha:a=0
   .have⟨x,hx,h2⟩:=ih.1 om;exact⟨x,Dt _ hx,h2⟩
   .exact⟨a,Fc ..,ha⟩
  .rintro⟨x,hx,h2⟩
   rcases Bu.1 hx with h|h
   .omega
   .have:=ih.2 ⟨x,h,h2⟩;omega
def Agm(w:List Nat):(Rz w).length=w.length:=by simp[Rz]
def Ac0(h:Ks w m):Ks (Rz w) m:=by
 intro x a;simp only[Rz,Bc]at a;obtain⟨y,c,rfl⟩:=a;exact Ae (Ad5 (G7 _ _)) (h y c)
def A8v(h:Gj w≠0):Gj (Rz w)≠0:=by
 have⟨x,f,h2⟩:=Ys.1 h
 refine Ys.2 ⟨x/Y5 w,?_,?_⟩
 .simp only[Rz,Bc];exact⟨x,f,rfl⟩
 .have d:=(Zs w 0).2 x f;change Y5 w∣x at d;have⟨c,a⟩:=d;have g:0<Y5 w:=Ie (λe=>by rw[e,My]at a;exact h2 a);rw[a,Kx _ g];intro e;rw[e,Vm]at a;exact h2 a
def Atj{g:Gr}(d:L5 g=0):(Pw g.pri).length=g.pts.length/\Ks (Pw g.pri) 1/\Gj (Pw g.pri)≠0:=by
 have h:=Kn d
 refine⟨by simp[Pw,h.same],λx c=>?_,Ys.2 ?_⟩
 .simp only[Pw,Bc]at c;obtain⟨y,e,rfl⟩:=c;have:=h.pri y e;exact E7 (m:=1) om
 .have h1:=h.pos;have h2:=h.same;cases hp:g.pri with
  |nil=>rw[hp]at h2;simp at h2;omega
  |cons a r=>
   refine⟨a.toNat,by simp[Pw],?_⟩;have:=h.pri a (by rw[hp];simp);omega
def A8w{m:Mo}(r:L6 m w.length=0)(hk:k<Y1 m)(o:Ks w n)(t:Gj w≠0):
  (Q7 w m k).length=w.length/\Ks (Q7 w m k) (n+1)/\Gj (Q7 w m k)≠0:=by
 have l:=Ab4 r;have s:=l.len
 have c:∀i,i<m.length->1<=(m.getD i []).getD k 0/\(m.getD i []).getD k 0<=1000:=by
  intro i e;have h1:=l.row (m.getD i []) (by rw[Cr e];exact As e);have h2:k<(m.getD i []).length:=om;exact h1.2.1 _ (by rw[Cr h2];exact As h2)
 have f:(Q7 w m k).length=w.length:=by simp[Q7,s]
 have a:∀i(h:i<(Q7 w m k).length),(Q7 w m k)[i]=w[i]'(by omega)*((m.getD i []).getD k 0).toNat:=by
  intro i h;have e:i<m.length:=om;rw[Cr (d:=[]) e];simp[Q7]
 refine⟨f,λx g=>?_,Ys.2 ?_⟩
 .obtain⟨i,e,rfl⟩:=Kb.1 g;rw[a i e];have h1:=c i om;exact Oq (o _ (As _)) (E7 (m:=1) om)
 .have⟨x,g,j⟩:=Ys.1 t;obtain⟨i,e,rfl⟩:=Kb.1 g;refine⟨(Q7 w m k)[i]'(by omega),As _,?_⟩;rw[a i om];have h1:=c i om;exact J1 j om
def Apw(e:Int)(l:List Int):List Int:=if e=0 then l else []
def Aww(e:Int)(l:List Int):Bh (Ai1 e l) (.tup [.ro 1 (Ap (Apw e l)),.i e]):=by
 unfold Ai1 Apw;split
 .rename_i h;rw[h];exact Bh.refl _
 .exact Bh.tup (.cons (Bh.nils 1) (.cons (Bh.refl _) .nil))
def Anh(p:Po)(pool:List Pit)(t:Te)(h:AdP p pool)(hs:sumsOk p.g t.w)(a:t.steps.length<=1000):
  AQ 68 [p.v,.ro 9 (C7 pool),t.v] (.tup [.ro 1 (Ap (Apw (Aep p pool t) (Aeq p pool t))),.i (Aep p pool t)]):=
 Jp.relaxP ((A8u p pool t h hs a).mono λr c=>by rw[c];exact Aww _ _)
def Y9:Te:=⟨[],[],0,[],0,0⟩
def Atk(p:Po)(pool:List Pit)(a:List (Int×Int))(d c:Int):Te:=⟨Acf pool a d p.rate.val p.slack,[],0,Rz (Pw p.g.pri),V1 c,0⟩
def A8x(p:Po)(pool:List Pit)(a:List (Int×Int))(c d:Int):Int:=
 if Y4 p≠0 then Y4 p else if Kh pool p.g.pts.length≠0 then Kh pool p.g.pts.length else if c<0\/1000000<c then 3 else Aep p pool (Atk p pool a c d)
def teR(e:Int)(t:Te):V:=.tup [(if e=0 then t else Y9).v,.i e]
def A23:Bh (.agg [.nils,.nils,.i 0,.nils,.int .u64 0,.i 0]) Y9.v:=
 Bh.agg (.cons (Bh.nils 1) (.cons (Bh.nils 2) (.cons (Bh.refl _) (.cons (Bh.nils 1) (.cons (Bh.refl _) (.cons (Bh.refl _) .nil))))))
def F8(h:e≠0)(t:Te):Bh (.tup [.agg [.nils,.nils,.i 0,.nils,.int .u64 0,.i 0],.i e]) (teR e t):=by
 unfold teR;rw[I h];exact Bh.tup (.cons A23 (.cons (Bh.refl _) .nil))
def Ai6(a:List Int)(w:List Nat)(d:Int):Bh (.agg [.ro 1 (Ap a),.nils,.i 0,.ro 1 (B9 w),.int .u64 d,.i 0]) (Te.v ⟨a,[],0,w,d,0⟩):=
 Bh.agg (.cons (Bh.refl _) (.cons (Bh.nils 2) (.cons (Bh.refl _) (.cons (Bh.refl _) (.cons (Bh.refl _) (.cons (Bh.refl _) .nil))))))
def A24(p:Po)(pool:List Pit)(a:List (Int×Int))(c d:Int)(n:p.ok)(am:Kh pool p.g.pts.length=0->pool.length<=9):
  Jp gv prog 34 [p.v,.ro 9 (C7 pool),.ro 2 (A9 a),.i c,.int .u64 d] (λr=>r=teR (A8x p pool a c d) (Atk p pool a c d)):=by
 refine Jp.relaxP ?_;have ab:=Q6 p n;have ad:=Nh pool p.g.pts.length;have l:=λh=>A6r p.g h
 have k:Y4 p=0->L5 p.g=0:=λh=>(Aan h).2.1
 have i:=λh=>Atj (g:=p.g) h
 have al:L5 p.g=0->p.g.pts.length<=21:=λh=>(Kn h).len
 have j:=λh(h9:pool.length<=9)=>A15 pool a c p.rate p.slack n.rate h om
 have ah:Kh pool p.g.pts.length=0->(Q5 pool).Pairwise (·< ·):=λh=>(Agd (Yn h).2.1).2
 have z:=λh1 h2=>Ah1 (Pw p.g.pri) h1 h2
 have ag:=A6u d
 have ai:Y4 p=0->sumsOk p.g (Rz (Pw p.g.pri)):=λh=>
  have hg:=k h
  ⟨hg,by rw[Agm];exact(i hg).1,Ac0 (λx hx=>Ae ((i hg).2.1 x hx) dc),A8v (i hg).2.2⟩
 have e:=λh h2=>(Anh p pool (Atk p pool a c d) h h2 (by simp[Atk])).argsR (.cons (Bh.refl _) (.cons (Bh.refl _) (.cons (Ai6 (Acf pool a c p.rate.val p.slack) (Rz (Pw p.g.pri)) (V1 d)) .nil)))
 unfold A8x;have hT:Atk p pool a c d=⟨Acf pool a c p.rate.val p.slack,[],0,Rz (Pw p.g.pri),V1 d,0⟩:=rfl;have ae:=Ac (Apw (Aep p pool (Atk p pool a c d)) (Aeq p pool (Atk p pool a c d)));rw[hT]at e ae|-;have aj:Y4 p=0->Kh pool p.g.pts.length=0->AdP p pool:=λh1 h2=>⟨n,h1,h2,am h2⟩
 have u:=Ac (Acf pool a c p.rate.val p.slack);have w2:=Bx (Rz (Pw p.g.pri));have w3:=Bx (Pw p.g.pri);have ak:=Ai6 (Acf pool a c p.rate.val p.slack) (Rz (Pw p.g.pri)) (V1 d);generalize Aep p pool _ =ce at*;generalize Apw ce (Aeq p pool _)=cl,Acf pool a c p.rate.val p.slack=el,Rz (Pw p.g.pri)=av,V1 d=nd at*;have s4:=Cw pool;have s5:=A8 a;have af:=A0 p.g.pts;have eg:p.g.v=.agg [.ro 1 (Ap p.g.pts),.ro 1 (Ap p.g.pri)]:=rfl;rw[eg]at l;rw[(vRR p.rate)]at j;have ep:=vPo p;rw[ep]at ab e|-;clear ep;have q0:=Dm p.rules;have s:=Ac p.g.pts;have q2:=Ac p.g.pri;have y:=A8 p.en;have w:=Af p.var.num.mag;have q5:=Af p.var.den;have q6:=Af p.lvl.num.mag;have m:=Af p.lvl.den;have o:=Af p.rate.num.mag;have t:=Af p.rate.den;generalize Hw p.rules=rv,Ap p.g.pts=pt,Ap p.g.pri=pr,A9 p.en=ev,Az p.var.num.mag=vm,Az p.var.den=vd,Az p.lvl.num.mag=lm,Az p.lvl.den=ld,Az p.rate.num.mag=rm,Az p.rate.den=rd,C7 pool=lv,A9 a=uv,aq:Y4 p=pe,au:Kh pool p.g.pts.length=qe at*;rw[<-af]at ad;refine Bp func34 λw0 N0 hG=>?_;refine Y [1,2,3,4,5,10] [5,10] sr (J (Au 1 sr ?_));refine Jk [1,2,3,4,5,10,12] [5,10] hG ab func28 ?_;refine Y [1,2,3,4,5,10,12,22] [5,10] sr ?_
 refine A1 (λh1=>?_) λh1=>?_
 .exact Y [10,11] [10] sr (Aj (Aa sr (by rw[Ab (sG h1)];exact F8 (sG h1) _)))
 have f:=sG h1
 rw[I (sG h1)];refine J (Au 5 sr ?_);refine Jk [1,2,3,4,5,10,13] [5,10] hG ad func29 ?_;refine Y [1,2,3,4,5,10,13,32] [5,10] sr ?_
 refine A1 (λh2=>?_) λh2=>?_
 .exact Y [10,11] [10] sr (Aj (Aa sr (by rw[Ab (sG h2)];exact F8 (sG h2) _)))
 have aa:=sG h2
 rw[I (sG h2)];refine J (Y [1,2,3,4,5,10,40] [5,10] sr ?_)
 refine A1 (λh3=>?_) λh3=>?_
 .exact Y [10,11] [10] sr (Aj (Aa sr (by rw[Ab (sG h3)];exact F8 dc _)))
 rw[I (sG h3)];replace l:=l (k f);replace j:=j (ah aa) (am aa);obtain⟨ar,ao,-⟩:=i (k f);replace z:=z (λx hx=>Ae (ao x hx) dc) (by have:=al (k f);omega);replace e:=e (aj f aa) (ai f);refine Au 2 sr ?_;refine Ge [1,2,3,4,5,10,14,15] [5,10] l func64 ?_;refine J (Y [1,2,3,4,5,10,14,15,49] [5,10] sr ?_);refine Ce (J (Cb (C3 7 sr ?_)));refine Aw j func65 ?_;refine C3 1 sr (Aw z func66 ?_);refine C3 1 sr (Aw ag func67 ?_);refine Ak [1,5,10,16] [5,10,16] sr (J (Au 3 sr ?_));refine Jk [10,16,18] [10,16] hG e func68 ?_;refine Y [10,16,18,73] [10,16] sr ?_
 refine A1 (λh5=>?_) λh5=>?_
 .exact Y [10,11] [10] sr (Aj (Aa sr (F8 (sG h5) _)))
 exact Y [10,11] [10] sr (Aj (Aa sr ((λh6:ce=0=>(by unfold teR;subst h6;rw[Ab rfl];exact Bh.tup (.cons ak (.cons (Bh.refl _) .nil)):Bh _ _)) (sG h5))))
def Azl(pool:List Pit)(a:List Int)(k:Nat):Bool:= !(M0 pool (a.getD k 0)).isSome||(decide (0<k)&&decide (a.getD k 0<=a.getD (k-1) 0))
def A8y(pool:List Pit)(c:List Int)(a:List (Int×Int))(k:Nat):Bool:=
 !(M0 pool (a.getD k (0,0)).1).isSome||(!decide ((a.getD k (0,0)).1∈c)||decide ((a.getD k (0,0)).1∈(Ju a).take k))|| !Akr (Aks (M0 pool (a.getD k (0,0)).1)).m (a.getD k (0,0)).2
def Atl(n:Nat):Bool:=Bd3 (B0 n)
def Ak7(p:Po)(pool:List Pit)(t:Te):Bool:=
 if(List.range t.elig.length).any (Azl pool t.elig)=true then false
 else if p.len<t.steps.length then false
 else if(List.range t.steps.length).any (A8y pool t.elig t.steps)=true then false
 else if t.pend≠0/\(t.pend∉t.elig\/t.pend∈Ju t.steps)then false
 else if t.w.length≠p.g.pts.length\/t.w.any Atl=false then false
 else decide (0<=t.stop)&&decide (t.stop<=4)
def A25{l:List (Int×Int)}(h:k<l.length):Gz (A9 l) k=some (.agg [.i (l.getD k (0,0)).1,.i (l.getD k (0,0)).2]):=by rw[Cr h];exact Ix h
def A8z(p:Po)(pool:List Pit)(t:Te)(h:teOk t):AQ 195 [p.v,.ro 9 (C7 pool),t.v] (.bool (Ak7 p pool t)):=by
 have ba:=h.el;have a0:=h.sl;have a7:=h.wd;have ad:=Ayx pool;have au:=Asc t.steps a0;have az:=S7;have ab:=Ayw;have al:=(A64 t.w 249 [] [] Atl (λn hn=>Aia ((Bd4 (B0 n) (Ct _) (Ae (a7 n hn) dc)).q gv) func249 kr rfl)).argsR (args:=[.ro 1 (B9 t.w),.fn 249]) (.cons (Bh.refl _) (.cons (R3 249) .nil));have bb:(Ju t.steps).length=t.steps.length:=Ah7 _;have a1:∀k,(Ap (Ju t.steps)).take k=Ap ((Ju t.steps).take k):=λk=>by simp[Ap]
 have a3:=λk=>Ac ((Ju t.steps).take k)
 have a9:=Ac (Ju t.steps);have bc:=A0 (Ju t.steps);unfold Ak7;have a2:∀k,Azl pool t.elig k=(!(M0 pool (t.elig.getD k 0)).isSome||(decide (0<k)&&decide (t.elig.getD k 0<=t.elig.getD (k-1) 0))):=λk=>rfl
 have ay:∀k,A8y pool t.elig t.steps k=(!(M0 pool (t.steps.getD k (0,0)).1).isSome||(!decide ((t.steps.getD k (0,0)).1∈t.elig)||decide ((t.steps.getD k (0,0)).1∈(Ju t.steps).take k))|| !Akr (Aks (M0 pool (t.steps.getD k (0,0)).1)).m (t.steps.getD k (0,0)).2):=λk=>rfl
 have qe:=λ(k:Nat)(h:k<t.elig.length)=>Dk h
 have qs:=λ(k:Nat)(h:k<t.steps.length)=>A25 h
 have le:=A0 t.elig;have ls:=Eh t.steps;have lw:=Ib t.w;have an:=A0 p.g.pts;have ar:∀x,AE 63 [.ro 1 (Ap t.elig),.i x] (.bool (decide (x∈t.elig))):=λx=>S7 t.elig x
 have a6:∀k x,AE 63 [.ro 1 (Ap ((Ju t.steps).take k)),.i x] (.bool (decide (x∈(Ju t.steps).take k))):=λk x=>S7 _ x
 have ao:∀x,AE 63 [.ro 1 (Ap (Ju t.steps)),.i x] (.bool (decide (x∈Ju t.steps))):=λx=>S7 _ x
 have am:=vTe t;rw[am];clear am az;have ep:=vPo p;rw[ep]at|-;clear ep;have q0:=Dm p.rules;have q1:=Ac p.g.pts;have q2:=Ac p.g.pri;have q3:=A8 p.en;have q4:=Af p.var.num.mag;have q5:=Af p.var.den;have q6:=Af p.lvl.num.mag;have z:=Af p.lvl.den;have o:=Af p.rate.num.mag;have q9:=Af p.rate.den;generalize Hw p.rules=rv,Ap p.g.pts=pt,Ap p.g.pri=pr,A9 p.en=ev,Az p.var.num.mag=vm,Az p.var.den=vd,Az p.lvl.num.mag=lm,Az p.lvl.den=ld,Az p.rate.num.mag=rm,Az p.rate.den=rd at*;have s1:=Ac t.elig;have s:=A8 t.steps;have u:=Bx t.w;have s4:=Cw pool;have pF:=λ(x:Int)=>Gq (Aks (M0 pool x))
 have ak:=λ(x:Int)=>D0 (Aks (M0 pool x)).m
 have ax:∀m:Mo,moV m=.agg [.ro 1 (Eo m)]:=λm=>rfl
 simp only[ax]at ab;generalize a8:Ap t.elig=ti,A9 t.steps=ts,B9 t.w=tw,C7 pool=lv,Ap (Ju t.steps)=gi,Azl pool t.elig=be,A8y pool t.elig t.steps=bs at*;refine Bp func195 λw0 N0 hG=>?_;refine Y [1,3,5] [3,5] sr (J (A5 [18,19,20] sr ?_));refine Ad (Ho 20 (λk=>((List.range t.elig.length).take k).any be=false) t.elig.length sm ?_);intro k nx hk hI;refine Y [1,3,5,18,19,20,21] [3,5] sr (J ?_)
 refine Bk (λh1=>?_) λh1=>?_
 .have d:k<t.elig.length:=by simp at h1;omega
  have e:k<ti.length:=om;have ga:=qe k d;have hb:=a2 k;have Ec:=A4 (k:=k) om;have aa:=λh=>Im t.elig.length k be d hI h
  have i:=λh=>Oa (f:=be) d h
  have a:=ad (t.elig.getD k 0);rw[pF]at a;have pm:=ak (t.elig.getD k 0);have a4:∀j,k=j+1->be k=(!(M0 pool (t.elig.getD k 0)).isSome||decide (t.elig.getD k 0<=t.elig.getD j 0)):=λj hj=>by rw[hb,hj];simp
  generalize t.elig.getD k 0=x at*;generalize Eo (Aks (M0 pool x)).m=mv at*;refine J (Ad (Y [1,3,5,7,8,18,19,20] [3,5] (by simp[ga,e]<;>rfl) ?_));refine Au 2 sr ?_;refine Ge [1,3,5,7,8,10,18,19,20] [3,5] a func204 ?_
  cases hfd:(M0 pool x).isSome
  .refine Au 3 sR ?_;refine Kq 12 sr ?_;refine Ak [1,3,5,18,19,20,46] [3,5] sr ?_;refine Ek ?_;refine Y [6] [] sr ?_;exact Aj (Aa sr (by rw[Ab (i (by rw[hb,hfd];rfl))]))
  rcases k with _ |j
  .refine Au 6 sR ?_;refine Kq 8 sr ?_;refine Ak [1,3,5,18,19,20,46] [3,5] sr ?_;refine Ce (A6 [1,3,5,18,19,20] [3,5] sR ?_);exact⟨d,aa (by rw[hb,hfd];simp),_,Z⟩
  .have gp:=qe j om;have aw:j<ti.length:=om;have a5:IntKind.i64.wrap (((j+1:Nat):Int)-1)=(j:Int):=by rw[Bm om oM];omega
   have ai:=a4 j rfl;generalize t.elig.getD j 0=y at*;refine Y [1,3,5,18,19,20,46] [3,5] (by simp[gp,aw,a5,-Int.natCast_add]<;>rfl) ?_
   refine A1 (λh2=>?_) λh2=>?_
   .refine Y [6] [] sr ?_;exact Aj (Aa sr (by rw[Ab (i (by rw[ai,hfd];simpa using h2))]))
   refine A6 [1,3,5,18,19,20] [3,5] (by simp[Ec,-Int.natCast_add]<;>rfl) ?_;exact⟨d,aa (by rw[ai,hfd];simpa using h2),_,Z⟩
 .refine A3 ?_;have af:k=t.elig.length:=sO h1
  rw[af,Ba (by simp)]at hI;simp only[hI,F3,if_false];refine J (Y [1,3,5,54] [3,5] sr ?_)
  refine A1 (λh3=>?_) λh3=>?_
  .refine Y [6] [] sr ?_;exact Aj (Aa sr (by rw[Ab (by simpa[ls]using h3)]))
  rw[I (by simpa[ls]using h3)];refine Au 2 sr ?_;refine Ge [1,3,5,11] [3,5] au func122 ?_;refine J (A5 [59,60,61] sr ?_);refine Ad (Ho 61 (λk=>((List.range t.steps.length).take k).any bs=false) t.steps.length sm ?_);intro k nx hk ae;refine Y [1,3,5,11,59,60,61,62] [3,5] sr ?_;refine J ?_
  refine Bk (λh4=>?_) λh4=>?_
  .have d:k<t.steps.length:=by simp at h4;omega
   have e:k<ts.length:=om;have ga:=qs k d;have hb:=ay k;have Ec:=A4 (k:=k) om;have aa:=λh=>Im t.steps.length k bs d ae h
   have i:=λh=>Oa (f:=bs) d h
   have a:=ad (t.steps.getD k (0,0)).1;rw[pF]at a;have pm:=ak (t.steps.getD k (0,0)).1;have l:=ab (Aks (M0 pool (t.steps.getD k (0,0)).1)).m (t.steps.getD k (0,0)).2;have av:=ar (t.steps.getD k (0,0)).1;have ah:=a6 k (t.steps.getD k (0,0)).1;have gt:=a1 k;have aq:=a3 k;have aj:(0:Int)<=(k:Int)/\(k:Int)<=gi.length:=om;generalize t.steps.getD k (0,0)=sp at*;have⟨x,y⟩:=sp;simp only at hb ga a pm l av ah;generalize Eo (Aks (M0 pool x)).m=mv at*;refine J (Ad (Y [1,3,5,11,12,13,59,60,61] [3,5,13] (by simp[ga,e]<;>rfl) ?_));refine Au 3 sr ?_;refine Ge [1,3,5,11,12,13,14,15,59,60,61] [3,5,13,14] a func204 ?_;refine J (J (H6 [0,4,5,1,4,1,6,12] sr ?_));refine B8 7 sR ?_;refine B1 (λhg=>av) func63 ?_;refine B8 8 (by simp[aj,gt]<;>rfl) ?_;refine B1 (λhg=>ah) func63 ?_;refine C5 [1,3,5,11,13,14,59,60,61,90] [3,5,13,14] sr ?_
   refine A1 (λh5=>?_) λh5=>?_
   .refine Y [6] [] sr ?_;exact Aj (Aa sr (by rw[Ab (i (by rw[hb];simp at h5|-;exact .inl (by simpa[or_assoc]using h5)))]))
   refine Au 4 sr ?_;refine Ge [1,3,5,11,59,60,61,96] [3,5] l func205 ?_;have ag:(!(M0 pool x).isSome||(!decide (x∈t.elig)||decide (x∈(Ju t.steps).take k)))=false:=by simpa[and_assoc]using h5
   refine A1 (λh6=>?_) λh6=>?_
   .refine Y [6] [] sr ?_;exact Aj (Aa sr (by rw[Ab (i (by rw[hb,ag];simpa using h6))]))
   refine A6 [1,3,5,11,59,60,61] [3,5] (by simp[Ec]<;>rfl) ?_;exact⟨d,aa (by rw[hb,ag];simpa using h6),_,Z⟩
  .refine A3 ?_;have af:k=t.steps.length:=sO h4
   rw[af,Ba (by simp)]at ae;simp only[ae,F3,if_false];refine J (Au 8 sr ?_);refine Gd (c:= !decide (t.pend=0)) (λhg=>ar t.pend) func63 ?_;refine C3 5 sr ?_;refine Gd (c:= !decide (t.pend=0)&&decide (t.pend∈t.elig)) (λhg=>ao t.pend) func63 ?_;refine Ak [3,5,114] [3,5] sr ?_
   refine A1 (λh7=>?_) λh7=>?_
   .refine Y [6] [] sr ?_;exact Aj (Aa sr (by rw[Ab (sG h7)]))
   rw[I (sG h7)];refine Y [3,5,16] [3,5] sr ?_;refine J (Au 12 sr ?_);refine U6 hG (λhg=>al) func251 rfl kr sr rfl rfl sr sM sr ?_;refine Ak [5,129] [5] sr ?_
   refine A1 (λh8=>?_) λh8=>?_
   .refine Y [6] [] sr ?_;exact Aj (Aa sr (by rw[Ab (by simpa[lw,an,Int.natCast_inj]using h8)]))
   rw[I (by simpa[lw,an,Int.natCast_inj]using h8)];refine Y [6] [] sr ?_;exact Aj (Aa sr (rfl))
def Ac1(p:Po)(pool:List Pit)(t:Te):Int:=if Ak7 p pool t=false then 1 else if t.stop≠0 then 21 else 0
def Atm{p:Po}{pool:List Pit}{t:Te}(a:Ak7 p pool t=true)(f:L5 p.g=0)(j:Ks t.w 1000):sumsOk p.g t.w:=by
 unfold Ak7 at a
 (repeat' split at a)<;>try(cases a)
 rename_i _ _ _ _ d
 have c:t.w.length=p.g.pts.length/\t.w.any Atl=true:=by
  refine⟨H2 λh=>d (.inl h),?_⟩
  cases e:t.w.any Atl
  .exact absurd (.inr e) d
  .rfl
 refine⟨f,c.1,j,Ys.2 ?_⟩;have⟨x,i,hp⟩:=Es.1 c.2;refine⟨x,i,λe=>?_⟩;subst e;revert hp;simp[Atl,Bd3,C6,bitLen]
def Ani(p:Po)(pool:List Pit)(t:Te)(h:AdP p pool)(ht:teOk t):Jp gv prog 139 [p.v,.ro 9 (C7 pool),t.v] (λr=>r=.i (Ac1 p pool t)):=by
 have c:=Q6 p h.ok;have d:=Nh pool p.g.pts.length;have a:=A8z p pool t ht;rw[h.pe]at c;rw[h.le]at d;unfold Ac1;generalize Ak7 p pool t=fb at*;rw[<-(A0 p.g.pts)]at d;rw[(vTe t)]at a|-;have ep:=vPo p;rw[ep]at c a|-;clear ep;have q0:=Dm p.rules;have k:=Ac p.g.pts;have z:=Ac p.g.pri;have y:=A8 p.en;have s:=Af p.var.num.mag;have q5:=Af p.var.den;have x:=Af p.lvl.num.mag;have i:=Af p.lvl.den;have l:=Af p.rate.num.mag;have o:=Af p.rate.den;generalize Hw p.rules=rv,Ap p.g.pts=pt,Ap p.g.pri=pr,A9 p.en=ev,Az p.var.num.mag=vm,Az p.var.den=vd,Az p.lvl.num.mag=lm,Az p.lvl.den=ld,Az p.rate.num.mag=rm,Az p.rate.den=rd at*;have s1:=Ac t.elig;have m:=A8 t.steps;have n:=Bx t.w;have s4:=Cw pool;have aa:=Eh t.steps;generalize Ap t.elig=ti,A9 t.steps=ts,B9 t.w=tw,C7 pool=lv at*;refine Bp func139 λw0 N0 hG=>?_;refine Y [1,3,5] [3,5] sr (J (Au 1 sr ?_));refine Jk [1,3,5,7] [3,5] hG c func28 ?_;refine Y [1,3,5,7,12] [3,5] sr ?_;refine Ce (J (J (Cb (C3 5 sr ?_))));refine Jk [1,3,5,8] [3,5] hG d func29 ?_;refine Y [1,3,5,8,21] [3,5] sr ?_;refine Ce (J (J (Cb (C3 3 sr ?_))));refine Jk [5,27] [5] hG a func195 ?_
 refine A1 (λe=>?_) λe=>?_
 .exact Y [6] [] sr (Aj (Aa sr (by rw[Ab (sG e)])))
 refine J (Y [30] [] sr ?_)
 refine Co (λj=>?_) λj=>D9 ?_
 .exact Y [6] [] sr (Aj (Aa sr (by rw[I (sG e),Ab (sG j)])))
 exact Y [6] [] sr (Aj (Aa sr (by rw[I (sG e),I (sG j)])))
def Beg(p:Po)(n:Nat):Nat:=min p.top.toNat n
def A26(p:Po)(pool:List Pit)(t:Te):Int:=
 if Ac1 p pool t≠0 then Ac1 p pool t else if t.pend≠0 then 0 else if(t.steps.length:Int)=p.len then 21
 else if Aep p pool t≠0 then Aep p pool t else if Beg p (Aeq p pool t).length=0 then 14 else 0
def Apx(p:Po)(pool:List Pit)(t:Te):Te:=
 if t.pend≠0 then t else {t with pend:=(Aeq p pool t).getD (R1 t.draw (Beg p (Aeq p pool t).length)) 0,draw:=V1 t.draw}
def Ai7{p:Po}{pool:List Pit}{t:Te}(h:Ac1 p pool t=0):Ak7 p pool t=true/\t.stop=0:=by
 unfold Ac1 at h
 (repeat' split at h)<;>try omega
 rename_i h1 h2;exact⟨by simpa using h1,by simpa using h2⟩
def Atn(p:Po)(pool:List Pit)(t:Te)(h:AdP p pool)(ht:teOk t)(hw:Ks t.w 1000):AQ 87 [p.v,.ro 9 (C7 pool),t.v] (teR (A26 p pool t) (Apx p pool t)):=by
 refine Jp.relaxP ?_;have f:=Ani p pool t h ht;have i:=Anb t ht;have ag:=λ(hc:Ac1 p pool t=0)=>Atm (Ai7 hc).1 (Aan h.pe).2.1 hw
 have j:=λ(hc:Ac1 p pool t=0)=>Anh p pool t h (ag hc) ht.sl
 have hb:=(Aan h.pe).2.2.2
 have aq:1<=p.top/\p.top<=5:=by
  unfold Bdc at hb;simp only[E8,decide_eq_false_iff_not]at hb;omega
 unfold A26 Apx;have pL:=Ac (Apw (Aep p pool t) (Aeq p pool t));have u:Aep p pool t=0->Apw (Aep p pool t) (Aeq p pool t)=Aeq p pool t:=λe=>by unfold Apw;rw[Ab e]
 have ah:=λ(l:List Int)(k:Nat)(h:k<l.length)=>Dk (l:=l) h
 generalize aw:Aep p pool t=ce at*;generalize Apw ce (Aeq p pool t)=a at*;generalize Aeq p pool t=L,Ac1 p pool t=ck at*;have⟨o,aa⟩:=Cn (show 0<=p.top by omega);have ak:Beg p L.length=min o L.length:=by unfold Beg;rw[aa];rfl
 rw[ak];have s:∀(pd d:Int),Bh (.agg [.ro 1 (Ap t.elig),.ro 2 (A9 t.steps),.i pd,.ro 1 (B9 t.w),.int .u64 d,.i t.stop]) (Te.v {t with pend:=pd,draw:=d}):=λpd d=>Bh.refl _
 have x:Bh (.agg [.ro 1 (Ap t.elig),.ro 2 (A9 t.steps),.i t.pend,.ro 1 (B9 t.w),.int .u64 t.draw,.i t.stop]) (Te.v t):=Bh.refl _;have ab:=vTe t;rw[ab]at f i j;rw[ab];have ep:=vPo p;rw[ep]at f j|-;clear ep;have q0:=Dm p.rules;have q1:=Ac p.g.pts;have q2:=Ac p.g.pri;have q3:=A8 p.en;have q4:=Af p.var.num.mag;have q5:=Af p.var.den;have q6:=Af p.lvl.num.mag;have y:=Af p.lvl.den;have q8:=Af p.rate.num.mag;have q9:=Af p.rate.den;generalize Hw p.rules=rv,Ap p.g.pts=pt,Ap p.g.pri=pr,A9 p.en=ev,Az p.var.num.mag=vm,Az p.var.den=vd,Az p.lvl.num.mag=lm,Az p.lvl.den=ld,Az p.rate.num.mag=rm,Az p.rate.den=rd at*;have s1:=Ac t.elig;have s2:=A8 t.steps;have s3:=Bx t.w;have s4:=Cw pool;have ad:=Eh t.steps;generalize Ap t.elig=ti,A9 t.steps=ts,B9 t.w=tw,C7 pool=lv at*;refine Bp func87 λw0 N0 hG=>?_;refine Y [1,3,5,6] [3,5,6] sr (J (Au 3 sr ?_));refine Jk [1,3,5,6,8] [3,5,6] hG f func139 ?_;refine A5 [20] sr ?_
 refine A1 (λh1=>?_) λh1=>?_
 .exact Y [6,7] [6] sr (Aj (Aa sr (by rw[Ab (sG h1)];exact F8 (sG h1) _)))
 have ai:ck=0:=sG h1
 replace j:=j ai;rw[I (sG h1)];refine J (Y [1,3,5,6,25] [3,5,6] sr ?_)
 refine A1 (λh2=>?_) λh2=>?_
 .refine Au 1 sr ?_;refine Aw i func140 ?_;exact Ak [6,7] [6] sr (Aj (Aa sr (by rw[Ab (sG h2)];unfold teR;rw[Ab rfl,Ab (sG h2)];exact Bh.tup (.cons x (.cons (Bh.refl _) .nil)))))
 rw[I (sG h2)];refine J (Y [1,3,5,6,34] [3,5,6] sr ?_)
 refine Co (λh3=>?_) λh3=>D9 ?_
 .exact Y [6,7] [6] sr (Aj (Aa sr (by rw[Ab (by simpa[ad]using h3)];exact F8 dc _)))
 rw[I (by simpa[ad]using h3)];refine J (Cb (C3 3 sr ?_));refine Dw hG j func68 ?_;refine Ak [3,5,6,9,10] [3,5,6] sr (J (A5 [44] sr ?_))
 refine Co (λz=>?_) λz=>D9 ?_
 .exact Y [6,7] [6] sr (Aj (Aa sr (by rw[Ab (sG z)];exact F8 (sG z) _)))
 have ao:ce=0:=sG z
 rw[I (sG z)];replace u:=u ao;subst u;have an:=ah a;have aj:=A0 a;rw[aa];generalize Ap a=cv at*;have c:(if cv.length<o then(cv.length:Int)else(o:Int))=((min o a.length:Nat):Int):=by rw[aj];split<;>omega
 refine Y [5,6,9,11] [5,6] sr (J (A5 [53] sr ?_))
 refine A1 (λh5=>?_) λh5=>?_
 .exact Y [6,7] [6] sr (Aj (Aa sr (by rw[c]at h5;rw[Ab (show min o a.length=0 by simpa using h5)];exact F8 dc _)))
 have am:¬min o a.length=0:=λe=>by rw[c,e]at h5;simp at h5
 rw[I am,c];have ar:min o a.length<=a.length:=P5 _ _;have ax:min o a.length<=5:=om;generalize min o a.length=m at*;have af:=A6v t.draw m om om;have av:=A12 t.draw (n:=m) om;have gk:=an (R1 t.draw m) om;have al:R1 t.draw m<cv.length:=om;have s:=s (a.getD (R1 t.draw m) 0) (V1 t.draw);have ae:(if t.pend≠0 then t else {t with pend:=a.getD (R1 t.draw m) 0,draw:=V1 t.draw})= {t with pend:=a.getD (R1 t.draw m) 0,draw:=V1 t.draw}:=I (sG h2);rw[ae];unfold teR;rw[Ab rfl];generalize R1 t.draw m=bk at*;generalize a.getD bk 0=au at*;refine Au 1 sr ?_;refine Ge [5,6,9,11,12] [5,6,12] i func140 ?_;refine Au 3 sr ?_;refine Ge [6,9,12,13,14] [6,12] af func141 ?_;refine Y [6,12] [6,12] (by simp[gk,al]<;>rfl) (Y [6,7] [6] sr ?_);exact Aj (Aa sr (Bh.tup (.cons s (.cons (Bh.refl _) .nil))))
def Bip(t:Te)(g:teOk t):AC prog 95 [t.v] (λr=>r=teR (if t.stop≠0 then 21 else 0) {t with pend:=0,stop:=4}):=by
 refine AC.relaxP ?_;have a:=Anb t g;have d:Bh (.agg [.ro 1 (Ap t.elig),.ro 2 (A9 t.steps),.i 0,.ro 1 (B9 t.w),.int .u64 t.draw,.i 4]) (Te.v {t with pend:=0,stop:=4}):=Bh.refl _;have c:=vTe t;rw[c]at a;rw[c];have f:=Ac t.elig;have h:=A8 t.steps;have e:=Bx t.w;generalize Ap t.elig=ti,A9 t.steps=ts,B9 t.w=tw at*;refine Ai func95 λw0 N0=>?_;refine Y [1,2] [1,2] sr (J (Y [1,2,7] [1,2] sr ?_))
 refine A1 (λh1=>?_) λh1=>?_
 .exact Y [2,3] [2] sr (Aj (Aa sr (by rw[Ab (sG h1)];exact F8 dc _)))
 refine Au 1 sr ?_;refine Ge [2,4] [2,4] a func140 ?_;refine Y [2,4] [2,4] sr ?_;exact Y [2,3] [2] sr (Aj (Aa sr (by rw[I (sG h1)];unfold teR;rw[Ab rfl];exact Bh.tup (.cons d (.cons (Bh.refl _) .nil)))))
def A80{p:Po}{pool:List Pit}{t:Te}(c:Ak7 p pool t=true):(∀id∈t.elig,(M0 pool id).isSome=true)/\(t.pend≠0->t.pend∈t.elig/\t.pend∉Ju t.steps):=by
 unfold Ak7 at c
 (repeat' split at c)<;>try(cases c)
 rename_i h1 _ _ d _
 refine⟨λid a=>?_,λg=>?_⟩
 .obtain⟨k,f,rfl⟩:=Kb.1 a
  cases e:(M0 pool t.elig[k]).isSome
  .exact absurd (Es.2 ⟨k,Kv.2 f,by unfold Azl;rw[Cr f,e];rfl⟩) h1
  .rfl
 .constructor
  .exact H2 λh=>d ⟨g,.inl h⟩
  .exact λh=>d ⟨g,.inr h⟩
def Qm(pool:List Pit)(id:Int):Mo:=(Aks (M0 pool id)).m
def Beh{pool:List Pit}{n:Int}{id:Int}(h:Kh pool n=0)(hs:(M0 pool id).isSome=true):L6 (Qm pool id) n=0:=by
 have⟨x,a⟩:=Cv.1 hs;unfold Qm;rw[a];exact(Yn h).2.2 x (Sq a)
def Za(pool:List Pit)(t:Te)(c:Int):List Nat:=Rz (Q7 t.w (Qm pool t.pend) c.toNat)
def Apy(p:Po)(pool:List Pit)(t:Te)(c:Int):Int:=
 if Ac1 p pool t≠0 then Ac1 p pool t else if t.pend=0 then 8 else if Akr (Qm pool t.pend) c=false then 3
 else(A22 p (t.steps.length+1) (Za pool t c)).2
def Aao(p:Po)(pool:List Pit)(t:Te)(c:Int):Te:=
 {elig:=t.elig,steps:=t.steps++[(t.pend,c)],pend:=0,w:=Za pool t c,draw:=t.draw,stop:=(A22 p (t.steps.length+1) (Za pool t c)).1}
def Anj{p:Po}{pool:List Pit}{t:Te}{c:Int}(h:AdP p pool)(r:Ak7 p pool t=true)(u:t.pend≠0)(i:Akr (Qm pool t.pend) c=true)(hn:n<=999)(l:Ks t.w n):
  sumsOk p.g (Za pool t c)/\Ks (Za pool t c) (n+1)/\Ks (Q7 t.w (Qm pool t.pend) c.toNat) (n+1)/\(Q7 t.w (Qm pool t.pend) c.toNat).length=t.w.length/\L6 (Qm pool t.pend) t.w.length=0/\c.toNat<Y1 (Qm pool t.pend)/\0<=c:=by
 have hs:=Atm r (Aan h.pe).2.1 (λx d=>Ae (l x d) om);have a:=A80 r;have m:L6 (Qm pool t.pend) t.w.length=0:=by rw[hs.len];exact Beh h.le (a.1 _ (a.2 u).1)
 have e:0<=c/\c<Y1 (Qm pool t.pend):=by unfold Akr at i;simpa using i
 have k:c.toNat<Y1 (Qm pool t.pend):=om;have⟨o,j,s⟩:=A8w m k l hs.pos;have f:=Ac0 j;exact⟨⟨hs.grid,by unfold Za;rw[Agm,o,hs.len],λx d=>Ae (f x d) om,A8v s⟩,f,j,o,m,k,e.1⟩
def Awx(p:Po)(pool:List Pit)(t:Te)(c:Int)(h:AdP p pool)(ht:teOk t)(hw:Ks t.w 999)(av:t.steps.length<=900):
  Jp gv prog 148 [p.v,.ro 9 (C7 pool),t.v,.i c] (λr=>r=teR (Apy p pool t c) (Aao p pool t c)):=by
 refine Jp.relaxP ?_;have e:=Ani p pool t h ht;have i:=Ana t ht;have f:=Ayx pool t.pend;have l:=Ayw (Qm pool t.pend) c;have ak:=λ(hc:Ac1 p pool t=0)(h0:t.pend≠0)(hh:Akr (Qm pool t.pend) c=true)=>Anj h (Ai7 hc).1 h0 hh (A2 999) hw
 have ar:=ht.wl;have a:=λh1 h2=>A11 t.w (Qm pool t.pend) c.toNat h1 h2 (λx hx=>Ae (hw x hx) dc)
 have j:=λh1=>Ah1 (Q7 t.w (Qm pool t.pend) c.toNat) h1
 have d:=λh1=>Awu p (t.steps.length+1) (Za pool t c) h.ok h.pe h1
 change∀h1 h2,AC prog 66 _ (λr=>r=.ro 1 (B9 (Za pool t c)))at j;unfold Apy Aao;have pu:=Bx (Q7 t.w (Qm pool t.pend) c.toNat);have pw:=Bx (Za pool t c);have pm:=D0 (Qm pool t.pend);rw[(Gq (Aks (M0 pool t.pend)))]at f;change AC _ _ _ (λr=>r=V.tup [V.agg [_,_,_,_,_,_,_,_,V.ro 1 (Eo (Qm pool t.pend))],_])at f;have al:moV (Qm pool t.pend)=.agg [.ro 1 (Eo (Qm pool t.pend))]:=rfl;rw[al]at l a;have ah:A9 t.steps++[V.agg [.i t.pend,.i c]]=A9 (t.steps++[(t.pend,c)]):=by simp[A9]
 have ab:=A8 (t.steps++[(t.pend,c)]);have aj:∀st:Int,Bh (.agg [.ro 1 (Ap t.elig),.ro 2 (A9 (t.steps++[(t.pend,c)])),.i 0,.ro 1 (B9 (Za pool t c)),.int .u64 t.draw,.i st]) (Te.v {elig:=t.elig,steps:=t.steps++[(t.pend,c)],pend:=0,w:=Za pool t c,draw:=t.draw,stop:=st}):=λst=>Bh.refl _
 have ai:t.steps.length+1<=maxLen/\(t.steps.length+1)*16<=140737488355328:=by unfold maxLen;omega
 generalize(A22 p (t.steps.length+1) (Za pool t c))=rs,B9 (Za pool t c)=rwv,B9 (Q7 t.w (Qm pool t.pend) c.toNat)=uv,Eo (Qm pool t.pend)=mv,Akr (Qm pool t.pend) c=hb,Ac1 p pool t=ck at*;unfold teV at i;have aa:=vTe t;rw[aa]at e i;rw[aa];have ep:=vPo p;rw[ep]at e d|-;clear ep;have q0:=Dm p.rules;have s:=Ac p.g.pts;have q2:=Ac p.g.pri;have q3:=A8 p.en;have q4:=Af p.var.num.mag;have q5:=Af p.var.den;have q6:=Af p.lvl.num.mag;have m:=Af p.lvl.den;have n:=Af p.rate.num.mag;have z:=Af p.rate.den;generalize Hw p.rules=rv,Ap p.g.pts=pt,Ap p.g.pri=pr,A9 p.en=ev,Az p.var.num.mag=vm,Az p.var.den=vd,Az p.lvl.num.mag=lm,Az p.lvl.den=ld,Az p.rate.num.mag=rm,Az p.rate.den=rd at*;have s1:=Ac t.elig;have u:=A8 t.steps;have y:=Bx t.w;have s4:=Cw pool;have am:=Eh t.steps;generalize Ap t.elig=ti,A9 t.steps=ts,B9 t.w=tw,C7 pool=lv at*;refine Bp func148 λw0 N0 hG=>?_;refine Y [1,3,4,6,8] [4,6,8] sr (J (Au 3 sr ?_));refine Jk [1,3,4,6,8,10] [4,6,8] hG e func139 ?_;refine Y [1,3,4,6,8,10,21] [4,6,8] sr ?_
 refine A1 (λh1=>?_) λh1=>?_
 .exact Y [8,9] [8] sr (Aj (Aa sr (by rw[Ab (sG h1)];exact F8 (sG h1) _)))
 have af:=sG h1
 rw[I (sG h1)];refine J (Y [1,3,4,6,8,26] [4,6,8] sr ?_)
 refine A1 (λh2=>?_) λh2=>?_
 .exact Y [8,9] [8] sr (Aj (Aa sr (by rw[Ab (sG h2)];exact F8 dc _)))
 rw[I (sG h2)];refine Au 3 sr ?_;refine Ge [3,4,6,8,11] [4,6,8,11] f func204 ?_;refine J (Au 3 sr ?_);refine Ge [3,4,6,8,11,39] [4,6,8,11] l func205 ?_
 refine A1 (λh3=>?_) λh3=>?_
 .exact Y [8,9] [8] sr (Aj (Aa sr (by rw[Ab (sG h3)];exact F8 dc _)))
 have ae:=sG h3
 rw[I (sG h3)];have⟨r1,r2,r3,r4,r5,r6,r7⟩:=ak af (show t.pend≠0 by simpa using h2) ae;replace a:=a r5 r6;replace j:=j (λx hx=>Ae (r3 x hx) dc) om;replace d:=d r1;have an:((c.toNat:Nat):Int)=c:=om;rw[an]at a;refine Au 5 sr ?_;refine Ge [3,4,6,8,13,14] [4,6,8] a func206 ?_;refine J (Y [3,4,6,8,13,14,51] [4,6,8] sr ?_);refine Ce (J (Cb (C3 1 sr ?_)));refine Dx i func196 rfl kr rfl rfl rfl sr (λk o hk=>by cases hk) ?_ λch ad=>ad.elim;rintro r ao au⟨y1,y2,rfl,rfl⟩aq;refine⟨λk hk=>rfl,_,by simp<;>rfl,?_⟩;refine Ak [3,4,6,8,13,15] [4,6,8,15,18,101] sr (Y [4,8,13,15] [4,8,15,101] (by simp[am,ai]<;>rfl) ?_);rw[ah];refine Bq 101 [4,8,13,15] [4,8,15] C1 (Au 1 sr ?_);refine Ge [4,8,15] [4,8,15] j func66 ?_;refine Y [4,8,15] [4,8,15] sr (Au 6 sr ?_);refine Jk [8,14,15] [8,15] hG d func207 ?_;refine J (Y [8,14,15,81] [8,15,63] sr ?_)
 refine A1 (λh5=>?_) λh5=>?_
 .exact Y [8,9] [8] sr (Aj (Aa sr (F8 (sG h5) _)))
 exact Y [8,9] [8] sr (Aj (Aa sr ((λh6:rs.2=0=>(by unfold teR;rw[h6,Ab rfl];exact Bh.tup (.cons (aj rs.1) (.cons (Bh.refl _) .nil)):Bh _ _)) (sG h5))))
variable {de ex nu:Int}
def Ak8(nu de ex:Int):Int:=if de<1\/100<de then 3 else if nu<de\/4*de<nu then 3 else if ex<0\/86400<ex then 3 else 0
def Afn(nu de ex:Int):AC prog 33 [.agg [.i nu,.i de,.i ex]] (λr=>r=.i (Ak8 nu de ex)):=by
 unfold Ak8;refine Ai func33 λw0 N0=>?_;refine Y [1] [1] sr (J (Y [1,10] [1] sr ?_))
 refine A1 (λh1=>?_) λh1=>?_
 .exact Y [2] [] sr (Aj (Aa sr (by rw[Ab (sG h1)])))
 rw[I (sG h1)];have hd:=sO h1
 have c:IntKind.i64.wrap (4*de)=4*de:=Bm om om;refine J (Y [1,23] [1] C1 ?_)
 refine L3 [2] (J (Y [31] [] sr ?_))
 exact Tl [2] [2]
def A27(sc nu de ex:Int):Int:=if Ak8 nu de ex≠0\/sc<0\/9999999<sc then 3 else 0
def Bei(sc nu de ex:Int):Int:=if A27 sc nu de ex≠0 then 0 else(sc*nu+de-1)/de+ex
def Bej(h:Ak8 nu de ex=0):(1<=de/\de<=100)/\(de<=nu/\nu<=4*de)/\0<=ex/\ex<=86400:=by
 unfold Ak8 at h
 (repeat' split at h)<;>omega
def Biq{sc:Int}(h:A27 sc nu de ex=0):0<=sc*nu+de-1/\sc*nu+de-1<=4000000099/\0<=sc*nu/\(0<=(sc*nu+de-1)/de/\(sc*nu+de-1)/de<=4000000099)/\1<=de/\0<=ex/\ex<=86400:=by
 unfold A27 at h
 split at h
 .omega
 rename_i h2;have c:=H2 λe=>h2 (.inl e)
 have hs:0<=sc/\sc<=9999999:=by
  constructor
  .exact H2 λe=>h2 (.inr (.inl om))
  .exact H2 λe=>h2 (.inr (.inr om))
 have⟨a,h4,d⟩:=Bej c;have f:0<=sc*nu:=Int.mul_nonneg hs.1 om;have m2:sc*nu<=9999999*400:=Int.mul_le_mul hs.2 om om om;refine⟨by omega,by omega,f,⟨Int.ediv_nonneg om om,?_⟩,a.1,d⟩;exact Int.le_trans (Int.ediv_le_self _ om) om
def A81(sc nu de ex:Int):AC prog 142 [.i sc,.agg [.i nu,.i de,.i ex]] (λr=>r=.tup [.i (Bei sc nu de ex),.i (A27 sc nu de ex)]):=by
 have e:=Afn nu de ex;have d:=Biq (sc:=sc) (nu:=nu) (de:=de) (ex:=ex);have a:A27 sc nu de ex=if Ak8 nu de ex≠0\/sc<0\/9999999<sc then 3 else 0:=rfl
 unfold Bei;generalize A27 sc nu de ex=le,Ak8 nu de ex=ae at*;refine Ai func142 λw0 N0=>?_;refine Y [0,3] [3] sr (J (Au 1 sr ?_));refine Aw e func33 ?_;refine Ak [0,3,16] [3] sr ?_
 refine A1 (λh1=>?_) λh1=>?_
 .exact Y [4,5] [] sr (Aj (Aa sr (by rw[a.trans (Ab (by simpa[or_assoc]using h1))];rfl)))
 rw[I (by simpa[or_assoc,and_assoc]using h1)]at a;subst a;have⟨k,b2,b3,b4,b5,b6⟩:=d rfl;have j:IntKind.i64.wrap (sc*nu)=sc*nu:=Bm om om;have g:IntKind.i64.wrap (sc*nu+de)=sc*nu+de:=Bm om om;have l:IntKind.i64.wrap (sc*nu+de-1)=sc*nu+de-1:=Bm om om;have f:(sc*nu+de-1).tdiv de=(sc*nu+de-1)/de:=Si k;have h:IntKind.i64.wrap ((sc*nu+de-1)/de)=(sc*nu+de-1)/de:=Bm om om;have i:IntKind.i64.wrap ((sc*nu+de-1)/de+ex)=(sc*nu+de-1)/de+ex:=Bm om om;have c:¬de=0:=om;exact I3 [0,2,4,1,8,1,11,1,2,2,5,3,9,2,12,4] [4,5] [] sr C1 (Aj (Aa sr sm))
structure In4 where
 ki:Int
 ti:Int
 lo:Int
 gr:Int
def In4.v(i:In4):V:=.agg [.i i.ki,.i i.ti,.i i.lo,.i i.gr]
def Fa(l:List In4):List V:=l.map In4.v
@[simp]def Gv(l:List In4):(Fa l).length=l.length:=by simp[Fa]
def Aer{l:List In4}(h:k<l.length):Gz (Fa l) k=some l[k].v:=by rw[C0];simp[Fa,h]
def Et(l:List In4):(Fa l).all V.pureE=true:=by
 rw[Ao];intro x a;simp only[Fa,Bc]at a;obtain⟨n,_,rfl⟩:=a;rfl
def Apz(i:In4):Int:=
 if i.ki<1\/6<i.ki then 1
 else if i.ti<0\/1099511627776<i.ti\/i.lo<0\/86400<i.lo\/i.gr<0\/3<i.gr then 3 else 0
def Afo(i:In4):AE 94 [i.v] (.i (Apz i)):=by
 have⟨ki,ti,lo,gr⟩:=i;unfold Apz In4.v;simp only;refine Ai func94 λw0 N0=>?_;refine Y [1] [1] sr (J (A5 [10] sr ?_))
 refine L3 [2] (J (Y [38] [] sr ?_))
 exact Tl [2] [2]
def Awy(l:List In4):Int:=if 300<l.length then 5 else M6 Apz l
def Ato(l:List In4):AC prog 198 [.ro 4 (Fa l)] (λr=>r=.i (Awy l)):=by
 have w:=λ(k:Nat)(h:k<l.length)=>Aer h
 have u:=Gv l;have pl:=Et l;have n:=λ(k:Nat)(h:k<l.length)=>Pt Apz h
 unfold Awy;generalize Fa l=j at*;refine Ai func198 λw0 N0=>?_;refine Y [0] [] sr (J (Y [0,8] [] sr ?_))
 refine A1 (λh1=>?_) λh1=>?_
 .exact Y [2] [] sr (Aj (Aa sr (by rw[Ab (by simp[u]at h1;omega)])))
 have m:¬300<l.length:=by simp[u]at h1;omega
 rw[I m];refine J (Y [9,10,11] [] sr (Ad (Ho 11 (λk=>M6 Apz (l.drop k)=M6 Apz l) l.length rfl ?_)));intro k nx hk d;refine Y [9,10,11,12] [] sr (J ?_)
 refine Bk (λh2=>?_) λh2=>?_
 .have c:k<l.length:=by simp at h2;omega
  have e:k<j.length:=om;have t:=w k c;have a:=Afo l[k];rw[(n k c)]at d;unfold In4.v at t a;generalize l[k]=i at*;refine J (Ad (Y [4,9,10,11] [4] (by simp[t,e]<;>rfl) (Au 1 sr ?_)));refine Aw a func94 ?_;refine Ak [5,9,10,11] [] sr (Y [5,9,10,11,18] [] sr ?_)
  refine A1 (λf=>?_) λf=>?_
  .exact Y [2] [] sr (Aj (Aa sr (by rw[<-d,Ab (sG f)])))
  rw[I (sG f)]at d;refine A6 [9,10,11] [] (by simp[(A4 (k:=k) om)]<;>rfl) ?_;exact⟨c,d,_,Z⟩
 .refine A3 ?_;have g:k=l.length:=sO h2
  rw[g,Cl]at d;exact Y [2] [] sr (Aj (Aa sr (by rw[<-d];rfl)))
def Ac2(l:List In4):Nat->Int
 |0=>0
 |k+1=>if(l.getD k ⟨0,0,0,0⟩).ki=1\/(l.getD k ⟨0,0,0,0⟩).ki=2\/(l.getD k ⟨0,0,0,0⟩).ki=3 then IntKind.i64.wrap (Ac2 l k+(l.getD k ⟨0,0,0,0⟩).lo)else Ac2 l k
def Azm(l:List In4)(a:Int):Int:=if Awy l≠0 then 0 else if Tz a<Ac2 l l.length then Tz a else Ac2 l l.length
def Bek(l:List In4)(a:Int):AC prog 143 [.ro 4 (Fa l),.i a] (λr=>r=.tup [.i (Azm l a),.i (Awy l)]):=by
 have n:=Ato l;have w:∀k,k<l.length->Gz (Fa l) k=some (l.getD k ⟨0,0,0,0⟩).v:=λ(k:Nat)(h:k<l.length)=>by rw[Cr h];exact Aer h
 have lq:=Gv l;have pl:=Et l;have j:Awy l=0->l.length<=300:=λh=>by unfold Awy at h;split at h;omega;omega
 have s:∀k,Ac2 l (k+1)=if(l.getD k ⟨0,0,0,0⟩).ki=1\/(l.getD k ⟨0,0,0,0⟩).ki=2\/(l.getD k ⟨0,0,0,0⟩).ki=3 then IntKind.i64.wrap (Ac2 l k+(l.getD k ⟨0,0,0,0⟩).lo)else Ac2 l k:=λk=>rfl
 have o:Ac2 l 0=0:=rfl;unfold Azm;generalize Ac2 l=x,Awy l=y,Fa l=m at*;refine Ai func143 λw0 N0=>?_;refine Y [0,1] [] sr (J (Au 1 sr ?_));refine Ge [0,1,6] [] n func198 ?_;refine Y [0,1,6,13] [] sr ?_
 refine A1 (λh1=>?_) λh1=>?_
 .exact Y [4,5] [] sr (Aj (Aa sr (by rw[Ab (sG h1)])))
 have f:y=0:=sG h1
 have z:=j f;rw[I (sG h1)];refine Y [0,1,7] [] sr (J (Y [1,7,15,16,17] [] sr (Ad (H5 (λk=>[(7,V.i (x k)),(17,V.i k)]) (λ_=>[]) (λk=>True) l.length trivial (by simp only[o];exact Z) ?_))));intro k nx hk hI;refine Y [1,7,15,16,17,18] [] sr (J ?_)
 refine Bk (λh2=>?_) λh2=>?_
 .have c:k<l.length:=by simp at h2;omega
  have e:k<m.length:=om;have u:=w k c;have d:=s k;have Ec:=A4 (k:=k) om;unfold In4.v at u;generalize l.getD k ⟨0,0,0,0⟩=i at*;refine J (Ad (Y [1,7,9,15,16,17] [9] (by simp[u,e]<;>rfl) (Y [1,7,9,15,16,17,33] [9] sr ?_)))
  refine A1 (λg=>?_) λg=>?_
  .refine A6 [1,7,15,16,17] [] sr (A6 [1,7,15,16,17] [] (by simp[Ec]<;>rfl) ?_);exact⟨c,trivial,_,by rw[d,Ab (by simpa[or_assoc]using g)];exact Z⟩
  refine A6 [1,7,15,16,17] [] (by simp[Ec]<;>rfl) ?_;exact⟨c,trivial,_,by rw[d,I (by simpa[or_assoc,and_assoc]using g)];exact Z⟩
 .refine A3 ?_;have t:k=l.length:=sO h2
  subst t;exact Y [4,5] [] sr (Aj (Aa sr (by unfold Tz;simp[f])))
structure It where
 id:Int
 ver:Int
 kind:Int
 stem:List UInt8
 opts:List (List UInt8)
 ch:List Int
 val:Int
 tol:Int
 txts:List (List UInt8)
 pts:Int
 code:List UInt8
 fam:Int
 set:Int
 wo:Int
 se:Int
 ass:List Int
 rub:Int
def Ha(l:List (List UInt8)):List V:=l.map V.str
@[simp]def Fh(l:List (List UInt8)):(Ha l).length=l.length:=by simp[Ha]
def Ac3{l:List (List UInt8)}(h:k<l.length):Gz (Ha l) k=some (.str (l.getD k [])):=by rw[C0,Cr h];simp[Ha,h]
def C9(l:List (List UInt8)):(Ha l).all V.pureE=true:=by
 rw[Ao];intro x a;simp only[Ha,Bc]at a;obtain⟨n,_,rfl⟩:=a;rfl
def It.v(it:It):V:=V.agg [.i it.id,.i it.ver,.i it.kind,.str it.stem,.ro 1 (Ha it.opts),.ro 1 (Ap it.ch),.i it.val,.i it.tol,.ro 1 (Ha it.txts),.i it.pts,.str it.code,.i it.fam,.i it.set,.i it.wo,.i it.se,.ro 1 (Ap it.ass),.i it.rub]
def vIt(i:It):i.v=V.agg [.i i.id,.i i.ver,.i i.kind,.str i.stem,.ro 1 (Ha i.opts),.ro 1 (Ap i.ch),.i i.val,.i i.tol,.ro 1 (Ha i.txts),.i i.pts,.str i.code,.i i.fam,.i i.set,.i i.wo,.i i.se,.ro 1 (Ap i.ass),.i i.rub]:=rfl
def Lo(n c a:Int):Bool:=decide (c<=n)&&decide (n<=a)
def R6(n c a:Int):AE 108 [.i n,.i c,.i a] (.bool (Lo n c a)):=by
 unfold Lo;refine Ai func108 λw0 N0=>?_;exact Y [0,1,2] [] sr (Y [6] [] sr (Bv sr rf))
def Azn(it:It):Bool:=
 Lo it.id 1 9999999&&Lo it.ver 1 50&&Lo it.pts 1 5&&Lo it.wo 0 2000&&Lo it.se 1 2000&&Lo it.fam 0 9999999&&Lo it.set 0 9999999&&Lo it.rub 0 9999999
def Bel(it:It):AE 107 [it.v] (.bool (Azn it)):=by
 have a:=R6;unfold Azn;rw[(vIt it)];have i1:=C9 it.opts;have i2:=Ac it.ch;have i3:=C9 it.txts;have i4:=Ac it.ass;have e:=Fh it.opts;have g:=A0 it.ch;have f:=Fh it.txts;have m:=A0 it.ass;generalize Ha it.opts=k,Ap it.ch=h,Ha it.txts=n,Ap it.ass=av at*;have j:k=[]↔it.opts=[]:=by rw[<-Ag,e,Ag]
 have i:h=[]↔it.ch=[]:=by rw[<-Ag,g,Ag]
 have l:n=[]↔it.txts=[]:=by rw[<-Ag,f,Ag]
 generalize Lo=wi at*;refine Ai func107 λw0 N0=>?_;refine Y [1] [1] sr (Au 2 sr ?_);refine Aw (a it.id 1 9999999) func108 ?_;refine C3 3 sr (Gd (λc=>a it.ver 1 50) func108 ?_);refine C3 4 sr (Gd (λc=>a it.pts 1 5) func108 ?_);refine C3 4 sr ?_;refine Gd (λc=>a it.wo 0 2000) func108 ?_;refine C3 4 sr ?_;refine Gd (λc=>a it.se 1 2000) func108 ?_;refine C3 4 sr ?_;refine Gd (λc=>a it.fam 0 9999999) func108 ?_;refine C3 4 sr ?_;refine Gd (λc=>a it.set 0 9999999) func108 ?_;refine C3 4 sr ?_;refine Gd (λc=>a it.rub 0 9999999) func108 ?_;refine Ak [2] [] sr ?_;exact Bv sr (rfl)
def prb(b:UInt8):Bool:=decide (32<=b.toNat)&&decide (b.toNat<=126)
def prB(s:List UInt8)(a:Int):Bool:=s.all prb&&decide ((1:Int)<=s.length)&&decide ((s.length:Int)<=a)
def Awz(s:List UInt8)(a:Int)(hs:s.length<=4000000000):AC prog 168 [.str s,.i a] (λr=>r=.bool (prB s a)):=by
 unfold prB;refine Ai func168 λw0 N0=>?_;refine Y [0,1] [] sr (J (Y [0,1,5] [] sr (Ad (Ho 5 (λk=>(s.take k).all prb=true) s.length sm ?_))));intro k nx hk i;refine J (Y [0,1,5,9] [] sr ?_)
 refine Bk (λh1=>?_) λh1=>?_
 .have c:k<s.length:=by simp at h1;omega
  have Ec:=A4 (k:=k) om;have j:Gz s k=some s[k]:=by rw[C0];simp[c]
  have g:prb s[k]=true->(s.take (k+1)).all prb=true:=λh=>by rw[Av c,F5,i];simp[h]
  have f:prb s[k]=false->s.all prb=false:=λh=>by rw[Kc];exact⟨s[k],As c,by rw[h];simp⟩
  have d:prb s[k]=(decide (32<=s[k].toNat)&&decide (s[k].toNat<=126)):=rfl;generalize s[k]=b at*;refine J (Ad (Y [0,1,5,21] [] C1 ?_))
  refine A1 (λh2=>?_) λh2=>?_
  .exact Y [4] [] sr (Aj (Aa sr (by rw[f (by rw[d];simp at h2|-;omega)];rfl)))
  refine A6 [0,1,5] [] C1 ?_;exact⟨c,g (by rw[d];simp at h2|-;omega),_,Z⟩
 .refine A3 ?_;have e:k=s.length:=sO h1
  rw[e,Bb]at i;exact Qp [4]
def A82(l:List Int)(c a:Int)(k:Nat):Bool:= !Lo (l.getD k 0) c a||(decide (0<k)&&decide (l.getD k 0<=l.getD (k-1) 0))
def Atp(l:List Int)(c a:Int):Bool:= !(List.range l.length).any (A82 l c a)
def Aw0(l:List Int)(e d:Int)(hl:l.length<=4000000000):AE 112 [.ro 1 (Ap l),.i e,.i d] (.bool (Atp l e d)):=by
 have ad:=λn=>R6 n e d
 have qe:=λ(k:Nat)(h:k<l.length)=>Dk h
 have le:=A0 l;have pl:=Ac l;unfold Atp;have ab:∀k,A82 l e d k=(!Lo (l.getD k 0) e d||(decide (0<k)&&decide (l.getD k 0<=l.getD (k-1) 0))):=λk=>rfl
 generalize Ap l=s,A82 l e d=u at*;refine Ai func112 λw0 N0=>?_;refine Y [0,1,2] [] sr (J (A5 [9,10,11] sr (Ad (Ho 11 (λk=>((List.range l.length).take k).any u=false) l.length sm ?_))));intro k nx hk hI;refine Y [0,1,2,9,10,11,12] [] sr (J ?_)
 refine Bk (λh1=>?_) λh1=>?_
 .have c:k<l.length:=by simp at h1;omega
  have t:k<s.length:=om;have ga:=qe k c;have hb:=ab k;have Ec:=A4 (k:=k) om;have o:=λh=>Im l.length k u c hI h
  have i:=λh=>Oa (f:=u) c h
  have z:∀j,k=j+1->u k=(!Lo (l.getD k 0) e d||decide (l.getD k 0<=l.getD j 0)):=λj hj=>by rw[hb,hj];simp
  generalize l.getD k 0=x at*;have a:=ad x;refine J (Ad (Y [0,1,2,7,8,9,10,11] [] (by simp[ga,t]<;>rfl) ?_))
  cases hfd:Lo x e d
  .rw[hfd]at a;refine Au 3 sr ?_;refine Aw a func108 ?_;refine C3 2 sr ?_;refine Kq 11 sr ?_;refine Ak [0,1,2,9,10,11,33] [] sr ?_;refine Ek ?_;exact Y [6] [] sr (Aj (Aa sr (by rw[i (by rw[hb,hfd];rfl)];rfl)))
  rw[hfd]at a
  rcases k with _ |j
  .refine Au 3 sr ?_;refine Aw a func108 ?_;refine C3 5 sr ?_;refine Kq 7 sr ?_;refine Ak [0,1,2,9,10,11,33] [] sr ?_;refine Ce (A6 [0,1,2,9,10,11] [] sR ?_);exact⟨c,o (by rw[hb,hfd];simp),_,Z⟩
  .have gp:=qe j om;have aa:j<s.length:=om;have w:IntKind.i64.wrap (((j+1:Nat):Int)-1)=(j:Int):=by rw[Bm om oM];omega
   have m:IntKind.i64.wrap (j:Int)=(j:Int):=Bm om om;have g:=z j rfl;generalize l.getD j 0=y at*;refine Au 3 sr ?_;refine Aw a func108 ?_;refine Ak [0,1,2,9,10,11,33] [] (by simp[gp,aa,m,-Int.natCast_add]<;>rfl) ?_
   refine A1 (λh2=>?_) λh2=>?_
   .exact Y [6] [] sr (Aj (Aa sr (by rw[i (by rw[g,hfd];simpa using h2)];rfl)))
   have Sk:IntKind.i64.wrap ((j:Int)+1+1)=((j+1+1:Nat):Int):=by rw[Bm om oM];omega
   refine A6 [0,1,2,9,10,11] [] (by simp[Sk,-Int.natCast_add]<;>rfl) ?_;exact⟨c,o (by rw[g,hfd];simpa using h2),_,Z⟩
 .refine A3 ?_;have ae:k=l.length:=sO h1
  rw[ae,Ba (by simp)]at hI;exact Qp [6]
def Azo(it:It):Bool:=
 if 3<it.kind/\(it.opts≠[]\/it.ch≠[])then false
 else if it.kind≠4/\(it.val≠0\/it.tol≠0)then false
 else(decide (it.kind=5)||decide (it.txts=[]))&&(decide (it.kind=6)||decide (it.rub=0))
def Bem(it:It):AC prog 110 [it.v] (λr=>r=.bool (Azo it)):=by
 unfold Azo;rw[(vIt it)];have i1:=C9 it.opts;have i2:=Ac it.ch;have i3:=C9 it.txts;have i4:=Ac it.ass;have f:=Fh it.opts;have h:=A0 it.ch;have g:=Fh it.txts;have j:=A0 it.ass;generalize Ha it.opts=k,Ap it.ch=i,Ha it.txts=l,Ap it.ass=av at*;have c:k=[]↔it.opts=[]:=by rw[<-Ag,f,Ag]
 have a:i=[]↔it.ch=[]:=by rw[<-Ag,h,Ag]
 have e:l=[]↔it.txts=[]:=by rw[<-Ag,g,Ag]
 refine Ai func110 λw0 N0=>?_;refine Y [1] [1] sr (J (Y [1,17] [1] sr ?_))
 refine Co (λh1=>?_) λh1=>D9 ?_
 .exact Y [2] [] sr (Aj (Aa sr (by rw[Ab (by simpa[Ey,c,a]using h1)])))
 rw[I (by simpa[Ey,c,a]using h1)];refine J (Y [1,30] [1] sr ?_)
 refine Co (λh2=>?_) λh2=>D9 ?_
 .exact Y [2] [] sr (Aj (Aa sr (by rw[Ab (sG h2)])))
 rw[I (sG h2)];exact Y [2] [] sr (Aj (Aa sr Gi))
section
open Go.RowKit Go.Sort Go.Lib
def A29(s:List UInt8)(a b:UInt8):List UInt8:=Lib.replaceAll s [a] [b]
def A83(s:List UInt8)(a b:UInt8)(hs:s.length<4294967281):AQ 169 [.str s,.str [a],.str [b]] (.str (A29 s a b)):=by
 intro w N xs g _ h hp
 obtain⟨x,y,z,rfl,d,f,c⟩:∃x y z,xs=[x,y,z]/\Pur w N x (.str s)/\Pur w N y (.str [a])/\Pur w N z (.str [b]):=by
  match xs,h with
  |[x,y,z],_=>exact⟨x,y,z,rfl,hp 0 x _ rfl rfl,hp 1 y _ rfl rfl,hp 2 z _ rfl rfl⟩
 cases d;cases f;cases c
 have⟨⟨m,i⟩,_⟩:=g;have j:(⟨s.toArray⟩:ByteArray).size=s.length:=by rw[Lib.size_eq]
 have h1:(⟨#[a]⟩:ByteArray).size=1:=rfl;have hc:=Lib.countB_le ⟨#[a]⟩ (Vn h1.symm) _ ⟨s.toArray⟩ (A2 _);refine(strings_ReplaceAll ⟨s.toArray⟩ ⟨#[a]⟩ ⟨#[b]⟩ m w om i (Vn h1.symm) (by show _ +_ *1<=_;omega)).mono ?_;rintro e w'⟨rfl,k⟩;exact⟨_,_,rfl,rfl,.str _,k⟩
def Ben(s sub:List UInt8)(hs:s.length<4294967281):AQ 222 [.str s,.str sub] (.bool (Lib.contains s sub)):=by
 intro w N xs d _ f hp;obtain⟨x,y,rfl,a,c⟩:=Arw f hp;cases a;cases c
 have⟨⟨m,g⟩,_⟩:=d;refine(strings_Contains ⟨s.toArray⟩ ⟨sub.toArray⟩ m w (by rw[Lib.size_eq];simpa using hs) g).mono ?_;rintro e w'⟨rfl,rfl⟩;exact⟨_,_,rfl,rfl,.bool _,Below.refl _ _⟩
end
def sfB(s:List UInt8):Bool:=decide (1<=s.length)&&decide (s.drop (s.length-1)=[32])
def A3a(s:List UInt8)(d:s.length<=4000000000):AE 264 [.str s,.str [32]] (.bool (sfB s)):=by
 unfold sfB
 by_cases hs:s=[]
 .subst hs;refine Ai func264 λw0 N0=>?_;refine Y [0,1] [] sr (Au 6 sr ?_);refine Kq 9 sr (Ak [4] [] sr ?_);exact Bv sr rfl
 .have c:1<=s.length:=Ey.2 hs;have a:(1:Int)<=s.length:=om;have g:IntKind.i64.wrap ((s.length:Int)-1)=((s.length-1:Nat):Int):=by rw[Bm om oM];omega
  have e:((s.length-1:Nat):Int)<=s.length:=om;have f:(s.drop (s.length-1)).take (s.length-(s.length-1))=s.drop (s.length-1):=Ba sm;refine Ai func264 λw0 N0=>?_;exact Y [0,1] [] sr (Y [4] [] C1 (Bv sr Gi))
def Ap0(s:List UInt8)(c:s.length<=4000000000):AE 221 [.str s,.str [32]] (.bool (sfB s)):=by
 have a:=A3a s c;generalize sfB s=b at*;refine Ai func221 λw0 N0=>?_;refine Y [0,1] [] sr (Au 2 sr ?_);refine Aw a func264 ?_;exact Ak [4] [] sr (Bv sr (rfl))
def nrm(b:UInt8):Bool:=decide ((b.toNat:Int)=32)||Lo b.toNat 97 122||Lo b.toNat 48 57
def A3b(s:List UInt8):Bool:=if s.all nrm=false then false else !A2d s [32]&& !sfB s&& !Lib.contains s [32,32]
def Beo(s:List UInt8)(hs:s.length<=4000000000):Jp gv prog 172 [.str s] (λr=>r=.bool (A3b s)):=by
 have g:=R6;have j:=Acg s [32];have l:=Ap0 s hs;have i:=Ben s [32,32] om;unfold A3b;generalize A2d s [32]=hp,sfB s=y,Lib.contains s [32,32]=ct at*;refine Bp func172 λw0 N0 x=>?_;refine Y [0] [] sr (J (Y [0,3] [] sr (Ad (Ho 3 (λk=>(s.take k).all nrm=true) s.length sm ?_))));intro k nx hk u;refine J (Y [0,3,7] [] sr ?_)
 refine Bk (λh1=>?_) λh1=>?_
 .have a:k<s.length:=by simp at h1;omega
  have Ec:=A4 (k:=k) om;have w:Gz s k=some s[k]:=by rw[C0];simp[a]
  have t:nrm s[k]=true->(s.take (k+1)).all nrm=true:=λh=>by rw[Av a,F5,u];simp[h]
  have o:nrm s[k]=false->s.all nrm=false:=λh=>by rw[Kc];exact⟨s[k],As a,by rw[h];simp⟩
  have f:nrm s[k]=(decide ((s[k].toNat:Int)=32)||Lo s[k].toNat 97 122||Lo s[k].toNat 48 57):=rfl;have d:IntKind.i64.wrap (s[k].toNat:Int)=(s[k].toNat:Int):=by have:=s[k].toNat_lt;rw[Bm om oM]
  generalize s[k]=b at*;refine J (Ad (Au 9 C1 ?_));refine Ff (c:= !decide ((b.toNat:Int)=32)) (λm=>g b.toNat 97 122) func108 rfl kr sr rfl rfl sr sm sr (C3 7 C1 ?_);refine Ff (c:= !decide ((b.toNat:Int)=32)&& !Lo b.toNat 97 122) (λm=>g b.toNat 48 57) func108 rfl kr sr rfl rfl sr sm sr (Ak [0,3,29] [] sr ?_)
  refine A1 (λh2=>?_) λh2=>?_
  .exact Y [2] [] sr (Aj (Aa sr (by rw[Ab (o (by rw[f];simpa[and_assoc]using h2))])))
  refine A6 [0,3] [] C1 ?_;exact⟨a,t (by rw[f];by_cases e:(b.toNat:Int)=32<;>cases e2:Lo b.toNat 97 122<;>simp_all),_,Z⟩
 .refine A3 ?_;have n:k=s.length:=sO h1
  rw[n,Bb]at u;rw[I (by rw[u];simp)];refine Au 1 sr ?_;refine Aw j func212 ?_;refine C3 3 sr (Ff (c:= !hp) (λm=>l) func221 rfl kr sr rfl rfl sr sm sr ?_);refine C3 4 sr ?_;refine U6 (c:= !hp&& !y) x (λm=>i) func222 rfl kr sr rfl rfl sr sm sr ?_;refine Ak [2] [] sr ?_;exact Aj (Aa sr sm)
def Bep(it:It):Bool:=
 if prB (A29 it.stem 10 32) 2000=false then false
 else if it.opts.all (λs=>prB s 200)=false then false
 else if it.txts.all (λs=>prB s 200)=false then false else Qk it.code
structure It.small(it:It):Prop where
 stem:it.stem.length<=2000000
 opts:it.opts.length<=2000000/\∀s∈it.opts,s.length<=2000000
 txts:it.txts.length<=2000000/\∀s∈it.txts,s.length<=2000000
 ch:it.ch.length<=2000000
 ass:it.ass.length<=2000000
def Ank(a b:UInt8):∀(k:Nat)(s:List UInt8),(Lib.replaceK [a] [b] k s).length<=s.length+k
 |0,s=>by simp[Lib.replaceK]
 |k+1,s=>by
  rw[Lib.replaceK]
  split
  .omega
  .have ih:=Ank a b k (s.drop ((Lib.index s [a]).toNat+[a].length));simp only[Aq,C8,D6,Ax,Bg]at ih|-;omega
def A84(s:List UInt8)(hs:s.length<=2000000):(A29 s 10 32).length<=4000001:=by
 have h1:=Ank 10 32 (Lib.replaceNum s [10] (-1)) s
 have h2:Lib.replaceNum s [10] (-1)<=s.length+1:=by
  unfold Lib.replaceNum;rw[Ab om];exact(Lib.count_le s [10])
 unfold A29 Lib.replaceAll Lib.replace;split<;>omega
def A85(it:It)(u:it.small):AQ 109 [it.v] (.bool (Bep it)):=by
 have af:=u.stem;have ho:=u.opts.1;have ht:=u.txts.1;have w:=A83 it.stem 10 32 om;have t:=Awz (A29 it.stem 10 32) 2000 (by have:=A84 it.stem af;omega);have i:=λ(k:Nat)(h:k<it.opts.length)=>Awz (it.opts.getD k []) 200 (Ae (Gy u.opts.2 h []) dc)
 have l:=λ(k:Nat)(h:k<it.txts.length)=>Awz (it.txts.getD k []) 200 (Ae (Gy u.txts.2 h []) dc)
 have ad:=Aad it.code;have qo:=λ(k:Nat)(h:k<it.opts.length)=>Ac3 h
 have qt:=λ(k:Nat)(h:k<it.txts.length)=>Ac3 h
 unfold Bep;generalize prB (A29 it.stem 10 32) 2000=b1,Qk it.code=b4,ab:(λs:List UInt8=>prB s 200)=c at*;have f:∀s,prB s 200=c s:=λs=>by rw[<-ab]
 have ag:=vIt it;rw[ag];have i1:=C9 it.opts;have i2:=Ac it.ch;have i3:=C9 it.txts;have i4:=Ac it.ass;have ae:=Fh it.opts;have aa:=A0 it.ch;have z:=Fh it.txts;have ak:=A0 it.ass;generalize Ha it.opts=o,Ap it.ch=cv,Ha it.txts=n,Ap it.ass=av at*;have ah:o=[]↔it.opts=[]:=by rw[<-Ag,ae,Ag]
 have aj:cv=[]↔it.ch=[]:=by rw[<-Ag,aa,Ag]
 have ai:n=[]↔it.txts=[]:=by rw[<-Ag,z,Ag]
 refine Bp func109 λw0 N0 hG=>?_;refine Y [1] [1] sr (J (Au 2 sr ?_));refine Dw hG w func169 ?_;refine Aw t func168 ?_;refine Ak [1,11] [1] sr ?_
 refine Co (λh1=>?_) λh1=>D9 ?_
 .exact Y [2] [] sr (Aj (Aa sr (by rw[Ab (sG h1)])))
 rw[I (sG h1)];refine J (Y [1,13,14,15] [1] sr (Ad (Ho 15 (λk=>(it.opts.take k).all c=true) it.opts.length sm ?_)));intro k nx hk hI;refine Y [1,13,14,15,16] [1] sr (J ?_)
 refine Bk (λh2=>?_) λh2=>?_
 .have a:k<it.opts.length:=by simp at h2;omega
  have e:k<o.length:=om;have ga:=qo k a;have Ec:=A4 (k:=k) om;have x:=i k a;rw[f]at x;have d:c (it.opts.getD k [])=true->(it.opts.take (k+1)).all c=true:=λh=>by rw[Av a,F5,hI];rw[Cr a]at h;simp[h]
  have j:c (it.opts.getD k [])=false->it.opts.all c=false:=λh=>by rw[Cr a]at h;rw[Kc];exact⟨_,As a,by rw[h];simp⟩
  generalize it.opts.getD k []=s at*;refine J (Ad (Y [1,4,13,14,15] [1] (by simp[ga,e]<;>rfl) (Au 1 sr ?_)));refine Aw x func168 ?_;refine Ak [1,13,14,15,21] [1] sr ?_
  refine A1 (λh3=>?_) λh3=>?_
  .exact Y [2] [] sr (Aj (Aa sr (by rw[Ab (j (sG h3))])))
  refine A6 [1,13,14,15] [1] (by simp[Ec]<;>rfl) ?_;exact⟨a,d (sG h3),_,Z⟩
 .refine A3 ?_;have m:k=it.opts.length:=sO h2
  rw[m,Bb]at hI;rw[I (by rw[hI];simp)];refine J (Y [1,24,25,26] [1] sr (Ad (Ho 26 (λk=>(it.txts.take k).all c=true) it.txts.length sm ?_)));intro k nx hk g;refine Y [1,24,25,26,27] [1] sr (J ?_)
  refine Bk (λy=>?_) λy=>?_
  .have a:k<it.txts.length:=by simp at y;omega
   have e:k<n.length:=om;have ga:=qt k a;have Ec:=A4 (k:=k) om;have x:=l k a;rw[f]at x;have d:c (it.txts.getD k [])=true->(it.txts.take (k+1)).all c=true:=λh=>by rw[Av a,F5,g];rw[Cr a]at h;simp[h]
   have j:c (it.txts.getD k [])=false->it.txts.all c=false:=λh=>by rw[Cr a]at h;rw[Kc];exact⟨_,As a,by rw[h];simp⟩
   generalize it.txts.getD k []=s at*;refine J (Ad (Y [1,6,24,25,26] [1] (by simp[ga,e]<;>rfl) (Au 1 sr ?_)));refine Aw x func168 ?_;refine Ak [1,24,25,26,32] [1] sr ?_
   refine A1 (λh5=>?_) λh5=>?_
   .exact Y [2] [] sr (Aj (Aa sr (by rw[Ab (j (sG h5))])))
   refine A6 [1,24,25,26] [1] (by simp[Ec]<;>rfl) ?_;exact⟨a,d (sG h5),_,Z⟩
  .refine A3 ?_;have m:k=it.txts.length:=sO y
   rw[m,Bb]at g;rw[I (by rw[g];simp)];refine Au 2 sr ?_;refine Dw hG ad func105 ?_;refine Ak [2] [] sr ?_;exact Aj (Aa sr (rfl))
def Aw1(l:List Int):AE 171 [.ro 1 (Ap l)] (.fc 220 [] [.rp (.ro 1 (Ap l))]):=by
 have pl:=Ac l;generalize Ap l=lv at*;refine Ai func171 λw0 N0=>?_;refine Y [1] [1] sr (Bq 1 [1] [] sR (Y [2] [] sr ?_));exact Bv C1 (rfl)
def Mr:Prop:=∀l:List Int,l.length<=2000000->AE 170 [.fc 220 [] [.rp (.ro 1 (Ap l))]] (.ro 1 (Ap (Ld l)))
def leS(a b:List UInt8):Bool:=Op.bytesLess a b||decide (a=b)
def Bit(l:List (List UInt8))(k:Nat):Bool:= !A3b (l.getD k [])||(decide (0<k)&&leS (l.getD k []) (l.getD (k-1) []))
def Afv(it:It):Bool:=
 if it.kind=1 then decide (1<=(it.opts.length:Int)-1)&&decide ((it.ch.length:Int)=1)&&Lo (it.ch.getD 0 0) 0 ((it.opts.length:Int)-1)
 else if it.kind=2 then decide (1<=(it.opts.length:Int)-1)&&decide ((1:Int)<=it.ch.length)&&Atp it.ch 0 ((it.opts.length:Int)-1)
 else if it.kind=3 then decide (1<=(it.opts.length:Int)-1)&&decide ((it.ch.length:Int)=it.opts.length)&&Atp (Ld it.ch) 0 ((it.opts.length:Int)-1)
 else if it.kind=4 then Lo it.val (-9999999) 9999999&&Lo it.tol 0 9999999
 else if it.kind=5 then(if(List.range it.txts.length).any (Bit it.txts)=true then false else decide ((1:Int)<=it.txts.length))
 else decide (1<=it.rub)
def A86(hS:Mr)(it:It)(hi:it.small):Jp gv prog 111 [it.v] (λr=>r=.bool (Afv it)):=by
 have ho:=hi.opts.1;have ht:=hi.txts.1;have hc:=hi.ch;have m:=R6;have aw:=Aw0 it.ch 0 ((it.opts.length:Int)-1) om;have ab:=Aw0 (Ld it.ch) 0 ((it.opts.length:Int)-1) (by rw[Py];omega);have ah:=Aw1 it.ch;have ad:=hS it.ch hc;have s:=λ(k:Nat)(h:k<it.txts.length)=>Beo (it.txts.getD k []) (Ae (Gy hi.txts.2 h []) dc)
 have qt:=λ(k:Nat)(h:k<it.txts.length)=>Ac3 h
 have qc:=λ(k:Nat)(h:k<it.ch.length)=>Dk h
 have l:=Ac (Ld it.ch);have aq:∀k,Bit it.txts k=(!A3b (it.txts.getD k [])||(decide (0<k)&&leS (it.txts.getD k []) (it.txts.getD (k-1) []))):=λk=>rfl
 have am:IntKind.i64.wrap ((it.opts.length:Int)-1)=(it.opts.length:Int)-1:=Bm om om;have ae:IntKind.i64.wrap ((it.opts.length:Int)-1+1)=(it.opts.length:Int):=by rw[Bm om oM];omega
 have t:IntKind.i64.wrap (it.opts.length:Int)=(it.opts.length:Int):=Bm om om;unfold Afv;generalize Atp (Ld it.ch) 0 ((it.opts.length:Int)-1)=rs,Atp it.ch 0 ((it.opts.length:Int)-1)=rc,Ap (Ld it.ch)=sv,Bit it.txts=be at*;have ay:=vIt it;rw[ay];have i1:=C9 it.opts;have i2:=Ac it.ch;have i3:=C9 it.txts;have i4:=Ac it.ass;have af:=Fh it.opts;have e:=A0 it.ch;have w:=Fh it.txts;have a1:=A0 it.ass;generalize Ha it.opts=ov,Ap it.ch=i,Ha it.txts=n,Ap it.ass=av at*;have az:ov=[]↔it.opts=[]:=by rw[<-Ag,af,Ag]
 have al:i=[]↔it.ch=[]:=by rw[<-Ag,e,Ag]
 have a0:n=[]↔it.txts=[]:=by rw[<-Ag,w,Ag]
 refine Bp func111 λw0 N0 hG=>?_;refine Y [1] [1] sr (Y [1,3] [1] C1 (J (Y [1,3,11] [1] sr (Ad (Y [1,3,11,12] [1] sr ?_)))))
 refine Co (λh1=>?_) λh1=>?_
 .rw[Ab (sG h1)]
  by_cases he:it.ch=[]
  .have an:=al.2 he;refine Au 9 C1 ?_;refine Kq 6 sr (Ak [2] [] sr ?_);exact Aj (Aa sr Gi)
  have ar:0<it.ch.length:=Ey.2 he;have g0:=qc 0 ar;have ax:0<i.length:=om;have cw:=m (it.ch.getD 0 0) 0 ((it.opts.length:Int)-1);generalize it.ch.getD 0 0=x0 at*;refine Au 14 (by simp[g0,ax]<;>rfl) ?_;refine Ff (c:=decide (1<=(it.opts.length:Int)-1)&&decide ((i.length:Int)=1)) (λo=>cw) func108 rfl kr sr rfl rfl sr sm sr ?_;refine Ak [2] [] sr ?_;exact Aj (Aa sr Gi)
 .rw[I (sG h1)];refine Y [1,3,11,30] [1] sr ?_
  refine Co (λh2=>?_) λh2=>?_
  .rw[Ab (sG h2)];refine Au 12 sr ?_;refine Ff (c:=decide (1<=(it.opts.length:Int)-1)&&decide (1<=(i.length:Int))) (λo=>aw) func112 rfl kr sr rfl rfl sr sM sr ?_;refine Ak [2] [] sr ?_;exact Aj (Aa sr Gi)
  .rw[I (sG h2)];refine Y [1,3,11,46] [1] sr ?_
   refine Co (λh3=>?_) λh3=>?_
   .rw[Ab (sG h3)];refine Au 13 (by simp[t]<;>rfl) ?_;refine Ff (c:=decide (1<=(it.opts.length:Int)-1)&&decide ((i.length:Int)=it.opts.length)) (λo=>ah) func171 rfl kr sr rfl rfl sr sM sr ?_;refine Ff (c:=decide (1<=(it.opts.length:Int)-1)&&decide ((i.length:Int)=it.opts.length)) (λo=>ad) func170 rfl kr sr rfl rfl sr sM sr ?_;refine C3 1 sr ?_;refine Ff (c:=decide (1<=(it.opts.length:Int)-1)&&decide ((i.length:Int)=it.opts.length)) (λo=>ab) func112 rfl kr sr rfl rfl sr sM sr ?_;refine Ak [2] [] sr ?_;exact Aj (Aa sr (by simp[e]))
   .rw[I (sG h3)];refine Y [1,11,66] [1] sr ?_
    refine Co (λh4=>?_) λh4=>?_
    .rw[Ab (sG h4)];refine Au 2 sr ?_;refine Aw (m it.val (-9999999) 9999999) func108 ?_;refine C3 3 sr ?_;refine Ff (c:=Lo it.val (-9999999) 9999999) (λo=>m it.tol 0 9999999) func108 rfl kr sr rfl rfl sr sm sr ?_;refine Ak [2] [] sr ?_;exact Aj (Aa sr sm)
    .rw[I (sG h4)];refine Y [1,76] [1] sr ?_
     refine A1 (λh5=>?_) λh5=>?_
     .rw[Ab (sG h5)];refine J (Y [1,79,80,81] [1] sr (Ad (Ho 81 (λk=>((List.range it.txts.length).take k).any be=false) it.txts.length sm ?_)));intro k nx hk hI;refine Y [1,79,80,81,82] [1] sr (J ?_)
      refine Bk (λh6=>?_) λh6=>?_
      .have d:k<it.txts.length:=by simp at h6;omega
       have ai:k<n.length:=om;have ga:=qt k d;have hb:=aq k;have Ec:=A4 (k:=k) om;have ag:=λh=>Im it.txts.length k be d hI h
       have z:=λh=>Oa (f:=be) d h
       have ak:∀j,k=j+1->be k=(!A3b (it.txts.getD k [])||leS (it.txts.getD k []) (it.txts.getD j [])):=λj hj=>by rw[hb,hj];simp
       have a:=s k d;generalize it.txts.getD k []=x at*;refine J (Ad (Y [1,4,5,79,80,81] [1] (by simp[ga,ai]<;>rfl) ?_))
       cases hfd:A3b x
       .rw[hfd]at a;refine Au 1 sr ?_;refine Dw hG a func172 ?_;refine C3 2 sr ?_;refine Kq 12 sr ?_;refine Ak [1,79,80,81,102] [1] sr ?_;refine Ek ?_;exact Y [2] [] sr (Aj (Aa sr (by rw[Ab (z (by rw[hb,hfd];rfl))])))
       rw[hfd]at a
       rcases k with _ |j
       .refine Au 1 sr ?_;refine Dw hG a func172 ?_;refine C3 5 sr ?_;refine Kq 8 sr ?_;refine Ak [1,79,80,81,102] [1] sr ?_;refine Ce (A6 [1,79,80,81] [1] sR ?_);exact⟨d,ag (by rw[hb,hfd];simp),_,Z⟩
       .have gp:=qt j om;have ao:j<n.length:=om;have aj:IntKind.i64.wrap (((j+1:Nat):Int)-1)=(j:Int):=by rw[Bm om oM];omega
        have aa:IntKind.i64.wrap (j:Int)=(j:Int):=Bm om om;have Sk:IntKind.i64.wrap ((j:Int)+1+1)=((j+1+1:Nat):Int):=by rw[Bm om oM];omega
        have u:=ak j rfl;generalize it.txts.getD j []=y at*;refine Au 1 sr ?_;refine Dw hG a func172 ?_;refine Ak [1,79,80,81,102] [1] (by simp[gp,ao,aa,-Int.natCast_add]<;>rfl) ?_
        refine A1 (λg=>?_) λg=>?_
        .exact Y [2] [] sr (Aj (Aa sr (by rw[Ab (z (by rw[u,hfd];unfold leS;simpa using g))])))
        refine A6 [1,79,80,81] [1] (by simp[Sk,-Int.natCast_add]<;>rfl) ?_;exact⟨d,ag (by rw[u,hfd];unfold leS;simpa using g),_,Z⟩
      .refine A3 ?_;have au:k=it.txts.length:=sO h6
       rw[au,Ba (by simp)]at hI;rw[I (by rw[hI];simp)];exact Y [2] [] sr (Aj (Aa sr (by simp[w])))
     rw[I (sG h5)];exact Qp [2]
def R7(it:It):Int:=
 if Azn it=false then 3 else if Lo it.kind 1 6=false then 1 else if Bep it=false then 2
 else if(10:Int)<it.opts.length\/(10:Int)<it.txts.length\/(8:Int)<it.ass.length then 5
 else if Azo it=false\/Afv it=false then 19 else if Atp it.ass 1 9999999=false then 23 else 0
def Atq(hS:Mr)(it:It)(n:it.small):Jp gv prog 60 [it.v] (λr=>r=.i (R7 it)):=by
 have ha:=n.ass;have l:=Bel it;have x:=R6 it.kind 1 6;have g:=A85 it n;have i:=Bem it;have j:=A86 hS it n;have w:=Aw0 it.ass 1 9999999 om;unfold R7;generalize Azn it=b1,Lo it.kind 1 6=b2,Bep it=b3,Azo it=b4,Afv it=b5,Atp it.ass 1 9999999=b6 at*;have y:=vIt it;rw[y]at l g i j|-;have e:=C9 it.opts;have f:=Ac it.ch;have a:=C9 it.txts;have d:=Ac it.ass;have k:=Fh it.opts;have o:=A0 it.ch;have h:=Fh it.txts;have z:=A0 it.ass;generalize Ha it.opts=ov,Ap it.ch=cv,Ha it.txts=xv,Ap it.ass=av at*;have aa:ov=[]↔it.opts=[]:=by rw[<-Ag,k,Ag]
 have ad:cv=[]↔it.ch=[]:=by rw[<-Ag,o,Ag]
 have ab:xv=[]↔it.txts=[]:=by rw[<-Ag,h,Ag]
 refine Bp func60 λw0 N0 hG=>?_;refine Y [1] [1] sr (J (Ad (Au 1 sr ?_)));refine Ge [1,3] [1] l func107 ?_
 refine Co (λh1=>?_) λh1=>?_
 .exact Y [2] [] sr (Aj (Aa sr (by rw[Ab (sG h1)])))
 .rw[I (sG h1)];refine Au 2 sr ?_;refine Ge [1,7] [1] x func108 ?_
  refine Co (λh2=>?_) λh2=>?_
  .exact Y [2] [] sr (Aj (Aa sr (by rw[Ab (sG h2)])))
  .rw[I (sG h2)];refine Au 1 sr ?_;refine Jk [1,12] [1] hG g func109 ?_
   refine Co (λt=>?_) λt=>?_
   .exact Y [2] [] sr (Aj (Aa sr (by rw[Ab (sG t)])))
   .rw[I (sG t)];refine Y [1,16] [1] C1 ?_
    refine Co (λm=>?_) λm=>?_
    .exact Y [2] [] sr (Aj (Aa sr (by rw[Ab (by simpa[or_assoc]using m)])))
    .rw[I (by simpa[or_assoc,and_assoc]using m)];refine Au 1 sr ?_;refine Aw i func110 ?_;refine C3 3 sr (U6 (c:=b4) hG (λhg=>j) func111 rfl kr sr rfl rfl sr sM sr ?_);refine Ak [1,33] [1] sr ?_
     refine Co (λs=>?_) λs=>?_
     .exact Y [2] [] sr (Aj (Aa sr (by rw[Ab (sG s)])))
     .rw[I (sG s)];refine Au 2 sr ?_;refine Ge [42] [] w func112 ?_
      refine Co (λu=>?_) λu=>D9 ?_
      .exact Y [2] [] sr (Aj (Aa sr (by rw[Ab (sG u)])))
      rw[I (sG u)];exact Y [2] [] sr (Aj (Aa sr rf))
def Biu(l:List Int)(k:Nat):Bool:=decide (l.getD (k+1) 0<=l.getD k 0)
def A3c(l:List Int):Bool:= !(List.range (l.length-1)).any (Biu l)
def Azp(l:List Int)(hl:l.length<=4000000000):AC prog 199 [.ro 1 (Ap l)] (λr=>r=.bool (A3c l)):=by
 have z:=λ(k:Nat)(h:k<l.length)=>Dk h
 have le:=A0 l;unfold A3c;have j:∀k,Biu l k=decide (l.getD (k+1) 0<=l.getD k 0):=λk=>rfl
 generalize Ap l=d,Biu l=g at*;refine Ai func199 λw0 N0=>?_;refine Y [0] [] sr (J (Y [0,3] [] sr (Ad (H5 (λk=>[(3,V.i ((k+1:Nat):Int))]) (λ_=>[]) (λk=>((List.range (l.length-1)).take k).any g=false) (l.length-1) sm Z ?_))));intro k nx hk u;refine J (Y [0,3,7] [] sr ?_)
 refine Bk (λh1=>?_) λh1=>?_
 .have a:k<l.length-1:=by simp at h1;omega
  have i:k<d.length:=om;have w:k+1<d.length:=om;have n:((k:Int)+1)<d.length:=om;have m:(0:Int)<=(k:Int)+1:=om;have ga:=z k om;have gb:=z (k+1) om;have hb:=j k;have s:=λh=>Im (l.length-1) k g a u h
  have t:=λh=>Oa (f:=g) a h
  generalize l.getD k 0=x,l.getD (k+1) 0=y at*;have o:IntKind.i64.wrap (((k+1:Nat):Int)-1)=(k:Int):=by rw[Bm om oM];omega
  have c:IntKind.i64.wrap (k:Int)=(k:Int):=Bm om om;have Sk:IntKind.i64.wrap ((k:Int)+1+1)=((k+1+1:Nat):Int):=by rw[Bm om oM];omega
  refine J (Ad (I3 [0,3,4,4,3,1,8,2] [0,3,19] [] sr (by simp[ga,gb,m,i,n,c,-Int.natCast_add]<;>rfl) ?_))
  refine A1 (λh2=>?_) λh2=>?_
  .exact Y [2] [] sr (Aj (Aa sr (by rw[t (by rw[hb];simpa using h2)];rfl)))
  refine A6 [0,3] [] C1 ?_;exact⟨a,s (by rw[hb];simpa using h2),_,Z⟩
 .refine A3 ?_;have e:k=l.length-1:=sO h1
  rw[e,Ba (by simp)]at u;exact Qp [2]
def Beq(k:Int):Bool:=decide (k=1)||decide (k=2)||decide (k=3)
def Biv(k:Int):AE 144 [.i k] (.bool (Beq k)):=by
 unfold Beq;refine Ai func144 λw0 N0=>?_;exact Y [0] [] sr (Y [2] [] sr (Bv sr Gi))
def Ber(k:Int):Bool:=decide (k=5)||decide (k=6)
def Biw(k:Int):AE 145 [.i k] (.bool (Ber k)):=by
 unfold Ber;refine Ai func145 λw0 N0=>?_;exact Y [0] [] sr (Y [2] [] sr (Bv sr sM))
def Bk7(n:Int)(c:Int):Bool:=decide (c<0)||decide (n<=c)
def A87(it:It)(a:List Int):Bool:=
 if it.kind=1 then decide ((a.length:Int)=1)else if it.kind=2 then A3c a
 else if it.kind=3 then decide ((a.length:Int)=it.opts.length)&&A3c (Ld a)else false
def Ap1(it:It)(a:List Int):Int:=if a.any (Bk7 it.opts.length)=true then 3 else if A87 it a=false then 23 else 0
def Zt(es:List V)(hp:es.all V.pureE=true)(c:es.all Ih=true)(f:es.length<=2000000):ACO prog 135 [.ro 1 es] 1 3 (λF a=>(F=λd q=>.sl d q 1 es.length)/\a=es):=by
 have e:es.length<=maxLen/\es.length*8<=140737488355328:=⟨Ae f dc,by omega⟩;refine Kf func135 λw0 N0=>?_;refine Y [0] [] sr (J (Au 1 sr ?_));refine N4 rfl rfl sr rfl kr (λb h=>⟨_,by simp<;>rfl,?_⟩);refine Ak [0,4] [] sr ?_
 refine A1 (λh1=>?_) λh1=>?_
 .refine Y [2] [] sr ?_;have g:=Ag.1 (h h1);subst g;exact Fg 2 2 1 3 [2] [2] sr sr (Aj (Hv 2 sr rfl rfl sm sr ⟨rfl,rfl⟩))
 exact Y [2] [5] C1 (Aj (Hv 5 sr rfl rfl (sG c) sr ⟨rfl,rfl⟩))
def Ap2(es:List V)(hp:es.all V.pureE=true)(a:es.all Ih=true)(c:es.length<=2000000):AE 135 [.ro 1 es] (.ro 1 es):=by
 refine(Zt es hp a c).ac ?_;rintro F d⟨rfl,rfl⟩;exact⟨_,by simp[hp]<;>rfl,rfl⟩
def Bix(it:It)(ch:List Int)(hc:ch.length<=2000000)(ho:it.opts.length<=2000000):AC prog 146 [it.v,.ro 1 (Ap ch)] (λr=>r=.i (Ap1 it ch)):=by
 have w:=Azp ch om;have g:=Azp (Ld ch) (by rw[Py];omega);have m:=Zt (Ap ch) (Ac ch) (Uk ch) (by rw[A0];omega);have am:=Ah4 ch om;have qc:=λ(k:Nat)(h:k<ch.length)=>Dk h
 have a:=A0 ch;have ab:=A0 (Ld ch);have o:=Ac (Ld ch);have ag:=Uk ch;have aj:=Uk (Ld ch);have l:=Ac ch;have aa:=Py ch;unfold Ap1 A87;generalize A3c (Ld ch)=rs,A3c ch=rc,Ap (Ld ch)=sv,Ap ch=t,al:Bk7 it.opts.length=i at*;have ak:=vIt it;rw[ak];have i1:=C9 it.opts;have i2:=Ac it.ch;have i3:=C9 it.txts;have i4:=Ac it.ass;have s:=Fh it.opts;have af:=A0 it.ch;have ad:=Fh it.txts;have ar:=A0 it.ass;generalize Ha it.opts=ov,Ap it.ch=cv,Ha it.txts=xv,Ap it.ass=av at*;have an:ov=[]↔it.opts=[]:=by rw[<-Ag,s,Ag]
 have aq:cv=[]↔it.ch=[]:=by rw[<-Ag,af,Ag]
 have ao:xv=[]↔it.txts=[]:=by rw[<-Ag,ad,Ag]
 refine Ai func146 λw0 N0=>?_;refine Y [1,2] [2] sr (Y [1,2,5] [2] sr (J (Y [1,2,5,13,14,15] [2] sr (Ad (H4 (λk nx=>⟨[(1,V.ro 1 t),(2,V.bp 2 0 17 0 0),(5,V.i it.opts.length),(13,V.ro 1 t),(14,V.i t.length),(15,V.i k)],[(2,⟨0,17,150,[V.agg [.i it.id,.i it.ver,.i it.kind,.str it.stem,.ro 1 ov,.ro 1 cv,.i it.val,.i it.tol,.ro 1 xv,.i it.pts,.str it.code,.i it.fam,.i it.set,.i it.wo,.i it.se,.ro 1 av,.i it.rub]]⟩)],nx,54⟩) (λk=>(ch.take k).any i=false) ch.length _ sm (by simp only[s];exact Z) ?_)))));intro k nx hk hI;refine Y [1,2,5,13,14,15,16] [2] sr (J ?_)
 refine Co (λh1=>D9 ?_) λh1=>?_
 .have f:k<ch.length:=by simp at h1;omega
  have u:k<t.length:=om;have ga:=qc k f;have Ec:=A4 (k:=k) om;have ah:i (ch.getD k 0)=false->(ch.take (k+1)).any i=false:=λh=>by rw[Av f,List.any_append,hI];rw[Cr f]at h;simp[h]
  have ae:i (ch.getD k 0)=true->ch.any i=true:=λh=>by rw[Cr f]at h;exact Es.2 ⟨_,As f,h⟩
  generalize ch.getD k 0=x at*;have j:i x=(decide (x<0)||decide ((it.opts.length:Int)<=x)):=by rw[<-al];rfl
  refine J (Ad (Y [1,2,5,7,13,14,15] [2] (by simp[ga,u]<;>rfl) (Y [1,2,5,13,14,15,25] [2] sr ?_)))
  refine Co (λh2=>?_) λh2=>D9 ?_
  .exact Y [4] [] sr (Aj (Aa sr (by rw[Ab (ae (by rw[j];simpa using h2))])))
  refine A6 [1,2,5,13,14,15] [2] (by simp[Ec]<;>rfl) ?_;exact⟨f,ah (by rw[j];simpa using h2),_,Z⟩
 .refine A3 ?_;have ai:k=ch.length:=sO h1
  rw[ai,Bb]at hI;rw[I (by rw[hI];simp)];refine Y [1,2,5,8] [2] sr (J (Y [1,5,8,28] [] sr (Ad (Y [1,5,8,28,29] [] sr ?_))))
  refine Co (λh3=>?_) λh3=>?_
  .rw[Ab (show it.kind=1 by simpa using h3)];refine A6 [8] [] sr (J (Y [53] [] sr ?_))
   refine Co (λz=>?_) λz=>D9 ?_
   .exact Y [4] [] sr (Aj (Aa sr (by rw[Ab (by simpa[a]using z)])))
   exact Y [4] [] sr (Aj (Aa sr (by rw[I (by simpa[a]using z)])))
  .rw[I (show¬it.kind=1 by simpa using h3)];refine Y [1,5,8,28,34] [] sr ?_
   refine Co (λh5=>?_) λh5=>?_
   .rw[Ab (show it.kind=2 by simpa using h5)];refine Ik 1 sr ?_;refine Ge [8] [] w func199 ?_;refine J (Y [53] [] sr ?_)
    exact Tl [4] [4]
   .rw[I (show¬it.kind=2 by simpa using h5)];refine Y [1,5,8,38] [] sr ?_
    refine A1 (λh7=>?_) λh7=>?_
    .rw[Ab (show it.kind=3 by simpa using h7)];refine Au 1 sr ?_;refine K5 110 m func135 rfl kr rfl rfl rfl sr C1 sr ?_;refine Ak [1,5,9] [110] sr ?_;refine Au 1 sr ?_;refine Yc (d:=110) (v:=_) am ag aj func117 rfl kr rfl rfl rfl (by simp[a]<;>rfl) sR (by simp[a]<;>rfl) ?_;refine Ak [1,5,9] [110] sr ?_;refine Bq 110 [1,5,9] [] (by simp[o,ab,aa]<;>rfl) (Ik 6 sr ?_);refine Ff (c:=decide ((t.length:Int)=it.opts.length)) (λhg=>g) func199 rfl kr sr rfl rfl sr sM sr ?_;refine Ak [8] [] sr ?_;refine J (Y [53] [] sr ?_)
     refine Co (λy=>?_) λy=>D9 ?_
     .exact Y [4] [] sr (Aj (Aa sr (by rw[Ab (by simp[a]at y|-;exact λe=>y.resolve_left (λn=>n e))])))
     exact Y [4] [] sr (Aj (Aa sr (by rw[I (by simpa[a]using y)])))
    rw[I (show¬it.kind=3 by simpa using h7)];refine J (Y [53] [] sr ?_)
    refine Ek ?_
    .exact Y [4] [] sr (Aj (Aa sr (by rw[Ab rfl])))
structure An where
 item:Int
 ch:List Int
 val:Int
 txt:List UInt8
 om:Bool
def An.v(a:An):V:=V.agg [.i a.item,.ro 1 (Ap a.ch),.i a.val,.str a.txt,.bool a.om]
def vAn(a:An):a.v=V.agg [.i a.item,.ro 1 (Ap a.ch),.i a.val,.str a.txt,.bool a.om]:=rfl
def Bk8(it:It)(a:An):Bool:=
 ((decide (0<a.ch.length)&&(a.om|| !Beq it.kind))||(!decide (a.val=0)&&(a.om|| !decide (it.kind=4))))||(!decide (a.txt=[])&&(a.om|| !Ber it.kind))
def Aes(it:It)(a:An):Int:=
 if R7 it≠0 then R7 it else if a.item≠it.id then 6 else if Bk8 it a=true then 1 else if a.om=true then 0
 else if it.kind=4 then(if a.val< -9999999\/9999999<a.val then 3 else 0)
 else if it.kind=5 then(if(200:Int)<a.txt.length then 5 else 0)
 else if it.kind=6 then(if(2000:Int)<a.txt.length then 5 else 0)else Ap1 it a.ch
structure An.small(a:An):Prop where
 ch:a.ch.length<=2000000
 txt:a.txt.length<=2000000
def Ac4(hS:Mr)(it:It)(a:An)(hi:it.small)(ha:a.small):Jp gv prog 90 [it.v,a.v] (λr=>r=.i (Aes it a)):=by
 have f:=Atq hS it hi;have w:=Biv it.kind;have y:=Biw it.kind;have e:=Bix it a.ch ha.ch hi.opts.1;unfold Aes Bk8;generalize R7 it=ie,Beq it.kind=b1,Ber it.kind=b2,Ap1 it a.ch=ce at*;rw[(vIt it)]at f e|-;rw[(vAn a)];have i1:=C9 it.opts;have i2:=Ac it.ch;have z:=C9 it.txts;have i4:=Ac it.ass;have s:=Fh it.opts;have l:=A0 it.ch;have k:=Fh it.txts;have ae:=A0 it.ass;generalize Ha it.opts=ov,Ap it.ch=cv,Ha it.txts=xv,Ap it.ass=av at*;have aa:ov=[]↔it.opts=[]:=by rw[<-Ag,s,Ag]
 have ad:cv=[]↔it.ch=[]:=by rw[<-Ag,l,Ag]
 have ab:xv=[]↔it.txts=[]:=by rw[<-Ag,k,Ag]
 have i5:=Ac a.ch;have g:=A0 a.ch;generalize Ap a.ch=hv at*;refine Bp func90 λw0 N0 hG=>?_;refine Y [2,3] [2,3] sr (J (Au 1 sr ?_));refine Jk [2,3,5] [2,3] hG f func60 ?_;refine Y [2,3,5,9] [2,3] sr ?_
 refine L3 [4] (J (Y [2,3,15] [2,3] sr ?_))
 refine L3 [4] (J (Au 10 sr ?_));refine Ff (c:=decide (0<hv.length)&& !a.om) (λhg=>w) func144 rfl kr sr rfl rfl sr sm sr (C3 27 sr ?_);refine Ff (c:=(!((decide (0<hv.length)&&(a.om|| !b1))||(!decide (a.val=0)&&(a.om|| !decide (it.kind=4))))&& !decide (a.txt=[]))&& !a.om) (λhg=>y) func145 rfl kr sr rfl rfl sr sm sr (Ak [2,3,58] [2,3] sr ?_)
 refine Co (λn=>?_) λn=>D9 ?_
 .exact Y [4] [] sr (Aj (Aa sr (by rw[Ab (by rw[<-g];simpa using n)])))
 rw[I (by rw[<-g];simpa using n)];refine J (Y [2,3,60] [2,3] sr ?_)
 refine L3 [4] (J (Y [2,3,62] [2,3] sr (Ad (Y [2,3,62,67] [2,3] sr ?_))))
 refine Co (λm=>?_) λm=>?_
 .rw[Ab (show it.kind=4 by simpa using m)];refine Y [76] [] sr ?_
  refine Co (λo=>?_) λo=>D9 ?_
  .exact Y [4] [] sr (Aj (Aa sr (by rw[Ab (sG o)])))
  exact Y [4] [] sr (Aj (Aa sr (by rw[I (sG o)])))
 .rw[I (show¬it.kind=4 by simpa using m)];refine Y [2,3,62,77] [2,3] sr ?_
  refine Co (λx=>?_) λx=>?_
  .rw[Ab (show it.kind=5 by simpa using x)];refine Y [82] [] sr ?_
   refine Co (λi=>?_) λi=>D9 ?_
   .exact Y [4] [] sr (Aj (Aa sr (by rw[Ab (sG i)])))
   exact Y [4] [] sr (Aj (Aa sr (by rw[I (sG i)])))
  .rw[I (show¬it.kind=5 by simpa using x)];refine Y [2,3,83] [2,3] sr ?_
   refine Co (λj=>?_) λj=>?_
   .rw[Ab (show it.kind=6 by simpa using j)];refine Y [88] [] sr ?_
    refine Co (λd=>?_) λd=>D9 ?_
    .exact Y [4] [] sr (Aj (Aa sr (by rw[Ab (sG d)])))
    exact Y [4] [] sr (Aj (Aa sr (by rw[I (sG d)])))
   .rw[I (show¬it.kind=6 by simpa using j)];refine Au 3 sr ?_;refine Ge [4] [] e func146 ?_;exact Aj (Aa sr (rfl))
def A3d(l:List (List UInt8))(x:List UInt8):AE 252 [.ro 1 (Ha l),.str x] (.i (Il (λy=>decide (x=y)) l 0)):=by
 refine K6 0 rfl λg=>?_;have j:∀(k:Nat)(h:k<l.length),Gz (Ha l) k=some (.str l[k]):=λk h=>by rw[Ac3 h,Cr h]
 have n:=Fh l;rw[n]at g;have m:maxLen<=9223372036854775807:=dc;generalize Ha l=f at*;refine Ai func252 λw0 N0=>?_;refine Y [0,1] [] sr (J (A5 [7,8] sr (Ad (Ho 8 (λk=>Il (λy=>decide (x=y)) (l.drop k) k=Il (λy=>decide (x=y)) l 0) l.length rfl ?_))));intro k nx hk c;refine Y [0,1,7,8,9] [] sr (J ?_)
 refine Bk (λh1=>?_) λh1=>?_
 .have a:k<l.length:=by simp at h1;omega
  have d:k<f.length:=om;have i:=j k a;rw[Px _ a]at c;generalize l[k]=y at i c;refine J (Ad (Y [0,1,5,7,8] [] sr (A5 [16] (by simp[i,d]<;>rfl) ?_)))
  refine A1 (λh2=>?_) λh2=>?_
  .exact Y [4] [] sr (Aj (Aa sr (by rw[<-c,Ab h2])))
  refine A6 [0,1,7,8] [] (by simp[(A4 (k:=k) om)]<;>rfl) ?_;exact⟨a,by rw[<-c,I (by rw[h2];decide)],_,Z⟩
 .refine A3 ?_;have e:k=l.length:=sO h1
  rw[e,Cl,Il]at c;exact Qp [4]
def Bes(l:List (List UInt8))(x:List UInt8):AE 202 [.ro 1 (Ha l),.str x] (.bool (decide (x∈l))):=by
 have a:=A3d l x
 have d:decide (x∈l)=decide (0<=Il (λy=>decide (x=y)) l 0):=by
  rw[Qc]
  by_cases h:x∈l
  .rw[X3 h];symm;rw[Es];exact⟨x,h,by simp⟩
  .rw[decide_eq_false h];symm;rw[Tg];intro y c;simp;exact λe=>h (e▸c)
 rw[d];have pl:=C9 l;generalize Ha l=lv,Il (λy=>decide (x=y)) l 0=z at*;refine Ai func202 λw0 N0=>?_;refine Y [0,1] [] sr (Au 2 sr ?_);refine Ge [4] [] a func252 ?_;exact Bv sr (rfl)
def Atr(it:It)(ch:List Int):Nat->Int
 |0=>0
 |k+1=>if ch.getD k 0∈it.ch then IntKind.i64.wrap (Atr it ch k+1)else IntKind.i64.wrap (Atr it ch k-1)
def Bet(it:It)(ch:List Int):Int:=IntKind.i64.wrap ((IntKind.i64.wrap (Tz (Atr it ch ch.length)*it.pts)).tdiv it.ch.length)
def A88(it:It)(ch:List Int)(f:it.ch≠[])(hl:ch.length<=2000000):AE 200 [it.v,.ro 1 (Ap ch)] (.i (Bet it ch)):=by
 have t:=S7 it.ch;have qc:=λ(k:Nat)(h:k<ch.length)=>Dk h
 have ab:=A0 ch;have ae:=Ac ch;have ah:0<it.ch.length:=Ey.2 f;unfold Bet;have l:∀k,Atr it ch (k+1)=if ch.getD k 0∈it.ch then IntKind.i64.wrap (Atr it ch k+1)else IntKind.i64.wrap (Atr it ch k-1):=λk=>rfl
 have j:Atr it ch 0=0:=rfl;generalize Atr it ch=nk,Ap ch=o at*;have s:=vIt it;rw[s];have i1:=C9 it.opts;have i2:=Ac it.ch;have i3:=C9 it.txts;have i4:=Ac it.ass;have n:=Fh it.opts;have e:=A0 it.ch;have m:=Fh it.txts;have ag:=A0 it.ass;generalize Ha it.opts=z,Ap it.ch=y,Ha it.txts=w,Ap it.ass=av at*;have aa:z=[]↔it.opts=[]:=by rw[<-Ag,n,Ag]
 have af:y=[]↔it.ch=[]:=by rw[<-Ag,e,Ag]
 have ad:w=[]↔it.txts=[]:=by rw[<-Ag,m,Ag]
 refine Ai func200 λw0 N0=>?_;refine Y [1,2] [2] sr (A5 [5] sr (J (Y [2,5,8,9,10] [2] sr (Ad (H5 (λk=>[(5,V.i (nk k)),(10,V.i k)]) (λ_=>[]) (λk=>True) ch.length trivial (by simp only[j];exact Z) ?_)))));intro k nx hk hI;refine Y [2,5,8,9,10,11] [2] sr (J ?_)
 refine Bk (λh1=>?_) λh1=>?_
 .have a:k<ch.length:=by simp at h1;omega
  have g:k<o.length:=om;have ga:=qc k a;have d:=l k;have Ec:=A4 (k:=k) om;generalize ch.getD k 0=x at*;have c:=t x;refine J (Ad (Y [2,5,7,8,9,10] [2] (by simp[ga,g]<;>rfl) (Au 3 sr ?_)));refine Ge [2,5,8,9,10,17] [2] c func63 ?_
  refine Co (λh2=>?_) λh2=>?_
  .refine A6 [2,5,8,9,10] [2] sr (Cs [] (by simp[Ec]<;>rfl) ?_);exact⟨a,trivial,_,by rw[d,Ab (sG h2)];exact Z⟩
  .refine A6 [2,5,8,9,10] [2] sr (Cs [] (by simp[Ec]<;>rfl) ?_);exact⟨a,trivial,_,by rw[d,I (sG h2)];exact Z⟩
 .refine A3 ?_;have u:k=ch.length:=sO h1
  subst u;have i:¬it.ch=[]:=f;exact Y [4] [] (by simp[e,i]<;>rfl) (Bv sr (by unfold Tz;rfl))
def fIx(it:It)(x:Int):Int:=Il (λy=>decide (x=y)) it.ch 0
def inK(it:It)(a:List Int)(k:Nat)(s:Int×Int):Nat->Int×Int
 |0=>s
 |j+1=>(if fIx it (a.getD k 0)<fIx it (a.getD (k+1+j) 0)then IntKind.i64.wrap ((inK it a k s j).1+1)else IntKind.i64.wrap ((inK it a k s j).1-1),IntKind.i64.wrap ((inK it a k s j).2+1))
def Aet(it:It)(a:List Int):Nat->Int×Int
 |0=>(0,0)
 |k+1=>inK it a k (Aet it a k) (a.length-(k+1))
def Beu(it:It)(a:List Int):Int:=IntKind.i64.wrap ((IntKind.i64.wrap (Tz (Aet it a a.length).1*it.pts)).tdiv (Aet it a a.length).2)
def Azr(it:It)(a:List Int)(k:Nat)(s:Int×Int)(c:0<=s.2/\s.2<=1000000000):∀j:Nat,j<=1000->(inK it a k s j).2=s.2+j
 |0,_=>by simp[inK]
 |j+1,h=>by
  rw[inK];simp only;rw[Azr it a k s c j om,Bm om oM];omega
def Ats(it:It)(a:List Int)(d:a.length<=1000):∀k:Nat,k<=a.length->(0<=(Aet it a k).2/\(Aet it a k).2<=1000*(k:Int))/\(1<=k->2<=a.length->1<=(Aet it a k).2)
 |0,_=>by simp[Aet]
 |k+1,h=>by
  have ih:=Ats it a d k om;rw[Aet,Azr it a k _ ⟨ih.1.1,by omega⟩ _ om];refine⟨by omega,λ_ h2=>?_⟩
  by_cases c:1<=k
  .have:=ih.2 c h2;omega
  .omega
def A89(it:It)(ch:List Int)(h2:2<=ch.length)(hl:ch.length<=1000):AE 201 [it.v,.ro 1 (Ap ch)] (.i (Beu it ch)):=by
 have e:∀x,AE 113 [.ro 1 (Ap it.ch),.i x] (.i (fIx it x)):=λx=>Aml it.ch x
 have qc:=λ(k:Nat)(h:k<ch.length)=>Dk h
 have qd:∀(k j:Nat),k+1+j<ch.length->Gz ((Ap ch).drop (k+1)) j=some (.i (ch.getD (k+1+j) 0)):=λk j h=>by
  rw[C0,Di,<-C0];exact Dk h
 have ah:∀k,((Ap ch).drop (k+1)).length=ch.length-(k+1):=λk=>by simp
 have ar:=A0 ch;have ax:=Ac ch;have am:¬(Aet it ch ch.length).2=0:=by have:=(Ats it ch hl ch.length (A2 _)).2 om h2;omega
 unfold Beu;have ag:∀k s j,inK it ch k s (j+1)=(if fIx it (ch.getD k 0)<fIx it (ch.getD (k+1+j) 0)then IntKind.i64.wrap ((inK it ch k s j).1+1)else IntKind.i64.wrap ((inK it ch k s j).1-1),IntKind.i64.wrap ((inK it ch k s j).2+1)):=λk s j=>rfl
 have aa:∀k s,inK it ch k s 0=s:=λk s=>rfl
 have w:∀k,Aet it ch (k+1)=inK it ch k (Aet it ch k) (ch.length-(k+1)):=λk=>rfl
 have o:Aet it ch 0=(0,0):=rfl;generalize Aet it ch=ok,inK it ch=ik,fIx it=fi,Ap ch=a at*;have al:=vIt it;rw[al];have i1:=C9 it.opts;have i2:=Ac it.ch;have i3:=C9 it.txts;have i4:=Ac it.ass;have ai:=Fh it.opts;have af:=A0 it.ch;have ae:=Fh it.txts;have az:=A0 it.ass;generalize Ha it.opts=ov,Ap it.ch=cv,Ha it.txts=xv,Ap it.ass=av at*;have aq:ov=[]↔it.opts=[]:=by rw[<-Ag,ai,Ag]
 have ay:cv=[]↔it.ch=[]:=by rw[<-Ag,af,Ag]
 have aw:xv=[]↔it.txts=[]:=by rw[<-Ag,ae,Ag]
 refine Ai func201 λw0 N0=>?_;refine Y [1,2] [2] sr (A5 [5,6] sr (J (A5 [11,12,13] sr (Ad (H5 (λk=>[(5,V.i (ok k).1),(6,V.i (ok k).2),(13,V.i k)]) (λ_=>[]) (λk=>True) ch.length trivial (by simp only[o];exact Z) ?_)))));intro k nx hk hI;refine Y [1,2,5,6,11,12,13,14] [2] sr (J ?_)
 refine Bk (λh1=>?_) λh1=>?_
 .have l:k<ch.length:=by simp at h1;omega
  have n:k<a.length:=om;have ga:=qc k l;have an:=w k;have Ec:=A4 (k:=k) om;have t:=qd k;have au:=ah k;have u:=ag k (ok k);have g:=aa k (ok k);generalize ch.getD k 0=x at*;have c:=e x;have z:(0:Int)<=(k:Int)+1/\(k:Int)+1<=a.length:=om;have ab:(a.drop (k+1)).take (a.length-(k+1))=a.drop (k+1):=Ba sm;generalize ik k (ok k)=ii at*;refine J (Ad (Y [1,2,5,6,7,8,11,12,13] [2] (by simp[ga,n]<;>rfl) (Y [1,2,5,6,8,11,12,13,21,22,23] [2] (by simp[z,ab,Ec]<;>rfl) ?_)));generalize a.drop (k+1)=dv at*;refine Ad (H5 (λj=>[(5,V.i (ii j).1),(6,V.i (ii j).2),(23,V.i j)]) (λ_=>[]) (λj=>True) (ch.length-(k+1)) trivial (by simp only[g];exact Z) ?_);intro j nx hj ao;refine Y [1,2,5,6,8,11,12,13,21,22,23,24] [2] sr (J ?_)
  refine Bk (λh2=>?_) λh2=>?_
  .have f:j<ch.length-(k+1):=by simp at h2;omega
   have ad:j<dv.length:=om;have gj:=t j om;have m:=u j;have d:=A4 (k:=j) om;generalize ch.getD (k+1+j) 0=y at*;have i:=e y;refine J (Ad (Y [1,2,5,6,8,10,11,12,13,21,22,23] [2] (by simp[gj,ad]<;>rfl) (A5 [] sr (J (H6 [0,1,2,1,4,1,6,1,1,1,3,1,5,1,7,2] sr ?_)))));refine B8 5 sr ?_;refine B1 (λhg=>c) func113 ?_;refine B8 1 sr ?_;refine B1 (λhg=>i) func113 ?_;refine C5 [1,2,5,6,8,11,12,13,21,22,23,37] [2] sr ?_
   refine Co (λh3=>?_) λh3=>?_
   .refine A6 [1,2,5,6,8,11,12,13,21,22,23] [2] sr (Cs [] (by simp[d]<;>rfl) ?_);exact⟨f,trivial,_,by rw[m,Ab (sG h3)];exact Z⟩
   .refine A6 [1,2,5,6,8,11,12,13,21,22,23] [2] sr (Cs [] (by simp[d]<;>rfl) ?_);exact⟨f,trivial,_,by rw[m,I (sG h3)];exact Z⟩
  .refine A3 ?_;have ak:j=ch.length-(k+1):=sO h2
   rw[ak,<-an];refine A6 [1,2,5,6,11,12,13] [2] (by simp[Ec]<;>rfl) ?_;exact⟨l,trivial,_,Z⟩
 .refine A3 ?_;have aj:k=ch.length:=sO h1
  subst aj;exact Y [4] [] (by simp[am]<;>rfl) (Bv sr (by unfold Tz;rfl))
def u8v(l:List UInt8):List V:=l.map λb=>V.int .u8 (b.toNat:Int)
def Yt(l m:List UInt8):u8v (l++m)=u8v l++u8v m:=by simp[u8v]
def Yu(b:UInt8):u8v [b]=[V.int .u8 (b.toNat:Int)]:=rfl
def Azs(l:List UInt8):(u8v l).length=l.length:=by simp[u8v]
def A9a(l:List UInt8):(u8v l).all V.pureE=true:=by
 rw[Ao];intro x a;simp only[u8v,Bc]at a;obtain⟨n,_,rfl⟩:=a;rfl
def Anl:∀l:List UInt8,Rn (u8v l)=some l
 |[]=>rfl
 |b::r=>by
  have ih:=Anl r;have h1:(0:Int)<=(b.toNat:Int)/\(b.toNat:Int)<256:=by have:=b.toNat_lt;omega
  simp only[u8v,Br]at ih|-;rw[Rn,ih];simp[h1]
def Ac5(s:List UInt8×Bool)(c:UInt8):List UInt8×Bool:=if s.2=true then(s.1++[32]++[c],false)else(s.1++[c],s.2)
def Att(s:List UInt8×Bool)(b:UInt8):List UInt8×Bool:=
 if 65<=b.toNat/\b.toNat<=90 then Ac5 s (b+32)
 else if 97<=b.toNat/\b.toNat<=122 then Ac5 s b
 else if 48<=b.toNat/\b.toNat<=57 then Ac5 s b
 else if b.toNat=32 then(s.1,decide (0<s.1.length))else s
def nK(s:List UInt8):Nat->List UInt8×Bool
 |0=>([],false)
 |k+1=>Att (nK s k) (s.getD k 0)
def Azt(s:List UInt8):List UInt8:=(nK s s.length).1
def Anm(s:List UInt8×Bool)(c:UInt8):(Ac5 s c).1.length<=s.1.length+2:=by unfold Ac5;split<;>simp
def A3e(s:List UInt8×Bool)(b:UInt8):(Att s b).1.length<=s.1.length+2:=by
 unfold Att;have:=Anm s (b+32);have:=Anm s b
 (repeat' split)<;>first|omega|(dsimp only;omega)
def A9b(s:List UInt8):∀k,(nK s k).1.length<=2*k
 |0=>by simp[nK]
 |k+1=>by have:=A3e (nK s k) (s.getD k 0);have:=A9b s k;rw[nK];omega
def Atu(s:List UInt8)(hs:s.length<=2000000):AE 203 [.str s] (.str (Azt s)):=by
 have aa:∀k,nK s (k+1)=Att (nK s k) (s.getD k 0):=λk=>rfl
 have ab:=A9b s;have ae:∀j b,Att j b=if 65<=b.toNat/\b.toNat<=90 then Ac5 j (b+32)else if 97<=b.toNat/\b.toNat<=122 then Ac5 j b else if 48<=b.toNat/\b.toNat<=57 then Ac5 j b else if b.toNat=32 then(j.1,decide (0<j.1.length))else j:=λj b=>rfl
 have w:∀j c,Ac5 j c=if j.2=true then(j.1++[32]++[c],false)else(j.1++[c],j.2):=λj c=>rfl
 refine Ai func203 λw0 N0=>?_;refine Y [0] [] sr (A5 [3] sr (A5 [4] sr (J (A5 [8,9] sr ?_))));refine Fg 3 100 1 5 [0,3,4,8,9] [100] sr sr ?_;refine Ad (Gn (λx:Nat×Nat×Nat=>[(3,.sl 100 x.2.1 1 (nK s x.1).1.length),(4,V.bool (nK s x.1).2),(9,V.i (x.1:Nat))]) (λx=>[(100,⟨x.2.1,1,5,u8v (nK s x.1).1⟩)]) (λx=>x.2.2) (λx=>x.1<=s.length) (λx=>s.length-x.1) (0,_,_) (B5 _) Z ?_);rintro⟨k,qv,nx⟩hk;simp only at hk|-;refine Y [0,3,4,8,9,10] [100] sr (J ?_)
 refine Bk (λh1=>?_) λh1=>?_
 .have f:k<s.length:=by simp at h1;omega
  have gb:Gz s k=some (s.getD k 0):=by rw[C0,Cr f];simp[f]
  have Ec:=A4 (k:=k) om;have d:=aa k;have ag:=ab k;rw[ae]at d;have ai:=(s.getD k 0).toNat_lt;generalize s.getD k 0=b,nK s k=j at*;have⟨e,bl⟩:=j;simp only at d ag|-;have i:=Azs e;refine J (Ad (Y [0,3,4,5,8,9] [100] sr (Y [0,3,4,6,8,9] [100] C1 (J (Ad (A5 [15] sr ?_))))))
  refine Co (λh2=>?_) λh2=>?_
  .have o:65<=b.toNat/\b.toNat<=90:=by simp at h2;omega
   rw[Ab o]at d;have a:=d.trans (w _ _);simp only at a
   have ad:((b+32).toNat:Int)=(b.toNat:Int)+32:=by
    have h:(b+32).toNat=(b.toNat+32)%256:=by simp[UInt8.toNat_add]
    rw[h,Bl om];omega
   have af:IntKind.u8.wrap ((b.toNat:Int)+32)=((b+32).toNat:Int):=by rw[ad,IntKind.wrap_u8];omega
   generalize b+32=c at*;have g:e.length+1<=maxLen/\e.length+1<=140737488355328:=by constructor;exact Ae (show e.length+1<=5000000 by omega) dC;omega
   have l:e.length+1+1<=maxLen/\e.length+1+1<=140737488355328:=by constructor;exact Ae (show e.length+1+1<=5000000 by omega) dC;omega
   have m:True:=trivial;refine A6 [0,3,4,6,8,9] [100] (by simp[af]<;>rfl) (J (A5 [43] sr ?_))
   refine A1 (λh3=>?_) λh3=>?_
   .refine Y [0,3,6,8,9] [100] (by simp[g,i]<;>rfl) (A6 [0,3,4,6,8,9] [100] sr (A6 [0,3,4,8,9] [100] (by simp[l,i]<;>rfl) (Cs [] (by simp[Ec]<;>rfl) ?_)));rw[Ab (sG h3)]at a;exact⟨(k+1,_,_),f,by simp only;omega,by simp only[a,Yt,Yu,Aq,Ax,Bg];simp[u8v];exact Z⟩
   refine A6 [0,3,4,8,9] [100] (by simp[g,i]<;>rfl) (Cs [] (by simp[Ec]<;>rfl) ?_);rw[I (sG h3)]at a;exact⟨(k+1,_,_),f,by simp only;omega,by simp only[a,Yt,Yu,Aq,Ax,Bg];exact Z⟩
  .have o:¬(65<=b.toNat/\b.toNat<=90):=by simp at h2;omega
   rw[I o]at d;have g:e.length+1<=maxLen/\e.length+1<=140737488355328:=by constructor;exact Ae (show e.length+1<=5000000 by omega) dC;omega
   have l:e.length+1+1<=maxLen/\e.length+1+1<=140737488355328:=by constructor;exact Ae (show e.length+1+1<=5000000 by omega) dC;omega
   have m:True:=trivial;refine J (Y [0,3,4,6,8,9,24] [100] sr ?_)
   refine Bk (λy=>?_) λy=>?_
   .have n:97<=b.toNat/\b.toNat<=122:=by simp at y;omega
    rw[Ab n]at d;have a:=d.trans (w _ _);simp only at a
    refine Aff ?_
    .refine J (Y [0,3,4,6,8,9,43] [100] sr ?_)
     refine A1 (λh6=>?_) λh6=>?_
     .refine Y [0,3,6,8,9] [100] (by simp[g,i]<;>rfl) (A6 [0,3,4,6,8,9] [100] sr (A6 [0,3,4,8,9] [100] (by simp[l,i]<;>rfl) (Cs [] (by simp[Ec]<;>rfl) ?_)));rw[Ab (sG h6)]at a;exact⟨(k+1,_,_),f,by simp only;omega,by simp only[a,Yt,Yu,Aq,Ax,Bg];simp[u8v];exact Z⟩
     refine A6 [0,3,4,8,9] [100] (by simp[g,i]<;>rfl) (Cs [] (by simp[Ec]<;>rfl) ?_);rw[I (sG h6)]at a;exact⟨(k+1,_,_),f,by simp only;omega,by simp only[a,Yt,Yu,Aq,Ax,Bg];exact Z⟩
   .have n:¬(97<=b.toNat/\b.toNat<=122):=by simp at y;omega
    rw[I n]at d;refine Cs [] sr ?_
    refine Bk (λz=>?_) λz=>?_
    .have u:48<=b.toNat/\b.toNat<=57:=by simp at z;omega
     rw[Ab u]at d;have a:=d.trans (w _ _);simp only at a;refine J (Y [0,3,4,6,8,9,43] [100] sr ?_)
     refine A1 (λh9=>?_) λh9=>?_
     .refine Y [0,3,6,8,9] [100] (by simp[g,i]<;>rfl) (A6 [0,3,4,6,8,9] [100] sr (A6 [0,3,4,8,9] [100] (by simp[l,i]<;>rfl) (Cs [] (by simp[Ec]<;>rfl) ?_)));rw[Ab (sG h9)]at a;exact⟨(k+1,_,_),f,by simp only;omega,by simp only[a,Yt,Yu,Aq,Ax,Bg];simp[u8v];exact Z⟩
     refine A6 [0,3,4,8,9] [100] (by simp[g,i]<;>rfl) (Cs [] (by simp[Ec]<;>rfl) ?_);rw[I (sG h9)]at a;exact⟨(k+1,_,_),f,by simp only;omega,by simp only[a,Yt,Yu,Aq,Ax,Bg];exact Z⟩
    .have u:¬(48<=b.toNat/\b.toNat<=57):=by simp at z;omega
     rw[I u]at d;refine Y [0,3,4,8,9,37] [100] sr ?_
     refine Co (λt=>?_) λt=>?_
     .rw[Ab (show b.toNat=32 by simp at t;omega)]at d;refine Y [0,3,4,8,9] [100] sr (A3 ?_);refine Cs [] (by simp[Ec]<;>rfl) ?_;exact⟨(k+1,_,_),f,by simp only;omega,by simp only[d];exact Z⟩
     .rw[I (show¬b.toNat=32 by simp at t;omega)]at d;refine A3 ?_;refine A6 [0,3,4,8,9] [100] (by simp[Ec]<;>rfl) ?_;exact⟨(k+1,_,_),f,by simp only;omega,by simp only[d];exact Z⟩
 .refine A3 ?_;have ah:k=s.length:=sO h1
  subst ah;refine Bq 100 [3] [] (by simp[A9a,Azs]<;>rfl) ?_;exact Y [2] [] (by simp[Anl]<;>rfl) (Bv sr rf)
def Biz{it:It}{a:An}(h:Aes it a=0):R7 it=0/\a.item=it.id/\(a.om=false->it.kind≠4->it.kind≠5->it.kind≠6->Ap1 it a.ch=0):=by
 unfold Aes at h
 split at h
 .rename_i h1;exact absurd h h1
 rename_i h1
 split at h
 .omega
 rename_i h2;refine⟨by omega,by omega,λe d c f=>?_⟩;rw[I d,I c,I f,e]at h
 split at h
 .omega
 .simpa using h
def A9c{it:It}(h:R7 it=0):Afv it=true/\Lo it.kind 1 6=true:=by
 unfold R7 at h
 (repeat' split at h)<;>try omega
 rename_i h1 h2 h3 h4 a h6
 constructor
 .cases e:Afv it
  .exact absurd (.inr e) a
  .rfl
 .cases e:Lo it.kind 1 6
  .exact absurd e h2
  .rfl
def Bev{it:It}(h:Afv it=true)(a:it.kind=1):it.ch.length=1:=by
 unfold Afv at h;rw[Ab a]at h;simp at h;omega
def Bew{it:It}(h:Afv it=true)(a:it.kind=2):it.ch≠[]:=by
 unfold Afv at h;rw[I om,Ab a]at h;simp at h;intro e;rw[e]at h;simp at h
def A3f{it:It}(h:Afv it=true)(a:it.kind=3):2<=it.opts.length:=by
 unfold Afv at h;rw[I om,I om,Ab a]at h;simp at h;omega
def Azu{it:It}{a:List Int}(h:Ap1 it a=0):A87 it a=true:=by
 unfold Ap1 at h
 (repeat' split at h)<;>try omega
 rename_i h1 h2;simpa using h2
def Bi0(x y:Int):Int:=if x<y then y else x
def Bk9(it:It)(a:An):Bool:=
 if it.kind=1 then decide (a.ch.getD 0 0=it.ch.getD 0 0)
 else if it.kind=4 then decide (Bi0 (IntKind.i64.wrap (a.val-it.val)) (IntKind.i64.wrap (it.val-a.val))<=it.tol)
 else if it.kind=5 then decide (Azt a.txt∈it.txts)else false
def Q9(it:It)(a:An):Int×Int:=
 if Aes it a≠0 then(0,Aes it a)else if it.kind=6 then(0,8)else if a.om=true then(0,0)
 else if it.kind=2 then(Bet it a.ch,0)else if it.kind=3 then(Beu it a.ch,0)
 else if Bk9 it a=true then(it.pts,0)else(0,0)
def A3g(hS:Mr)(it:It)(a:An)(hi:it.small)(ha:a.small)(a7:a.ch.length<=2000000):
  Jp gv prog 147 [it.v,a.v] (λr=>r=.tup [.i (Q9 it a).1,.i (Q9 it a).2]):=by
 have l:=Ac4 hS it a hi ha;have e:=λh=>A88 it a.ch h ha.ch
 have f:=λh1 h2=>A89 it a.ch h1 h2
 have af:=Atu a.txt ha.txt;have ax:=Bes it.txts (Azt a.txt)
 have ao:R7 it=0->it.opts.length<=10:=λh=>by
  unfold R7 at h
  (repeat' split at h)<;>omega
 have aa:=λ(h:Aes it a=0)=>Biz h
 have ab:=λ(h:R7 it=0)=>A9c h
 have ad:=λh=>Bev (it:=it) h
 have al:=λh=>Bew (it:=it) h
 have au:=λh=>A3f (it:=it) h
 have am:Ap1 it a.ch=0->it.kind=1->a.ch.length=1:=λh c=>by
  have:=Azu h;unfold A87 at this;rw[Ab c]at this;simp at this;omega
 have aw:Ap1 it a.ch=0->it.kind=3->a.ch.length=it.opts.length:=λh c=>by
  have:=Azu h;unfold A87 at this;rw[I om,I om,Ab c]at this;simp at this;omega
 have q1:=λ(h:0<it.ch.length)=>Dk h
 have q2:=λ(h:0<a.ch.length)=>Dk h
 unfold Q9 Bk9;generalize Aes it a=ve,Bet it a.ch=mv,Beu it a.ch=a2,Azt a.txt=nf,it.ch.getD 0 0=y0,a.ch.getD 0 0=x0 at*;have k:=vIt it;have w:=vAn a;rw[k,w]at l;rw[k]at e f;rw[k,w];have u:=C9 it.opts;have x:=Ac it.ch;have m:=C9 it.txts;have n:=Ac it.ass;have an:=Fh it.opts;have ai:=A0 it.ch;have ag:=Fh it.txts;have a8:=A0 it.ass;generalize Ha it.opts=ov,Ap it.ch=cv,Ha it.txts=xv,Ap it.ass=av at*;have az:ov=[]↔it.opts=[]:=by rw[<-Ag,an,Ag]
 have a3:cv=[]↔it.ch=[]:=by rw[<-Ag,ai,Ag]
 have a1:xv=[]↔it.txts=[]:=by rw[<-Ag,ag,Ag]
 have t:=Ac a.ch;have a5:=A0 a.ch;generalize Ap a.ch=hv at*;refine Bp func147 λw0 N0 hG=>?_;refine Y [2,3] [2,3] sr (J (Au 2 sr ?_));refine Jk [2,3,6] [2,3] hG l func90 ?_;refine Y [2,3,6,12] [2,3] sr ?_
 refine A1 (λh1=>?_) λh1=>?_
 .exact Y [4,5] [] sr (Aj (Aa sr (by rw[Ab (sG h1)])))
 have aj:=sG h1
 have⟨o,a0,y⟩:=aa aj;have d:=ab o;rw[I (sG h1)];refine J (Y [2,3,16] [2,3] sr ?_)
 refine A1 (λh2=>?_) λh2=>?_
 .exact Y [4,5] [] sr (Aj (Aa sr (by rw[Ab (sG h2)])))
 have j:=sG h2
 rw[I j];refine J (Y [2,3,18] [2,3] sr ?_)
 refine A1 (λh3=>?_) λh3=>?_
 .exact Y [4,5] [] sr (Aj (Aa sr (by rw[Ab (sG h3)])))
 have z:=sG h3
 rw[I (sG h3)];refine Y [2,3,7] [2,3] sr (J (Y [2,3,7,20] [2,3] sr (Ad (Y [2,3,7,20,21] [2,3] sr ?_))))
 refine Co (λh4=>?_) λh4=>?_
 .have c:=sG h4
  rw[Ab c];replace e:=e (al d.1 c);refine Au 3 sr ?_;refine Ge [4,5] [] e func200 ?_;exact Aj (Aa sr (rfl))
 .have aq:=sG h4
  rw[I aq];refine Y [2,3,7,20,27] [2,3] sr ?_
  refine Co (λh5=>?_) λh5=>?_
  .have c:=sG h5
   rw[Ab c];have ay:=ao o;have a6:=aw (y z om om j) c;have a4:=au d.1 c;replace f:=f om om;refine Au 3 sr ?_;refine Ge [4,5] [] f func201 ?_;exact Aj (Aa sr (rfl))
  .have ak:=sG h5
   rw[I ak];refine Y [2,3,7,20,33] [2,3] sr ?_
   refine Co (λh6=>?_) λh6=>?_
   .have c:=sG h6
    rw[Ab c];have l1:=ad d.1 c;have l2:=am (y z om om j) c;have g1:=q1 om;have g2:=q2 om;have k1:0<cv.length:=om;have k2:0<hv.length:=om;refine Ahm [0,1,4,1,1,3,5,5] [2,7] [2] sr C1 (J (Y [2,68] [2] sr ?_))
    refine Co (λh7=>?_) λh7=>D9 ?_
    .exact Y [4,5] [] sr (Aj (Aa sr (by rw[Ab (sG h7)])))
    exact Y [4,5] [] sr (Aj (Aa sr (by rw[I (sG h7)])))
   .have ah:=sG h6
    rw[I ah];refine Y [2,3,7,20,44] [2,3] sr ?_
    refine Co (λh8=>?_) λh8=>?_
    .have c:=sG h8
     rw[Ab c];refine A6 [2,7] [2] sr (J (Y [2,68] [2] sr ?_))
     refine Co (λh9=>?_) λh9=>D9 ?_
     .exact Y [4,5] [] sr (Aj (Aa sr (by unfold Bi0;rw[Ab (sG h9)])))
     exact Y [4,5] [] sr (Aj (Aa sr (by unfold Bi0;rw[I (sG h9)])))
    .have ar:=sG h8
     rw[I ar];refine Y [2,3,7,60] [2,3] sr ?_
     refine A1 (λi=>?_) λi=>?_
     .have c:=sG i
      rw[Ab c];refine H6 [0,1,2,1,1,1,3,4] sr (B8 4 sr ?_);refine D7 (λhg=>af) func203 rfl kr rfl rfl sr rfl rfl sr sM sr (D7 (λhg=>ax) func202 rfl kr rfl rfl sr rfl rfl sr sM sr ?_);refine C5 [2,7] [2] sr (J (Y [2,68] [2] sr ?_))
      refine Co (λg=>?_) λg=>D9 ?_
      .exact Y [4,5] [] sr (Aj (Aa sr (by rw[Ab (sG g)])))
      exact Y [4,5] [] sr (Aj (Aa sr (by rw[I (sG g)])))
     have ae:=sG i
     rw[I ae];refine J (Y [2,68] [2] sr ?_);refine Ce ?_;exact Qp [4,5]
def Od(l:List It):List V:=l.map It.v
@[simp]def I5(l:List It):(Od l).length=l.length:=by simp[Od]
def Atv{l:List It}(h:k<l.length):Gz (Od l) k=some l[k].v:=by rw[C0];simp[Od,h]
def Bex(it:It):it.v.pureE=true:=by
 have h1:=C9 it.opts;have h2:=Ac it.ch;have a:=C9 it.txts;have c:=Ac it.ass;unfold It.v;simp[V.pureE,V.pureC]
def Ic(l:List It):(Od l).all V.pureE=true:=by
 rw[Ao];intro x a;simp only[Od,Bc]at a;obtain⟨n,_,rfl⟩:=a;exact Bex n
def Hx(l:List An):List V:=l.map An.v
@[simp]def Io(l:List An):(Hx l).length=l.length:=by simp[Hx]
def Ac6{l:List An}(h:k<l.length):Gz (Hx l) k=some l[k].v:=by rw[C0];simp[Hx,h]
def Bey(a:An):a.v.pureE=true:=by
 have h2:=Ac a.ch;unfold An.v;simp[V.pureE,V.pureC]
def Ft(l:List An):(Hx l).all V.pureE=true:=by
 rw[Ao];intro x a;simp only[Hx,Bc]at a;obtain⟨n,_,rfl⟩:=a;exact Bey n
structure Dl where
 ses:Int
 cand:Int
 p:Po
 pool:List Pit
 items:List It
 ess:List Int
 uses:List (Int×Int)
 served:Int
 sec:Int
 nu:Int
 de:Int
 ex:Int
 seed:Int
def Dl.v(d:Dl):V:=V.agg [.i d.ses,.i d.cand,.i d.p.len,.ro 5 (Hw d.p.rules),.ro 1 (Ap d.p.g.pts),.ro 1 (Ap d.p.g.pri),.ro 2 (A9 d.p.en),.i d.p.mn,.bool d.p.var.num.neg,.ro 1 (Az d.p.var.num.mag),.ro 1 (Az d.p.var.den),.i d.p.cut,.bool d.p.lvl.num.neg,.ro 1 (Az d.p.lvl.num.mag),.ro 1 (Az d.p.lvl.den),.i d.p.top,.bool d.p.rate.num.neg,.ro 1 (Az d.p.rate.num.mag),.ro 1 (Az d.p.rate.den),.i d.p.slack,.ro 9 (C7 d.pool),.ro 17 (Od d.items),.ro 1 (Ap d.ess),.ro 2 (A9 d.uses),.i d.served,.i d.sec,.i d.nu,.i d.de,.i d.ex,.int .u64 d.seed]
def vDl(d:Dl):d.v=V.agg [.i d.ses,.i d.cand,.i d.p.len,.ro 5 (Hw d.p.rules),.ro 1 (Ap d.p.g.pts),.ro 1 (Ap d.p.g.pri),.ro 2 (A9 d.p.en),.i d.p.mn,.bool d.p.var.num.neg,.ro 1 (Az d.p.var.num.mag),.ro 1 (Az d.p.var.den),.i d.p.cut,.bool d.p.lvl.num.neg,.ro 1 (Az d.p.lvl.num.mag),.ro 1 (Az d.p.lvl.den),.i d.p.top,.bool d.p.rate.num.neg,.ro 1 (Az d.p.rate.num.mag),.ro 1 (Az d.p.rate.den),.i d.p.slack,.ro 9 (C7 d.pool),.ro 17 (Od d.items),.ro 1 (Ap d.ess),.ro 2 (A9 d.uses),.i d.served,.i d.sec,.i d.nu,.i d.de,.i d.ex,.int .u64 d.seed]:=rfl
structure Se where
 st:Int
 us:Int
 la:Int
 sh:Int
 t:Te
 ans:List An
 inc:List In4
def Se.v(s:Se):V:=V.agg [.i s.st,.i s.us,.i s.la,.i s.sh,.ro 1 (Ap s.t.elig),.ro 2 (A9 s.t.steps),.i s.t.pend,.ro 1 (B9 s.t.w),.int .u64 s.t.draw,.i s.t.stop,.ro 5 (Hx s.ans),.ro 4 (Fa s.inc)]
def vSe(s:Se):s.v=V.agg [.i s.st,.i s.us,.i s.la,.i s.sh,.ro 1 (Ap s.t.elig),.ro 2 (A9 s.t.steps),.i s.t.pend,.ro 1 (B9 s.t.w),.int .u64 s.t.draw,.i s.t.stop,.ro 5 (Hx s.ans),.ro 4 (Fa s.inc)]:=rfl
def Atw(n:Int):AE 27 [.i n] (.bool (Lo n 1 9999999)):=by
 unfold Lo;refine Ai func27 λw0 N0=>?_;exact Y [0] [] sr (Y [2] [] sr (Bv sr rf))
def Ai8(s:Se)(n:Int):Bool:=decide (0<=n)&&decide (s.la<=n)&&decide (n<=1099511627776)
def A3i(s:Se)(n:Int):AE 46 [s.v,.i n] (.bool (Ai8 s n)):=by
 unfold Ai8;rw[(vSe s)];have z1:=Ac s.t.elig;have z2:=A8 s.t.steps;have z3:=Bx s.t.w;have z4:=Ft s.ans;have z5:=Et s.inc;have c:=Io s.ans;have e:=Gv s.inc;generalize Ap s.t.elig=ti,A9 s.t.steps=ts,B9 s.t.w=tw,Hx s.ans=d,Fa s.inc=f at*;refine Ai func46 λw0 N0=>?_;exact Y [1,2] [2] sr (Y [4] [] sr (Bv sr rf))
def Pf(s:Se)(n:Int):Int:=if s.st=1 then IntKind.i64.wrap (IntKind.i64.wrap (s.us+n)-s.la)else s.us
def Ac7(s:Se)(n:Int):AE 88 [s.v,.i n] (.i (Pf s n)):=by
 unfold Pf;rw[(vSe s)];have z1:=Ac s.t.elig;have z2:=A8 s.t.steps;have z3:=Bx s.t.w;have z4:=Ft s.ans;have z5:=Et s.inc;have c:=Io s.ans;have e:=Gv s.inc;generalize Ap s.t.elig=ti,A9 s.t.steps=ts,B9 s.t.w=tw,Hx s.ans=d,Fa s.inc=f at*;refine Ai func88 λw0 N0=>?_;refine Y [1,2] [2] sr (J (A5 [7] sr ?_))
 exact Tl [4] [4]
def Bez(s:Se):Bool:=decide (s.st=1)||decide (s.st=2)
def Azw(s:Se):AE 93 [s.v] (.bool (Bez s)):=by
 unfold Bez;rw[(vSe s)];have z1:=Ac s.t.elig;have z2:=A8 s.t.steps;have z3:=Bx s.t.w;have z4:=Ft s.ans;have z5:=Et s.inc;have c:=Io s.ans;have e:=Gv s.inc;generalize Ap s.t.elig=ti,A9 s.t.steps=ts,B9 s.t.w=tw,Hx s.ans=d,Fa s.inc=f at*;refine Ai func93 λw0 N0=>?_;exact Y [1] [1] sr (Y [2] [] sr (Bv sr rf))
def Sl(d:Dl)(s:Se):Int:=IntKind.i64.wrap (Bei d.sec d.nu d.de d.ex+Azm s.inc d.sec)
def Ai9(d:Dl)(s:Se):AE 89 [d.v,s.v] (.i (Sl d s)):=by
 have k:=A81 d.sec d.nu d.de d.ex;have i:=Bek s.inc d.sec;unfold Sl;generalize Bei d.sec d.nu d.de d.ex=x1,Azm s.inc d.sec=x2 at*;rw[(vDl d),(vSe s)];have d0:=Dm d.p.rules;have d1:=Ac d.p.g.pts;have d2:=Ac d.p.g.pri;have o:=A8 d.p.en;have x:=Af d.p.var.num.mag;have z:=Af d.p.var.den;have d6:=Af d.p.lvl.num.mag;have y:=Af d.p.lvl.den;have u:=Af d.p.rate.num.mag;have d9:=Af d.p.rate.den;have e:=Cw d.pool;have a:=Ic d.items;have f:=Ac d.ess;have c:=A8 d.uses;generalize Hw d.p.rules=rv,Ap d.p.g.pts=pt,Ap d.p.g.pri=pr,A9 d.p.en=ev,Az d.p.var.num.mag=vm,Az d.p.var.den=vd,Az d.p.lvl.num.mag=lm,Az d.p.lvl.den=ld,Az d.p.rate.num.mag=rm,Az d.p.rate.den=rd at*;have ad:=Er d.pool;have ag:=I5 d.items;have ai:=A0 d.ess;generalize C7 d.pool=lv,Od d.items=aj,Ap d.ess=af,A9 d.uses=uv at*;have z1:=Ac s.t.elig;have m:=A8 s.t.steps;have n:=Bx s.t.w;have z4:=Ft s.ans;have l:=Et s.inc;have ah:=Io s.ans;have aa:=Gv s.inc;generalize Ap s.t.elig=ti,A9 s.t.steps=ts,B9 s.t.w=tw,Hx s.ans=ae,Fa s.inc=ab at*;refine Ai func89 λw0 N0=>?_;refine Y [2,3] [2,3] sr (Au 4 sr ?_);refine Ge [2,3,5] [2,3] k func142 ?_;refine Au 4 sr ?_;refine Ge [5,7] [] i func143 ?_;exact Y [4] [] sr (Bv sr rf)
def it0:It:=⟨0,0,0,[],[],[],0,0,[],0,[],0,0,0,0,[],0⟩
def Kk(l:List It)(id:Int):Option It:=l.find? λit=>decide (it.id=id)
def Ms(o:Option It):It:=match o with|some it=>it|none=>it0
def A3j:Bh (.agg [.i 0,.i 0,.i 0,.str [],.nils,.nils,.i 0,.i 0,.nils,.i 0,.str [],.i 0,.i 0,.i 0,.i 0,.nils,.i 0]) it0.v:=
 Bh.agg (.cons (Bh.refl _) (.cons (Bh.refl _) (.cons (Bh.refl _) (.cons (Bh.refl _) (.cons (Bh.nils 1) (.cons (Bh.nils 1) (.cons (Bh.refl _) (.cons (Bh.refl _) (.cons (Bh.nils 1) (.cons (Bh.refl _) (.cons (Bh.refl _) (.cons (Bh.refl _) (.cons (Bh.refl _) (.cons (Bh.refl _) (.cons (Bh.refl _) (.cons (Bh.nils 1) (.cons (Bh.refl _) .nil)))))))))))))))))
def Aja(l:List It)(id:Int)(hl:l.length<=4000000):AC prog 61 [.ro 17 (Od l),.i id] (λr=>r=.tup [(Ms (Kk l id)).v,.bool (Kk l id).isSome]):=by
 refine AC.relaxP ?_;have n:=λ(k:Nat)(h:k<l.length)=>Atv h
 have lq:=I5 l;have i:=λ(k:Nat)(h:k<l.length)=>Ad8 (λit:It=>decide (it.id=id)) h
 unfold Kk;generalize Od l=e at*;refine Ai func61 λw0 N0=>?_;refine Y [0,1,4] [4] sr (J (Y [1,4,8,9,10] [4] sr (Ad (Ho 10 (λk=>(l.drop k).find? (λit=>decide (it.id=id))=l.find? (λit=>decide (it.id=id))) l.length sm ?_))));intro k nx hk c;refine Y [1,4,8,9,10,11] [4] sr (J ?_)
 refine Bk (λh1=>?_) λh1=>?_
 .have a:k<l.length:=by simp at h1;omega
  have d:k<e.length:=om;have j:=n k a;rw[i k a]at c;generalize l[k]=it at*;rw[(vIt it)]at j;have m:=C9 it.opts;have o:=Ac it.ch;have t:=C9 it.txts;have s:=Ac it.ass;refine J (Ad (Y [1,4,7,8,9,10] [4,7] (by simp[j,d]<;>rfl) (Y [1,4,7,8,9,10,17] [4,7] sr ?_)))
  refine A1 (λh2=>?_) λh2=>?_
  .exact Y [4,5] [4] sr (Aj (Aa C1 (by rw[<-c,Ab (sG h2)];exact Bh.refl _)))
  rw[I (sG h2)]at c;refine A6 [1,4,8,9,10] [4] (by simp[(A4 (k:=k) om)]<;>rfl) ?_;exact⟨a,c,_,Z⟩
 .refine A3 ?_;have f:k=l.length:=sO h1
  rw[f,Cl]at c;exact Y [4,5] [4] sr (Aj (Aa sr (by rw[<-c];exact Bh.tup (.cons A3j (.cons (Bh.refl _) .nil)))))
instance:Inhabited It:=⟨it0⟩
def Be0{l:List It}(h:k<l.length):Gz (Od l) k=some (l.getD k it0).v:=by rw[Cr h];exact Atv h
def Bi1(l:List It)(k:Nat):Bool:=decide ((l.getD (k+1) it0).id<=(l.getD k it0).id)
def ciE(l:List It):Int:=if(60:Int)<l.length then 5 else if(List.range (l.length-1)).any (Bi1 l)=true then 23 else M6 R7 l
def Ajb(hS:Mr)(l:List It)(hl:l.length<=4000000)(s:∀it∈l,it.small):Jp gv prog 30 [.ro 17 (Od l)] (λr=>r=.i (ciE l)):=by
 have af:=λ(k:Nat)(h:k<l.length)=>Atq hS (l.getD k it0) (Gy s h it0)
 have t:=λ(k:Nat)(h:k<l.length)=>Be0 h
 have li:=I5 l;have ak:=Ic l;have ah:=λ(k:Nat)(h:k<l.length)=>Pt R7 h
 have aj:=λ(k:Nat)(h:k<l.length)=>Cr h it0
 unfold ciE;have aa:∀k,Bi1 l k=decide ((l.getD (k+1) it0).id<=(l.getD k it0).id):=λk=>rfl
 generalize Od l=e,Bi1 l=be at*;refine Bp func30 λw0 N0 hG=>?_;refine Y [0] [] sr (J (Y [0,9] [] sr ?_))
 refine Co (λh1=>?_) λh1=>D9 ?_
 .exact Y [2] [] sr (Aj (Aa sr (by rw[Ab (by simpa[li]using h1)])))
 rw[I (by simpa[li]using h1)];refine J (Y [0,3] [] sr (Ad (H5 (λk=>[(3,V.i ((k+1:Nat):Int))]) (λ_=>[]) (λk=>((List.range (l.length-1)).take k).any be=false) (l.length-1) sm Z ?_)));intro k nx hk hI;refine J (Y [0,3,13] [] sr ?_)
 refine Bk (λh2=>?_) λh2=>?_
 .have a:k<l.length-1:=by simp at h2;omega
  have ag:k<e.length:=om;have w:k+1<e.length:=om;have ad:((k:Int)+1)<e.length:=om;have ab:(0:Int)<=(k:Int)+1:=om;have i:=t k om;have gb:=t (k+1) om;have hb:=aa k;have ae:=λh=>Im (l.length-1) k be a hI h
  have u:=λh=>Oa (f:=be) a h
  unfold It.v at i gb;generalize l.getD k it0=x,l.getD (k+1) it0=y at*;have ai:IntKind.i64.wrap (((k+1:Nat):Int)-1)=(k:Int):=by rw[Bm om oM];omega
  have j:IntKind.i64.wrap (k:Int)=(k:Int):=Bm om om;have Sk:IntKind.i64.wrap ((k:Int)+1+1)=((k+1+1:Nat):Int):=by rw[Bm om oM];omega
  refine J (Ad (I3 [0,4,5,5,4,1,10,2] [0,3,27] [] sr (by simp[i,gb,ab,ag,ad,j,-Int.natCast_add]<;>rfl) ?_))
  refine A1 (λh3=>?_) λh3=>?_
  .exact Y [2] [] sr (Aj (Aa sr (by rw[Ab (u (by rw[hb];simpa using h3))])))
  refine A6 [0,3] [] C1 ?_;exact⟨a,ae (by rw[hb];simpa using h3),_,Z⟩
 .refine A3 ?_;have g:k=l.length-1:=sO h2
  rw[g,Ba (by simp)]at hI;rw[I (by rw[hI];simp)];refine J (Y [28,29,30] [] sr (Ad (Ho 30 (λk=>M6 R7 (l.drop k)=M6 R7 l) l.length rfl ?_)));intro k nx hk c;refine Y [28,29,30,31] [] sr (J ?_)
  refine Bk (λn=>?_) λn=>?_
  .have a:k<l.length:=by simp at n;omega
   have m:k<e.length:=om;have i:=t k a;have d:=af k a;have Ec:=A4 (k:=k) om;rw[(ah k a),<-aj k a]at c;generalize l.getD k it0=it at*;have j1:=C9 it.opts;have j2:=Ac it.ch;have j3:=C9 it.txts;have j4:=Ac it.ass;unfold It.v at i d;refine J (Ad (Y [5,28,29,30] [5] (by simp[i,m]<;>rfl) (Au 1 sr ?_)));refine Jk [6,28,29,30] [] hG d func60 ?_;refine Y [6,28,29,30,37] [] sr ?_
   refine A1 (λz=>?_) λz=>?_
   .exact Y [2] [] sr (Aj (Aa sr (by rw[<-c,Ab (sG z)])))
   rw[I (sG z)]at c;refine A6 [28,29,30] [] (by simp[Ec]<;>rfl) ?_;exact⟨a,c,_,Z⟩
  .refine A3 ?_;have g:k=l.length:=sO n
   rw[g,Cl]at c;exact Y [2] [] sr (Aj (Aa sr (by rw[<-c];rfl)))
def A3k(l:List It)(x:Pit):Int:=
 if(Kk l x.id).isSome=false then 6
 else if(Ms (Kk l x.id)).kind=6\/(Ms (Kk l x.id)).pts≠x.pt\/(Y1 x.m:Int)≠IntKind.i64.wrap ((Ms (Kk l x.id)).pts+1)then 19 else 0
def Ap3(l:List It)(x:Pit)(g:l.length<=4000000):AC prog 31 [.ro 17 (Od l),x.v] (λr=>r=.i (A3k l x)):=by
 have c:=Aja l x.id g;have a:=Ao1 x.m;have d:=Ic l;unfold A3k;have j1:=C9 (Ms (Kk l x.id)).opts;have j2:=Ac (Ms (Kk l x.id)).ch;have j3:=C9 (Ms (Kk l x.id)).txts;have j4:=Ac (Ms (Kk l x.id)).ass;have e:=D0 x.m;have f:moV x.m=.agg [.ro 1 (Eo x.m)]:=rfl;rw[f]at a;unfold It.v at c;rw[Gq];generalize(Kk l x.id).isSome=fs,Ms (Kk l x.id)=it,Od l=lv,Eo x.m=mv at*;refine Ai func31 λw0 N0=>?_;refine Y [0,3] [3] sr (Au 3 sr ?_);refine Ge [3,5,6] [3,5] c func61 ?_;refine J (Y [3,5,15] [3,5] sr ?_)
 refine L3 [4] (J (J (H6 [0,5,6,1,5,1,7,5,14,1,12,2,15,4] sr ?_)));refine B8 14 sr (D7 (λhg=>a) func62 rfl kr rfl rfl sr rfl rfl sr sM sr ?_);refine C5 [34] [] sr ?_
 exact Tl [4] [4]
def A3l(d:Dl)(i:Nat):Int:=
 if decide (d.ess.getD i 0∈d.ess.take i)=true then 7 else if(Kk d.items (d.ess.getD i 0)).isSome=false then 6 else if(Ms (Kk d.items (d.ess.getD i 0))).kind≠6 then 1 else 0
def Ak9(d:Dl)(i:Nat)(hi:i<d.ess.length)(hl:d.items.length<=4000000)(he:d.ess.length<=4000000):AC prog 32 [d.v,.i i] (λr=>r=.i (A3l d i)):=by
 have c:=Aja d.items (d.ess.getD i 0) hl;have t:=S7 (d.ess.take i) (d.ess.getD i 0);have ge:=Dk hi;have n:(Ap d.ess).take i=Ap (d.ess.take i):=by simp[Ap]
 have l:=Ac (d.ess.take i);unfold A3l;have j1:=C9 (Ms (Kk d.items (d.ess.getD i 0))).opts;have j2:=Ac (Ms (Kk d.items (d.ess.getD i 0))).ch;have j3:=C9 (Ms (Kk d.items (d.ess.getD i 0))).txts;have j4:=Ac (Ms (Kk d.items (d.ess.getD i 0))).ass;unfold It.v at c;generalize(Kk d.items (d.ess.getD i 0)).isSome=fs at*;generalize Ms (Kk d.items (d.ess.getD i 0))=it,decide (d.ess.getD i 0∈d.ess.take i)=mb,d.ess.getD i 0=x at*;rw[(vDl d)];have d0:=Dm d.p.rules;have d1:=Ac d.p.g.pts;have d2:=Ac d.p.g.pri;have u:=A8 d.p.en;have y:=Af d.p.var.num.mag;have d5:=Af d.p.var.den;have d6:=Af d.p.lvl.num.mag;have z:=Af d.p.lvl.den;have w:=Af d.p.rate.num.mag;have d9:=Af d.p.rate.den;have h:=Cw d.pool;have a:=Ic d.items;have j:=Ac d.ess;have f:=A8 d.uses;generalize Hw d.p.rules=rv,Ap d.p.g.pts=pt,Ap d.p.g.pri=pr,A9 d.p.en=ev,Az d.p.var.num.mag=vm,Az d.p.var.den=vd,Az d.p.lvl.num.mag=lm,Az d.p.lvl.den=ld,Az d.p.rate.num.mag=rm,Az d.p.rate.den=rd at*;have aa:=Er d.pool;have ab:=I5 d.items;have ad:=A0 d.ess;generalize C7 d.pool=lv,Od d.items=ae,Ap d.ess=e,A9 d.uses=uv at*;have o:i<e.length:=om;have m:(0:Int)<=(i:Int)/\(i:Int)<=e.length:=om;refine Ai func32 λw0 N0=>?_;refine Y [1,2] [2] sr (Y [1,2,5] [2] C1 (J (Au 5 (by simp[m,n]<;>rfl) ?_)));refine Ge [2,5,18] [2] t func63 ?_
 refine L3 [4] (Au 3 sr ?_);refine Ge [6,7] [6] c func61 ?_;refine J (Y [6,27] [6] sr ?_)
 refine L3 [4] (J (Y [30] [] sr ?_))
 exact Tl [4] [4]
structure DlOk(d:Dl):Prop where
 pok:d.p.ok
 pl:Kh d.pool d.p.g.pts.length=0->d.pool.length<=9
 il:d.items.length<=4000000
 is:∀it∈d.items,it.small
 el:d.ess.length<=4000000
def J7(d:Dl):Int:=
 if Lo d.ses 1 9999999=false\/Lo d.cand 1 9999999=false\/Lo d.sec 1 9999999=false then 3
 else if Y4 d.p≠0 then Y4 d.p
 else if Kh d.pool d.p.g.pts.length≠0 then Kh d.pool d.p.g.pts.length
 else if ciE d.items≠0 then ciE d.items
 else if M6 (A3k d.items) d.pool≠0 then M6 (A3k d.items) d.pool
 else if(5:Int)<d.ess.length then 5
 else if M6 (A3l d) (List.range d.ess.length)≠0 then M6 (A3l d) (List.range d.ess.length)
 else if Ak8 d.nu d.de d.ex≠0 then Ak8 d.nu d.de d.ex
 else A8x d.p d.pool d.uses d.served d.seed
def Jn(d:Dl):Te:=Atk d.p d.pool d.uses d.served d.seed
def Aap(hS:Mr)(d:Dl)(h:DlOk d):AQ 17 [d.v] (teR (J7 d) (Jn d)):=by
 refine Jp.relaxP ?_;have ab:=Atw;have ah:=Q6 d.p h.pok;have al:=Nh d.pool d.p.g.pts.length;have a3:=Ajb hS d.items h.il h.is;have av:=λx=>Ap3 d.items x h.il
 have aj:=λ(i:Nat)(hi:i<d.ess.length)=>Ak9 d i hi h.il h.el
 have ay:=Afn d.nu d.de d.ex;have u:=A24 d.p d.pool d.uses d.served d.seed h.pok h.pl;have a6:=h.pl;have a7:=h.el;have qp:=λ(k:Nat)(h:k<d.pool.length)=>Jg h
 have az:=λ(k:Nat)(h:k<d.pool.length)=>Pt (A3k d.items) h
 have a0:=λ(k:Nat)(h:k<(List.range d.ess.length).length)=>Pt (A3l d) h
 have aq:=A0 d.p.g.pts;have hT:∀e,teR e (Jn d)=.tup [(if e=0 then Jn d else Y9).v,.i e]:=λe=>rfl
 change Jp _ _ _ _ (λr=>r=teR (A8x d.p d.pool d.uses d.served d.seed) (Jn d))at u;unfold J7;generalize A8x d.p d.pool d.uses d.served d.seed=s at*;have aw:=hT s;rw[aw]at u;have a1:∀t:Te,t.v=.agg [.ro 1 (Ap t.elig),.ro 2 (A9 t.steps),.i t.pend,.ro 1 (B9 t.w),.int .u64 t.draw,.i t.stop]:=λt=>rfl
 rw[a1]at u;have y1:=Ac (if s=0 then Jn d else Y9).elig;have y2:=A8 (if s=0 then Jn d else Y9).steps;have y3:=Bx (if s=0 then Jn d else Y9).w;have ax:Bh (.tup [.agg [.ro 1 (Ap (if s=0 then Jn d else Y9).elig),.ro 2 (A9 (if s=0 then Jn d else Y9).steps),.i (if s=0 then Jn d else Y9).pend,.ro 1 (B9 (if s=0 then Jn d else Y9).w),.int .u64 (if s=0 then Jn d else Y9).draw,.i (if s=0 then Jn d else Y9).stop],.i s]) (teR s (Jn d)):=Bh.refl _;generalize(if s=0 then Jn d else Y9)=tt at*;have a2:=vPo d.p;rw[a2]at ah u;have ar:=vDl d;rw[ar]at aj;rw[ar];rw[<-aq]at al;generalize ak:Kh d.pool (Ap d.p.g.pts).length=qe at*;rw[aq]at ak;rw[ak];generalize Y4 d.p=pe,ciE d.items=ce,Ak8 d.nu d.de d.ex=ae,A3l d=eE,A3k d.items=pE at*;have d0:=Dm d.p.rules;have d1:=Ac d.p.g.pts;have d2:=Ac d.p.g.pri;have d3:=A8 d.p.en;have d4:=Af d.p.var.num.mag;have d5:=Af d.p.var.den;have d6:=Af d.p.lvl.num.mag;have d7:=Af d.p.lvl.den;have d8:=Af d.p.rate.num.mag;have d9:=Af d.p.rate.den;have n:=Cw d.pool;have f:=Ic d.items;have l:=Ac d.ess;have o:=A8 d.uses;generalize Hw d.p.rules=rv,Ap d.p.g.pts=pt,Ap d.p.g.pri=pr,A9 d.p.en=ev,Az d.p.var.num.mag=vm,Az d.p.var.den=vd,Az d.p.lvl.num.mag=lm,Az d.p.lvl.den=ld,Az d.p.rate.num.mag=rm,Az d.p.rate.den=rd at*;have a4:=Er d.pool;have a5:=I5 d.items;have am:=A0 d.ess;generalize C7 d.pool=lv,Od d.items=ao,Ap d.ess=au,A9 d.uses=uv at*;refine Bp func17 λw0 N0 hG=>?_;refine Y [1,2] [1,2] sr (J (Au 2 sr ?_));refine Aw (ab d.ses) func27 ?_;refine C3 4 sr ?_;refine Gd (c:=Lo d.ses 1 9999999) (λhg=>ab d.cand) func27 ?_;refine C3 5 sr ?_;refine Gd (c:=Lo d.ses 1 9999999&&Lo d.cand 1 9999999) (λhg=>ab d.sec) func27 ?_;refine Ak [1,2,28] [1,2] sr ?_
 refine A1 (λh1=>?_) λh1=>?_
 .refine Y [2,3] [2] sr ?_;exact Aj (Aa sr (by rw[Ab (by simpa[or_assoc]using h1)];exact F8 dc _))
 rw[I (by simpa[or_assoc,and_assoc]using h1)];refine J (Au 2 sr ?_);refine Jk [1,2,4] [1,2] hG ah func28 ?_;refine A5 [34] sr ?_
 refine A1 (λh2=>?_) λh2=>?_
 .refine Y [2,3] [2] sr ?_;exact Aj (Aa sr (by rw[Ab (sG h2)];exact F8 (sG h2) _))
 rw[I (sG h2)];refine J (Au 7 sr ?_);refine Jk [1,2,5] [1,2] hG al func29 ?_;refine A5 [46] sr ?_
 refine A1 (λh3=>?_) λh3=>?_
 .refine Y [2,3] [2] sr ?_;exact Aj (Aa sr (by rw[Ab (sG h3)];exact F8 (sG h3) _))
 rw[I (sG h3)];have a6:=a6 (by have h3':=h3;rw[<-ak]at h3';simpa using h3');refine J (Au 2 sr ?_);refine Jk [1,2,6] [1,2] hG a3 func30 ?_;refine A5 [53] sr ?_
 refine A1 (λh4=>?_) λh4=>?_
 .refine Y [2,3] [2] sr ?_;exact Aj (Aa sr (by rw[Ab (sG h4)];exact F8 (sG h4) _))
 rw[I (sG h4)];refine J (Y [1,2,57,58,59] [1,2] sr ?_);refine Ad (Ho 59 (λk=>M6 pE (d.pool.drop k)=M6 pE d.pool) d.pool.length sm ?_);intro k nx hk hI;refine Y [1,2,57,58,59,60] [1,2] sr ?_;refine J ?_
 refine Bk (λh5=>?_) λh5=>?_
 .have j:k<d.pool.length:=by simp at h5;omega
  have an:k<lv.length:=om;have ga:=qp k j;have aa:=az k j;have Ec:=A4 (k:=k) om;rw[aa]at hI;generalize d.pool[k]=x at*;have z:=av x;have pm:=D0 x.m;rw[Gq]at ga z;refine J (Ad (Y [1,2,8,57,58,59] [1,2,8] (by simp[ga,an]<;>rfl) ?_));refine Au 3 sr ?_;refine Ge [1,2,9,57,58,59] [1,2] z func31 ?_;refine A5 [68] sr ?_
  refine A1 (λh6=>?_) λh6=>?_
  .refine Y [2,3] [2] sr ?_;exact Aj (Aa sr (by have ai:pE x≠0:=(sG h6);rw[Ab ai]at hI;rw[<-hI,Ab ai];exact F8 (sG h6) _))
  rw[I (sG h6)]at hI;refine A6 [1,2,57,58,59] [1,2] (by simp[Ec]<;>rfl) ?_;exact⟨j,hI,_,Z⟩
 .refine A3 ?_;have ad:k=d.pool.length:=sO h5
  rw[ad,Cl]at hI;rw[I (by rw[<-hI];simp[M6])];refine J (Y [1,2,75] [1,2] sr ?_)
  refine A1 (λh7=>?_) λh7=>?_
  .refine Y [2,3] [2] sr ?_;exact Aj (Aa sr (by rw[Ab (by simpa[am]using h7)];exact F8 dc _))
  rw[I (by simpa[am]using h7)];refine J (Y [1,2,79,80] [1,2] sr ?_);refine Ad (Ho 80 (λk=>M6 eE ((List.range d.ess.length).drop k)=M6 eE (List.range d.ess.length)) d.ess.length sm ?_);intro k nx hk a;refine Y [1,2,79,80,81] [1,2] sr ?_;refine J ?_
  refine Bk (λh8=>?_) λh8=>?_
  .have j:k<d.ess.length:=by simp at h8;omega
   have aa:=a0 k (sG j);have Ec:=A4 (k:=k) om;rw[aa]at a;simp only[List.getElem_range]at a;have af:=aj k j;generalize eE k=ek at*;refine J (Ad (Y [1,2,10,79,80] [1,2] sr ?_));refine Au 2 sr ?_;refine Ge [1,2,11,79,80] [1,2] af func32 ?_;refine A5 [87] sr ?_
   refine A1 (λh9=>?_) λh9=>?_
   .refine Y [2,3] [2] sr ?_;exact Aj (Aa sr (by have ag:ek≠0:=(sG h9);rw[Ab ag]at a;rw[<-a,Ab ag];exact F8 (sG h9) _))
   rw[I (sG h9)]at a;refine A6 [1,2,79,80] [1,2] (by simp[Ec]<;>rfl) ?_;exact⟨j,a,_,Z⟩
  .refine A3 ?_;have ad:k=d.ess.length:=sO h8
   rw[ad,Hs (by simp)]at a;rw[I (by rw[<-a];simp[M6])];refine J (Au 2 sr ?_);refine Ge [1,2,12] [1,2] ay func33 ?_;refine A5 [95] sr ?_
   refine A1 (λy=>?_) λy=>?_
   .refine Y [2,3] [2] sr ?_;exact Aj (Aa sr (by rw[Ab (sG y)];exact F8 (sG y) _))
   rw[I (sG y)];refine Au 10 sr ?_;refine Jk [2,3] [2] hG u func34 ?_;exact Aj (Aa (by simp[results17]<;>rfl) (ax))
def Be1(e:Int)(t:Te):teR e t=.tup [(if e=0 then t else Y9).v,.i e]:=rfl
def Ajc(hS:Mr)(d:Dl)(h:DlOk d):AQ 7 [d.v] (.i (J7 d)):=by
 have a:=Aap hS d h;rw[Be1]at a;generalize(if J7 d=0 then Jn d else Y9)=tt at*;generalize J7 d=e at*;rw[(vTe tt)]at a;have y1:=Ac tt.elig;have y2:=A8 tt.steps;have y3:=Bx tt.w;rw[(vDl d)]at a|-;have z:=Dm d.p.rules;have d1:=Ac d.p.g.pts;have d2:=Ac d.p.g.pri;have m:=A8 d.p.en;have o:=Af d.p.var.num.mag;have u:=Af d.p.var.den;have x:=Af d.p.lvl.num.mag;have t:=Af d.p.lvl.den;have n:=Af d.p.rate.num.mag;have d9:=Af d.p.rate.den;have k:=Cw d.pool;have f:=Ic d.items;have l:=Ac d.ess;have j:=A8 d.uses;generalize Hw d.p.rules=rv,Ap d.p.g.pts=pt,Ap d.p.g.pri=pr,A9 d.p.en=ev,Az d.p.var.num.mag=vm,Az d.p.var.den=vd,Az d.p.lvl.num.mag=lm,Az d.p.lvl.den=ld,Az d.p.rate.num.mag=rm,Az d.p.rate.den=rd at*;have s:=Er d.pool;have aa:=I5 d.items;have ab:=A0 d.ess;generalize C7 d.pool=lv,Od d.items=ad,Ap d.ess=y,A9 d.uses=uv at*;refine Bp func7 λw0 N0 hG=>?_;refine Y [1] [1] sr (Au 1 sr ?_);refine Jk [4] [] hG a func17 ?_;exact Y [2] [] sr (Bv sr rf)
def A9d(l:List An)(g:FuncId)(us vs:List V)(f:An->Bool)(x:∀p∈l,Z9 gv prog (.fc g us vs) [An.v p] (λr=>r=.bool (f p))):Jp gv prog 208 [.ro 5 (Hx l),.fc g us vs] (λr=>r=.i (Il f l 0)):=by
 have s:=λ(k:Nat)(h:k<l.length)=>Ac6 h
 have u:=Io l;refine Rr 0 rfl λn=>?_;rw[u]at n
 have o:(l.length:Int)<=9223372036854775807:=by
  have:maxLen<=9223372036854775807:=dc;omega
 generalize Hx l=m at*;refine Bp func208 λw0 N0 t=>?_;refine Y [0,1] [] sr (J (Y [0,1,7,8] [] sr (Ad (Ho 8 (λk=>Il f (l.drop k) k=Il f l 0) l.length rfl ?_))));intro k nx hk c;refine Y [0,1,7,8,9] [] sr (J ?_)
 refine Bk (λh1=>?_) λh1=>?_
 .have a:k<l.length:=by simp at h1;omega
  have d:k<m.length:=om;have i:=s k a;have e:=x _ (As a);have Ec:=A4 (k:=k) om;rw[Px _ a]at c;generalize l[k]=y at i c e;have w:=Ac y.ch;unfold An.v at i e;generalize f _ =fb at c e;refine J (Ad (Y [0,1,5,7,8] [] sr (Au 5 (by simp[i,d]<;>rfl) ?_)));refine N5 t e sm rfl rfl sr sr sM sr (Ak [0,1,5,7,8,16] [] sr ?_)
  refine A1 (λh2=>?_) λh2=>?_
  .exact Y [4] [] sr (Aj (Aa sr (by rw[<-c,Ab h2])))
  refine A6 [0,1,7,8] [] (by simp[Ec]<;>rfl) ?_;exact⟨a,by rw[<-c,I (by rw[h2];decide)],_,Z⟩
 .refine A3 ?_;have j:k=l.length:=sO h1
  rw[j,Cl,Il]at c;exact Qp [4]
def A9e(l:List An)(g:FuncId)(us vs:List V)(f:An->Bool)(d:∀p∈l,Z9 gv prog (.fc g us vs) [An.v p] (λr=>r=.bool (f p))):AQ 149 [.ro 5 (Hx l),.fc g us vs] (.bool (l.any f)):=by
 have a:=A9d l g us vs f d;rw[<-Qc f l 0];have pl:=Ft l;generalize Hx l=lv,Il f l 0=z at*;refine Bp func149 λw0 N0 c=>?_;refine Y [0,1] [] sr (Au 2 sr ?_);refine Jk [4] [] c a func208 ?_;exact Bv sr (rfl)
def Be2(a:An)(id:Int):AE 150 [a.v,.rp (.i id)] (.bool (decide (a.item=id))):=by
 rw[(vAn a)];have i5:=Ac a.ch;have d:=A0 a.ch;generalize Ap a.ch=hv at*;refine Ai func150 λw0 N0=>?_;exact Y [1,2] [2] sr (Y [3] [] sr (Bv sr rf))
def Ap4(c:List An)(id:Int):Bool:=c.any λa=>decide (a.item=id)
def A9f(a:List Int)(c:List An):Option Int:=a.find? λid=> !Ap4 c id
def A3m(c:List Int)(d:List An)(he:c.length<=4000000):AQ 92 [.ro 1 (Ap c),.ro 5 (Hx d)] (.i ((A9f c d).getD 0)):=by
 have e:=λ(id:Int)=>A9e d 150 [] [.rp (.i id)] (λa=>decide (a.item=id)) (λa _=>Avg (us:=[]) (vs:=[.rp (.i id)]) (args:=[a.v]) ((Be2 a id).q gv) func150 kr rfl)
 have u:=λ(k:Nat)(h:k<c.length)=>Fr h
 have le:=A0 c;have n:=λ(k:Nat)(h:k<c.length)=>Ad8 (λid=> !Ap4 d id) h
 have m:∀id,Ap4 d id=d.any λa=>decide (a.item=id):=λid=>rfl
 unfold A9f;have t:=Ft d;simp only[<-m]at e;generalize Ap4 d=o,Ap c=ev,Hx d=w at*;refine Bp func92 λw0 N0 y=>?_;refine Y [0,1] [] sr (J (Y [1,7,8,9] [] sr (Ad (Ho 9 (λk=>(c.drop k).find? (λid=> !o id)=c.find? (λid=> !o id)) c.length sm ?_))));intro k nx hk j;refine Y [1,7,8,9,10] [] sr (J ?_)
 refine Bk (λh1=>?_) λh1=>?_
 .have f:k<c.length:=by simp at h1;omega
  have i:k<ev.length:=om;have s:=u k f;have Ec:=A4 (k:=k) om;rw[n k f]at j;generalize c[k]=x at*;refine J (Ad (Y [1,6,7,8,9] [6] (by simp[s,i]<;>rfl) (Bq 6 [1,6,7,8,9] [] sr (Au 2 sr ?_))));refine Jk [1,6,7,8,9,16] [] y (e x) func149 ?_
  refine A1 (λh2=>?_) λh2=>?_
  .exact Y [4] [] sr (Aj (Aa sr (by rw[<-j,Ab (sG h2)];rfl)))
  refine A6 [1,7,8,9] [] (by simp[Ec]<;>rfl) ?_;exact⟨f,by rw[<-j,I (sG h2)],_,Z⟩
 .refine A3 ?_;have l:k=c.length:=sO h1
  rw[l,Cl]at j;exact Y [4] [] sr (Aj (Aa sr (by rw[<-j];rfl)))
def Atx(a:An)(ha:a.ch.length<=2000000):AE 85 [a.v] a.v:=by
 have c:=Ap2 (Ap a.ch) (Ac _) (Uk _) (by rw[A0];omega);rw[(vAn a)];have e:=Ac a.ch;have f:=A0 a.ch;generalize Ap a.ch=hv at*;refine Ai func85 λw0 N0=>?_;refine Y [1,2] [1,2] sr (Au 2 sr ?_);refine Ge [1,2] [1,2] c func135 ?_;refine Y [2] [2] sr ?_;exact Bv C1 (rfl)
def A9g(t:Te)(h:teOk t):AE 83 [t.v] t.v:=by
 have af:=h.sl;have ad:=h.el;have ae:=h.wl;have x:=λ(k:Nat)(f:k<t.w.length)=>h.wd _ (As f)
 have g:=Afk (Ap t.elig) (Ac _) (Uk _) (by rw[A0];omega);have l:=Asy (A9 t.steps) (A8 _) (flatP _) (by rw[Eh];omega);have e:=Api (B9 t.w) (Bx _) (by rw[Ib];omega);have j:=λ(n:Nat)(h:(Gx n).length<=100000)=>Afl (Gx n) (F7 n) (Am9 n) h
 have hq:∀(k:Nat)(h:k<t.w.length),Gz (B9 t.w) k=some (.ro 1 (Gx t.w[k])):=λk h=>Li h
 have z:∀(k:Nat)(h:k<t.w.length),(B9 t.w)[k]?=some (.ro 1 (Gx t.w[k])):=λk h=>Rj h
 have u:=vTe t;rw[u];have s1:=Ac t.elig;have s2:=A8 t.steps;have s3:=Bx t.w;have m:=Ib t.w;generalize Ap t.elig=ti,A9 t.steps=ts,B9 t.w=tw at*;refine Ai func83 λw0 N0=>?_;refine Y [1,2] [1,2] sr (Au 2 sr ?_);refine Ge [1,2] [1,2] g func135 ?_;refine Au 2 sr ?_;refine Ge [1,2] [1,2] l func136 ?_;refine Au 2 sr ?_;refine Dx e func137 rfl kr rfl rfl rfl sr (λk o f=>by cases f) ?_ λch s=>s.elim;rintro r aa ag⟨v,rfl,rfl⟩ab;refine⟨λk f=>rfl,_,by simp<;>rfl,?_⟩;refine Ak [1,2] [1,2,5] sr ?_;refine J (A5 [18,19,20] sr (Ad (H4 (λk nx=>⟨[(1,V.bp 1 0 6 0 0),(2,V.bp 2 1 6 0 0),(18,V.sl 5 v 1 t.w.length),(19,V.i t.w.length),(20,V.i k)],[(1,⟨0,6,51,[V.agg [V.ro 1 ti,V.ro 2 ts,V.i t.pend,V.sl 5 v 1 t.w.length,V.int .u64 t.draw,V.i t.stop]]⟩),(2,⟨1,6,51,[V.agg [V.nils,V.nils,V.i 0,V.nils,V.int .u64 0,V.i 0]]⟩),(5,⟨v,1,30,tw⟩)],nx,33⟩) (λk=>True) t.w.length _ trivial (by simp only[m];exact Z) ?_)));intro k nx f hI;refine Y [1,2,18,19,20,21] [1,2,5] sr (J ?_)
 refine Bk (λh1=>?_) λh1=>?_
 .have a:k<t.w.length:=by simp at h1;omega
  have c:k<tw.length:=om;have ga:=hq k a;have gg:=z k a;have Ec:=A4 (k:=k) om;have y:(Gx t.w[k]).length<=100000:=by have:=x k a;simpa[Gx,Az]using this
  have d:=j t.w[k] y;have pn:=F7 t.w[k];generalize Gx t.w[k]=nv at*;have i:=Ai2 gg;refine J (Ad (Y [1,2,3,4,18,19,20] [1,2,5] (by simp[ga,a]<;>rfl) ?_));refine H6 [0,1,2,3,1,1,5,2] sr ?_;refine B8 3 sr ?_;refine B1 (λz=>d) func138 ?_;refine C5 [1,2,18,19,20] [1,2,5] C1 ?_;refine Cs [] C1 ?_;exact⟨a,trivial,_,Z⟩
 .refine A3 ?_;refine Bq 5 [1,2] [1,2] C1 (Y [2] [2] sr ?_);exact Bv C1 (rfl)
def Aty(es:List V)(hp:es.all V.pureE=true)(f:es.length<=100000):Q0 prog 84 [.ro 5 es] [] (λr c=>∃v,r=.sl 85 v 5 es.length/\c=[(85,⟨v,5,75,es⟩)]) (λ_=>False):=by
 have e:=N8 (b:=64) f dc;refine Ed func84 λw0 N0 a=>?_;refine Y [0] [] sr (J (Au 1 sr ?_));refine N4 rfl rfl sr rfl kr (λb h=>⟨_,by simp<;>rfl,?_⟩);refine Ak [0,4] [] sr ?_
 refine A1 (λh1=>?_) λh1=>?_
 .refine Y [2] [] sr ?_;have g:=Ag.1 (h h1);subst g;exact Fg 2 85 5 75 [2] [85] sr sr (Dc a (Ea (A7 _ _) sr ⟨_,rfl,rfl⟩ (λk o d=>B2 gt d)))
 exact Ez 80 [2] [85] C1 (Dc a (Ea (A7 _ _) sr ⟨_,rfl,rfl⟩ (λk o d=>B2 gt d)))
def Atz(es:List V)(hp:es.all V.pureE=true)(c:es.all Ih=true)(f:es.length<=100000):ACO prog 86 [.ro 4 es] 4 77 (λF a=>(F=λd q=>.sl d q 4 es.length)/\a=es):=by
 have e:=N8 (b:=32) f dc;refine Kf func86 λw0 N0=>?_;refine Y [0] [] sr (J (Au 1 sr ?_));refine N4 rfl rfl sr rfl kr (λb h=>⟨_,by simp<;>rfl,?_⟩);refine Ak [0,4] [] sr ?_
 refine A1 (λh1=>?_) λh1=>?_
 .refine Y [2] [] sr ?_;have g:=Ag.1 (h h1);subst g;exact Fg 2 2 4 77 [2] [2] sr sr (Aj (Hv 2 sr rfl rfl sm sr ⟨rfl,rfl⟩))
 exact Y [2] [5] C1 (Aj (Hv 5 sr rfl rfl (sG c) sr ⟨rfl,rfl⟩))
def seC(s:Se)(a c:V):V:=
 V.agg [.i s.st,.i s.us,.i s.la,.i s.sh,.ro 1 (Ap s.t.elig),.ro 2 (A9 s.t.steps),.i s.t.pend,.ro 1 (B9 s.t.w),.int .u64 s.t.draw,.i s.t.stop,a,c]
structure SeOk(s:Se):Prop where
 t:teOk s.t
 al:s.ans.length<=1000
 ac:∀a∈s.ans,a.small
 il:s.inc.length<=1000
def Blb(l:List In4):(Fa l).all Ih=true:=by
 rw[Ao];intro x a;simp only[Fa,Bc]at a;obtain⟨k,_,rfl⟩:=a;rfl
def A3n(s:Se)(h:SeOk s):
  Q0 prog 47 [s.v] [] (λr g=>∃q1 q2,r=seC s (.sl 85 q1 5 s.ans.length) (.sl 73 q2 4 s.inc.length)/\g=[(85,⟨q1,5,75,Hx s.ans⟩),(73,⟨q2,4,77,Fa s.inc⟩)]) (λ_=>False):=by
 have ai:=h.al;have ag:=h.il;have m:=A9g s.t h.t;have u:=Aty (Hx s.ans) (Ft _) (by rw[Io];omega);have z:=Atz (Fa s.inc) (Et _) (Blb _) (by rw[Gv];omega);have aa:=λ(k:Nat)(c:k<s.ans.length)=>Atx s.ans[k] (h.ac _ (As c)).ch
 have hq:=λ(k:Nat)(c:k<s.ans.length)=>Ac6 c
 have hg:∀(k:Nat)(c:k<s.ans.length),(Hx s.ans)[k]?=some s.ans[k].v:=λk c=>by rw[<-C0];exact Ac6 c
 have ad:=vTe s.t;rw[ad]at m;unfold seC;have ab:=vSe s;rw[ab];have z1:=Ac s.t.elig;have z2:=A8 s.t.steps;have z3:=Bx s.t.w;have z4:=Ft s.ans;have z5:=Et s.inc;have ae:=Io s.ans;have x:=Gv s.inc;generalize Ap s.t.elig=ti,A9 s.t.steps=ts,B9 s.t.w=tw,Hx s.ans=e,Fa s.inc=y at*;refine Ed func47 λw0 N0 d=>?_;refine Y [1,2] [1,2] sr (Au 2 sr ?_);refine Ge [1,2] [1,2] m func83 ?_;refine Au 2 sr ?_;refine Dx u func84 rfl kr rfl rfl rfl sr (λk o c=>by cases c) ?_ λch n=>n.elim;rintro r g ah⟨v,rfl,rfl⟩af;refine⟨λk c=>rfl,_,by simp<;>rfl,?_⟩;refine Ak [1,2] [1,2,85] sr ?_;refine J (A5 [14,15,16] sr (Ad (Ho 16 (λk=>True) s.ans.length trivial ?_)));intro k nx c hI;refine Y [1,2,14,15,16,17] [1,2,85] sr (J ?_)
 refine Bk (λh1=>?_) λh1=>?_
 .have f:k<s.ans.length:=by simp at h1;omega
  have j:k<e.length:=om;have ga:=hq k f;have gg:=hg k f;have Ec:=A4 (k:=k) om;have i:=aa k f;have pn:=Ac s.ans[k].ch;unfold An.v at ga gg i;generalize s.ans[k]=a at*;have l:=Ai2 gg;refine J (Ad (Y [1,2,3,4,14,15,16] [1,2,4,85] (by simp[ga,j]<;>rfl) ?_));refine H6 [0,1,2,1,1,1,3,4] sr ?_;refine B8 4 sr ?_;refine B1 (λhg=>i) func85 ?_;refine C5 [1,2,14,15,16] [1,2,85] (by simp[ga,l,j]<;>rfl) ?_;refine Cs [] (by simp[Ec]<;>rfl) ?_;exact⟨f,trivial,_,Z⟩
 .refine A3 ?_;refine Au 2 sr ?_;refine K5 73 z func86 rfl kr rfl rfl rfl sr (by simp[AS.views,AS.view,AS.viewC]<;>rfl) sr ?_;refine Ak [1,2] [1,2,73,85] sr ?_;refine Y [2] [2,73,85] sr ?_;exact Dc d (Ea (A7 _ _) sr ⟨_,_,by rw[ae,x],rfl⟩ (λk o c=>Azd gt gt c))
def At0(l:List Int):AE 37 [.ro 1 (Ap l),.ro 1 (Ap l)] (.bool true):=by
 refine K6 0 rfl λe=>?_;have q:=λ(k:Nat)(h:k<l.length)=>Dk h
 have j:=A0 l;rw[j,Pu]at e;have p1:=Ac l;generalize Ap l=lv at*;refine Ai func37 λw0 N0=>?_;refine Y [0,1] [] sr (J (A5 [10] sr ?_));refine Ce (J (Y [0,1,12,13] [] sr (Ad (H4 (λk nx=>⟨[(0,V.ro 1 lv),(1,V.ro 1 lv),(12,V.i lv.length),(13,V.i k)],[],nx,26⟩) (λk=>True) l.length _ trivial Z ?_))));intro k nx hk hI;refine Y [0,1,12,13,14] [] sr (J ?_)
 refine Bk (λh2=>?_) λh2=>?_
 .have c:k<l.length:=by simp at h2;omega
  have d:k<lv.length:=om;refine J (Ad (Y [0,1,5,12,13] [] sr ?_));refine I3 [0,3,4,3,3,1,7,2] [0,1,12,13,24] [] sr (by simp[(q k c),d]<;>rfl) (Ce (A6 [0,1,12,13] [] (by simp[(A4 (k:=k) om)]<;>rfl) ?_));exact⟨c,trivial,_,Z⟩
 .exact A3 (Y [4] [] sr (Bv sr rf))
def A9h(l:List (Int×Int)):AE 38 [.ro 2 (A9 l),.ro 2 (A9 l)] (.bool true):=by
 refine K6 0 rfl λe=>?_;have q:=λ(k:Nat)(h:k<l.length)=>Ix h
 have j:=Eh l;rw[j,Pu]at e;have p1:=A8 l;generalize A9 l=lv at*;refine Ai func38 λw0 N0=>?_;refine Y [0,1] [] sr (J (A5 [10] sr ?_));refine Ce (J (Y [0,1,12,13] [] sr (Ad (H4 (λk nx=>⟨[(0,V.ro 2 lv),(1,V.ro 2 lv),(12,V.i lv.length),(13,V.i k)],[],nx,26⟩) (λk=>True) l.length _ trivial Z ?_))));intro k nx hk hI;refine Y [0,1,12,13,14] [] sr (J ?_)
 refine Bk (λh2=>?_) λh2=>?_
 .have c:k<l.length:=by simp at h2;omega
  have d:k<lv.length:=om;generalize l[k]=p at*;refine J (Ad (Y [0,1,5,12,13] [] sr ?_));refine I3 [0,3,4,3,3,1,7,2] [0,1,12,13,24] [] sr (by simp[(q k c),d]<;>rfl) (Ce (A6 [0,1,12,13] [] (by simp[(A4 (k:=k) om)]<;>rfl) ?_));exact⟨c,trivial,_,Z⟩
 .exact A3 (Y [4] [] sr (Bv sr rf))
def A9i(l:List In4):AE 21 [.ro 4 (Fa l),.ro 4 (Fa l)] (.bool true):=by
 refine K6 0 rfl λe=>?_;have q:=λ(k:Nat)(h:k<l.length)=>Aer h
 have j:=Gv l;rw[j,Pu]at e;have p1:=Et l;generalize Fa l=lv at*;refine Ai func21 λw0 N0=>?_;refine Y [0,1] [] sr (J (A5 [10] sr ?_));refine Ce (J (Y [0,1,12,13] [] sr (Ad (H4 (λk nx=>⟨[(0,V.ro 4 lv),(1,V.ro 4 lv),(12,V.i lv.length),(13,V.i k)],[],nx,26⟩) (λk=>True) l.length _ trivial Z ?_))));intro k nx hk hI;refine Y [0,1,12,13,14] [] sr (J ?_)
 refine Bk (λh2=>?_) λh2=>?_
 .have c:k<l.length:=by simp at h2;omega
  have d:k<lv.length:=om;have f:=q k c;unfold In4.v at f;generalize l[k]=p at*;refine J (Ad (Y [0,1,5,12,13] [] sr ?_));refine I3 [0,3,4,3,3,1,7,2] [0,1,12,13,24] [] sr (by simp[f,d]<;>rfl) (Ce (A6 [0,1,12,13] [] (by simp[(A4 (k:=k) om)]<;>rfl) ?_));exact⟨c,trivial,_,Z⟩
 .exact A3 (Y [4] [] sr (Bv sr rf))
def A9j(a:An):AE 20 [a.v,a.v] (.bool true):=by
 have d:=At0 a.ch;rw[(vAn a)];have f:=Ac a.ch;generalize Ap a.ch=hv at*;refine Ai func20 λw0 N0=>?_;refine Y [2,3] [2,3] sr (Au 10 sr ?_);refine Ff (c:=True) (λhg=>d) func37 rfl kr sr rfl rfl sr sM sr (Ak [4] [] sr ?_);exact Bv sr (rfl)
def Aw4(l:List An):Jp G0 prog 19 [.ro 5 (Hx l),.ro 5 (Hx l),.fn 20] (λr=>r=.bool true):=by
 refine Rr 0 rfl λf=>?_;have q:=λ(k:Nat)(h:k<l.length)=>Ac6 h
 have o:=Io l;rw[o,Pu]at f;have p1:=Ft l;generalize Hx l=lv at*;refine Bp func19 λw0 N0 n=>?_;refine Y [0,1,2] [] sr (J (A5 [14] sr ?_));refine Ce (J (Y [1,2,15,16,17] [] sr (Ad (H4 (λk nx=>⟨[(1,V.ro 5 lv),(2,.fn 20),(15,V.ro 5 lv),(16,V.i lv.length),(17,V.i k)],[],nx,32⟩) (λk=>True) l.length _ trivial Z ?_))));intro k nx hk hI;refine Y [1,2,15,16,17,18] [] sr (J ?_)
 refine Bk (λh2=>?_) λh2=>?_
 .have d:k<l.length:=by simp at h2;omega
  have c:k<lv.length:=om;have e:=q k d;have Ec:=A4 (k:=k) om;have m:=Ac l[k].ch;have j:Z9 G0 prog (.fn 20) [l[k].v,l[k].v] (λr=>r=.bool true):=⟨20,[],[],_,.inr ⟨rfl,rfl,rfl⟩,func20,by kernel_rfl,rfl,(A9j l[k]).q G0⟩;unfold An.v at e j;generalize l[k]=a at*;refine J (Ad (Y [1,2,7,8,15,16,17] [8] (by simp[e,c]<;>rfl) (Y [1,2,8,9,15,16,17] [8,9] (by simp[e,c]<;>rfl) (Au 3 sr ?_))));refine N5 n j sm rfl rfl sr sr sM sr (Ak [1,2,15,16,17,30] [] sr ?_);refine Ce (A6 [1,2,15,16,17] [] (by simp[Ec]<;>rfl) ?_);exact⟨d,trivial,_,Z⟩
 .refine A3 ?_;exact Y [6] [] sr (Bv sr rf)
def A9k(n:Nat):AE 35 [.ro 1 (Gx n),.ro 1 (Gx n)] (.bool true):=by
 have c:=Ad4 (B0 n) (B0 n) (Ct n) (Ct n);have e0:Rv (Bd (B0 n)) (Bd (B0 n))=0:=by unfold Rv;rw[I (Zw _),I (Zw _)]
 rw[e0]at c;change AC _ _ [.ro 1 (Gx n),.ro 1 (Gx n)] _ at c;have d:=F7 n;generalize Gx n=nv at*;refine Ai func35 λw0 N0=>?_;refine Y [0,1] [] sr (Au 2 sr ?_);refine Ge [4] [] c func36 ?_;exact Bv sr (rfl)
def A3o(l:List Nat):Jp G0 prog 39 [.ro 1 (B9 l),.ro 1 (B9 l),.fn 35] (λr=>r=.bool true):=by
 refine Rr 0 rfl λf=>?_;have q:=λ(k:Nat)(h:k<l.length)=>Li h
 have e:∀n,Az (B0 n)=Gx n:=λn=>rfl
 simp only[e]at q;have t:=Ib l;rw[t,Pu]at f;have p1:=Bx l;generalize B9 l=lv at*;refine Bp func39 λw0 N0 s=>?_;refine Y [0,1,2] [] sr (J (A5 [14] sr ?_));refine Ce (J (Y [1,2,15,16,17] [] sr (Ad (H4 (λk nx=>⟨[(1,V.ro 1 lv),(2,.fn 35),(15,V.ro 1 lv),(16,V.i lv.length),(17,V.i k)],[],nx,32⟩) (λk=>True) l.length _ trivial Z ?_))));intro k nx hk hI;refine Y [1,2,15,16,17,18] [] sr (J ?_)
 refine Bk (λh2=>?_) λh2=>?_
 .have d:k<l.length:=by simp at h2;omega
  have c:k<lv.length:=om;have g:=q k d;have Ec:=A4 (k:=k) om;generalize l[k]=n at*;have o:Z9 G0 prog (.fn 35) [.ro 1 (Gx n),.ro 1 (Gx n)] (λr=>r=.bool true):=⟨35,[],[],_,.inr ⟨rfl,rfl,rfl⟩,func35,by kernel_rfl,rfl,(A9k n).q G0⟩;have m:=F7 n;generalize Gx n=nv at*;refine J (Ad (Y [1,2,7,8,15,16,17] [] (by simp[g,c]<;>rfl) (Y [1,2,8,9,15,16,17] [] (by simp[g,c]<;>rfl) (Au 3 sr ?_))));refine N5 s o sm rfl rfl sr sr sM sr (Ak [1,2,15,16,17,30] [] sr ?_);refine Ce (A6 [1,2,15,16,17] [] (by simp[Ec]<;>rfl) ?_);exact⟨d,trivial,_,Z⟩
 .refine A3 ?_;exact Y [6] [] sr (Bv sr rf)
def Ajd(s:Se)(v c a:Nat):List (Nat×Ob):=
 [(10,⟨v,12,55,[seC s (.sl 85 c 5 s.ans.length) (.sl 73 a 4 s.inc.length)]⟩),(85,⟨c,5,75,Hx s.ans⟩),(73,⟨a,4,77,Fa s.inc⟩)]
def evR(e:Int)(v:Nat)(s':Se)(r:V)(a:List (Nat×Ob)):Prop:=
 r=.i e/\((e≠0/\a=[])\/(e=0/\a=[(10,⟨v,12,55,[s'.v]⟩)]))
def Jq{v:Nat}{s':Se}(h:e≠0):evR e v s' (.i e) []:=⟨rfl,.inl ⟨h,rfl⟩⟩
def Aw5{v:Nat}{s':Se}:evR 0 v s' (.i 0) [(10,⟨v,12,55,[s'.v]⟩)]:=⟨rfl,.inr ⟨rfl,rfl⟩⟩
def Jr{a:List (Nat×Ob)}(k:Nat)(o:Ob)(h:Eng.get ([]:List (Nat×Ob)) k=some o):Eng.get a k=some o:=by cases h
def A9l(d:Dl)(st:Te)(s:Se):Int:=if s.st≠0 then 8 else A26 d.p d.pool st
def Aaq(d:Dl)(st:Te)(s:Se):Se:={s with st:=1,t:=Apx d.p d.pool st,sh:=(Apx d.p d.pool st).pend}
def A3p(d:Dl)(t:Te)(s:Se)(v aq iq:Nat)(h:AdP d.p d.pool)(ht:teOk t)(hw:Ks t.w 1000):
  U5 gv prog 48 [d.v,t.v,.bp 10 v 12 0 0] (Ajd s v aq iq) (evR (A9l d t s) v (Aaq d t s)):=by
 have c:=Atn d.p d.pool t h ht hw;have hT:∀e x,teR e x=.tup [(if e=0 then x else Y9).v,.i e]:=λe x=>rfl
 rw[hT]at c;have aa:∀x:Te,Se.v {s with st:=1,t:=x,sh:=x.pend}=V.agg [.i 1,.i s.us,.i s.la,.i x.pend,.ro 1 (Ap x.elig),.ro 2 (A9 x.steps),.i x.pend,.ro 1 (B9 x.w),.int .u64 x.draw,.i x.stop,.ro 5 (Hx s.ans),.ro 4 (Fa s.inc)]:=λx=>rfl
 unfold A9l Aaq Ajd;generalize Apx d.p d.pool t=a,A26 d.p d.pool t=ne at*;have m:=λ(h:ne≠0)=>Jq (v:=v) (s':={s with st:=1,t:=a,sh:=a.pend}) h
 have f:ne=0->∀r o,r=V.i 0->o=[(10,(⟨v,12,55,[V.agg [.i 1,.i s.us,.i s.la,.i (if ne=0 then a else Y9).pend,.ro 1 (Ap (if ne=0 then a else Y9).elig),.ro 2 (A9 (if ne=0 then a else Y9).steps),.i (if ne=0 then a else Y9).pend,.ro 1 (B9 (if ne=0 then a else Y9).w),.int .u64 (if ne=0 then a else Y9).draw,.i (if ne=0 then a else Y9).stop,.ro 5 (Hx s.ans),.ro 4 (Fa s.inc)]]⟩:Ob))]->evR ne v {s with st:=1,t:=a,sh:=a.pend} r o:=by
  intro h0 r o hr ho;rw[h0,Ab rfl]at ho;rw[h0,hr,ho,<-aa];exact Aw5
 have j:∀x:Te,x.v=.agg [.ro 1 (Ap x.elig),.ro 2 (A9 x.steps),.i x.pend,.ro 1 (B9 x.w),.int .u64 x.draw,.i x.stop]:=λx=>rfl
 rw[j,j]at c;rw[j];have l:=Ac (if ne=0 then a else Y9).elig;have u:=A8 (if ne=0 then a else Y9).steps;have n:=Bx (if ne=0 then a else Y9).w;have x1:=Ac t.elig;have x2:=A8 t.steps;have x3:=Bx t.w;generalize(if ne=0 then a else Y9)=tt at*;rw[(vPo d.p)]at c;unfold seC;rw[(vDl d)];have d0:=Dm d.p.rules;have d1:=Ac d.p.g.pts;have d2:=Ac d.p.g.pri;have d3:=A8 d.p.en;have d4:=Af d.p.var.num.mag;have d5:=Af d.p.var.den;have d6:=Af d.p.lvl.num.mag;have d7:=Af d.p.lvl.den;have d8:=Af d.p.rate.num.mag;have d9:=Af d.p.rate.den;have ag:=Cw d.pool;have ab:=Ic d.items;have ai:=Ac d.ess;have af:=A8 d.uses;generalize Hw d.p.rules=rv,Ap d.p.g.pts=pt,Ap d.p.g.pri=pr,A9 d.p.en=ev,Az d.p.var.num.mag=vm,Az d.p.var.den=vd,Az d.p.lvl.num.mag=lm,Az d.p.lvl.den=ld,Az d.p.rate.num.mag=rm,Az d.p.rate.den=rd at*;have ak:=Er d.pool;have ao:=I5 d.items;have ar:=A0 d.ess;generalize C7 d.pool=lv,Od d.items=au,Ap d.ess=an,A9 d.uses=uv at*;have z1:=Ac s.t.elig;have z2:=A8 s.t.steps;have z3:=Bx s.t.w;have z4:=Ft s.ans;have z5:=Et s.inc;have ae:=Io s.ans;have z:=Gv s.inc;generalize Ap s.t.elig=ti,A9 s.t.steps=ts,B9 s.t.w=tw,Hx s.ans=am,Fa s.inc=aj at*;have al:=Fm z4;have ad:=Fm z5;generalize Ap t.elig=xi,A9 t.steps=xs,B9 t.w=xw,Ap tt.elig=yi,A9 tt.steps=ys,B9 tt.w=yw at*;refine Ij func48 λw0 N0 i hG=>?_;refine Y [2,3,4] [3,4,10,73,85] sr (J (A5 [13] sr ?_))
 refine A1 (λh1=>?_) λh1=>?_
 .exact Y [6] [10,73,85] sr (Dc i (Ea (A7 _ _) sr (by rw[Ab (sG h1)];exact Jq dc) Jr))
 rw[I (sG h1)];refine Au 5 sr (Dw hG c func87 ?_);refine Ak [2,7,8] [7,10,73,85] sr (J (A5 [24] sr ?_))
 refine A1 (λh2=>?_) λh2=>?_
 .exact Y [6] [10,73,85] sr (Dc i (Ea (A7 _ _) sr (m (sG h2)) Jr))
 refine Y [2,7] [7,10,73,85] sR (A5 [] sR (Y [] [10,73,85] sR (A5 [6] sr (Bq 85 [6] [10,73] C1 (Bq 73 [6] [10] C1 ?_)))));exact Dc i (Ea (A7 _ _) sr (f (sG h2) _ _ rfl rfl) (λk o hk=>B2 gt hk))
def A9m(s:Se):Int:=if s.st≠1 then 8 else 0
def Xi(d:Dl)(s:Se)(n:Int):Se:={s with st:=2,us:=Ql (Pf s n) (Sl d s)}
def A3q(d:Dl)(s:Se)(n:Int)(v aq iq:Nat):
  U5 gv prog 50 [d.v,.bp 10 v 12 0 0,.i n] (Ajd s v aq iq) (evR (A9m s) v (Xi d s n)):=by
 have m:=Ac7 s n;have f:=Ai9 d s;have e:Se.v (Xi d s n)=V.agg [.i 2,.i (Ql (Pf s n) (Sl d s)),.i s.la,.i s.sh,.ro 1 (Ap s.t.elig),.ro 2 (A9 s.t.steps),.i s.t.pend,.ro 1 (B9 s.t.w),.int .u64 s.t.draw,.i s.t.stop,.ro 5 (Hx s.ans),.ro 4 (Fa s.inc)]:=rfl;unfold Ql at e
 have a:∀r o,r=V.i 0->o=[(10,(⟨v,12,55,[V.agg [.i 2,.i (if Sl d s<Pf s n then Sl d s else Pf s n),.i s.la,.i s.sh,.ro 1 (Ap s.t.elig),.ro 2 (A9 s.t.steps),.i s.t.pend,.ro 1 (B9 s.t.w),.int .u64 s.t.draw,.i s.t.stop,.ro 5 (Hx s.ans),.ro 4 (Fa s.inc)]]⟩:Ob))]->evR 0 v (Xi d s n) r o:=by
  intro r o hr ho;rw[hr,ho,<-e];exact Aw5
 unfold A9m Ajd seC;clear e;generalize Xi d s n=ps,Pf s n=uu,Sl d s=ll at*;have aa:=vSe s;have i:=vDl d;rw[aa]at m f;rw[i]at f;rw[i];have d0:=Dm d.p.rules;have d1:=Ac d.p.g.pts;have d2:=Ac d.p.g.pri;have d3:=A8 d.p.en;have d4:=Af d.p.var.num.mag;have d5:=Af d.p.var.den;have d6:=Af d.p.lvl.num.mag;have d7:=Af d.p.lvl.den;have d8:=Af d.p.rate.num.mag;have d9:=Af d.p.rate.den;have x:=Cw d.pool;have l:=Ic d.items;have y:=Ac d.ess;have u:=A8 d.uses;generalize Hw d.p.rules=rv,Ap d.p.g.pts=pt,Ap d.p.g.pri=pr,A9 d.p.en=ev,Az d.p.var.num.mag=vm,Az d.p.var.den=vd,Az d.p.lvl.num.mag=lm,Az d.p.lvl.den=ld,Az d.p.rate.num.mag=rm,Az d.p.rate.den=rd at*;have ae:=Er d.pool;have ah:=I5 d.items;have ai:=A0 d.ess;generalize C7 d.pool=lv,Od d.items=aj,Ap d.ess=ag,A9 d.uses=uv at*;have z1:=Ac s.t.elig;have z2:=A8 s.t.steps;have z3:=Bx s.t.w;have z4:=Ft s.ans;have z:=Et s.inc;have h:=Io s.ans;have c:=Gv s.inc;generalize Ap s.t.elig=ti,A9 s.t.steps=ts,B9 s.t.w=tw,Hx s.ans=af,Fa s.inc=ad at*;have ab:=Fm z;refine Ij func50 λw0 N0 j hG=>?_;refine Y [1,2,3] [3,10,73,85] sr (Bq 85 [1,2,3] [3,10,73] C1 (Bq 73 [1,2,3] [3,10] C1 (J (A5 [11] sr ?_))))
 refine A1 (λh1=>?_) λh1=>?_
 .exact Y [6] [10] sr (Dc j (Ea (A7 _ _) sr (by rw[Ab (sG h1)];exact Jq dc) Jr))
 rw[I (sG h1)];refine J (H6 [0,3,4,1,7,2,3,1,5,2,9,6] sr ?_);refine B8 7 sr (B1 (λhg=>m) func88 ?_);refine B8 2 sr ?_;refine B1 (λhg=>f) func89 ?_;refine C5 [1] [10] sr ?_;refine Y [] [10] sr (A5 [6] sr ?_);exact Dc j (Ea (A7 _ _) sr (a _ _ rfl rfl) (λk o hk=>B2 gt hk))
variable {r:V}
def A9n(s:Se):Int:=if Bez s=false then 8 else 0
def Uq(t:Te):Te:=if t.stop=0 then {t with pend:=0,stop:=4}else t
def Zb(d:Dl)(s:Se)(n:Int):Se:={s with st:=3,us:=Ql (Pf s n) (Sl d s),sh:=0,t:=Uq s.t}
def Aar{v:Nat}{s':Se}{x:V}{o:List (Nat×Ob)}(a:s'.v=x)(d:r=.i 0)(c:o=[(10,⟨v,12,55,[x]⟩)]):evR 0 v s' r o:=by
 rw[d,c,<-a];exact Aw5
def Aw6(d:Dl)(s:Se)(n:Int)(v aq iq:Nat)(ht:teOk s.t):
  U5 gv prog 52 [d.v,.bp 10 v 12 0 0,.i n] (Ajd s v aq iq) (evR (A9n s) v (Zb d s n)):=by
 have ad:=Azw s;have ab:=Bip s.t ht;have aj:=Ac7 s n;have ae:=Ai9 d s;have i:=Ac7 {s with t:=Uq s.t} n;have e:=Ai9 d {s with t:=Uq s.t};change AC _ _ _ (λr=>r=.i (Pf s n))at i;change AC _ _ _ (λr=>r=.i (Sl d s))at e
 have f:∀r o,r=V.i 0->o=[(10,(⟨v,12,55,[V.agg [.i 3,.i (if Sl d s<Pf s n then Sl d s else Pf s n),.i s.la,.i 0,.ro 1 (Ap (Uq s.t).elig),.ro 2 (A9 (Uq s.t).steps),.i (Uq s.t).pend,.ro 1 (B9 (Uq s.t).w),.int .u64 (Uq s.t).draw,.i (Uq s.t).stop,.ro 5 (Hx s.ans),.ro 4 (Fa s.inc)]]⟩:Ob))]->evR 0 v (Zb d s n) r o:=
  λr o hr ho=>Aar rfl hr ho
 unfold A9n Ajd seC;generalize Zb d s n=ps,Pf s n=uu,Sl d s=ll at*;have ak:Se.v {s with t:=Uq s.t}=V.agg [.i s.st,.i s.us,.i s.la,.i s.sh,.ro 1 (Ap (Uq s.t).elig),.ro 2 (A9 (Uq s.t).steps),.i (Uq s.t).pend,.ro 1 (B9 (Uq s.t).w),.int .u64 (Uq s.t).draw,.i (Uq s.t).stop,.ro 5 (Hx s.ans),.ro 4 (Fa s.inc)]:=rfl;rw[ak]at i e;have an:=vTe s.t;rw[an]at ab;have hT:teR 0 {s.t with pend:=0,stop:=4}=.tup [.agg [.ro 1 (Ap s.t.elig),.ro 2 (A9 s.t.steps),.i 0,.ro 1 (B9 s.t.w),.int .u64 s.t.draw,.i 4],.i 0]:=rfl;have ag:s.t.stop=0->Uq s.t= {s.t with pend:=0,stop:=4}:=λh=>Ab h
 have ah:¬s.t.stop=0->Uq s.t=s.t:=λh=>I h
 have am:=vSe s;have ai:=vDl d;rw[am]at ad aj ae;rw[ai]at ae e;rw[ai];have d0:=Dm d.p.rules;have d1:=Ac d.p.g.pts;have d2:=Ac d.p.g.pri;have d3:=A8 d.p.en;have d4:=Af d.p.var.num.mag;have d5:=Af d.p.var.den;have d6:=Af d.p.lvl.num.mag;have d7:=Af d.p.lvl.den;have d8:=Af d.p.rate.num.mag;have d9:=Af d.p.rate.den;have m:=Cw d.pool;have j:=Ic d.items;have u:=Ac d.ess;have l:=A8 d.uses;generalize Hw d.p.rules=rv,Ap d.p.g.pts=pt,Ap d.p.g.pri=pr,A9 d.p.en=ev,Az d.p.var.num.mag=vm,Az d.p.var.den=vd,Az d.p.lvl.num.mag=lm,Az d.p.lvl.den=ld,Az d.p.rate.num.mag=rm,Az d.p.rate.den=rd at*;have au:=Er d.pool;have aw:=I5 d.items;have ax:=A0 d.ess;generalize C7 d.pool=lv,Od d.items=ay,Ap d.ess=av,A9 d.uses=uv at*
 by_cases aa:s.t.stop=0
 .rw[ag aa]at i e f;have ar:(if s.t.stop≠0 then(21:Int)else 0)=0:=I Gi;rw[ar,hT]at ab;clear ag ah;have z1:=Ac s.t.elig;have z2:=A8 s.t.steps;have z3:=Bx s.t.w;have y:=Ft s.ans;have x:=Et s.inc;have c:=Io s.ans;have a:=Gv s.inc;generalize Ap s.t.elig=ti,A9 s.t.steps=ts,B9 s.t.w=tw,Hx s.ans=ao,Fa s.inc=al at*;have af:=Fm x;refine Ij func52 λw0 N0 z hG=>?_;refine Y [1,2,3] [3,10,73,85] sr (Bq 85 [1,2,3] [3,10,73] (by simp[y,c,af]<;>rfl) (Bq 73 [1,2,3] [3,10] (by simp[x,a]<;>rfl) (J (Au 3 sr ?_))));refine Ge [1,2,3,13] [3,10] ad func93 ?_
  refine A1 (λh1=>?_) λh1=>?_
  .refine Y [6] [10] sr ?_;exact Dc z (Ea (A7 _ _) sr (by rw[Ab (sG h1)];exact Jq dc) Jr)
  rw[I (sG h1)];refine J (Y [1,2,3,19] [3,10] sr ?_)
  refine Ek ?_
  .refine Au 4 sr ?_;refine Ge [1,2,3,7,8] [3,7,10] ab func95 ?_;refine J (A5 [29] sr ?_);refine Ce (A6 [1,2,3] [3,10] sr (J (H0 [(0,[]),(1,[]),(2,[]),(4,[]),(7,[]),(8,[]),(3,[]),(5,[]),(6,[]),(9,[]),(10,[]),(11,[]),(12,[]),(13,[]),(14,[])] Jt kr ?_)));refine B8 7 sr ?_;refine B1 (λhg=>i) func88 ?_;refine B8 2 sr ?_;refine B1 (λhg=>e) func89 ?_;refine C5 [1] [10] sr ?_;refine A5 [] sr (Y [] [10] sr (A5 [6] sr ?_));exact Dc z (Ea (A7 _ _) sr (f _ _ rfl rfl) (λk o hk=>B2 gt hk))
 .rw[ah aa]at i e f;clear ag ah hT;have z1:=Ac s.t.elig;have z2:=A8 s.t.steps;have z3:=Bx s.t.w;have y:=Ft s.ans;have x:=Et s.inc;have c:=Io s.ans;have a:=Gv s.inc;generalize Ap s.t.elig=ti,A9 s.t.steps=ts,B9 s.t.w=tw,Hx s.ans=ao,Fa s.inc=al at*;have af:=Fm x;refine Ij func52 λw0 N0 z hG=>?_;refine Y [1,2,3] [3,10,73,85] sr (Bq 85 [1,2,3] [3,10,73] (by simp[y,c,af]<;>rfl) (Bq 73 [1,2,3] [3,10] (by simp[x,a]<;>rfl) (J (Au 3 sr ?_))));refine Ge [1,2,3,13] [3,10] ad func93 ?_
  refine A1 (λh1=>?_) λh1=>?_
  .refine Y [6] [10] sr ?_;exact Dc z (Ea (A7 _ _) sr (by rw[Ab (sG h1)];exact Jq dc) Jr)
  rw[I (sG h1)];refine J (Y [1,2,3,19] [3,10] sr ?_);refine Ce (J (H0 [(0,[]),(1,[]),(2,[]),(4,[]),(7,[]),(8,[]),(3,[]),(5,[]),(6,[]),(9,[]),(10,[]),(11,[]),(12,[]),(13,[]),(14,[])] Jt kr ?_));refine B8 7 sr ?_;refine B1 (λhg=>aj) func88 ?_;refine B8 2 sr ?_;refine B1 (λhg=>ae) func89 ?_;refine C5 [1] [10] sr ?_;refine A5 [] sr (Y [] [10] sr (A5 [6] sr ?_));exact Dc z (Ea (A7 _ _) sr (f _ _ rfl rfl) (λk o hk=>B2 gt hk))
structure Ev where
 kind:Int
 time:Int
 an:An
 inc:In4
def Ev.v(e:Ev):V:=V.agg [.i e.kind,.i e.time,.i e.an.item,.ro 1 (Ap e.an.ch),.i e.an.val,.str e.an.txt,.bool e.an.om,.i e.inc.ki,.i e.inc.ti,.i e.inc.lo,.i e.inc.gr]
def vEv(e:Ev):e.v=V.agg [.i e.kind,.i e.time,.i e.an.item,.ro 1 (Ap e.an.ch),.i e.an.val,.str e.an.txt,.bool e.an.om,.i e.inc.ki,.i e.inc.ti,.i e.inc.lo,.i e.inc.gr]:=rfl
def A9o(s:Se)(e:Ev):Int:=
 if Bez s=false then 8 else if e.inc.ti≠e.time then 1 else if Apz e.inc≠0 then Apz e.inc else if(300:Int)<=s.inc.length then 5 else 0
def Zc(d:Dl)(s:Se)(e:Ev):Se:={s with us:=Ql (Pf s e.time) (Sl d s),inc:=s.inc++[e.inc]}
def Aw7(d:Dl)(s:Se)(e:Ev)(v aq iq:Nat)(al:s.inc.length<=1000):
  U5 gv prog 51 [d.v,.bp 10 v 12 0 0,e.v] (Ajd s v aq iq) (evR (A9o s e) v (Zc d s e)):=by
 have af:=Azw s;have ag:=Afo e.inc;have aa:=Ac7 s e.time;have y:=Ai9 d s
 have m:∀r o,r=V.i 0->o=[(10,(⟨v,12,55,[V.agg [.i s.st,.i (if Sl d s<Pf s e.time then Sl d s else Pf s e.time),.i s.la,.i s.sh,.ro 1 (Ap s.t.elig),.ro 2 (A9 s.t.steps),.i s.t.pend,.ro 1 (B9 s.t.w),.int .u64 s.t.draw,.i s.t.stop,.ro 5 (Hx s.ans),.ro 4 (Fa (s.inc++[e.inc]))]]⟩:Ob))]->evR 0 v (Zc d s e) r o:=
  λr o hr ho=>Aar rfl hr ho
 have ab:Fa s.inc++[V.agg [.i e.inc.ki,.i e.inc.ti,.i e.inc.lo,.i e.inc.gr]]=Fa (s.inc++[e.inc]):=by simp[Fa,In4.v]
 have ad:=Et (s.inc++[e.inc]);have x:s.inc.length+1<=maxLen/\(s.inc.length+1)*32<=140737488355328:=⟨Ae (show s.inc.length+1<=1001 by omega) dc,by omega⟩;unfold A9o Ajd seC;unfold In4.v at ag;generalize Zc d s e=ps,Pf s e.time=uu,Sl d s=ll,Apz e.inc=ie at*;have ai:=vEv e;rw[ai];have i5:=Ac e.an.ch;generalize Ap e.an.ch=hv at*;have ah:=vSe s;have ae:=vDl d;rw[ah]at af aa y;rw[ae]at y;rw[ae];have d0:=Dm d.p.rules;have d1:=Ac d.p.g.pts;have d2:=Ac d.p.g.pri;have d3:=A8 d.p.en;have d4:=Af d.p.var.num.mag;have d5:=Af d.p.var.den;have d6:=Af d.p.lvl.num.mag;have d7:=Af d.p.lvl.den;have d8:=Af d.p.rate.num.mag;have d9:=Af d.p.rate.den;have j:=Cw d.pool;have f:=Ic d.items;have l:=Ac d.ess;have h:=A8 d.uses;generalize Hw d.p.rules=rv,Ap d.p.g.pts=pt,Ap d.p.g.pri=pr,A9 d.p.en=ev,Az d.p.var.num.mag=vm,Az d.p.var.den=vd,Az d.p.lvl.num.mag=lm,Az d.p.lvl.den=ld,Az d.p.rate.num.mag=rm,Az d.p.rate.den=rd at*;have am:=Er d.pool;have au:=I5 d.items;have av:=A0 d.ess;generalize C7 d.pool=lv,Od d.items=aw,Ap d.ess=ar,A9 d.uses=uv at*;have z1:=Ac s.t.elig;have z2:=A8 s.t.steps;have z3:=Bx s.t.w;have u:=Ft s.ans;have z:=Et s.inc;have c:=Io s.ans;have a:=Gv s.inc;generalize Ap s.t.elig=ti,A9 s.t.steps=ts,B9 s.t.w=tw,Hx s.ans=ao,Fa s.inc=ak at*;have aj:=Fm z;refine Ij func51 λw0 N0 n hG=>?_;refine Y [1,3,5] [3,5,10,73,85] sr (Bq 85 [1,3,5] [3,5,10,73] C1 (J (Au 3 sr ?_)));refine Aab af func93 rfl kr rfl rfl rfl sr C1 rfl sr (Ak [1,3,5,12] [3,5,10,73] sr ?_)
 refine A1 (λh1=>?_) λh1=>?_
 .exact Y [6] [10,73] sr (Dc n (Ea (A7 _ _) sr (by rw[Ab (sG h1)];exact Jq dc) Jr))
 rw[I (sG h1)];refine J (Y [1,3,5,18] [3,5,10,73] sr ?_)
 refine A1 (λh2=>?_) λh2=>?_
 .exact Y [6] [10,73] sr (Dc n (Ea (A7 _ _) sr (by rw[Ab (sG h2)];exact Jq dc) Jr))
 rw[I (sG h2)];refine J (Au 2 sr ?_);refine Ge [1,3,5,7] [3,5,10,73] ag func94 ?_;refine A5 [23] sr ?_
 refine A1 (λh3=>?_) λh3=>?_
 .exact Y [6] [10,73] sr (Dc n (Ea (A7 _ _) sr (by rw[Ab (sG h3)];exact Jq (sG h3)) Jr))
 rw[I (sG h3)];refine J (Y [1,3,5,30] [3,5,10,73] sr ?_)
 refine A1 (λh4=>?_) λh4=>?_
 .exact Y [6] [10,73] sr (Dc n (Ea (A7 _ _) sr (by rw[Ab (sG h4)];exact Jq dc) Jr))
 rw[I (sG h4)];refine J (Ii [6,11] Jt ?_);refine Fk [0,3,4,1,8,2,3,1,5,1] sr sr ?_
 refine Km [6,7,10] kr ?_;intro i hi;simp only[Bu,Ck,or_false]at hi
 rcases hi with rfl|rfl|rfl
 .refine⟨_,_,rfl,Jj sm aa func88 rfl kr sr rfl rfl sr C1 rfl sr,?_⟩;refine Fk [7,1,10,1] sr sr ?_
  refine Hn (i:=11) (ks:=[]) kr rfl sm (Jj sm y func89 rfl kr sr rfl rfl sr C1 rfl sr) (Fk [12,4] sr sr ?_)
  refine Gl [1,5] [5,10,73] kr sr (Om [(0,[]),(1,[]),(2,[]),(3,[]),(5,[]),(4,[53]),(6,[53]),(7,[]),(8,[]),(9,[]),(10,[]),(11,[])] [] [10,73] Jt kr (by simp[x,a]<;>rfl) ?_);rw[ab];refine A5 [6] sr (Bq 73 [6] [10] (by simp[ad]<;>rfl) ?_);exact Dc n (Ea (A7 _ _) sr (m _ _ rfl rfl) (λk o hk=>B2 gt hk))
 .refine⟨_,_,rfl,Nc sr,?_⟩;refine Km [6,10] kr ?_;intro i hi;simp only[Bu,Ck,or_false]at hi
  rcases hi with rfl|rfl
  .refine⟨_,_,rfl,Jj sm aa func88 rfl kr sr rfl rfl sr (by simp[AS.views,AS.view,AS.viewL,AS.viewC,z,a]<;>rfl) rfl sr,?_⟩;refine Fk [10,1] sr sr ?_
   refine Hn (i:=11) (ks:=[]) kr rfl sm (Jj sm y func89 rfl kr sr rfl rfl sr (by simp[AS.views,AS.view,AS.viewL,AS.viewC,z,a]<;>rfl) rfl sr) ?_;refine Fk [12,4] sr sr ?_
   refine Gl [1,5] [5,10,73] kr sr ?_;refine Om [(0,[]),(1,[]),(2,[]),(3,[]),(5,[]),(4,[53]),(6,[53]),(7,[]),(8,[]),(9,[]),(10,[]),(11,[])] [] [10,73] Jt kr (by simp[x,a]<;>rfl) ?_;rw[ab];refine A5 [6] sr (Bq 73 [6] [10] (by simp[ad]<;>rfl) ?_);exact Dc n (Ea (A7 _ _) sr (m _ _ rfl rfl) (λk o hk=>B2 gt hk))
  .refine⟨_,_,rfl,Nc sr,?_⟩;refine Hn (i:=6) (ks:=[]) kr rfl sm (Jj sm aa func88 rfl kr sr rfl rfl sr (by simp[AS.views,AS.view,AS.viewL,AS.viewC,z,a]<;>rfl) rfl sr) ?_;refine Hn (i:=11) (ks:=[]) kr rfl sm (Jj sm y func89 rfl kr sr rfl rfl sr (by simp[AS.views,AS.view,AS.viewL,AS.viewC,z,a]<;>rfl) rfl sr) ?_;refine Fk [12,4] sr sr ?_
   refine Gl [1,5] [5,10,73] kr sr ?_;refine Om [(0,[]),(1,[]),(2,[]),(3,[]),(5,[]),(4,[53]),(6,[53]),(7,[]),(8,[]),(9,[]),(10,[]),(11,[])] [] [10,73] Jt kr (by simp[x,a]<;>rfl) ?_;rw[ab];refine A5 [6] sr (Bq 73 [6] [10] (by simp[ad]<;>rfl) ?_);exact Dc n (Ea (A7 _ _) sr (m _ _ rfl rfl) (λk o hk=>B2 gt hk))
 .refine⟨_,_,rfl,Nc sr,?_⟩;refine Km [6,7] kr ?_;intro i hi;simp only[Bu,Ck,or_false]at hi
  rcases hi with rfl|rfl
  .refine⟨_,_,rfl,Jj sm aa func88 rfl kr sr rfl rfl sr (by simp[AS.views,AS.view,AS.viewL,AS.viewC,z,a]<;>rfl) rfl sr,?_⟩;refine Fk [7,1] sr sr ?_
   refine Hn (i:=11) (ks:=[]) kr rfl sm (Jj sm y func89 rfl kr sr rfl rfl sr (by simp[AS.views,AS.view,AS.viewL,AS.viewC,z,a]<;>rfl) rfl sr) ?_;refine Fk [12,4] sr sr ?_
   refine Gl [1,5] [5,10,73] kr sr ?_;refine Om [(0,[]),(1,[]),(2,[]),(3,[]),(5,[]),(4,[53]),(6,[53]),(7,[]),(8,[]),(9,[]),(10,[]),(11,[])] [] [10,73] Jt kr (by simp[x,a]<;>rfl) ?_;rw[ab];refine A5 [6] sr (Bq 73 [6] [10] (by simp[ad]<;>rfl) ?_);exact Dc n (Ea (A7 _ _) sr (m _ _ rfl rfl) (λk o hk=>B2 gt hk))
  .refine⟨_,_,rfl,Nc sr,?_⟩;refine Hn (i:=6) (ks:=[]) kr rfl sm (Jj sm aa func88 rfl kr sr rfl rfl sr (by simp[AS.views,AS.view,AS.viewL,AS.viewC,z,a]<;>rfl) rfl sr) ?_;refine Hn (i:=11) (ks:=[]) kr rfl sm (Jj sm y func89 rfl kr sr rfl rfl sr (by simp[AS.views,AS.view,AS.viewL,AS.viewC,z,a]<;>rfl) rfl sr) ?_;refine Fk [12,4] sr sr ?_
   refine Gl [1,5] [5,10,73] kr sr ?_;refine Om [(0,[]),(1,[]),(2,[]),(3,[]),(5,[]),(4,[53]),(6,[53]),(7,[]),(8,[]),(9,[]),(10,[]),(11,[])] [] [10,73] Jt kr (by simp[x,a]<;>rfl) ?_;rw[ab];refine A5 [6] sr (Bq 73 [6] [10] (by simp[ad]<;>rfl) ?_);exact Dc n (Ea (A7 _ _) sr (m _ _ rfl rfl) (λk o hk=>B2 gt hk))
def Be3{p:Po}{pool:List Pit}{t:Te}{c:Int}(h:Apy p pool t c=0):Ac1 p pool t=0/\t.pend≠0/\Akr (Qm pool t.pend) c=true:=by
 unfold Apy at h
 (repeat' split at h)<;>try omega
 rename_i h1 h2 a;exact⟨by omega,h2,by simpa using a⟩
def A9p{p:Po}{pool:List Pit}{t:Te}{c:Int}(k:AdP p pool)(h:Apy p pool t c=0)(d:teOk t)(f:t.steps.length<=900)(hn:n<=998)(j:Ks t.w n):
  teOk (Aao p pool t c)/\Ks (Aao p pool t c).w (n+1)/\(Aao p pool t c).steps.length=t.steps.length+1:=by
 have⟨h1,h2,e⟩:=Be3 h;have⟨r1,a,r3,i,r5,r6,r7⟩:=Anj k (Ai7 h1).1 h2 e (n:=n) om j;have l:(Za pool t c).length=t.w.length:=by unfold Za;rw[Agm,i]
 refine⟨⟨d.el,by simp[Aao];omega,by show(Za pool t c).length<=1000;rw[l];exact d.wl,λx g=>Ae (a x g) om⟩,a,by simp[Aao]⟩
def Ac8(d:Dl)(s:Se)(c:Int):Te:=
 if(Aao d.p d.pool s.t c).stop=0 then Apx d.p d.pool (Aao d.p d.pool s.t c)else Aao d.p d.pool s.t c
def At2(d:Dl)(s:Se)(it:It)(a:An):Int:=
 if(Q9 it a).2≠0 then(Q9 it a).2 else if Apy d.p d.pool s.t (Q9 it a).1≠0 then Apy d.p d.pool s.t (Q9 it a).1
 else if(Aao d.p d.pool s.t (Q9 it a).1).stop=0 then A26 d.p d.pool (Aao d.p d.pool s.t (Q9 it a).1)else 0
def Bi2(d:Dl)(s:Se)(it:It)(a:An):Se:={s with t:=Ac8 d s (Q9 it a).1,sh:=(Ac8 d s (Q9 it a).1).pend}
def Aw8(hS:Mr)(d:Dl)(s:Se)(it:It)(a:An)(v:Nat)(hi:it.small)(ha:a.small)(h:AdP d.p d.pool)(ht:teOk s.t)(hw:Ks s.t.w 998)(aj:s.t.steps.length<=900):
  U5 gv prog 91 [d.v,.bp 10 v 12 0 0,it.v,a.v] [(10,⟨v,12,55,[s.v]⟩)] (evR (At2 d s it a) v (Bi2 d s it a)):=by
 have al:=A3g hS it a hi ha ha.ch;unfold At2 Bi2 Ac8;generalize Q9 it a=sc at*;have f:=Awx d.p d.pool s.t sc.1 h ht (λx hx=>Ae (hw x hx) dc) aj;have ak:=λh0=>A9p h h0 ht aj (c:=sc.1) (n:=998) dc hw
 have i:=λh0=>Atn d.p d.pool (Aao d.p d.pool s.t sc.1) h (ak h0).1 (λx hx=>Ae ((ak h0).2.1 x hx) dc)
 have hT:∀e x,teR e x=.tup [(if e=0 then x else Y9).v,.i e]:=λe x=>rfl
 rw[hT]at f;simp only[hT]at i;generalize Aao d.p d.pool s.t sc.1=rT,bb:Apy d.p d.pool s.t sc.1=re at*;generalize A26 d.p d.pool rT=ne,Apx d.p d.pool rT=nT,aa:(if re=0 then rT else Y9)=t1 at*;generalize ab:(if ne=0 then nT else Y9)=t2 at*;have an:∀x:Te,x.v=.agg [.ro 1 (Ap x.elig),.ro 2 (A9 x.steps),.i x.pend,.ro 1 (B9 x.w),.int .u64 x.draw,.i x.stop]:=λx=>rfl
 simp only[an]at f i;have ah:∀x:Te,Se.v {s with t:=x,sh:=x.pend}=V.agg [.i s.st,.i s.us,.i s.la,.i x.pend,.ro 1 (Ap x.elig),.ro 2 (A9 x.steps),.i x.pend,.ro 1 (B9 x.w),.int .u64 x.draw,.i x.stop,.ro 5 (Hx s.ans),.ro 4 (Fa s.inc)]:=λx=>rfl
 have l:∀(x:Te)r o,r=V.i 0->o=[(10,(⟨v,12,55,[V.agg [.i s.st,.i s.us,.i s.la,.i x.pend,.ro 1 (Ap x.elig),.ro 2 (A9 x.steps),.i x.pend,.ro 1 (B9 x.w),.int .u64 x.draw,.i x.stop,.ro 5 (Hx s.ans),.ro 4 (Fa s.inc)]]⟩:Ob))]->evR 0 v {s with t:=x,sh:=x.pend} r o:=
  λx r o hr ho=>Aar (ah x) hr ho
 have y:=λx:Te=>Ac x.elig
 have z:=λx:Te=>A8 x.steps
 have u:=λx:Te=>Bx x.w
 rw[(vPo d.p)]at f i;have ao:=vIt it;have am:=vAn a;rw[ao,am]at al;rw[ao,am,(vDl d),(vSe s)];clear ah an;have d0:=Dm d.p.rules;have d1:=Ac d.p.g.pts;have d2:=Ac d.p.g.pri;have d3:=A8 d.p.en;have d4:=Af d.p.var.num.mag;have d5:=Af d.p.var.den;have d6:=Af d.p.lvl.num.mag;have d7:=Af d.p.lvl.den;have d8:=Af d.p.rate.num.mag;have d9:=Af d.p.rate.den;have af:=Cw d.pool;have ad:=Ic d.items;have ae:=Ac d.ess;have ag:=A8 d.uses;generalize Hw d.p.rules=rv,Ap d.p.g.pts=pt,Ap d.p.g.pri=pr,A9 d.p.en=ev,Az d.p.var.num.mag=vm,Az d.p.var.den=vd,Az d.p.lvl.num.mag=lm,Az d.p.lvl.den=ld,Az d.p.rate.num.mag=rm,Az d.p.rate.den=rd at*;have a1:=Er d.pool;have a3:=I5 d.items;have a6:=A0 d.ess;generalize C7 d.pool=lv,Od d.items=a7,Ap d.ess=be,A9 d.uses=uv at*;have z1:=Ac s.t.elig;have z2:=A8 s.t.steps;have z3:=Bx s.t.w;have z4:=Ft s.ans;have z5:=Et s.inc;have a9:=Io s.ans;have a5:=Gv s.inc;generalize Ap s.t.elig=ti,A9 s.t.steps=ts,B9 s.t.w=tw,Hx s.ans=a2,Fa s.inc=bd at*;have i1:=C9 it.opts;have i2:=Ac it.ch;have i3:=C9 it.txts;have i4:=Ac it.ass;have az:=Fh it.opts;have ay:=A0 it.ch;have au:=Fh it.txts;have ba:=A0 it.ass;generalize Ha it.opts=ov,Ap it.ch=cv,Ha it.txts=xv,Ap it.ass=av at*;have bc:ov=[]↔it.opts=[]:=by rw[<-Ag,az,Ag]
 have a0:cv=[]↔it.ch=[]:=by rw[<-Ag,ay,Ag]
 have a8:xv=[]↔it.txts=[]:=by rw[<-Ag,au,Ag]
 have i5:=Ac a.ch;have a4:=A0 a.ch;generalize Ap a.ch=hv at*;refine Ij func91 λw0 N0 m hG=>?_;refine Y [1,4,6,7] [4,6,7,10] sr (Au 2 sr ?_);refine Jk [1,4,9,10] [4,10] hG al func147 ?_;refine J (A5 [19] sr ?_)
 refine A1 (λh1=>?_) λh1=>?_
 .exact Y [8] [10] sr (Dc m (Ea (A7 _ _) sr (by rw[Ab (sG h1)];exact Jq (sG h1)) Jr))
 rw[I (sG h1)];refine J (H0 [(0,[]),(2,[]),(4,[]),(5,[]),(6,[]),(8,[]),(1,[11]),(3,[11]),(7,[11]),(9,[]),(10,[]),(11,[]),(12,[]),(13,[]),(14,[]),(15,[])] Jt kr ?_);refine B8 9 sr (Rg hG (λhg=>f) func148 rfl kr rfl rfl sr rfl rfl sr sM sr ?_);refine C5 [1,4,10,11] [4,10,11] sr (J (A5 [35] sr ?_))
 refine A1 (λh2=>?_) λh2=>?_
 .exact Y [8] [10] sr (Dc m (Ea (A7 _ _) sr (by rw[Ab (sG h2)];exact Jq (sG h2)) Jr))
 have aq:=sG h2
 rw[I (sG h2)];rw[Ab aq]at aa;subst aa;replace i:=i aq;refine J (Y [1,4,11,39] [4,10,11] sr ?_)
 refine A1 (λh3=>?_) λh3=>?_
 .have j:=sG h3
  rw[Ab j,Ab j];refine Au 5 sr (Dw hG i func87 ?_);refine Ak [1,10,11] [10,11] sR (A5 [50] sr ?_)
  refine A1 (λh4=>?_) λh4=>?_
  .exact Y [8] [10] sr (Dc m (Ea (A7 _ _) sr (Jq (sG h4)) Jr))
  have ai:=sG h4
  rw[Ab ai]at ab;subst ab;rw[ai];refine Y [1,11] [10,11] sR (Y [] [10] sR (A5 [8] sr ?_));exact Dc m (Ea (A7 _ _) sr (l _ _ _ rfl rfl) (λk o hk=>B2 gt hk))
 have j:=sG h3
 rw[I j,I j];refine Y [1,11] [10,11] sR (Y [] [10] sR (A5 [8] sr ?_));exact Dc m (Ea (A7 _ _) sr (l _ _ _ rfl rfl) (λk o hk=>B2 gt hk))
def A3r:it0.small:=⟨by decide,⟨by decide,λs h=>by cases h⟩,⟨by decide,λs h=>by cases h⟩,by decide,by decide⟩
def Aw9{l:List It}(h:∀it∈l,it.small)(id:Int):(Ms (Kk l id)).small:=by
 cases e:Kk l id with
 |none=>exact A3r
 |some x=>exact h x (Sq e)
def Aje(d:Dl)(s:Se):It:=Ms (Kk d.items s.sh)
def Zd(d:Dl)(s:Se)(e:Ev):Te:=if s.t.pend=s.sh then Ac8 d s (Q9 (Aje d s) e.an).1 else s.t
def At3(d:Dl)(s:Se)(e:Ev):Int:=if(Zd d s e).stop≠0 then(A9f d.ess (s.ans++[e.an])).getD 0 else if s.t.pend=s.sh then(Zd d s e).pend else s.sh
def Aas(d:Dl)(s:Se)(e:Ev):Se:={st:=s.st,us:=Pf s e.time,la:=s.la,sh:=At3 d s e,t:=Zd d s e,ans:=s.ans++[e.an],inc:=s.inc}
def Xj(d:Dl)(s:Se)(e:Ev):Int:=
 if s.st≠1 then 8 else if Sl d s<Pf s e.time then 15 else if s.sh=0 then 21 else if e.an.item≠s.sh then 11
 else if Aes (Aje d s) e.an≠0 then Aes (Aje d s) e.an else if s.t.pend=s.sh then At2 d s (Aje d s) e.an else 0
def Axa(hS:Mr)(d:Dl)(s:Se)(e:Ev)(v aq iq:Nat)(hd:DlOk d)(ha:e.an.small)(h:AdP d.p d.pool)(ht:teOk s.t)(hw:Ks s.t.w 998)(a0:s.t.steps.length<=900)(bg:s.ans.length<=1000):
  U5 gv prog 49 [d.v,.bp 10 v 12 0 0,e.v] (Ajd s v aq iq) (evR (Xj d s e) v (Aas d s e)):=by
 have au:=Aw9 hd.is s.sh;have ay:=Ac7 s e.time;have ai:=Ai9 d s;have av:=Aja d.items s.sh hd.il;have aj:=Ac4 hS (Ms (Kk d.items s.sh)) e.an au ha;have am:=Atx e.an ha.ch;have ao:=A3m d.ess (s.ans++[e.an]) hd.el;have ab:=Aw8 hS d {s with ans:=s.ans++[e.an],us:=Pf s e.time} (Ms (Kk d.items s.sh)) e.an v au ha h ht hw a0;have e1:s.st≠1->Xj d s e=8:=λa=>by unfold Xj;rw[Ab a]
 have e2:s.st=1->Sl d s<Pf s e.time->Xj d s e=15:=λa b=>by unfold Xj;rw[I Gi,Ab b]
 have e3:s.st=1->¬Sl d s<Pf s e.time->s.sh=0->Xj d s e=21:=λa b c=>by unfold Xj;rw[I Gi,I b,Ab c]
 have e4:s.st=1->¬Sl d s<Pf s e.time->¬s.sh=0->e.an.item≠s.sh->Xj d s e=11:=λa b c f=>by unfold Xj;rw[I Gi,I b,I c,Ab f]
 have e5:s.st=1->¬Sl d s<Pf s e.time->¬s.sh=0->e.an.item=s.sh->Xj d s e=if Aes (Aje d s) e.an≠0 then Aes (Aje d s) e.an else if s.t.pend=s.sh then At2 d s (Aje d s) e.an else 0:=λa b c f=>by unfold Xj;rw[I Gi,I b,I c,I Gi]
 have hI:Aje d s=Ms (Kk d.items s.sh):=rfl;rw[hI]at e5;have t1:s.t.pend=s.sh->Zd d s e=Ac8 d s (Q9 (Ms (Kk d.items s.sh)) e.an).1:=λa=>by unfold Zd;rw[Ab a];rfl
 have t0:¬s.t.pend=s.sh->Zd d s e=s.t:=λa=>by unfold Zd;rw[I a]
 have ah:∀(x:Te)(z:Int),Zd d s e=x->At3 d s e=z->(Aas d s e).v=V.agg [.i s.st,.i (Pf s e.time),.i s.la,.i z,.ro 1 (Ap x.elig),.ro 2 (A9 x.steps),.i x.pend,.ro 1 (B9 x.w),.int .u64 x.draw,.i x.stop,.ro 5 (Hx (s.ans++[e.an])),.ro 4 (Fa s.inc)]:=λx z a b=>by
  subst a b;rfl
 have ak:Zd d s e≠Zd d s e\/(Zd d s e).stop≠0->At3 d s e=(A9f d.ess (s.ans++[e.an])).getD 0:=λa=>by unfold At3;rw[Ab (a.resolve_left (λn=>n rfl))]
 have a5:(Zd d s e).stop=0->s.t.pend=s.sh->At3 d s e=(Zd d s e).pend:=λa b=>by unfold At3;rw[I (by simp[a]),Ab b]
 have a4:(Zd d s e).stop=0->¬s.t.pend=s.sh->At3 d s e=s.sh:=λa b=>by unfold At3;rw[I (by simp[a]),I b]
 have aw:(Bi2 d {s with ans:=s.ans++[e.an],us:=Pf s e.time} (Ms (Kk d.items s.sh)) e.an).v=V.agg [.i s.st,.i (Pf s e.time),.i s.la,.i (Ac8 d s (Q9 (Ms (Kk d.items s.sh)) e.an).1).pend,.ro 1 (Ap (Ac8 d s (Q9 (Ms (Kk d.items s.sh)) e.an).1).elig),.ro 2 (A9 (Ac8 d s (Q9 (Ms (Kk d.items s.sh)) e.an).1).steps),.i (Ac8 d s (Q9 (Ms (Kk d.items s.sh)) e.an).1).pend,.ro 1 (B9 (Ac8 d s (Q9 (Ms (Kk d.items s.sh)) e.an).1).w),.int .u64 (Ac8 d s (Q9 (Ms (Kk d.items s.sh)) e.an).1).draw,.i (Ac8 d s (Q9 (Ms (Kk d.items s.sh)) e.an).1).stop,.ro 5 (Hx (s.ans++[e.an])),.ro 4 (Fa s.inc)]:=rfl;change U5 _ _ _ _ [(10,⟨v,12,55,[V.agg [.i s.st,.i (Pf s e.time),.i s.la,.i s.sh,.ro 1 (Ap s.t.elig),.ro 2 (A9 s.t.steps),.i s.t.pend,.ro 1 (B9 s.t.w),.int .u64 s.t.draw,.i s.t.stop,.ro 5 (Hx (s.ans++[e.an])),.ro 4 (Fa s.inc)]]⟩)] (evR (At2 d s (Ms (Kk d.items s.sh)) e.an) v _)at ab;unfold evR at ab;rw[aw]at ab;clear aw hI;generalize At2 d s (Ms (Kk d.items s.sh)) e.an=rE,Ac8 d s (Q9 (Ms (Kk d.items s.sh)) e.an).1=rT,bd:Aes (Ms (Kk d.items s.sh)) e.an=ve at*;generalize(A9f d.ess (s.ans++[e.an])).getD 0=un at*;have y1:=λx:Te=>Ac x.elig
 have y2:=λx:Te=>A8 x.steps
 have y3:=λx:Te=>Bx x.w
 have az:Hx s.ans++[V.agg [.i e.an.item,.ro 1 (Ap e.an.ch),.i e.an.val,.str e.an.txt,.bool e.an.om]]=Hx (s.ans++[e.an]):=by simp[Hx,An.v]
 have m:=Ft (s.ans++[e.an]);have ar:s.ans.length+1<=maxLen/\(s.ans.length+1)*64<=140737488355328:=⟨Ae (show s.ans.length+1<=1001 by omega) dc,by omega⟩;generalize Ms (Kk d.items s.sh)=it,(Kk d.items s.sh).isSome=fs at*;have k1:=C9 it.opts;have k2:=Ac it.ch;have k3:=C9 it.txts;have k4:=Ac it.ass;unfold Ajd seC;rw[(vIt it)]at av aj ab;rw[(vAn e.an)]at aj am ab;rw[(vEv e)];have i5:=Ac e.an.ch;generalize Ap e.an.ch=hv at*;have ag:=ah s.t;have ax:=vDl d;rw[(vSe s)]at ay ai;rw[ax]at ai ab;rw[ax];have d0:=Dm d.p.rules;have d1:=Ac d.p.g.pts;have d2:=Ac d.p.g.pri;have d3:=A8 d.p.en;have d4:=Af d.p.var.num.mag;have d5:=Af d.p.var.den;have d6:=Af d.p.lvl.num.mag;have d7:=Af d.p.lvl.den;have d8:=Af d.p.rate.num.mag;have d9:=Af d.p.rate.den;have ae:=Cw d.pool;have aa:=Ic d.items;have ad:=Ac d.ess;have af:=A8 d.uses;generalize Hw d.p.rules=rv,Ap d.p.g.pts=pt,Ap d.p.g.pri=pr,A9 d.p.en=ev,Az d.p.var.num.mag=vm,Az d.p.var.den=vd,Az d.p.lvl.num.mag=lm,Az d.p.lvl.den=ld,Az d.p.rate.num.mag=rm,Az d.p.rate.den=rd at*;have a9:=Er d.pool;have bc:=I5 d.items;have be:=A0 d.ess;generalize C7 d.pool=lv,Od d.items=bf,Ap d.ess=bi,A9 d.uses=uv at*;have z1:=Ac s.t.elig;have z2:=A8 s.t.steps;have z3:=Bx s.t.w;have z4:=Ft s.ans;have z5:=Et s.inc;have y:=Io s.ans;have u:=Gv s.inc;generalize Ap s.t.elig=ti,A9 s.t.steps=ts,B9 s.t.w=tw,Hx s.ans=bb,Fa s.inc=bh at*;have a6:=Fm z4;refine Ij func49 λw0 N0 j hG=>?_;refine Y [1,3,5] [3,5,10,73,85] sr (Bq 73 [1,3,5] [3,5,10,85] C1 (J (A5 [16] sr ?_)))
 refine A1 (λh1=>?_) λh1=>?_
 .refine Y [6] [10,85] sr ?_;exact Dc j (Ea (A7 _ _) sr (by rw[e1 (sG h1)];exact Jq dc) Jr)
 have s1:=sG h1
 refine J (Ii [5] Jt ?_);refine Fk [0,2,3,1,2,1,4,1] sr sr ?_
 refine Hn (i:=5) (ks:=[]) kr rfl sm (Jj sm ay func88 rfl kr sr rfl rfl sr C1 rfl sr) ?_;refine Fk [6,1] sr sr ?_
 refine Gl [1,3,5,7] [3,5,10,85] kr sr ?_;refine J (J (Ii [5] Jt ?_));refine Fk [0,1,2,2,1,1,4,1] sr sr ?_
 refine Hn (i:=5) (ks:=[]) kr rfl sm (Jj sm ai func89 rfl kr sr rfl rfl sr C1 rfl sr) ?_;refine Fk [6,1] sr sr ?_
 refine Gl [1,3,5,7,29] [3,5,10,85] kr sr ?_
 refine A1 (λh2=>?_) λh2=>?_
 .refine Y [6] [10,85] sr ?_;exact Dc j (Ea (A7 _ _) sr (by rw[e2 s1 (sG h2)];exact Jq dc) Jr)
 have s2:¬Sl d s<Pf s e.time:=sG h2
 refine J (Y [1,3,5,7,34] [3,5,10,85] sr ?_)
 refine A1 (λh3=>?_) λh3=>?_
 .refine Y [6] [10,85] sr ?_;exact Dc j (Ea (A7 _ _) sr (by rw[e3 s1 s2 (sG h3)];exact Jq dc) Jr)
 have s3:=sG h3
 refine J (I3 [0,2,3,3,2,1,6,2] [1,3,5,7,42] [3,5,10,85] sr sr ?_)
 refine A1 (λh4=>?_) λh4=>?_
 .refine Y [6] [10,85] sr ?_;exact Dc j (Ea (A7 _ _) sr (by rw[e4 s1 s2 s3 (sG h4)];exact Jq dc) Jr)
 have s4:=sG h4
 have l:=e5 s1 s2 s3 s4;refine J (H0 [(0,[]),(2,[]),(3,[]),(4,[]),(1,[8]),(5,[8]),(6,[]),(7,[]),(8,[]),(9,[]),(10,[]),(11,[]),(12,[])] Jt kr ?_);refine B8 6 sr ?_;refine B1 (λhg=>av) func61 ?_;refine C5 [1,3,5,7,8] [3,5,8,10,85] sr ?_;refine J (Au 3 sr ?_);refine Jk [1,3,5,7,8,10] [3,5,8,10,85] hG aj func90 ?_;refine A5 [58] sr ?_
 refine A1 (λh5=>?_) λh5=>?_
 .refine Y [6] [10,85] sr ?_;exact Dc j (Ea (A7 _ _) sr (by rw[l,Ab (sG h5)];exact Jq (sG h5)) Jr)
 rw[I (sG h5)]at l;refine J (H0 [(0,[]),(1,[]),(2,[]),(3,[]),(5,[]),(4,[68]),(6,[68]),(7,[]),(8,[]),(9,[]),(10,[]),(11,[]),(12,[])] Jt kr ?_);refine B8 7 sr ?_;refine B1 (λhg=>am) func85 ?_;refine C5 [1,3,5,7,8] [3,5,8,10,85] (by simp[ar,y]<;>rfl) ?_;rw[az];refine Bq 85 [1,3,5,7,8] [3,5,8,10] (by simp[m]<;>rfl) (Y [1,3,5,8] [3,5,8,10] sr (J (I3 [0,4,5,3,4,1,8,2] [1,3,5,8,85] [3,5,8,10] sr sr ?_)))
 refine A1 (λh6=>?_) λh6=>?_
 .have s6:=sG h6
  rw[Ab s6]at l;refine Au 5 sr ?_;refine Pq hG ab func91 rfl kr rfl rfl rfl sr (λk o hk=>B2 gt hk) ?_;rintro r a7 ba⟨rfl,hh⟩a8
  rcases hh with⟨al,rfl⟩|⟨a3,rfl⟩
  .refine⟨_,by simp[Lr]<;>rfl,?_⟩;refine Ak [1,3,11] [3] sr ?_;refine A5 [93] sr ?_;refine Ek ?_;refine Y [6] [] sr ?_;exact Dc j (Ea (A7 _ _) sr (by rw[l];exact Jq al) Jr)
  refine⟨_,by simp[Lr]<;>rfl,?_⟩;subst a3;refine Ak [1,3,11] [3,10] sr ?_;refine A5 [93] sr ?_;refine Ce (J (Y [1,3,100] [3,10] sr ?_))
  refine A1 (λh8=>?_) λh8=>?_
  .refine H6 [0,2,3,3,2,1,6,5] sr ?_;refine B8 7 sr ?_;refine Rg hG (λhg=>ao) func92 rfl kr rfl rfl sr rfl rfl sr sM sr ?_;refine C5 [] [10] sr ?_;refine A5 [6] sr ?_;exact Dc j (Ea (A7 _ _) sr (by rw[l];exact Aar (ah _ _ (t1 s6) (ak (.inr (by rw[t1 s6];simpa using h8)))) rfl rfl) (λk o hk=>B2 gt hk))
  refine Y [6] [10] sr ?_;exact Dc j (Ea (A7 _ _) sr (by rw[l];exact Aar (ah _ _ (t1 s6) ((a5 (by rw[t1 s6];simpa using h8) s6).trans (by rw[t1 s6]))) rfl rfl) (λk o hk=>B2 gt hk))
 have s6:=sG h6
 rw[I s6]at l;refine J (Y [1,3,100] [3,10] sr ?_)
 refine A1 (λh9=>?_) λh9=>?_
 .refine H6 [0,2,3,3,2,1,6,5] sr ?_;refine B8 7 sr ?_;refine Rg hG (λhg=>ao) func92 rfl kr rfl rfl sr rfl rfl sr sM sr ?_;refine C5 [] [10] sr ?_;refine A5 [6] sr ?_;exact Dc j (Ea (A7 _ _) sr (by rw[l];exact Aar (ag _ (t0 s6) (ak (.inr (by rw[t0 s6];simpa using h9)))) rfl rfl) (λk o hk=>B2 gt hk))
 refine Y [6] [10] sr ?_;exact Dc j (Ea (A7 _ _) sr (by rw[l];exact Aar (ag _ (t0 s6) (a4 (by rw[t0 s6];simpa using h9) s6)) rfl rfl) (λk o hk=>B2 gt hk))
def L8:Se:=⟨0,0,0,0,Y9,[],[]⟩
def seR(e:Int)(s:Se):V:=.tup [(if e=0 then s else L8).v,.i e]
def Mt(h:e≠0)(s:Se):Bh (.tup [.agg [.i 0,.i 0,.i 0,.i 0,.nils,.nils,.i 0,.nils,.int .u64 0,.i 0,.nils,.nils],.i e]) (seR e s):=by
 unfold seR;rw[I h];have r:=λx:V=>Bh.refl x
 exact Bh.tup (.cons (Bh.agg (.cons (r _) (.cons (r _) (.cons (r _) (.cons (r _) (.cons (Bh.nils 1) (.cons (Bh.nils 2) (.cons (r _) (.cons (Bh.nils 1) (.cons (r _) (.cons (r _) (.cons (Bh.nils 5) (.cons (Bh.nils 4) .nil))))))))))))) (.cons (r _) .nil))
def Rk{s:Se}{x:V}(h:s.v=x):Bh (.tup [x,.i 0]) (seR 0 s):=by
 unfold seR;rw[Ab rfl,h];exact Bh.refl _
def swE(d:Dl)(t:Te)(s:Se)(e:Ev):Int:=
 if e.kind=1 then A9l d t s else if e.kind=2 then Xj d s e else if e.kind=3 then A9m s else if e.kind=4 then(if s.st≠2 then 8 else 0)else if e.kind=5 then A9o s e else if e.kind=6 then A9n s else 0
def swS(d:Dl)(t:Te)(s:Se)(e:Ev):Se:=
 if e.kind=1 then Aaq d t s else if e.kind=2 then Aas d s e else if e.kind=3 then Xi d s e.time else if e.kind=4 then {s with st:=1}else if e.kind=5 then Zc d s e else if e.kind=6 then Zb d s e.time else s
def J8(d:Dl)(t:Te)(s:Se)(e:Ev):Int:=if e.kind<1\/6<e.kind then 1 else if Ai8 s e.time=false then 15 else swE d t s e
def Oe(d:Dl)(t:Te)(s:Se)(e:Ev):Se:={swS d t s e with la:=e.time}
def Afp(hS:Mr)(d:Dl)(t:Te)(s:Se)(e:Ev)(hd:DlOk d)(ha:e.an.small)(h:AdP d.p d.pool)(ht:teOk t)(hw:Ks t.w 1000)(hs:SeOk s)(az:Ks s.t.w 998)(a0:s.t.steps.length<=900):
  Jp gv prog 24 [d.v,t.v,s.v,e.v] (λr=>r=seR (J8 d t s e) (Oe d t s e)):=by
 refine Jp.relaxP ?_;have ao:=A3i s e.time;have ai:=A3n s hs;have ab:=λv aq iq=>A3p d t s v aq iq h ht hw
 have aa:=λv aq iq=>Axa hS d s e v aq iq hd ha h hs.t az a0 hs.al
 have ae:=λv aq iq=>A3q d s e.time v aq iq
 have ad:=λv aq iq=>Aw7 d s e v aq iq hs.il
 have ag:=λv aq iq=>Aw6 d s e.time v aq iq hs.t
 have e0:(e.kind<1\/6<e.kind)->J8 d t s e=1:=λx=>by unfold J8;rw[Ab x]
 have e1:¬(e.kind<1\/6<e.kind)->Ai8 s e.time=false->J8 d t s e=15:=λx y=>by unfold J8;rw[I x,Ab y]
 have a8:¬(e.kind<1\/6<e.kind)->¬Ai8 s e.time=false->e.kind=1->J8 d t s e=A9l d t s:=λx y c=>by unfold J8 swE;rw[I x,I y,Ab c]
 have bo:¬(e.kind<1\/6<e.kind)->¬Ai8 s e.time=false->e.kind≠1->e.kind=2->J8 d t s e=Xj d s e:=λx y c f=>by unfold J8 swE;rw[I x,I y,I c,Ab f]
 have a7:¬(e.kind<1\/6<e.kind)->¬Ai8 s e.time=false->e.kind≠1->e.kind≠2->e.kind=3->J8 d t s e=A9m s:=λx y c f u=>by unfold J8 swE;rw[I x,I y,I c,I f,Ab u]
 have br:¬(e.kind<1\/6<e.kind)->¬Ai8 s e.time=false->e.kind≠1->e.kind≠2->e.kind≠3->e.kind=4->J8 d t s e=(if s.st≠2 then 8 else 0):=λx y c f u a4=>by unfold J8 swE;rw[I x,I y,I c,I f,I u,Ab a4]
 have bh:¬(e.kind<1\/6<e.kind)->¬Ai8 s e.time=false->e.kind≠1->e.kind≠2->e.kind≠3->e.kind≠4->e.kind=5->J8 d t s e=A9o s e:=λx y c f u a4 a5=>by unfold J8 swE;rw[I x,I y,I c,I f,I u,I a4,Ab a5]
 have a9:¬(e.kind<1\/6<e.kind)->¬Ai8 s e.time=false->e.kind≠1->e.kind≠2->e.kind≠3->e.kind≠4->e.kind≠5->e.kind=6->J8 d t s e=A9n s:=λx y c f u a4 a5 a6=>by unfold J8 swE;rw[I x,I y,I c,I f,I u,I a4,I a5,Ab a6]
 have bk:e.kind=1->(Oe d t s e).v=V.agg [.i (Aaq d t s).st,.i (Aaq d t s).us,.i e.time,.i (Aaq d t s).sh,.ro 1 (Ap (Aaq d t s).t.elig),.ro 2 (A9 (Aaq d t s).t.steps),.i (Aaq d t s).t.pend,.ro 1 (B9 (Aaq d t s).t.w),.int .u64 (Aaq d t s).t.draw,.i (Aaq d t s).t.stop,.ro 5 (Hx (Aaq d t s).ans),.ro 4 (Fa (Aaq d t s).inc)]:=λc=>by unfold Oe swS;rw[Ab c];rfl
 have be:e.kind≠1->e.kind=2->(Oe d t s e).v=V.agg [.i (Aas d s e).st,.i (Aas d s e).us,.i e.time,.i (Aas d s e).sh,.ro 1 (Ap (Aas d s e).t.elig),.ro 2 (A9 (Aas d s e).t.steps),.i (Aas d s e).t.pend,.ro 1 (B9 (Aas d s e).t.w),.int .u64 (Aas d s e).t.draw,.i (Aas d s e).t.stop,.ro 5 (Hx (Aas d s e).ans),.ro 4 (Fa (Aas d s e).inc)]:=λc f=>by unfold Oe swS;rw[I c,Ab f];rfl
 have bd:e.kind≠1->e.kind≠2->e.kind=3->(Oe d t s e).v=V.agg [.i (Xi d s e.time).st,.i (Xi d s e.time).us,.i e.time,.i (Xi d s e.time).sh,.ro 1 (Ap (Xi d s e.time).t.elig),.ro 2 (A9 (Xi d s e.time).t.steps),.i (Xi d s e.time).t.pend,.ro 1 (B9 (Xi d s e.time).t.w),.int .u64 (Xi d s e.time).t.draw,.i (Xi d s e.time).t.stop,.ro 5 (Hx (Xi d s e.time).ans),.ro 4 (Fa (Xi d s e.time).inc)]:=λc f u=>by unfold Oe swS;rw[I c,I f,Ab u];rfl
 have bj:e.kind≠1->e.kind≠2->e.kind≠3->e.kind=4->(Oe d t s e).v=V.agg [.i 1,.i s.us,.i e.time,.i s.sh,.ro 1 (Ap s.t.elig),.ro 2 (A9 s.t.steps),.i s.t.pend,.ro 1 (B9 s.t.w),.int .u64 s.t.draw,.i s.t.stop,.ro 5 (Hx s.ans),.ro 4 (Fa s.inc)]:=λc f u a4=>by unfold Oe swS;rw[I c,I f,I u,Ab a4];rfl
 have bf:e.kind≠1->e.kind≠2->e.kind≠3->e.kind≠4->e.kind=5->(Oe d t s e).v=V.agg [.i (Zc d s e).st,.i (Zc d s e).us,.i e.time,.i (Zc d s e).sh,.ro 1 (Ap (Zc d s e).t.elig),.ro 2 (A9 (Zc d s e).t.steps),.i (Zc d s e).t.pend,.ro 1 (B9 (Zc d s e).t.w),.int .u64 (Zc d s e).t.draw,.i (Zc d s e).t.stop,.ro 5 (Hx (Zc d s e).ans),.ro 4 (Fa (Zc d s e).inc)]:=λc f u a4 a5=>by unfold Oe swS;rw[I c,I f,I u,I a4,Ab a5];rfl
 have bg:e.kind≠1->e.kind≠2->e.kind≠3->e.kind≠4->e.kind≠5->e.kind=6->(Oe d t s e).v=V.agg [.i (Zb d s e.time).st,.i (Zb d s e.time).us,.i e.time,.i (Zb d s e.time).sh,.ro 1 (Ap (Zb d s e.time).t.elig),.ro 2 (A9 (Zb d s e.time).t.steps),.i (Zb d s e.time).t.pend,.ro 1 (B9 (Zb d s e.time).t.w),.int .u64 (Zb d s e.time).t.draw,.i (Zb d s e.time).t.stop,.ro 5 (Hx (Zb d s e.time).ans),.ro 4 (Fa (Zb d s e.time).inc)]:=λc f u a4 a5 a6=>by unfold Oe swS;rw[I c,I f,I u,I a4,I a5,Ab a6];rfl
 generalize A9l d t s=E1,Aaq d t s=S1,Xj d s e=E2,Aas d s e=S2,A9m s=E3,Xi d s e.time=S3,A9o s e=E5,Zc d s e=S5,A9n s=E6,Zb d s e.time=S6,J8 d t s e=PE,Oe d t s e=PS at*;have m:∀x:Se,x.v=V.agg [.i x.st,.i x.us,.i x.la,.i x.sh,.ro 1 (Ap x.t.elig),.ro 2 (A9 x.t.steps),.i x.t.pend,.ro 1 (B9 x.t.w),.int .u64 x.t.draw,.i x.t.stop,.ro 5 (Hx x.ans),.ro 4 (Fa x.inc)]:=λx=>rfl
 unfold evR Ajd seC at ab aa ae ad ag;unfold seC at ai;rw[m S1]at ab;rw[m S2]at aa;rw[m S3]at ae;rw[m S5]at ad;rw[m S6]at ag;have y1:=λx:Te=>Ac x.elig
 have y2:=λx:Te=>A8 x.steps
 have y3:=λx:Te=>Bx x.w
 have y4:=λx:Se=>Ft x.ans
 have y5:=λx:Se=>Et x.inc
 rw[(vTe t)]at ab|-;rw[(vEv e)]at aa ad|-;have i5:=Ac e.an.ch;have x1:=Ac t.elig;have x2:=A8 t.steps;have x3:=Bx t.w;generalize Ap e.an.ch=hv,Ap t.elig=xi,A9 t.steps=xs,B9 t.w=xw at*;rw[(vSe s)]at ao ai|-;rw[(vDl d)]at ab aa ae ad ag|-;have d0:=Dm d.p.rules;have d1:=Ac d.p.g.pts;have d2:=Ac d.p.g.pri;have d3:=A8 d.p.en;have d4:=Af d.p.var.num.mag;have d5:=Af d.p.var.den;have d6:=Af d.p.lvl.num.mag;have d7:=Af d.p.lvl.den;have d8:=Af d.p.rate.num.mag;have d9:=Af d.p.rate.den;have bl:=Cw d.pool;have ay:=Ic d.items;have bc:=Ac d.ess;have bs:=A8 d.uses;generalize Hw d.p.rules=rv,Ap d.p.g.pts=pt,Ap d.p.g.pri=pr,A9 d.p.en=ev,Az d.p.var.num.mag=vm,Az d.p.var.den=vd,Az d.p.lvl.num.mag=lm,Az d.p.lvl.den=ld,Az d.p.rate.num.mag=rm,Az d.p.rate.den=rd at*;have bu:=Er d.pool;have bx:=I5 d.items;have bz:=A0 d.ess;generalize C7 d.pool=lv,Od d.items=b0,Ap d.ess=b2,A9 d.uses=uv at*;have z1:=Ac s.t.elig;have z2:=A8 s.t.steps;have z3:=Bx s.t.w;have z4:=Ft s.ans;have z5:=Et s.inc;have ax:=Io s.ans;have au:=Gv s.inc;generalize Ap s.t.elig=ti,A9 s.t.steps=ts,B9 s.t.w=tw,Hx s.ans=bw,Fa s.inc=b1 at*;have bp:=Fm z4;have bq:=Fm z5;refine Bp func24 λw0 N0 hG=>?_;refine Y [4,5,6,7,8] [4,5,6,7,8] sr (J (Y [4,5,6,7,8,19] [4,5,6,7,8] sr ?_))
 refine A1 (λh1=>?_) λh1=>?_
 .exact Y [8,9] [8] sr (Aj (Aa sr (by rw[e0 (sG h1)];exact Mt dc _)))
 have kk:¬(e.kind<1\/6<e.kind):=sG h1
 refine J (Au 3 sr ?_);refine Ge [4,5,6,7,8,25] [4,5,6,7,8] ao func46 ?_
 refine A1 (λh2=>?_) λh2=>?_
 .exact Y [8,9] [8] sr (Aj (Aa sr (by rw[e1 kk (sG h2)];exact Mt dc _)))
 have tt:¬Ai8 s e.time=false:=sG h2
 refine Au 1 sr ?_;refine Dx ai func47 rfl kr rfl rfl rfl sr (λk o hk=>by cases hk) ?_ λch bm=>bm.elim;rintro r n bv⟨q1,q2,rfl,rfl⟩bt;refine⟨λk hk=>rfl,_,by simp<;>rfl,?_⟩;refine Ak [4,5,6,7,8,10] [4,5,6,7,8,10,73,85] sr (Y [4,5,6,7,8,10,11] [4,5,6,7,8,10,73,85] sr (J (Y [4,5,6,7,8,10,11,30] [4,5,6,7,8,10,73,85] sr (Ad (Y [4,5,6,7,8,10,11,30,31] [4,5,6,7,8,10,73,85] sr ?_)))))
 refine Co (λh3=>?_) λh3=>?_
 .have k1:e.kind=1:=sG h3
  refine Ik 2 sr ?_;refine Pq hG (ab _ q1 q2) func48 rfl kr rfl rfl rfl sr (λk o hk=>Fs C1 gt gt hk) ?_;rintro r n af⟨rfl,hh⟩z;have l:=a8 kk tt k1
  rcases hh with⟨a,rfl⟩|⟨i,rfl⟩
  .refine⟨_,by simp[Lr]<;>rfl,?_⟩;refine Ak [8,11] [8] sr (J (Y [8,11,65] [8] sr ?_));refine Ek ?_;exact Y [8,9] [8] sr (Aj (Aa sr (by rw[l];exact Mt a _)))
  subst i;refine⟨_,by simp[Lr]<;>rfl,?_⟩;refine Ak [7,8,10,11] [7,8,10] sr (J (Y [7,8,10,11,65] [7,8,10] sr ?_));refine Ce (Y [8,10] [8,10] sr ?_);exact Y [8,9] [8] sr (Aj (Aa sr (by rw[l];exact Rk (bk k1))))
 .have k1:=sG h3
  refine Y [4,6,7,8,10,11,30,36] [4,6,7,8,10,73,85] sr ?_
  refine Co (λh5=>?_) λh5=>?_
  .have k2:=sG h5
   refine Ik 2 sr ?_;refine Pq hG (aa _ q1 q2) func49 rfl kr rfl rfl rfl sr (λk o hk=>Fs C1 gt gt hk) ?_;rintro r n af⟨rfl,hh⟩z;have l:=bo kk tt k1 k2
   rcases hh with⟨a,rfl⟩|⟨i,rfl⟩
   .refine⟨_,by simp[Lr]<;>rfl,?_⟩;refine Ak [8,11] [8] sr (J (Y [8,11,65] [8] sr ?_));refine Ek ?_;exact Y [8,9] [8] sr (Aj (Aa sr (by rw[l];exact Mt a _)))
   subst i;refine⟨_,by simp[Lr]<;>rfl,?_⟩;refine Ak [7,8,10,11] [7,8,10] sr (J (Y [7,8,10,11,65] [7,8,10] sr ?_));refine Ce (Y [8,10] [8,10] sr ?_);exact Y [8,9] [8] sr (Aj (Aa sr (by rw[l];exact Rk (be k1 k2))))
  .have k2:=sG h5
   refine Y [4,6,7,8,10,11,30,41] [4,6,7,8,10,73,85] sr ?_
   refine Co (λh7=>?_) λh7=>?_
   .have k3:=sG h7
    refine Ik 3 sr ?_;refine Pq hG (ae _ q1 q2) func50 rfl kr rfl rfl rfl sr (λk o hk=>Fs C1 gt gt hk) ?_;rintro r n af⟨rfl,hh⟩z;have l:=a7 kk tt k1 k2 k3
    rcases hh with⟨a,rfl⟩|⟨i,rfl⟩
    .refine⟨_,by simp[Lr]<;>rfl,?_⟩;refine Ak [8,11] [8] sr (J (Y [8,11,65] [8] sr ?_));refine Ek ?_;exact Y [8,9] [8] sr (Aj (Aa sr (by rw[l];exact Mt a _)))
    subst i;refine⟨_,by simp[Lr]<;>rfl,?_⟩;refine Ak [7,8,10,11] [7,8,10] sr (J (Y [7,8,10,11,65] [7,8,10] sr ?_));refine Ce (Y [8,10] [8,10] sr ?_);exact Y [8,9] [8] sr (Aj (Aa sr (by rw[l];exact Rk (bd k1 k2 k3))))
   .have k3:=sG h7
    refine Y [4,6,7,8,10,11,30,47] [4,6,7,8,10,73,85] sr ?_
    refine Co (λh9=>?_) λh9=>?_
    .have k4:=sG h9
     have l:=br kk tt k1 k2 k3 k4;refine J (Y [7,8,10,11,51] [7,8,10,73,85] sr ?_)
     refine A1 (λak=>?_) λak=>?_
     .refine A6 [7,8,10,11] [7,8,10] sr (A6 [7,8,10,11] [7,8,10] sr (J (Y [7,8,10,11,65] [7,8,10] sr ?_)))
      refine Ek ?_
      .exact Y [8,9] [8] sr (Aj (Aa sr (by rw[l,Ab (sG ak)];exact Mt dc _)))
     refine A6 [7,8,10,11] [7,8,10,73,85] sr ?_;rw[I (sG ak)]at l;refine Bq 85 [7,8,10,11] [7,8,10,73] C1 (Bq 73 [7,8,10,11] [7,8,10] C1 (J (Y [7,8,10,11,65] [7,8,10] sr ?_)));refine Ce (Y [8,10] [8,10] sr ?_);exact Y [8,9] [8] sr (Aj (Aa sr (by rw[l];exact Rk (bj k1 k2 k3 k4))))
    .have k4:=sG h9
     refine Y [4,7,8,10,11,30,53] [4,7,8,10,73,85] sr ?_
     refine Co (λah=>?_) λah=>?_
     .have k5:=sG ah
      refine Ik 2 sr ?_;refine Pq hG (ad _ q1 q2) func51 rfl kr rfl rfl rfl sr (λk o hk=>Fs C1 gt gt hk) ?_;rintro r n af⟨rfl,hh⟩z;have l:=bh kk tt k1 k2 k3 k4 k5
      rcases hh with⟨a,rfl⟩|⟨i,rfl⟩
      .refine⟨_,by simp[Lr]<;>rfl,?_⟩;refine Ak [8,11] [8] sr (J (Y [8,11,65] [8] sr ?_));refine Ek ?_;exact Y [8,9] [8] sr (Aj (Aa sr (by rw[l];exact Mt a _)))
      subst i;refine⟨_,by simp[Lr]<;>rfl,?_⟩;refine Ak [7,8,10,11] [7,8,10] sr (J (Y [7,8,10,11,65] [7,8,10] sr ?_));refine Ce (Y [8,10] [8,10] sr ?_);exact Y [8,9] [8] sr (Aj (Aa sr (by rw[l];exact Rk (bf k1 k2 k3 k4 k5))))
     .have k5:=sG ah
      refine Y [4,7,8,10,11,58] [4,7,8,10,73,85] sr ?_
      refine Lq rfl (λaj=>?_) (λaj=>absurd (show e.kind=6 by omega) (sG aj))
      .have k6:=sG aj
       refine Ik 3 sr ?_;refine Pq hG (ag _ q1 q2) func52 rfl kr rfl rfl rfl sr (λk o hk=>Fs C1 gt gt hk) ?_;rintro r n af⟨rfl,hh⟩z;have l:=a9 kk tt k1 k2 k3 k4 k5 k6
       rcases hh with⟨a,rfl⟩|⟨i,rfl⟩
       .refine⟨_,by simp[Lr]<;>rfl,?_⟩;refine Ak [8,11] [8] sr (J (Y [8,11,65] [8] sr ?_));refine Ek ?_;exact Y [8,9] [8] sr (Aj (Aa sr (by rw[l];exact Mt a _)))
       subst i;refine⟨_,by simp[Lr]<;>rfl,?_⟩;refine Ak [7,8,10,11] [7,8,10] sr (J (Y [7,8,10,11,65] [7,8,10] sr ?_));refine Ce (Y [8,10] [8,10] sr ?_);exact Y [8,9] [8] sr (Aj (Aa sr (by rw[l];exact Rk (bg k1 k2 k3 k4 k5 k6))))
structure SeB(n:Nat)(s:Se):Prop where
 t:teOk s.t
 w:Ks s.t.w (n+1)
 st:s.t.steps.length<=n
 al:s.ans.length<=n
 ac:∀a∈s.ans,a.small
 il:s.inc.length<=n
def SeB.ok{s:Se}(h:SeB n s)(hn:n<=800):SeOk s:=⟨h.t,Ae h.al om,h.ac,Ae h.il om⟩
def SeB.w998{s:Se}(h:SeB n s)(hn:n<=800):Ks s.t.w 998:=λx a=>Ae (h.w x a) om
def At4(m:Nat):Ks [] m:=λx a=>by cases a
def SeB.new:SeB 0 L8:=⟨⟨B5 _,B5 _,B5 _,At4 _⟩,At4 _,A2 _,A2 _,(λa c=>by cases c),A2 _⟩
def teB(n:Nat)(t:Te):Prop:=teOk t/\Ks t.w (n+1)/\t.steps.length<=n
def Azy{t:Te}(h:teB n t)(p d s:Int):teB n {t with pend:=p,draw:=d,stop:=s}:=⟨⟨h.1.el,h.1.sl,h.1.wl,h.1.wd⟩,h.2.1,h.2.2⟩
def Ajf{t:Te}(h:teB n t)(a:n<=m):teB m t:=⟨h.1,λx c=>Ae (h.2.1 x c) om,Ae h.2.2 a⟩
def At5{t:Te}(h:teB n t)(p:Po)(pool:List Pit):teB n (Apx p pool t):=by
 unfold Apx;split
 .exact h
 .exact Azy h _ _ t.stop
def Ap5{d:Dl}(h:J7 d=0)(a:DlOk d):AdP d.p d.pool/\teB 0 (Jn d)/\(Jn d).steps=[]:=by
 unfold J7 at h
 (repeat' split at h)<;>try omega
 have h2:Y4 d.p=0:=om;have e:Kh d.pool d.p.g.pts.length=0:=om;refine⟨⟨a.pok,h2,e,a.pl e⟩,?_,rfl⟩;have⟨j,c,p3⟩:=Atj (Aan h2).2.1;have i:(Rz (Pw d.p.g.pri)).length<=1000:=by rw[Agm,j];have:=(Kn (Aan h2).2.1).len;omega
 refine⟨⟨Ae (by show(Acf d.pool d.uses d.served d.p.rate.val d.p.slack).length<=d.pool.length;exact Amj _ _) (Ae (a.pl e) dc),B5 _,i,λx f=>Ae (Ac0 c x f) dc⟩,Ac0 c,A2 _⟩
def SeB.te{s:Se}(h:SeB n s):teB n s.t:=⟨h.t,h.w,h.st⟩
def SeB.mk'{s:Se}(h:teB n s.t)(c:s.ans.length<=n)(ac:∀a∈s.ans,a.small)(d:s.inc.length<=n):SeB n s:=⟨h.1,h.2.1,h.2.2,c,ac,d⟩
def Bi3{d:Dl}{s:Se}{e:Ev}(k:AdP d.p d.pool)(h:Xj d s e=0)(hs:SeB n s)(hn:n<=800):teB (n+1) (Zd d s e):=by
 unfold Zd;split
 .rename_i hp
  have c:At2 d s (Aje d s) e.an=0:=by
   unfold Xj at h
   (repeat' split at h)<;>first|exact h|omega
  unfold At2 at c
  have a:Apy d.p d.pool s.t (Q9 (Aje d s) e.an).1=0:=by
   (repeat' split at c)<;>first|omega
  have⟨j,g,i⟩:=A9p k a hs.t (Ae hs.st om) (n:=n+1) om hs.w;have f:teB (n+1) (Aao d.p d.pool s.t (Q9 (Aje d s) e.an).1):=⟨j,g,by rw[i];have:=hs.st;omega⟩
  unfold Ac8;split
  .exact At5 f _ _
  .exact f
 .exact Ajf hs.te (Nat.le_succ n)
def A9q{d:Dl}{t:Te}{s:Se}{e:Ev}(r:AdP d.p d.pool)(m:teB 0 t)(o:e.an.small)(h:J8 d t s e=0)(hs:SeB n s)(l:n<=800):SeB (n+1) (Oe d t s e):=by
 have k:swE d t s e=0:=by
  unfold J8 at h
  (repeat' split at h)<;>first|omega
 have i:=hs.al;have f:=hs.il;have c:=Ajf hs.te (Nat.le_succ n)
 have g:SeB (n+1) (swS d t s e):=by
  unfold swS
  split
  .exact SeB.mk' (At5 (Ajf m (B5 _)) _ _) (E9 i) hs.ac (E9 f)
  split
  .rename_i h1 h2;have u:Xj d s e=0:=by unfold swE at k;rwa[I h1,Ab h2]at k
   refine SeB.mk' (Bi3 r u hs l) (by show(s.ans++[e.an]).length<=n+1;simp;omega) (λa j=>?_) (E9 f)
   rcases Cc.1 j with j|j
   .exact hs.ac a j
   .rw[Bz.1 j];exact o
  split
  .exact SeB.mk' c (E9 i) hs.ac (E9 f)
  split
  .exact SeB.mk' c (E9 i) hs.ac (E9 f)
  split
  .exact SeB.mk' c (E9 i) hs.ac (by show(s.inc++[e.inc]).length<=n+1;simp;omega)
  split
  .refine SeB.mk' ?_ (E9 i) hs.ac (E9 f);show teB (n+1) (Uq s.t)
   unfold Uq;split
   .exact Azy c 0 s.t.draw 4
   .exact c
  .exact SeB.mk' c (E9 i) hs.ac (E9 f)
 exact⟨g.t,g.w,g.st,g.al,g.ac,g.il⟩
def V3(d:Dl)(s:Se)(e:Ev):Int:=if J7 d≠0 then J7 d else J8 d (Jn d) s e
def Axb(d:Dl)(s:Se)(e:Ev):Se:=Oe d (Jn d) s e
def A3s(hS:Mr)(d:Dl)(s:Se)(e:Ev)(z:DlOk d)(ha:e.an.small)(hs:SeOk s)(ae:Ks s.t.w 998)(af:s.t.steps.length<=900):
  Jp gv prog 25 [d.v,s.v,e.v] (λr=>r=seR (V3 d s e) (Axb d s e)):=by
 refine Jp.relaxP ?_;have f:=Aap hS d z;unfold teR at f;obtain⟨tt,i⟩:∃tt,tt=(if J7 d=0 then Jn d else Y9):=⟨_,rfl⟩;rw[<-i]at f
 have a:J7 d=0->Jp gv prog 24 [d.v,tt.v,s.v,e.v] (λr=>r=.tup [(if J8 d (Jn d) s e=0 then Oe d (Jn d) s e else L8).v,.i (J8 d (Jn d) s e)]):=λh=>by
  rw[i,Ab h];have⟨h1,h2,_⟩:=Ap5 h z;exact Afp hS d (Jn d) s e z ha h1 h2.1 (λx hx=>Ae (h2.2.1 x hx) dc) hs ae af
 have hE:J7 d≠0->V3 d s e=J7 d:=λh=>by unfold V3;rw[Ab h]
 have c:J7 d=0->V.tup [(if J8 d (Jn d) s e=0 then Oe d (Jn d) s e else L8).v,.i (J8 d (Jn d) s e)]=seR (V3 d s e) (Axb d s e):=λh=>by
  unfold V3 Axb seR;rw[show(if J7 d≠0 then J7 d else J8 d (Jn d) s e)=J8 d (Jn d) s e from I Gi]
 clear i;generalize J8 d (Jn d) s e=PE at*;generalize(if PE=0 then Oe d (Jn d) s e else L8)=PS,J7 d=DE,V3 d s e=AE at*;generalize Axb d s e=ah at*;have y1:=λx:Te=>Ac x.elig
 have y2:=λx:Te=>A8 x.steps
 have y3:=λx:Te=>Bx x.w
 have y4:=λx:Se=>Ft x.ans
 have y5:=λx:Se=>Et x.inc
 have ab:∀x:Te,x.v=.agg [.ro 1 (Ap x.elig),.ro 2 (A9 x.steps),.i x.pend,.ro 1 (B9 x.w),.int .u64 x.draw,.i x.stop]:=λx=>rfl
 have i5:=Ac e.an.ch;rw[ab]at f a;rw[(vSe PS)]at a c;rw[(vEv e)]at a|-;generalize Ap e.an.ch=hv at*;rw[(vSe s)]at a|-;rw[(vDl d)]at f a|-;have d0:=Dm d.p.rules;have d1:=Ac d.p.g.pts;have d2:=Ac d.p.g.pri;have d3:=A8 d.p.en;have d4:=Af d.p.var.num.mag;have d5:=Af d.p.var.den;have d6:=Af d.p.lvl.num.mag;have d7:=Af d.p.lvl.den;have d8:=Af d.p.rate.num.mag;have d9:=Af d.p.rate.den;have o:=Cw d.pool;have l:=Ic d.items;have u:=Ac d.ess;have n:=A8 d.uses;generalize Hw d.p.rules=rv,Ap d.p.g.pts=pt,Ap d.p.g.pri=pr,A9 d.p.en=ev,Az d.p.var.num.mag=vm,Az d.p.var.den=vd,Az d.p.lvl.num.mag=lm,Az d.p.lvl.den=ld,Az d.p.rate.num.mag=rm,Az d.p.rate.den=rd at*;have aj:=Er d.pool;have am:=I5 d.items;have ao:=A0 d.ess;generalize C7 d.pool=lv,Od d.items=ag,Ap d.ess=al,A9 d.uses=uv at*;have z1:=Ac s.t.elig;have z2:=A8 s.t.steps;have z3:=Bx s.t.w;have z4:=Ft s.ans;have z5:=Et s.inc;have m:=Io s.ans;have k:=Gv s.inc;generalize Ap s.t.elig=ti,A9 s.t.steps=ts,B9 s.t.w=tw,Hx s.ans=ak,Fa s.inc=ai at*;refine Bp func25 λw0 N0 hG=>?_;refine Y [3,4,5,6] [3,4,5,6] sr (Au 1 sr ?_);refine Jk [3,4,5,6,8,9] [3,4,5,6,8] hG f func17 ?_;refine J (Y [3,4,5,6,8,9,16] [3,4,5,6,8] sr ?_)
 refine A1 (λh1=>?_) λh1=>?_
 .exact Y [6,7] [6] sr (Aj (Aa sr (by rw[hE (sG h1)];exact Mt (sG h1) _)))
 have h:=sG h1
 replace a:=a h;replace c:=c h;refine Au 4 sr ?_;refine Jk [6,7] [6] hG a func24 ?_;exact Aj (Aa sr (by rw[<-c];exact Bh.refl _))
def Ur:Bh (.agg [.i 0,.i 0,.i 0,.i 0,.nils,.nils,.i 0,.nils,.int .u64 0,.i 0,.nils,.nils]) L8.v:=by
 have r:=λx:V=>Bh.refl x
 exact(Bh.agg (.cons (r _) (.cons (r _) (.cons (r _) (.cons (r _) (.cons (Bh.nils 1) (.cons (Bh.nils 2) (.cons (r _) (.cons (Bh.nils 1) (.cons (r _) (.cons (r _) (.cons (Bh.nils 5) (.cons (Bh.nils 4) .nil)))))))))))))
def Ap6:AE 14 [] L8.v:=by
 refine AC.relaxP (Ai func14 (λw0 N0=>?_));refine Y [0] [0] sr (A5 [] sr ?_);exact Bv sr (Ur)
variable {S:AS}
section
def Aeu(l:List Ev):List V:=l.map Ev.v
@[simp]def At6(l:List Ev):(Aeu l).length=l.length:=by simp[Aeu]
def A9r{l:List Ev}(h:k<l.length):Gz (Aeu l) k=some l[k].v:=by rw[C0];simp[Aeu,h]
def Azz(e:Ev):(Ev.v e).pureE=true:=by
 have h:=Ac e.an.ch;unfold Ev.v;simp[V.pureE,V.pureC]
def Be7(t:Te):(Te.v t).pureE=true:=by
 have h1:=Ac t.elig;have h2:=A8 t.steps;have a:=Bx t.w;unfold Te.v teV;simp[V.pureE,V.pureC]
def Az0(s:Se):(Se.v s).pureE=true:=by
 have h1:=Ac s.t.elig;have h2:=A8 s.t.steps;have a:=Bx s.t.w;have c:=Ft s.ans;have d:=Et s.inc;unfold Se.v;simp[V.pureE,V.pureC]
def Be8(d:Dl):(Dl.v d).pureE=true:=by
 have m:=Dm d.p.rules;have r:=Ac d.p.g.pts;have l:=Ac d.p.g.pri;have n:=A8 d.p.en;have o:=Af d.p.var.num.mag;have h:=Af d.p.var.den;have k:=Af d.p.lvl.num.mag;have j:=Af d.p.lvl.den;have s:=Af d.p.rate.num.mag;have i:=Af d.p.rate.den;have e:=Cw d.pool;have f:=Ic d.items;have c:=Ac d.ess;have a:=A8 d.uses;unfold Dl.v;simp[V.pureE,V.pureC]
def Ann(l:List Ev):(Aeu l).all V.pureE=true:=by
 rw[Ao];intro x a;simp only[Aeu,Bc]at a;obtain⟨n,_,rfl⟩:=a;exact Azz n
def F0:∀ {cs:List V},cs.all V.pureC=true->S.viewL cs=some cs
 |[],_=>rfl
 |v::r,h=>by
  rw[List.all_cons,Be]at h
  have h1:S.viewC v=some v:=by
   have a:=h.1;clear h;unfold AS.viewC
   split
   .exact absurd a Gi
   .exact absurd a Gi
   .rw[Ab a]
  simp only[AS.viewL,h1,F0 h.2]
def Bg4{v:V}{cs:List V}(h:v.pureE=true)(e:v=.agg cs):cs.all V.pureC=true:=by subst e;exact h
def Ac9{v:V}{cs:List V}(h:v.pureE=true)(e:v=.agg cs)(d:cs.length=n):∃c,v=.agg c/\c.length=n/\c.take n=c/\c.all V.pureC=true/\c.all V.isCell=true:=
 ⟨cs,e,d,Ba om,Bg4 h e,Ao.2 λx a=>Ag3 (Ao.1 (Bg4 h e) x a)⟩
def Xk(d:Dl):∃c,d.v=.agg c/\c.length=30/\c.take 30=c/\c.all V.pureC=true/\c.all V.isCell=true:=Ac9 (Be8 d) rfl rfl
def A9s(t:Te):∃c,t.v=.agg c/\c.length=6/\c.take 6=c/\c.all V.pureC=true/\c.all V.isCell=true:=Ac9 (Be7 t) rfl rfl
def Ku(s:Se):∃c,s.v=.agg c/\c.length=12/\c.take 12=c/\c.all V.pureC=true/\c.all V.isCell=true:=Ac9 (Az0 s) rfl rfl
def Xl(e:Ev):∃c,e.v=.agg c/\c.length=11/\c.take 11=c/\c.all V.pureC=true/\c.all V.isCell=true:=Ac9 (Azz e) rfl rfl
attribute [-simp] V.pureC V.isCell List.all_eq_true
@[simp]def Bkf(k:IntKind)(n:Int):(V.int k n).pureC=true:=rfl
@[simp]def Bi4:V.nils.pureC=true:=rfl
@[simp]def Bi5(k:IntKind)(n:Int):(V.int k n).isCell=true:=rfl
@[simp]def Bg5:V.nils.isCell=true:=rfl
def Sn(d:Dl)(t:Te):Se->Nat->List Ev->Se×Nat×Int
 |s,k,[]=>(s,k,0)
 |s,k,e::l=>if J8 d t s e≠0 then(s,k,J8 d t s e)else Sn d t (Oe d t s e) (k+1) l
def Ns(d:Dl)(l:List Ev):Se×Nat×Int:=if J7 d≠0 then(L8,0,J7 d)else Sn d (Jn d) L8 0 l
def Be9(x:Se×Nat×Int):V:=.tup [x.1.v,.i x.2.1,.i x.2.2]
def ev0:Ev:=⟨0,0,⟨0,[],0,[],false⟩,⟨0,0,0,0⟩⟩
def V4(d:Dl)(t:Te)(l:List Ev):Nat->Se
 |0=>L8
 |k+1=>Oe d t (V4 d t l k) (l.getD k ev0)
def Bfa(hS:Mr)(d:Dl)(l:List Ev)(hd:DlOk d)(hl:l.length<=700)(ha:∀e∈l,e.an.small):
  Jp gv prog 11 [d.v,.ro 11 (Aeu l)] (λr=>r=Be9 (Ns d l)):=by
 refine Jp.relaxP ?_;have af:=Aap hS d hd;unfold teR at af;have aq:=Ap6;obtain⟨tt,aj⟩:∃tt,tt=(if J7 d=0 then Jn d else Y9):=⟨_,rfl⟩;rw[<-aj]at af;have hE:J7 d≠0->Ns d l=(L8,0,J7 d):=λh0=>by unfold Ns;rw[Ab h0]
 have hG:J7 d=0->tt=Jn d/\Ns d l=Sn d tt L8 0 l/\AdP d.p d.pool/\teB 0 tt:=λh0=>by
  have:tt=Jn d:=by rw[aj,Ab h0]
  refine⟨this,?_,(Ap5 h0 hd).1,this▸(Ap5 h0 hd).2.1⟩;unfold Ns;rw[I Gi,this]
 have ba:=At6 l;have qn:=λ(k:Nat)(h:k<l.length)=>A9r h
 have pl:=Ann l;have a3:l.length<=700:=hl;clear aj;have ah:V4 d tt l 0=L8:=rfl;have al:∀k,V4 d tt l (k+1)=Oe d tt (V4 d tt l k) (l.getD k ev0):=λk=>rfl
 have a5:∀(s:Se)(e:Ev)(n:Nat),J7 d=0->e∈l->SeB n s->n<=800->Jp gv prog 24 [d.v,tt.v,s.v,e.v] (λr=>r=.tup [(if J8 d tt s e=0 then Oe d tt s e else L8).v,.i (J8 d tt s e)]):=λs e n h0 he hs hn=>by
  have⟨_,_,h1,h2⟩:=hG h0;exact Afp hS d tt s e hd (ha e he) h1 h2.1 (λx hx=>Ae (h2.2.1 x hx) dc) (hs.ok hn) (hs.w998 hn) (Ae hs.st om)
 have ai:∀k(hk:k<l.length),Ns d l=Sn d tt (V4 d tt l k) k (l.drop k)->J8 d tt (V4 d tt l k) l[k]=0->Ns d l=Sn d tt (V4 d tt l (k+1)) (k+1) (l.drop (k+1)):=λk hk h1 h2=>by
  rw[h1,Bo hk,Sn,I Gi,al,Dq,Ah hk];rfl
 have ak:∀k(hk:k<l.length),Ns d l=Sn d tt (V4 d tt l k) k (l.drop k)->J8 d tt (V4 d tt l k) l[k]≠0->Ns d l=(V4 d tt l k,k,J8 d tt (V4 d tt l k) l[k]):=λk hk h1 h2=>by
  rw[h1,Bo hk,Sn,Ab h2]
 have a0:Ns d l=Sn d tt (V4 d tt l l.length) l.length (l.drop l.length)->Ns d l=(V4 d tt l l.length,l.length,0):=λh1=>by
  rw[h1,Cl,Sn]
 have hB:∀k(hk:k<l.length),J7 d=0->SeB k (V4 d tt l k)->J8 d tt (V4 d tt l k) l[k]=0->SeB (k+1) (V4 d tt l (k+1)):=λk hk h0 hs h1=>by
  have⟨_,_,h2,h3⟩:=hG h0;rw[al,Dq,Ah hk];exact A9q h2 h3 (ha _ (As hk)) h1 hs om
 have⟨dc,a2,d1,d2,i,j⟩:=Xk d;have⟨tc,av,w,o,y,t⟩:=A9s tt;have ad:∀k,∃c,(V4 d tt l k).v=.agg c/\c.length=12/\c.take 12=c/\c.all V.pureC=true/\c.all V.isCell=true:=λk=>Ku _
 have⟨sc,ad⟩:=Classical.axiomOfChoice ad;have bf:∀k,∃c,(l.getD k ev0).v=.agg c/\c.length=11/\c.take 11=c/\c.all V.pureC=true/\c.all V.isCell=true:=λk=>Xl _
 have⟨z0,ao,u,g,f,z⟩:=Ku L8;rw[a2]at af|-;rw[ao]at aq;rw[av]at af;generalize be:Ns d l=RF,bd:V4 d tt l=K,Aeu l=lv at*;have m:=λS:AS=>F0 (S:=S) f
 have a7:sc 0=z0:=by have h:=(ad 0).1;rw[ah,ao]at h;injection h with h;exact h.symm
 refine Bp func11 λw0 N0 au=>?_;refine Y [1,2,4] [2,4] C1 (Au 1 C1 ?_);refine Jf au af func17 rfl kr sm rfl rfl rfl sR Gi sR (Ak [1,2,4,7,8] [2,4,7] C1 ?_);refine J (Y [1,2,4,7,8,20] [2,4,7] sR ?_)
 refine A1 (λh1=>?_) λh1=>?_
 .refine Y [4,5,6] [4] sR ?_;exact Aj (Aa (by simp[results11]<;>rfl) (by rw[hE (sG h1)];exact Bh.tup (.cons Ur (.cons (Bh.refl _) (.cons (Bh.refl _) .nil)))))
 have h0:J7 d=0:=sG h1
 have⟨_,a6,bc,bb⟩:=hG h0;refine J (Cb (Ef aq func14 rfl kr rfl rfl rfl sR sm sR ?_));refine Ak [1,2,4,7,9] [2,4,7,9] (by simp[u,z]<;>rfl) ?_;refine J (Y [1,2,4,7,9,24,25,26] [2,4,7,9] sR (Ad ?_));refine H5 (λk=>[(26,V.i k)]) (λk=>[(9,⟨15,12,55,[V.agg (sc k)]⟩)]) (λk=>RF=Sn d tt (K k) k (l.drop k)/\SeB k (K k)) l.length ⟨by rw[ah];exact a6,by rw[ah];exact SeB.new⟩ (by simp only[a7];exact Z) ?_;intro k nx hk hI;refine Y [1,2,4,7,9,24,25,26,27] [2,4,7,9] sR (J ?_)
 refine Bk (λh2=>?_) λh2=>?_
 .have ab:k<l.length:=by simp at h2;omega
  have ga:=qn k ab;have ar:k<lv.length:=om;have Ec:=A4 (k:=k) om;have ag:=a5 (K k) l[k] k h0 (As ab) hI.2 om;have ay:=ai k ab hI.1;have ax:=ak k ab hI.1;have a8:=hB k ab h0 hI.2;have⟨ec,a1,e1,e2,e3,e4⟩:=Xl l[k];have a:=ad k;have aa:(sc k).drop 12=[]:=O9 (Vn a.2.1);have vk:=λS:AS=>F0 (S:=S) a.2.2.2.1
  have az:=ad (k+1);have⟨rc,ae,r1,r2,r3,r4⟩:=Ku (if J8 d tt (K k) l[k]=0 then Oe d tt (K k) l[k]else L8);rw[a2,av,a.1,a1,ae]at ag;rw[a1]at ga;have aw:K (k+1)=Oe d tt (K k) l[k]:=by rw[al,Dq,Ah ab];rfl
  generalize l[k]=e at*;generalize bg:J8 d tt (K k) e=PE at*;refine J (Ad (Y [1,2,4,7,9,10,11,24,25,26] [2,4,7,9,11] (by simp[ga,ar,e1,e2,e4]<;>rfl) (Au 4 (by simp[e1,e2,a.2.1,a.2.2.1,d1,d2,w,o]<;>rfl) ?_)));refine Jf au ag func24 rfl kr sm rfl rfl rfl sR (by simp[i,y,e3,a.2.2.2.1]) sR ?_;refine Ak [1,2,4,7,9,10,12,13,24,25,26] [2,4,7,9,12] (by simp[r1,r4]<;>rfl) ?_;refine J (Y [1,2,4,7,9,10,12,13,24,25,26,40] [2,4,7,9,12] sR ?_)
  refine A1 (λh3=>?_) λh3=>?_
  .refine Y [4,5,6] [4] (by simp[a.2.1,a.2.2.1,a.2.2.2.2]<;>rfl) ?_;exact Aj (Aa (by simp[results11,a.2.1,a.2.2.1,vk]<;>rfl) (by rw[ax (sG h3)];unfold Be9;rw[a.1];exact Bh.refl _))
  have hz:PE=0:=sG h3
  rw[Ab hz,<-aw]at ae;have a4:rc=sc (k+1):=by rw[az.1]at ae;injection ae with ae;exact ae.symm
  subst a4;refine A6 [1,2,4,7,9,24,25,26] [2,4,7,9] (by simp[r1,r2,r4,aa,a.2.1]<;>rfl) (A6 [1,2,4,7,9,24,25,26] [2,4,7,9] (by simp[Ec]<;>rfl) ?_);exact⟨ab,⟨ay hz,a8 hz⟩,_,Z⟩
 .refine A3 ?_;have a:=ad k;have aa:(sc k).drop 12=[]:=O9 (Vn a.2.1);have vk:=λS:AS=>F0 (S:=S) a.2.2.2.1
  have am:k=l.length:=sO h2
  have a9:=a0 (am▸hI.1);refine Y [4,5,6] [4] (by simp[a.2.1,a.2.2.1,a.2.2.2.2]<;>rfl) ?_;exact Aj (Aa (by simp[results11,a.2.1,a.2.2.1,vk]<;>rfl) (by rw[a9];unfold Be9;rw[<-am,a.1,am,<-ba];exact Bh.refl _))
end
open Go.RowKit Go.Shelf
variable {c:Nat}
attribute [local go_sem] Oper.semAt_some
def Qt(a:List Int)(k:Nat):List Int:=(List.range k).map λj=>a[j]?.getD 0
def Axc(a:List Int)(k:Nat):Qt a (k+1)=Qt a k++[a[k]?.getD 0]:=by simp[Qt,List.range_succ]
def A3t(a:List Int)(k:Nat):(Qt a k).length=k:=by simp[Qt]
def A3u(a:List Int):Qt a a.length=a:=by
 apply P7
 .simp[Qt]
 .intro i h1 h2;simp[Qt,h2]
def Vi(f:Nat)(W:World)(e:Value)(a:List Int):Prop:=
 ∃A c,e=.slice A a.length c/\(0<a.length->∃d:Addr,A=some d/\d.block<f/\∀j,j<a.length->W.cell? (d.add j)=some (.int .i64 (a[j]?.getD 0)))
def Vi.below{A B:World}(h:Below c A B){f:Value}{g:List Int}:Vi c A f g->Vi c B f g
 |⟨X,a,e,l⟩=>⟨X,a,e,λn=>by
   have⟨d,k,i,h2⟩:=l n;exact⟨d,k,i,λj m=>(h.cell (p:=d.add j) (by rw[Go.Eng.add_block];exact i)).trans (h2 j m)⟩⟩
set_option maxRecDepth 100000 in
def Bfb(F:Fence)(n:Nat)(h7:F.fn 220)(hro:F.round=none)(hn:1<=n)(l n₀:Nat)(bd:Addr)(sv:Value)(zs:List Int)(hreach:zs.length*8<=140737488351232)(J Jx:List Int->World->Prop)
  (hY:∀pre x W,J pre W->pre.length<zs.length->YieldAt F (n-1) prog l #[.int .i64 x] W λe W'=>
   (e=.returned (.bool true)/\J (pre++[x]) W'/\Below n₀ W W')\/(e=.returned (.bool false)/\Jx (pre++[x]) W'))
  (W:World)(hBs:W.cell? bd=some sv)(hI:Vi n₀ W sv zs)(h0:J [] W):
  CallsIn F n prog 220 #[.func (.yield l) #[] #[],.pointer (some bd)] W λe W'=>(∃v,e=.returned v)/\
   ((∃ys,ys=zs/\J ys W')\/(∃pre,pre<+:zs/\Jx pre W')):=by
 obtain⟨A,cap,rfl,hc⟩:=hI;refine callsIn_of_wp func220 rfl h7 ?_ hro;simp only[ntmps220,Dz,Ax,Bg,Nat.reduceAdd,Nat.reduceSub,Mb,Mc,Pa,M9,D8,Cj]
 gi_wp2
 gi_loopw [7] (λi wr=>∃k:Nat,k<=zs.length/\i=.int .i64 k/\J (Qt zs k) wr/\Below n₀ W wr)
  (λi _=>zs.length-(intOf i).toNat)
 case atStart=>exact⟨0,B5 _,rfl,h0,Below.refl _ _⟩
 case round=>
  obtain⟨k,hk,rfl,hJs,hnx⟩:=hrel
  by_cases hlt:k<zs.length
  .obtain⟨ad,rfl,hb,hcs⟩:=hc om;have hcx':=(hnx.cell (p:=ad.add k) (by rw[Go.Eng.add_block];exact hb)).trans (hcs k hlt);have ex:zs[k]?.getD 0=zs[k]:=by simp[hlt]
   rw[ex]at hcx';have hup:Qt zs (k+1)=Qt zs k++[zs[k]]:=by rw[Axc,ex]
   have⟨fn,tmps,assign,body,hy,hR⟩:=hY _ zs[k] wr hJs (by rw[A3t];exact hlt)
   gi_wp2
   refine hR.mono ?_
   rintro e W3(⟨rfl,hJ3,hk3⟩|⟨rfl,hJx3⟩)
   .gi_wp2
    go_roundw
    case rel=>exact⟨k+1,by omega,by simp,by rw[hup];exact hJ3,hnx.trans hk3⟩
    case measure=>simp[intOf];omega
   .gi_wp2
    refine bodyPost_ret (results_none rfl _ _ _) rfl ?_;refine⟨⟨_,rfl⟩,.inr ⟨Qt zs (k+1),?_,by rw[hup];exact hJx3⟩⟩
    have:Qt zs (k+1)=zs.take (k+1):=by
     apply P7
     .simp[Qt];omega
     .intro i h1 h2;have:i<zs.length:=by simp[Qt]at h1;omega
      simp[Qt,this]
    rw[this];exact List.take_prefix _ _
  .obtain rfl:k=zs.length:=by omega
   gi_wp2
   go_end0
   exact⟨⟨_,rfl⟩,.inl ⟨_,A3u zs,hJs⟩⟩
def Ap7(F:Fence)(n:Nat)(u:F.fn 220)(h:F.round=none)(m:1<=n)(d:Addr)(e:Nat)(i:Value)(c:List Int)(a:c.length*8<=140737488351232)(w:World)(f:d.block<w.heap.size)(g:e<=w.heap.size)
  (o:w.cell? d=some i)(y:Vi e w i c):
  SeqStopsK F n prog 220 #[.pointer (some d)] (λx:Int=> #[Value.int .i64 x]) (Below e) (λs=>s=c) (λpre=>pre<+:c) c.length w:=λl J r W j _ _ t k=>
 Bfb F n u h m l e d i c a J r t W ((j.cell (p:=d) f).trans o) (y.below (j.mono g)) k
open Go.Sort
attribute [local go_sem] Oper.semAt_some
def Blc:(prog.info? 3).map (λi=>(i.zero,i.size,i.bytes))=some (some (.int .i64 0),1,8):=by kernel_rfl
set_option maxRecDepth 100000 in
set_option maxHeartbeats 2000000 in
def A3v(F:Fence)(n:Nat)(h3:F.fn 263)(h5:F.fn 220)(k:F.round=none)(hn:3<=n)(g:Addr)(sv:Value)(m:List Int)(ai:m.length<=maxLen)(f:m.length*8<=140737488351232)(w:World)
  (af:g.block<w.heap.size)(ab:w.cell? g=some sv)(hI:Vi w.heap.size w sv m):
  CallsIn F n prog 263 #[.slice none 0 0,.func (.func 220) #[] #[.pointer (some g)]] w λe W'=>∃v,e=.returned v/\W'.ownsRow w.heap.size 3 1 v m.length (m.map (Value.int .i64))/\Below w.heap.size w W':=by
 have h1:1<=n:=by omega
 have⟨i0,hi,ag,z,ad⟩:=info_parts Blc
 refine callsIn_of_wp_marks func263 rfl h3 ?_ k
 simp only[ntmps263,Dz,Ax,Bg,Nat.reduceAdd,Nat.reduceSub,Mb,Mc,Pa,M9,D8,Cj]
 gi_wp2
 have bO:=Boxed.new w 25 (.slice none 0 0)
 have j:Below w.heap.size w (w.alloc (.cells #[.slice none 0 0] 25)):=(Below.refl _ w).alloc (A2 _) _
 refine wpIn_rangeFunc_ownG k h1 (gf:=220) (lb:= #[.pointer (some g)]) rfl h5 (enters_of func220 (by kernel_rfl) rfl)
  (Ap7 F (n-1) h5 k om g w.heap.size sv m f _ (by simp;omega) sM ((j.cell (p:=g) af).trans ab) (hI.below j)) belowK_t (belowK_b sM) (Below.refl _ _) (λ_=>rfl)
  (λpre W=>(∃v,Boxed W w.heap.size 25 v/\W.ownsRow w.heap.size 3 1 v pre.length (pre.map (Value.int .i64))/\True)/\Below w.heap.size w W)
  (λ_ _ _=>False)
  (OwnFrom.and (Go.Own.from (holdsRow_own w.heap.size w.heap.size 25 3 1 (λpre:List Int=>pre.length) (λpre=>pre.map (Value.int .i64)) (λ_ _=>True)) _) (ownFrom_below (A2 _) sM))
  (λ_ _ _ _ _ hs _ _=>hs)
  ⟨⟨_,bO,World.ownsRow_nil _ _ _ _,trivial⟩,j⟩
  (λx=>{tmps:= #[.slice none 0 0,(.func (.func 220) #[] #[.pointer (some g)]),.pointer (some ⟨w.heap.size,0,none⟩),undef,.slice none 0 0,.int .i64 x,(.func (.func 220) #[] #[.pointer (some g)]),.int .i64 x,undef,undef,undef,undef,undef],defers:=[]}) ?assign ?body ?done ?stop
 case assign=>
  intro l x W K o
  gi_wp2
  exact o
 case body=>
  rintro l pre x W⟨⟨v,u,a,_⟩,s⟩ak
  have hc:=u.cell
  gi_wp2_with (gi_at_builtin;refine wpListIn_append_own _ rfl _ _ 25 rfl w.heap.size 3 i0 (.int .i64 0) 1 8 underlying25 hi ag z ad rfl dC _ _ _ rfl (a.alloc _) ⟨W.heap.size,0,none⟩ 1 1 [.int .i64 x] rfl rfl (cell_one_new _ _ _) (by simp[Value.oneCell']) om om (by have:=s.size;simp;omega) ?_;intro v' w1 d i _;obtain⟨g',ah,rfl⟩:=ownsRow_succ d;have⟨r,aa,y,ae,t⟩:=u.appended dC a s.size (A2 _) d i;have aj:=r.cell;have al:=r.frozen)
  exact⟨ae.from _,t,⟨_,aa,by simpa using y,trivial⟩,s.trans t⟩
 case done=>
  rintro D ys W hD rfl⟨⟨v,u,a,_⟩,s⟩o
  have hc:=u.cell
  gi_wp2
  refine⟨by simp,.inl ⟨_,_,rfl,run_takeDeferred o,?_⟩⟩
  exact⟨_,results_tmp rfl _ _ _,v,rfl,ownsRow_putObj a _ o rfl,s.trans (belowK_b (w:=w) (A2 _) W D _ _ (sO hD) o rfl rfl)⟩
 case stop=>
  rintro D c pre W _ _ h _
  exact h.elim
def Axd(F:Fence)(n:Nat)(h1:F.fn 219)(m:F.fn 263)(t:F.fn 220)(f:F.round=none)(hn:4<=n)(h:Addr)(k:Value)(c:List Int)(g:c.length<=maxLen)(a:c.length*8<=140737488351232)(w:World)
  (i:h.block<w.heap.size)(j:w.cell? h=some k)(s:Vi w.heap.size w k c):
  CallsIn F n prog 219 #[.func (.func 220) #[] #[.pointer (some h)]] w λe l=>∃v,e=.returned v/\l.ownsRow w.heap.size 3 1 v c.length (c.map (Value.int .i64))/\Below w.heap.size w l:=by
 have r:1<=n:=om;refine callsIn_of_wp func219 rfl h1 ?_ f;simp only[ntmps219,Dz,Ax,Bg,Nat.reduceAdd,Nat.reduceSub,Mb,Mc,Pa,M9,D8,Cj]
 gi_wp2_with (gi_at_call 263;refine(A3v F (n-1) m t f om h k c g a w i j s).mono ?_;rintro e w'⟨v,rfl,d,u⟩)
 go_ret
 exact⟨v,rfl,d,u⟩
def A3w(l:Addr)(z:Value)(a:List Int)(k:a.length<=maxLen)(d:a.length*8<=140737488351232)(w:World)
  (t:l.block<w.heap.size)(o:w.cell? l=some z)(hI:Vi w.heap.size w z a):
  Calls prog 170 #[.func (.func 220) #[] #[.pointer (some l)]] w λe W'=>∃v,e=.returned v/\W'.ownsRow w.heap.size 3 1 v a.length ((Ld a).map (Value.int .i64))/\Below w.heap.size w W':=by
 refine(callsIn_wide (n:=6)).1 ?_;have ad:Fence.wide.fn 219:=trivial;have aa:Fence.wide.fn 117:=trivial;refine callsIn_of_wp func170 rfl trivial ?_ rfl;simp only[ntmps170,Dz,Ax,Bg,Nat.reduceAdd,Nat.reduceSub,Mb,Mc,Pa,M9,D8,Cj]
 gi_wp2_with (gi_at_call 219;refine(Axd Fence.wide 5 trivial trivial trivial rfl om l z a k d w t o hI).mono ?_;rintro e W⟨v,rfl,f,s⟩)
 rcases f.2 with⟨rfl,hz⟩|⟨i,h,ab,rfl,c,g,r1,r2,r3,r4⟩
 .have u:=Fy hz;subst u;have m:CallsIn Fence.wide 5 prog 117 #[.slice none 0 0] W λe w'=>e=.returned (.tuple #[])/\w'=W:=callsIn_wide.2 (Zo none 0 W)
  gi_wp2_with (gi_at_call 117;refine m.mono ?_;rintro e w'⟨rfl,rfl⟩)
  go_ret
  exact⟨.slice none 0 0,rfl,by simpa[Ld]using f,s⟩
 .have hH:=holds_of_block_i g (sG r4);have r:=(B3.1 g).1
  have m:CallsIn Fence.wide 5 prog 117 #[.slice (some ⟨i,0,none⟩) a.length h] W λe w'=>e=.returned (.tuple #[])/\∃n os,w'=grow (putRow (Value.int .i64) (Sort.ahead W n) i 0 (a.mergeSort λx y=>decide (x<=y)).toArray) os:=
   callsIn_wide.2 (slices_Sort_int i 0 h a W hH r om)
  gi_wp2_with (gi_at_call 117;refine m.mono ?_;rintro e w'⟨rfl,nn,os,rfl⟩)
  go_ret
  exact⟨_,rfl,ownsRow_sorted_i sm c g r1 r2 r3,s.grown (grownBy_sorted_i _) s.size (λj hj=>by cases hj;exact c)⟩
variable {N:Nat->Prop}{d:Nat}
def At7{w:World}{v:Value}{a:List Int}(hN:∀b,d<=b->¬N b)(h:w.ownsRow d 3 1 v a.length (a.map (Value.int .i64))):Pur w N v (.ro 1 (Ap a)):=by
 rcases h.2 with⟨rfl,r⟩|⟨g,t,m,rfl,i,l,r1,r2,r3,r4⟩
 .have:=Fy r;subst this;exact(Pur.nils none).nils_ro 1
 .have u:=(B3.1 l).1
  have f:∀k,k<a.length->w.cell? ((⟨g,0,none⟩:Addr).add k)=some (.int .i64 (a.getD k 0)):=λk n=>by
   have h1:m[k]?=some (.int .i64 (a.getD k 0)):=by
    have h2:(m.toList.take (a.length*1))[k]?=(a.map (Value.int .i64))[k]? :=by rw[r4]
    rw[List.getElem?_take,Ab om,Bj,Ah n]at h2;rw[Dq,Ah n];simpa using h2
   unfold Addr.add
   split
   .rename_i h0;subst h0;simp[World.cell?,l,h1]
   .simp[World.cell?,l,h1]
  refine .ro (some ⟨g,0,none⟩) ⟨g,0,none⟩ a.length t 1 (Ap a) (λk _=>.int .i64 (a.getD k 0)) (A0 a) r1 r2 (λ_=>⟨rfl,u,hN g i⟩) (Amh a) (λk e j c x o=>?_) λk e j c x o=>?_
  all_goals
   simp only[Ap,Bj,Ay]at x;obtain⟨z,r,rfl⟩:=x;have n:=(Al.1 r).1
   have y:j=0:=by
    rcases j with _ |j
    .rfl
    .simp[V.cells]at o
   subst y;simp only[V.cells,Dy,Am]at o;subst o;have s:a.getD k 0=z:=by rw[Dq,r];rfl
  .rw[Gs,Eb];exact f k n
  .rw[s];exact .int _ _
def Agn:Mr:=by
 intro l hl w N xs hN m hx
 obtain⟨i,rfl⟩:∃i,xs=[i]:=by
  match xs,m with
  |[i],_=>exact⟨i,rfl⟩
 cases(hx 0 i _ rfl rfl)with
 |fc f us ys ah ai ab u h k=>
  have t:=Fy ab;subst t
  obtain⟨y,rfl⟩:∃y,ys=[y]:=by
   match ys,u with
   |[y],_=>exact⟨y,rfl⟩
  cases(k 0 y _ rfl rfl)with
  |rp ad sz e g z ak hf hc h=>
   have c:=hc 0 _ rfl;rw[show ad.add 0=ad from by unfold Addr.add;rw[Ab rfl]]at c;have hp:=h 0 (.ro 1 (Ap l)) rfl;generalize g 0=sv at c hp
   have hI:Vi w.heap.size w sv l:=by
    cases hp with
    |ro A x n o sz2 es g2 hn ag af hA aj ae h2=>
     rw[A0]at hn;subst hn;refine⟨A,o,rfl,λd=>?_⟩;have⟨a1,a2,a3⟩:=hA d;refine⟨x,a1,a2,λj hj=>?_⟩;have he:(Ap l)[j]?=some (V.i l[j]):=by simp[Ap,hj]
     have h3:=ae j _ 0 (V.i l[j]) he rfl;have h4:=h2 j _ 0 (V.i l[j]) he rfl;rw[Gs,Eb]at h3;rw[h3];generalize g2 j 0=gv at h4;cases h4
     simp[hj]
   refine(A3w ad sv l (Ae hl dc) om w z c hI).mono ?_;rintro e w'⟨v,rfl,a,r⟩;refine⟨v,_,rfl,rfl,?_,r⟩;rw[<-(Py l)]at a;exact At7 (λb z aa=>Zw _ (Cp (hN b aa) z)) a
@[simp]def Bmz:Hz prog 2=some 1/\En prog 2=some false/\Yz prog 2=some .i64/\Hz prog 3=some 1/\En prog 3=some false/\Ds prog 3=some (.i 0)/\Sv prog 3=some 1/\Iw prog 3=some 8/\Yz prog 3=some .i64/\Hz prog 4=some 1/\En prog 4=some false/\Hz prog 5=some 1:=ka
@[simp]def Bm0:En prog 5=some false:=by kernel_rfl
@[simp]def Bm1:Ds prog 5=some (.int .u8 0)/\Sv prog 5=some 1/\Iw prog 5=some 1/\tz8 prog 5=true/\Yz prog 5=some .u8/\Hz prog 9=some 1/\En prog 9=some false/\Aa4 prog 9=true/\Yz prog 9=none/\Hz prog 45=some 1:=ka
@[simp]def Bmj:En prog 45=some false:=by kernel_rfl
@[simp]def Bmk:Ds prog 45=some (.nils)/\Sv prog 45=some 1/\Iw prog 45=some 24/\Fw prog 45=some 5/\Adl prog 45=true/\Hz prog 25=some 1/\En prog 25=some false/\Fw prog 25=some 3/\Hz prog 75=some 5/\En prog 75=some true/\Ds prog 75=some (.agg [.i 0,.nils,.i 0,.str [],.bool false])/\Sv prog 75=some 5/\Bi prog 75 0=some (0,1,false)/\Bi prog 75 1=some (1,1,false)/\Bi prog 75 2=some (2,1,false)/\Bi prog 75 3=some (3,1,false)/\Bi prog 75 4=some (4,1,false)/\Ej prog 75=true/\Hz prog 77=some 4/\En prog 77=some true/\Ds prog 77=some (.agg [.i 0,.i 0,.i 0,.i 0])/\Bi prog 77 0=some (0,1,false)/\Bi prog 77 1=some (1,1,false)/\Bi prog 77 2=some (2,1,false):=ka
@[simp]def Bld:Bi prog 77 3=some (3,1,false)/\Ej prog 77=true/\Ald prog 77=some [0,0,0,0]/\Hz prog 79=some 11/\En prog 79=some true/\Ds prog 79=some (.agg [.i 0,.i 0,.i 0,.nils,.i 0,.str [],.bool false,.i 0,.i 0,.i 0,.i 0])/\Sv prog 79=some 11/\Bi prog 79 0=some (0,1,false)/\Bi prog 79 1=some (1,1,false)/\Bi prog 79 2=some (2,5,true)/\Bi prog 79 3=some (7,4,true)/\Ej prog 79=true/\Hz prog 56=some 1/\En prog 56=some false/\Ds prog 56=some (.i 0)/\Sv prog 56=some 1/\Hz prog 90=some 1/\En prog 90=some false/\Fw prog 90=some 94/\Hz prog 94=some 5/\En prog 94=some true/\Ds prog 94=some (.agg [.i 0,.i 0,.i 0,.str [],.nils])/\Sv prog 94=some 5/\Iw prog 94=some 64:=ka
@[simp]def Ble:Bi prog 94 0=some (0,1,false)/\Bi prog 94 1=some (1,1,false)/\Bi prog 94 2=some (2,1,false)/\Bi prog 94 3=some (3,1,false)/\Bi prog 94 4=some (4,1,false)/\Ej prog 94=true/\Yz prog 42=some .u64/\Hz prog 129=some 1/\Ds prog 129=some (.agg [.i 0])/\Sv prog 129=some 1/\Nx prog 129=true/\Bi prog 129 0=some (0,1,false)/\Ej prog 129=true/\Nx prog 131=true/\Ds prog 235=some (.i 0)/\Nx prog 235=true/\Hz prog 238=some 3/\Ds prog 238=some (.agg [.nils,.i 0,.i 0])/\Sv prog 238=some 3/\Bi prog 238 0=some (0,1,false)/\Bi prog 238 1=some (1,1,false)/\Bi prog 238 2=some (2,1,false)/\Ej prog 238=true:=ka
variable {t x:Int}
def Ada:prog.follows .mixedOrders=true:=by kernel_rfl
def Hr(h:(k:Int)<9223372036854775807):IntKind.i64.wrap ((k:Int)+1)=((k+1:Nat):Int):=by
 rw[IntKind.wrap_i64];omega
def Cu(h1: -9223372036854775808<=x)(h2:x<9223372036854775808):IntKind.i64.wrap x=x:=by
 rw[IntKind.wrap_i64];omega
inductive Nd where
 |mk (tag kind n:Int) (s:List UInt8) (kids:List Nd)
def Nd.kids:Nd->List Nd
 |.mk _ _ _ _ ks=>ks
def Nd.v:Nd->V
 |.mk t k n s ks=>.agg [.i t,.i k,.i n,.str s,.ro 5 (ks.map Nd.v)]
def Nd.kid_lt{k n:Int}{s:List UInt8}{ks:List Nd}{x:Nd}(h:x∈ks):SizeOf.sizeOf x<SizeOf.sizeOf (Nd.mk t k n s ks):=by
 have:=List.sizeOf_lt_of_mem h;simp only[Nd.mk.sizeOf_spec];omega
def Nd.v_pure(x:Nd):x.v.pureE=true:=by
 have⟨t,k,n,s,ks⟩:=x;rw[Nd.v];rfl
def Xm(l:List Nd):(l.map Nd.v).all V.pureE=true:=by
 rw[Ao];intro x c;simp only[Bc]at c;obtain⟨y,_,rfl⟩:=c;exact y.v_pure
def Axe{l:List Nd}(h:k<l.length):Gz (l.map Nd.v) k=some l[k].v:=by rw[C0];simp[h]
inductive Sm:Nd->Prop
 |mk {t k n:Int} {s:List UInt8} {ks:List Nd} (h:ks.length<=1000) (hk:∀x∈ks,Sm x):Sm (.mk t k n s ks)
def zN:V:=.agg [.i 0,.i 0,.i 0,.str [],.nils]
def A3x:∀(m:Nat)(l:List Nd),SizeOf.sizeOf l<m->l.length<=1000->(∀x∈l,Sm x)->AE 134 [.ro 5 (l.map Nd.v)] (.ro 5 (l.map Nd.v)):=by
 intro m
 induction m with
 |zero=>intro l h;omega
 |succ m ih=>
 intro l hm hl hs
 have ah:∀x∈l,AE 134 [.ro 5 (x.kids.map Nd.v)] (.ro 5 (x.kids.map Nd.v)):=by
  intro x hx;have:=List.sizeOf_lt_of_mem hx;have af:=hs x hx;have⟨h1,h2⟩:=af;rename_i t k n s ks;have h3:SizeOf.sizeOf ks<SizeOf.sizeOf (Nd.mk t k n s ks):=by simp only[Nd.mk.sizeOf_spec];omega
  exact ih ks om h1 h2
 have u:=λ(k:Nat)(h:k<l.length)=>Axe h
 have aa:(l.map Nd.v).length=l.length:=sm;have hp:=Xm l;generalize l.map Nd.v=lv at u aa hp
 by_cases he:lv.length=0
 .have ai:lv=[]:=Ag.1 he;subst ai;refine AC.relax (v:=.nils) ?_ (Bh.nils 5);refine Ai func134 λw0 N0=>?_;refine Y [0] [] sr (J (A5 [8] sr ?_));refine Ek ?_;exact Y [2] [] sr (Aj (Aa sr rf))
 have ad:¬lv=[]:=λh=>he (by rw[h];rfl)
 refine Ai func134 λw0 N0=>?_;refine Y [0] [] sr (J (A5 [8] sr ?_));refine Ce ?_;have ae:(lv.length:Int)<=9223372036854775807:=om;have ag:64*(lv.length:Int)<=281474976710656:=om;refine Y [0,3] [11] (by simp[ae,ag]<;>rfl) (J (Y [3,12,13,14] [11] sr (Ad (H5 (λk=>[(14,.i k)]) (λk=>[(11,⟨6,5,94,E4 lv zN k⟩)]) (λk=>True) l.length trivial (by rw[Ia];exact Z) ?_))));intro k nx hk hI;have f:=Jc lv zN k om;refine Y [3,12,13,14,15] [11] sr (J ?_)
 refine Bk (λh2=>?_) λh2=>?_
 .have j:k<l.length:=by simp at h2;omega
  have d:k<lv.length:=om;have y:=u k j;have z:=ah l[k] (As j);have e:=Xm l[k].kids;have c:=Je lv zN k d (x:=l[k].v) (by rw[<-C0];exact y);have hz:Gz (E4 lv zN k) k=some (.agg [.i 0,.i 0,.i 0,.str [],.nils]):=Jd lv zN k d;have hw:=Hr (k:=k) om;rcases hka:l[k]with⟨t2,k2,n2,s2,ab⟩;rw[hka]at y z c e;rw[Nd.v]at y c;simp only[Nd.kids]at z e;generalize ab.map Nd.v=w at y z c e;have o:=Bbz (l:=E4 lv zN k) (k:=k) (x:=.agg [.i t2,.i k2,.i n2,.str s2,.ro 5 w]) om;generalize E4 lv zN k=row at hz c f o|-;rw[c]at o;have g:(E4 lv zN (k+1)).set k (.agg [.i t2,.i k2,.i n2,.str s2,.ro 5 w])=E4 lv zN (k+1):=by rw[<-c];simp
  refine J (Ad (Y [3,4,5,12,13,14] [11,5] (by simp[y,d]<;>rfl) (A5 [] (by simp[d,hz]<;>rfl) (Ik 4 sr ?_))));refine Aw z func134 ?_ (ha:=rfl) (hp:=rfl);refine Ak [3,12,13,14] [11] (by simp[d,c,o,g]<;>rfl) ?_;refine Cs [] (by simp[hw]<;>rfl) ?_;exact⟨j,trivial,_,Z⟩
 .refine A3 ?_;have aj:k=lv.length:=sO h2
  rw[Jz lv zN k oM];refine Y [2] [11] sr ?_;exact Aj (Aa (by simp[results134,hp]<;>rfl) rfl)
def Aat(a b c:Int)(s:List UInt8):Bh (.agg [.i a,.i b,.i c,.str s,.nils]) (Nd.mk a b c s []).v:=by
 rw[Nd.v];exact Bh.agg (.cons (Bh.refl _) (.cons (Bh.refl _) (.cons (Bh.refl _) (.cons (Bh.refl _) (.cons (Bh.nils 5) .nil)))))
def Bi6(t n:Int):AE 132 [.i t,.i n] ((Nd.mk t 1 n [] []).v):=by
 refine AC.relax (v:=.agg [.i t,.i 1,.i n,.str [],.nils]) ?_ (Aat _ _ _ _);refine Ai func132 λw0 N0=>?_;exact Y [0,1,4] [4] sr (Y [4] [4] sr (Bv sr rf))
def A3y(t:Int)(s:List UInt8):AE 133 [.i t,.str s] ((Nd.mk t 2 0 s []).v):=by
 refine AC.relax (v:=.agg [.i t,.i 2,.i 0,.str s,.nils]) ?_ (Aat _ _ _ _);refine Ai func133 λw0 N0=>?_;exact Y [0,1,4] [4] sr (Y [4] [4] sr (Bv sr rf))
def Ano(t n:Int):AE 79 [.i t,.i n] ((Nd.mk t 1 n [] []).v):=by
 have c:=Bi6 t n;simp only[Nd.v,Ci]at c|-;refine Ai func79 λw0 N0=>?_;refine Y [0,1,4] [4] sr (Au 2 sr ?_);refine Ef c func132 rfl kr rfl rfl rfl rfl rfl sr (Ak [4] [4] sr ?_);exact Bv sr rfl
def Az1(t:Int)(l:List Nd)(d:l.length<=1000)(hs:∀x∈l,Sm x):AE 81 [.i t,.ro 5 (l.map Nd.v)] ((Nd.mk t 3 0 [] l).v):=by
 have c:=A3x _ l (P4 _) d hs;have hp:=Xm l;rw[Nd.v];generalize l.map Nd.v=lv at c hp;refine Ai func81 λw0 N0=>?_;refine Y [0,1,4] [4] sr (Au 2 sr ?_);refine Ef c func134 rfl kr rfl rfl rfl rfl rfl sr (Ak [4] [4] sr ?_);exact Bv sr rfl
structure Jv where
 kind:Int
 time:Int
 item:Int
 ch:List Int
 value:Int
 text:List UInt8
 om:Bool
 ik:Int
 it:Int
 il:Int
 ig:Int
 deriving DecidableEq
def Pz(l:List Int):List V:=l.map (V.int .i64)
def Jv.v(e:Jv):V:=.agg [.i e.kind,.i e.time,.i e.item,.ro 1 (Pz e.ch),.i e.value,.str e.text,.bool e.om,.i e.ik,.i e.it,.i e.il,.i e.ig]
def Jv.a(e:Jv):V:=.agg [.i e.item,.ro 1 (Pz e.ch),.i e.value,.str e.text,.bool e.om]
def zE:Jv:=⟨0,0,0,[],0,[],false,0,0,0,0⟩
def Anp(l:List Int):(Pz l).all V.pureE=true:=by
 rw[Ao];intro x c;simp only[Pz,Bc]at c;obtain⟨n,_,rfl⟩:=c;rfl
def Bg6(l:List Int):(Pz l).length=l.length:=by simp[Pz]
def A9t(l:List Int):Pz l=[]↔l=[]:=by simp[Pz]
def Vt(e:Jv):Bool:=decide (e.item=0)&&decide (e.ch=[])&&decide (e.value=0)&&decide (e.text=[])&& !e.om
def Aev(e:Jv):Bool:=decide (e.ik=0)&&(decide (e.it=0)&&(decide (e.il=0)&&decide (e.ig=0)))
def fmd(e:Jv):Bool:=
 if e.kind=1 then Vt e&&Aev e else if e.kind=3 then Vt e&&Aev e else if e.kind=4 then Vt e&&Aev e else if e.kind=6 then Vt e&&Aev e
 else if e.kind=2 then Aev e else if e.kind=5 then Vt e&&decide (e.it=e.time)else false
def P1(e:Jv):Int:=if fmd e=false then 1 else if(decide (e.time<0)||decide (1099511627776<e.time))=true then 3 else if(decide ((10:Int)<e.ch.length)||decide ((1000:Int)<e.text.length))=true then 5 else 0
def Bi7(e:Jv):fmd e=(decide (1<=e.kind)&&decide (e.kind<=6)&&(decide (e.kind=2)||Vt e)&&(decide (e.kind=5)||Aev e)&&(!decide (e.kind=5)||decide (e.it=e.time))):=by
 unfold fmd
 by_cases h1:e.kind=1
 .simp[h1]
 by_cases h2:e.kind=2
 .simp[h2]
 by_cases c:e.kind=3
 .simp[c]
 by_cases d:e.kind=4
 .simp[d]
 by_cases g:e.kind=5
 .simp[g]
 by_cases f:e.kind=6
 .simp[f]
 have:¬(1<=e.kind/\e.kind<=6):=om;have:(decide (1<=e.kind)&&decide (e.kind<=6))=false:=sG this
 simp[h1,h2,c,d,g,f,this]
def A3z(e:Jv):AC prog 78 [e.v] (λr=>r=.bool (fmd e)):=by
 have l:=A9t e.ch;simp only[Jv.v];generalize Pz e.ch=cv at l;refine Ai func78 λw0 N0=>?_;refine Y [1] [1] sr (Y [1,3] [1,3] sr (Y [1,4] [1] sr (J (Y [1,4,32] [1] sr (Ad (J (Y [1,4,32,33] [1] sr ?_)))))))
 refine Bk (λh1=>?_) λh1=>?_
 .refine Co (λh2=>?_) λh2=>?_
  .refine Y [2] [] sr (Aj (Aa sr (by simp_all[fmd,Vt,Aev])))
  .refine Y [1,4,32,45] [1] sr ?_
   refine Co (λu=>?_) λu=>?_
   .refine Y [2] [] sr (Aj (Aa sr (by simp_all)))
   .refine Y [1,4,51] [1] sr ?_
    refine A1 (λk=>?_) λk=>?_
    .refine Y [2] [] sr (Aj (Aa sr (by simp_all)))
    refine Y [2] [] sr (Aj (Aa sr (by simp_all)))
 .refine Y [1,4,32,33] [1] sr ?_
  refine Bk (λt=>?_) λt=>?_
  .refine Co (λs=>?_) λs=>?_
   .refine Y [2] [] sr (Aj (Aa sr (by simp_all[fmd,Vt,Aev])))
   .refine Y [1,4,32,45] [1] sr ?_
    refine Co (λo=>?_) λo=>?_
    .refine Y [2] [] sr (Aj (Aa sr (by simp_all)))
    .refine Y [1,4,51] [1] sr ?_
     refine A1 (λm=>?_) λm=>?_
     .refine Y [2] [] sr (Aj (Aa sr (by simp_all)))
     refine Y [2] [] sr (Aj (Aa sr (by simp_all)))
  .refine Y [1,4,32,33] [1] sr ?_
   refine Bk (λn=>?_) λn=>?_
   .refine Co (λg=>?_) λg=>?_
    .refine Y [2] [] sr (Aj (Aa sr (by simp_all[fmd,Vt,Aev])))
    .refine Y [1,4,32,45] [1] sr ?_
     refine Co (λd=>?_) λd=>?_
     .refine Y [2] [] sr (Aj (Aa sr (by simp_all)))
     .refine Y [1,4,51] [1] sr ?_
      refine A1 (λj=>?_) λj=>?_
      .refine Y [2] [] sr (Aj (Aa sr (by simp_all)))
      refine Y [2] [] sr (Aj (Aa sr (by simp_all)))
   .refine A6 [1,4,32,33] [1] sr ?_
    refine Co (λc=>?_) λc=>?_
    .refine Y [2] [] sr (Aj (Aa sr (by simp_all[fmd,Vt,Aev])))
    .refine Y [1,4,32,45] [1] sr ?_
     refine Co (λh=>?_) λh=>?_
     .refine Y [2] [] sr (Aj (Aa sr (by simp_all[fmd,Aev])))
     .refine Y [1,4,51] [1] sr ?_
      refine A1 (λf=>?_) λf=>?_
      .refine Y [2] [] sr (Aj (Aa sr (by simp_all[fmd,Vt])))
      refine Y [2] [] sr (Aj (Aa sr (by simp_all[fmd])))
def num(t n:Int):Nd:=.mk t 1 n [] []
def Xn(l:List Int):List Nd:=l.map (num 0)
def Vj(e:Jv):List Nd:=[num 3 e.item,.mk 4 3 0 [] (Xn e.ch),num 5 e.value,.mk 6 2 0 e.text [],num 7 (if e.om=true then 1 else 0)]
def Ja(e:Jv):List Nd:=[num 1 e.kind,num 2 e.time]++(if e.kind=2 then Vj e else if e.kind=5 then [num 8 e.ik,num 9 e.il,num 10 e.ig]else [])
def zNd:Nd:=.mk 0 0 0 [] []
def Ajg(e:Jv):Nd:=if P1 e=0 then .mk 50 3 0 [] (Ja e)else zNd
def Aew(t n:Int):Sm (num t n):=.mk sm sm
def Bg7(l:List Int):∀x∈Xn l,Sm x:=by
 intro x c;simp only[Xn,Bc]at c;obtain⟨n,_,rfl⟩:=c;exact Aew _ _
def Bfc(t k n:Int)(s:List UInt8):Sm (.mk t k n s []):=.mk sm sm
def Bi8(e:Jv)(h:e.ch.length<=1000):∀x∈Vj e,Sm x:=by
 intro x c;simp only[Vj,Bu,Ck,or_false]at c
 rcases c with rfl|rfl|rfl|rfl|rfl
 .exact Aew _ _
 .exact .mk (by simpa[Xn]using h) (Bg7 _)
 .exact Aew _ _
 .exact Bfc _ _ _ _
 .exact Aew _ _
def Bi9(e:Jv)(h:e.ch.length<=1000):(∀x∈Ja e,Sm x)/\(Ja e).length<=1000:=by
 unfold Ja
 refine⟨λx c=>?_,?_⟩
 .rcases Cc.1 c with c|c
  .simp only[Bu,Ck,or_false]at c;rcases c with rfl|rfl<;>exact Aew _ _
  .split at c
   .exact Bi8 e h x c
   .split at c
    .simp only[Bu,Ck,or_false]at c;rcases c with rfl|rfl|rfl<;>exact Aew _ _
    .cases c
 .split
  .simp[Vj]
  .split<;>simp
set_option maxRecDepth 100000 in
def Ala(e:Jv)(ad:e.ch.length<=10):AE 80 [e.a] (.ro 5 ((Vj e).map Nd.v)):=by
 have hl:=Bg6 e.ch
 have m:∀(k:Nat)(h:k<e.ch.length),Gz (Pz e.ch) k=some (.i e.ch[k]):=by
  intro k h;rw[C0];simp[Pz,h]
 have u:((Xn e.ch).map Nd.v).length=e.ch.length:=by simp[Xn]
 have o:∀(k:Nat)(h:k<e.ch.length),((Xn e.ch).map Nd.v)[k]?=some (num 0 e.ch[k]).v:=by
  intro k h;simp[Xn,h]
 have s:=Xm (Xn e.ch);have hL:=Az1 4 (Xn e.ch) (by simp[Xn];omega) (Bg7 _);have c:=λt n=>Ano t n
 have l:=A3y 6 e.text;simp only[Jv.a,Vj,Br,Ci];simp only[num,Nd.v,Ci]at c l hL o|-;generalize Pz e.ch=d at hl m;generalize(Xn e.ch).map Nd.v=nv at u o s hL|-;refine Ai func80 (λw0 N0=>?_);refine Y [1] [1] sr ?_;have z:(d.length:Int)<=9223372036854775807:=om;have aa:64*(d.length:Int)<=281474976710656:=om;refine Y [1,3] [1,10] (by simp[z,aa]<;>rfl) (J (A5 [12,13,14] sr (Ad (H5 (λk=>[(14,.i k)]) (λk=>[(10,⟨5,5,94,E4 nv zN k⟩)]) (λk=>True) d.length trivial (by rw[Ia,u,<-hl];exact Z) ?_))));intro k nx hk hI;have x:=Jc nv zN k om;refine Y [1,3,12,13,14,15] [1,10] sr (J ?_)
 refine Bk (λh1=>?_) (λh1=>?_)
 .have w:k<e.ch.length:=by simp at h1;omega
  have f:k<d.length:=om;have g:k<nv.length:=om;have ga:=m k w;have j:=Je nv zN k g (o k w);have hz:Gz (E4 nv zN k) k=some (.agg [.i 0,.i 0,.i 0,.str [],.nils]):=Jd nv zN k g;have hw:=Hr (k:=k) om;have hc:=c 0 e.ch[k];generalize E4 nv zN k=row at hz j x|-;refine J (Ad (Y [1,3,4,5,12,13,14] [1,10] (by simp[ga,f]<;>rfl) (Ik 3 sr ?_)));refine Aw hc func79 ?_ (ha:=rfl) (hp:=rfl);refine Ak [1,3,12,13,14] [1,10] (by simp[f,hz,j]<;>rfl) ?_;refine Cs [] (by simp[hw]<;>rfl) ?_;exact⟨f,trivial,_,Z⟩
 .refine A3 ?_;have ab:k=d.length:=sO h1
  rw[Jz nv zN k om];have y:nv.length=d.length:=om;refine Y [1,3,6] [1,10] sr ?_
  refine Lc ⟨[(1,.bp 1 0 5 0 0),(3,.sl 10 5 5 d.length),(6,.i (if e.om=true then 1 else 0))],[(1,⟨0,5,75,[.agg [.i e.item,.ro 1 d,.i e.value,.str e.text,.bool e.om]]⟩),(10,⟨5,5,94,nv⟩)],nx+1000,41⟩ ?_ ?_
  .refine A5 [26] sr ?_
   refine A1 (λh2=>?_) (λh2=>?_)
   .refine A6 [1,3,6] [1,10] sr ?_;refine⟨rfl,?_⟩;rw[Ab h2];exact Kp [1,3,6] [1,10] sr sr rfl sy
   .refine⟨rfl,?_⟩;rw[I (by rw[h2];simp)];exact Kp [1,3,6] [1,10] sr sr rfl sy
  refine Bq 10 [1,3,6] [1] (by simp[s,y]<;>rfl) ?_;generalize(if e.om=true then(1:Int)else 0)=om;refine J (H0 [(0,[]),(3,[]),(5,[]),(8,[]),(11,[]),(1,[40]),(2,[]),(4,[]),(6,[40]),(7,[]),(9,[40]),(10,[]),(12,[]),(13,[]),(14,[])] Ada kr ?_);refine B8 6 sr ?_;refine B1 (λm=>c 3 e.item) func79 ?_;refine B1 (λm=>hL) func81 ?_;refine B8 1 sr ?_;refine B1 (λm=>c 5 e.value) func79 ?_;refine B8 1 sr ?_;refine B1 (λm=>l) func133 ?_;refine B1 (λm=>c 7 om) func79 ?_;refine C5 [2] [40] sr ?_;exact Bv sr rfl
def Yv{e:Jv}(h:P1 e=0):fmd e=true/\0<=e.time/\e.time<=1099511627776/\e.ch.length<=10/\e.text.length<=1000:=by
 unfold P1 at h
 split at h
 .cases h
 rename_i h1
 split at h
 .cases h
 rename_i h2
 split at h
 .cases h
 rename_i c;simp at h1 h2 c;exact⟨h1,by omega,by omega,by omega,by omega⟩
def A9u:Bh (.agg [.i 0,.i 0,.i 0,.str [],.nils]) zNd.v:=Aat 0 0 0 []
def Axf(e:Jv):V:=.tup [(Ajg e).v,.i (P1 e)]
def A30(c:Int){e:Jv}(h:P1 e=c)(d:c≠0):Bh (.tup [.agg [.i 0,.i 0,.i 0,.str [],.nils],.i c]) (Axf e):=by
 subst h;rw[Axf,Ajg,I d];exact Bh.tup (.cons A9u (.cons (Bh.refl _) .nil))
set_option maxRecDepth 100000 in
def Anq(e:Jv):AC prog 44 [e.v] (λr=>r=Axf e):=by
 have f:=A3z e;have hl:=Bg6 e.ch;have hp:=Anp e.ch;have g:=λh=>Ala e h
 have d:=λt n=>Ano t n
 by_cases w:P1 e=0
 .have⟨z,aj,ah,ae,ai⟩:=Yv w;have x:=Bi9 e om;have hL:=Az1 50 (Ja e) x.2 x.1;have g:=g ae;have s:=Xm (Vj e);have u:=Xm (Ja e);have hR:Axf e=.tup [(Nd.mk 50 3 0 [] (Ja e)).v,.i 0]:=by rw[Axf,Ajg,Ab w,w]
  rw[hR];rw[z]at f;have l:((Vj e).map Nd.v).length=5:=by simp[Vj]
  have j:(Ja e).map Nd.v=[(num 1 e.kind).v,(num 2 e.time).v]++(if e.kind=2 then(Vj e).map Nd.v else if e.kind=5 then [(num 8 e.ik).v,(num 9 e.il).v,(num 10 e.ig).v]else []):=by
   unfold Ja
   split
   .simp
   .split<;>simp
  rw[Nd.v]at hL|-;generalize ag:(Ja e).map Nd.v=kv at hL j u|-;simp only[num,Nd.v,Ci]at d j;simp only[Jv.v,Jv.a]at f g|-;generalize Pz e.ch=cv at f hl hp g;generalize(Vj e).map Nd.v=av at g s l j;have ab:¬e.time<0:=om;have ad:¬1099511627776<e.time:=om;have aa:¬(10:Int)<cv.length:=om;have af:¬(1000:Int)<e.text.length:=om;refine Ai func44 (λw0 N0=>?_);refine Y [1,2] [1,2] sr (J (Au 1 sr ?_));refine Ef f func78 rfl kr rfl rfl rfl rfl sM sr (Ak [1,2,7] [1,2] sr ?_);refine Ce (J (Y [1,2,16] [1,2] C1 ?_));refine Ce (J (Y [1,2,29] [1,2] (by simp[aa,af]<;>rfl) ?_));refine Ce (J (H0 [(0,[]),(3,[]),(1,[37]),(2,[]),(4,[37]),(5,[]),(6,[]),(7,[])] Ada kr ?_));refine B8 3 sr ?_;refine D7 (λy=>d 1 e.kind) func79 rfl kr rfl rfl sr rfl rfl sr sm sr ?_;refine B8 1 sr ?_;refine D7 (λy=>d 2 e.time) func79 rfl kr rfl rfl sr rfl rfl sr sm sr ?_;refine C5 [1,2,4] [1,2,37] sr ?_
  refine Lc ⟨[(2,.bp 2 1 5 0 0),(4,.ro 5 kv)],[(2,⟨1,5,94,[.agg [.i 0,.i 0,.i 0,.str [],.nils]]⟩)],1000,66⟩ ?_ ?_
  .refine Y [1,2,4,39] [1,2,37] sr (Ad (Y [1,2,4,39,40] [1,2,37] sr ?_))
   refine Co (λk=>?_) (λk=>?_)
   .have k:e.kind=2:=sG k
    rw[Ab k]at j;refine Ik 3 sr ?_;refine Ef g func80 rfl kr rfl rfl rfl rfl sM sr ?_;refine Ak [2,4] [2,37] (by simp[l,maxLen]<;>rfl) ?_;refine⟨rfl,?_⟩;rw[j];refine Avd 37 [2,4] [2] (by simp[s,l]<;>rfl) ?_ ?_ ?_ ?_ <;>first|rfl|simp
   .have k:¬e.kind=2:=sG k
    rw[I k]at j;refine Y [1,2,4,47] [1,2,37] sr ?_
    refine A1 (λm=>?_) (λm=>?_)
    .have m:e.kind=5:=sG m
     rw[Ab m]at j;refine H0 [(0,[]),(1,[]),(2,[]),(5,[]),(6,[]),(9,[]),(10,[]),(3,[62]),(4,[]),(7,[62]),(8,[]),(11,[62]),(12,[]),(13,[]),(14,[]),(15,[])] Ada kr ?_;refine B8 8 sr ?_;refine D7 (λy=>d 8 e.ik) func79 rfl kr rfl rfl sr rfl rfl sr sm sr ?_;refine B8 1 sr ?_;refine D7 (λy=>d 9 e.il) func79 rfl kr rfl rfl sr rfl rfl sr sm sr ?_;refine B8 1 sr ?_;refine D7 (λy=>d 10 e.ig) func79 rfl kr rfl rfl sr rfl rfl sr sm sr ?_;refine C5 [2,4] [2,37] (by simp[maxLen]<;>rfl) ?_;refine⟨rfl,?_⟩;rw[j];refine Avd 37 [2,4] [2] sr ?_ ?_ ?_ ?_ <;>first|rfl|simp
    .have m:¬e.kind=5:=sG m
     rw[I m]at j;refine⟨rfl,?_⟩;rw[j];refine Avd 37 [2,4] [2] sr ?_ ?_ ?_ ?_ <;>first|rfl|simp
  refine Au 1 sr ?_;refine Ef hL func81 rfl kr rfl rfl rfl rfl sM sr ?_;refine Ak [2,3] [2] sr ?_;exact Aj (Aa sr rfl)
 .refine AC.relax ?_ (A30 _ rfl w);have c:P1 e=if fmd e=false then 1 else if(decide (e.time<0)||decide (1099511627776<e.time))=true then 3 else if(decide ((10:Int)<(Pz e.ch).length)||decide ((1000:Int)<e.text.length))=true then 5 else 0:=by rw[hl];rfl
  simp only[Jv.v]at f|-;generalize Pz e.ch=cv at f hl hp c;generalize fmd e=fb at f c;refine Ai func44 (λw0 N0=>?_);refine Y [1,2] [1,2] sr (J (Au 1 sr ?_));refine Ef f func78 rfl kr rfl rfl rfl rfl sM sr ?_;refine Ak [1,2,7] [1,2] sr ?_
  refine A1 (λh1=>?_) (λh1=>?_)
  .rw[Ab (sG h1)]at c;exact Y [2,3] [2] sr (Aj (Aa sr (by rw[c])))
  rw[I (sG h1)]at c;refine J (Y [1,2,16] [1,2] sr ?_)
  refine A1 (λh2=>?_) (λh2=>?_)
  .rw[Ab h2]at c;exact Y [2,3] [2] sr (Aj (Aa sr (by rw[c])))
  rw[I (by rw[h2];simp)]at c;refine J (Y [1,2,29] [1,2] sr ?_)
  refine A1 (λo=>?_) (λo=>?_)
  .rw[Ab o]at c;exact Y [2,3] [2] sr (Aj (Aa sr (by rw[c])))
  rw[I (by rw[o];simp)]at c;exact absurd c w
def At8(x:Int):0<=IntKind.u8.wrap x/\IntKind.u8.wrap x<256:=by
 rw[IntKind.wrap_u8];omega
def Ap8:List UInt8:=[0,1]++List.replicate 2 2++List.replicate 4 3++List.replicate 8 4++List.replicate 16 5++List.replicate 32 6++List.replicate 64 7++List.replicate 128 8
def A9v:Ap8.length=256:=by decide+kernel
def Bfd:∀b∈Ap8,b.toNat<=8:=by decide+kernel
def la(x:Int):Int×Int:=if decide (4294967296<=x)=true then(x.fdiv 4294967296,32)else(x,0)
def lb(p:Int×Int):Int×Int:=if decide (65536<=p.1)=true then(p.1.fdiv 65536,p.2+16)else p
def lc(p:Int×Int):Int×Int:=if decide (256<=p.1)=true then(p.1.fdiv 256,p.2+8)else p
def t8(x:Int):Int:=((Gz Ap8 (IntKind.u8.wrap x).toNat).getD 0).toNat
def l64(x:Int):Int:=(lc (lb (la x))).2+t8 (lc (lb (la x))).1
def Blf(x:Int):0<=(la x).2/\(la x).2<=32:=by unfold la;split<;>simp
def Blg(p:Int×Int):p.2<=(lb p).2/\(lb p).2<=p.2+16:=by unfold lb;split<;>(try simp only)<;>omega
def Blh(p:Int×Int):p.2<=(lc p).2/\(lc p).2<=p.2+8:=by unfold lc;split<;>(try simp only)<;>omega
def Bg8(x:Int):∃b,Gz Ap8 (IntKind.u8.wrap x).toNat=some b/\t8 x=b.toNat/\b.toNat<=8:=by
 have hu:=At8 x;have c:(IntKind.u8.wrap x).toNat<Ap8.length:=by rw[A9v];omega
 have d:Gz Ap8 (IntKind.u8.wrap x).toNat=some Ap8[(IntKind.u8.wrap x).toNat]:=by rw[C0];simp[c]
 exact⟨_,d,by rw[t8,d];rfl,Bfd _ (As c)⟩
def Bg9(x:Int):0<=l64 x/\l64 x<=64:=by
 have h1:=Blf x;have h2:=Blg (la x);have h3:=Blh (lb (la x));have⟨b,_,h4,h5⟩:=Bg8 (lc (lb (la x))).1;unfold l64;omega
set_option maxRecDepth 100000 in
def A9w(x:Int):AE 233 [.int .u64 x] (.i (l64 x)):=by
 refine Ai func233 (λw0 N0=>?_);refine Y [0,2] [] sr ?_
 refine Lc ⟨[(0,.int .u64 (la x).1),(2,.i (la x).2)],[],1000,25⟩ ?_ ?_
 .refine A5 [4] sr ?_
  refine A1 (λh1=>?_) (λh1=>?_)
  .refine Y [0] [] sr (Cs [2] sr ?_);refine⟨rfl,?_⟩;rw[la,Ab h1];exact Wg rfl rfl rfl sm
  .refine⟨rfl,?_⟩;rw[la,I (by rw[h1];simp)];exact Kp [0,2] [] sr sr rfl sm
 have f:=Blf x;unfold l64;generalize la x=p1 at f;have⟨j,d⟩:=p1;simp only at f;have Ec:IntKind.i64.wrap (d+16)=d+16:=Cu om om
 refine Lc ⟨[(0,.int .u64 (lb (j,d)).1),(2,.i (lb (j,d)).2)],[],2000,25⟩ ?_ ?_
 .refine A5 [8] sr ?_
  refine A1 (λh1=>?_) (λh1=>?_)
  .refine Y [0,2] [] sr (Cs [] C1 ?_);refine⟨rfl,?_⟩;rw[lb,Ab h1];exact Wg rfl rfl rfl sm
  .refine⟨rfl,?_⟩;rw[lb,I (by rw[h1];simp)];exact Kp [0,2] [] sr sr rfl sm
 have g:=Blg (j,d);generalize lb (j,d)=z at g;have⟨k,e⟩:=z;simp only at g;have Sk:IntKind.i64.wrap (e+8)=e+8:=Cu om om
 refine Lc ⟨[(0,.int .u64 (lc (k,e)).1),(2,.i (lc (k,e)).2)],[],3000,25⟩ ?_ ?_
 .refine A5 [14] sr ?_
  refine A1 (λh1=>?_) (λh1=>?_)
  .refine Y [0,2] [] sr (Cs [] C1 ?_);refine⟨rfl,?_⟩;rw[lc,Ab h1];exact Wg rfl rfl rfl sm
  .refine⟨rfl,?_⟩;rw[lc,I (by rw[h1];simp)];exact Kp [0,2] [] sr sr rfl sm
 have h:=Blh (k,e);generalize lc (k,e)=y at h;have⟨s,o⟩:=y;simp only at h;generalize w:ByteArray.mk _ =c0;have u:c0.data.toList=Ap8:=by rw[<-w];decide+kernel
 clear w;have⟨b,c,ht,hb⟩:=Bg8 s;rw[ht];have⟨m,t⟩:=Cn (At8 s).1;rw[t]at c;simp only[C4]at c;have l:IntKind.i64.wrap (b.toNat:Int)=b.toNat:=Cu om om;have n:IntKind.i64.wrap (o+b.toNat)=o+b.toNat:=Cu om om;generalize Ap8=L at u c;exact Y [2] [] C1 (Bv sr rf)
def vl(x:Int):Int:=(l64 (bits .or .u64 x 1)+6)/7
def Bfe(x:Int):0<=vl x/\vl x<=10:=by
 have:=Bg9 (bits .or .u64 x 1);unfold vl;omega
def Ra(x:Int):AE 209 [.int .u64 x] (.i (vl x)):=by
 have c:=A9w (bits .or .u64 x 1);have f:=Bg9 (bits .or .u64 x 1);unfold vl;generalize l64 (bits .or .u64 x 1)=k at c f;have e:IntKind.i64.wrap (k+6)=k+6:=Cu om om;have d:(k+6).tdiv 7=(k+6)/7:=Si om;have Sk:IntKind.i64.wrap ((k+6)/7)=(k+6)/7:=Cu om om;refine Ai func209 λw0 N0=>?_;refine Y [0] [] sr (Au 2 sr ?_);refine Aw c func233 ?_ (ha:=rfl) (hp:=rfl);exact Ak [2] [] C1 (Bv sr rfl)
def Bff(n:Int):AC prog 210 [.i n] (λr=>∃k:Int,r=.int .u64 k):=by
 refine Ai func210 λw0 N0=>?_;refine Y [0] [] sr (Y [2] [] sr ?_);exact Bv sr ⟨_,rfl⟩
end Go.Proofs.YtnoignhlamifmaaGreatDoor
