/- Resuming, part 4. No condition. -/
import Derived.Test.YtnoignhlamifmaaGreatDoorE3
import Derived.Shelf.SlicesG.Cmp
import Derived.WalkSpells
import Derived.Deep.RegionHeld3
import Derived.Shelf.SlSortCmp.NoneTotal
set_option maxHeartbeats 8000000
set_option linter.all false
set_option maxRecDepth 10000
open Go.Proofs.Tryz
namespace Go.Proofs.YtnoignhlamifmaaGreatDoor
open Go.Eng Go.Eng.Limb
variable {k n:Nat}{x:Int}
def Pj(d:Int):List Int->List Int->List Int->Rat->Rat
 |a::l,b::e,w::c,t=>Pj d l e c (t+mkRat ((b-a)*(b-a)) (1000*d*d*w).natAbs)
 |_,_,_,t=>t
def Qr(a:List Int)(m:Mo)(q:Nat):Rat:=
 if q-1=min (q+1) (a.length-1)then 0
 else Pj (a.getD (min (q+1) (a.length-1)) 0-a.getD (q-1) 0) (m.getD (q-1) []) (m.getD (min (q+1) (a.length-1)) []) (m.getD q []) 0
def Av5(d:Int){a b w:List Int}(h1:k<a.length)(h2:k<b.length)(c:k<w.length)(t:Rat):
  Pj d (a.drop k) (b.drop k) (w.drop k) t=Pj d (a.drop (k+1)) (b.drop (k+1)) (w.drop (k+1)) (t+mkRat ((b[k]-a[k])*(b[k]-a[k])) (1000*d*d*w[k]).natAbs):=by
 rw[Bo h1,Bo h2,Bo c,Pj]
def Ah6:∀ {l:List Int},Wq l=true->l.Pairwise (·< ·)
 |[],_=>.nil
 |[_],_=>by simp
 |a::b::r,h=>by
  simp only[Wq,Be,decide_eq_true_eq]at h;have ih:=Ah6 h.2;refine Nu.2 ⟨λx c=>?_,ih⟩
  rcases Bu.1 c with e|e
  .subst e;exact h.1
  .have:=(Nu.1 ih).1 x e;omega
def Ar8(h1: -(n:Int)<=x)(h2:x<=n):0<=x*x/\x*x<=(n*n:Nat):=by
 rw[<-Int.natAbs_mul_self (a:=x)];have:=Iq (show x.natAbs<=n by omega) (show x.natAbs<=n by omega);omega
def Amk{d w:Int}(h1:0<d)(h2:d<=2000)(h3:1<=w)(h4:w<=1000):∃n:Nat,1000*d*d*w=n/\n≠0/\n<=4000000000000/\0<=1000*d/\1000*d<=2000000/\0<=1000*d*d/\1000*d*d<=4000000000:=by
 obtain⟨a,rfl⟩:∃a:Nat,d=a:=⟨d.toNat,by omega⟩;obtain⟨b,rfl⟩:∃b:Nat,w=b:=⟨w.toNat,by omega⟩;have e:a*a<=2000*2000:=Iq om om;have g:0<a*a:=Nat.mul_pos om om;have k3:a*a*b<=2000*2000*1000:=Iq e om;have k4:0<a*a*b:=Nat.mul_pos g om;have c:1000*(a:Int)*a=1000*(a*a:Nat):=by rw[Fq,Int.mul_assoc]
 have f:1000*(a:Int)*a*b=(1000*(a*a*b):Nat):=by rw[c,Int.mul_assoc,<-Fq];rfl
 refine⟨1000*(a*a*b),f,by omega,by omega,by omega,by omega,?_,?_⟩
 .rw[c];omega
 .rw[c];omega
def Bdg(g:Gr)(m:Mo)(q:Nat)(hg:L5 g=0)(hm:L6 m g.pts.length=0)(hq:q<g.pts.length):
  AE 306 [g.v,moV m,.i q] ((nR (Qr g.pts m q)).v):=by
 have l:=Wu 0 1 dc dc dc dc;rw[Rx]at l;obtain⟨bk,bh,bc,ad,-,hri⟩:=Kn hg;obtain⟨ml,mp,a6,-,m6,mrow⟩:=Ab4 hm;have c:=Ah6 hri;have⟨pts,ae⟩:=g;simp only at bk bh bc ad hq ml a6 c|-;have ev:(Gr.mk pts ae).v=.agg [.ro 1 (Ap pts),.ro 1 (Ap ae)]:=rfl;have em:moV m=.agg [.ro 1 (Eo m)]:=rfl;rw[ev,em];unfold Qr;have hr:∀(k:Nat)(h:k<m.length),Gz (Eo m) k=some (.ro 1 (Ap m[k])):=λk h=>Ua h
 have lr:=Mj m;have gp:∀(k:Nat)(h:k<pts.length),Gz (Ap pts) k=some (.i pts[k]):=λk h=>Fr h
 have lp:=A0 pts;obtain⟨A,hA⟩:∃A,A=q-1:=⟨_,rfl⟩;obtain⟨B,hB⟩:∃B,B=min (q+1) (pts.length-1):=⟨_,rfl⟩;rw[<-hA,<-hB];have o:A<pts.length:=om;have s:B<pts.length:=om;have gA:=gp A o;have gB:=gp B s;have rA:=hr A om;have rB:=hr B om;have rQ:=hr q om;have eA:pts.getD A 0=pts[A]:=by simp[List.getD,o]
 have eB:pts.getD B 0=pts[B]:=by simp[List.getD,s]
 have a3:m.getD A []=m[A]'(by omega):=by simp[List.getD,show A<m.length by omega]
 have bi:m.getD B []=m[B]'(by omega):=by simp[List.getD,show B<m.length by omega]
 have a1:m.getD q []=m[q]'(by omega):=by simp[List.getD,show q<m.length by omega]
 rw[eA,eB,a3,bi,a1];have xA:=mrow _ (As (show A<m.length by omega));have xB:=mrow _ (As (show B<m.length by omega));have xQ:=mrow _ (As (show q<m.length by omega));have pA:=ad _ (As o);have pB:=ad _ (As s);have ar:A≠B->pts[A] <pts[B]:=λh=>H1.1 c A B o s om
 generalize m[A]'(by omega)=y,m[B]'(by omega)=z,m[q]'(by omega)=e,pts[A]=pa,pts[B]=pb at*;simp only[Y2]at l|-;have au:nRb ((0:Int):Rat)=nRb 0:=rfl;have a2:nRl ((0:Int):Rat)=nRl 0:=rfl;have ao:nRd ((0:Int):Rat)=nRd 0:=rfl;rw[au,a2,ao]at l;have p1:=Jl;have p2:=Jm;generalize Ap pts=pv,Ap ae=qv,Eo m=mv at*
 have bg:(if IntKind.i64.wrap ((q:Int)-1)<0 then 0 else IntKind.i64.wrap ((q:Int)-1))=(A:Int):=by
  rw[Bm om oM];split<;>omega
 have be:(if IntKind.i64.wrap ((pv.length:Int)-1)<IntKind.i64.wrap ((q:Int)+1)then IntKind.i64.wrap ((pv.length:Int)-1)else IntKind.i64.wrap ((q:Int)+1))=(B:Int):=by
  rw[Bm om om,Bm om oM];split<;>omega
 have a4:A<pv.length:=om;have a7:B<pv.length:=om;have aw:A<mv.length:=om;have a0:B<mv.length:=om;have bf:q<mv.length:=om;have ax:=A0 y;have a8:=A0 z;have bd:=A0 e;obtain⟨wa,al⟩:∃wa,Ap y=wa:=⟨_,rfl⟩;obtain⟨wb,ai⟩:∃wb,Ap z=wb:=⟨_,rfl⟩;obtain⟨wq,af⟩:∃wq,Ap e=wq:=⟨_,rfl⟩;rw[al]at rA ax;rw[ai]at rB a8;rw[af]at rQ bd;refine Ai func306 λw0 N0=>?_;refine Y [2,3,4,6] [3,4,6] sr (I3 [0,6,10,1,6,4,11,1] [2,3,4,6,7,8] [3,4,6] sr (by simp[bg,be]<;>rfl) ?_);refine J (Cb (Aw l func103 ?_));refine Ak [2,3,4,6,7,8,9] [3,4,6,9] sr ?_;refine J (A5 [33] sr ?_)
 refine A1 (λh1=>?_) λh1=>?_
 .have bo:(A:Int)=B:=sG h1
  have a:A=B:=om;exact Y [6] [6] sr (Aj (Aa sr (by rw[Ab a])))
 have a:A≠B:=λh=>by rw[h]at h1;simp at h1
 rw[I a];have bm:=ar a;obtain⟨d,hd⟩:∃d,d=pb-pa:=⟨_,rfl⟩;rw[<-hd];have bj:IntKind.i64.wrap (pb-pa)=d:=by rw[hd];exact Bm om om
 refine I3 [0,1,2,1,5,1,7,1,1,1,3,2,6,1,8,4] [2,4,6,7,8,9,11] [4,6,9] sr (by simp[gA,gB,a4,a7,bj]<;>rfl) ?_;refine J (Y [4,6,7,8,9,11,50,51,52] [4,6,9] (by simp[rQ,bf]<;>rfl) (Ad ?_))
 refine Gn (λx:Nat×Nat×Rat=>[(52,V.i (x.1:Nat))]) (λx=>[(9,{v:=19,sz:=3,ty:=34,es:=[V.agg [V.bool (nRb x.2.2),V.ro 1 (nRl x.2.2),V.ro 1 (nRd x.2.2)]]})]) (λx=>x.2.1)
  (λx=>x.1<=e.length/\Q2 x.2.2<=3+4*x.1/\Pj d (y.drop x.1) (z.drop x.1) (e.drop x.1) x.2.2=Pj d y z e 0) (λx=>e.length-x.1) (0,_,0) ⟨B5 _,Q4 (x:=0) dc dc,rfl⟩ Z ?_
 rintro⟨k,nx,t⟩⟨hk,ag,j⟩;simp only at hk ag j|-;refine Y [4,6,7,8,9,11,50,51,52,53] [4,6,9] sr (J ?_)
 refine Bk (λh2=>?_) λh2=>?_
 .have c:k<e.length:=by simp at h2;omega
  have ab:k<y.length:=om;have aa:k<z.length:=om;have ah:k<wa.length:=om;have aj:k<wb.length:=om;have am:k<wq.length:=om;have ga:=Fr ab;have gb:=Fr aa;have gq:=Fr c;rw[al]at ga;rw[ai]at gb;rw[af]at gq;have Ec:=A4 (k:=k) om;have ba:=xA.2.1 _ (As ab);have bb:=xB.2.1 _ (As aa);have bq:=xQ.2.1 _ (As c);rw[Av5 d ab aa c]at j;generalize y[k]=ka at ga ba j;generalize z[k]=kb at gb bb j;generalize e[k]=kq at gq bq j;obtain⟨ch,ak⟩:∃ch,ch=kb-ka:=⟨_,rfl⟩;have a9:IntKind.i64.wrap (kb-ka)=ch:=by rw[ak];exact Bm om om
  rw[<-ak]at j;have aq:=Ar8 (x:=ch) (n:=1000) om om;have⟨E,hE,an,br,e1,e2,e3,e4⟩:=Amk (d:=d) (w:=kq) om om om om;rw[hE,Ew]at j;have av:IntKind.i64.wrap (1000*d)=1000*d:=Bm om om;have az:IntKind.i64.wrap (1000*d*d)=1000*d*d:=Bm om om;have a5:IntKind.i64.wrap (1000*d*d*kq)=(E:Nat):=by rw[hE];exact Bm om om
  clear e1 e2 e3 e4 hE;obtain⟨sq,hs⟩:∃sq,sq=ch*ch:=⟨_,rfl⟩;have ay:IntKind.i64.wrap (ch*ch)=sq:=by rw[hs];exact Bm om om
  rw[<-hs]at aq j;have i:=Wu sq E om om om om;rw[Vd _ an]at i;have z1:Q2 (mkRat sq E)<=3:=Vc an (Mk om om) (Ad7 (Mk om om));have bn:k<6:=om;have f:=Aym (nR t) (nR (mkRat sq E)) (N7 om) (N7 om);rw[M5,M5]at f;have z2:=Ao0 ag z1;generalize mkRat sq E=u at*;simp only[Y2]at i f;refine J (Ad (Y [4,6,7,8,9,11,12,13,50,51,52] [4,6,9] (by simp[gq,am]<;>rfl) ?_));refine I3 [0,1,2,1,5,1,8,1,10,1,13,1,1,1,3,2,6,2,9,1,11,2,14,4] [4,6,7,8,9,11,13,14,50,51,52] [4,6,9] sr (by simp[rA,rB,aw,a0,ga,gb,ah,aj,a9]<;>rfl) ?_;refine Au 9 (by simp[ay,av,az,a5]<;>rfl) ?_;refine Aw i func103 ?_;refine Ak [4,6,7,8,9,11,15,50,51,52] [4,6,9,15] sr ?_;refine Ik 2 sr ?_;refine Ge [4,6,7,8,9,11,50,51,52] [4,6,9] f func304 ?_;refine Cs [] (by simp[Ec]<;>rfl) ?_;exact⟨(k+1,_,t+u),⟨by simp only;omega,by simp only;omega,j⟩,by simp only;omega,Z⟩
 .refine A3 ?_;have bl:k=e.length:=sO h2
  have hn:∀t,Pj d (y.drop k) (z.drop k) (e.drop k) t=t:=λt=>by rw[bl,Cl];cases y.drop e.length<;>cases z.drop e.length<;>rfl
  rw[hn]at j;exact Y [6] [6] sr (Aj (Aa sr (by rw[j])))
variable {α:Type}{i q:Nat}
def Ar9{d:Int}(h1:0<d)(h2:d<=2000):∀ {a b w:List Int}{t:Rat}{s:Nat},(∀x∈a,1<=x/\x<=1000)->(∀x∈b,1<=x/\x<=1000)->(∀x∈w,1<=x/\x<=1000)->Q2 t<=s->Q2 (Pj d a b w t)<=s+4*w.length
 |[],b,w,t,s,_,_,_,e=>by cases b<;>cases w<;>simp only[Pj]<;>omega
 |_ ::_,[],w,t,s,_,_,_,e=>by cases w<;>simp only[Pj]<;>omega
 |_ ::_,_ ::_,[],t,s,_,_,_,e=>by simp only[Pj];omega
 |x::a,y::b,z::w,t,s,j,l,k,e=>by
  have c:=j x (Fc ..);have hy:=l y (Fc ..);have i:=k z (Fc ..);obtain⟨E,m,g,u,-⟩:=Amk h1 h2 i.1 i.2;have f:=Ar8 (x:=y-x) (n:=1000) om om;obtain⟨q,h⟩:∃q,q=(y-x)*(y-x):=⟨_,rfl⟩;rw[Pj,m,Ew,<-h];rw[<-h]at f;have o:Q2 (mkRat q E)<=3:=Vc g (Mk om om) (Ad7 (Mk om om));have:=Ar9 h1 h2 (λx c=>j x (Dt _ c)) (λx c=>l x (Dt _ c)) (λx c=>k x (Dt _ c)) (Ao0 e o);simp only[Ax];omega
def Wz{l:List α}{d:α}(h:i<l.length):l.getD i d∈l:=by
 rw[show l.getD i d=l[i]by simp[List.getD,h]];exact As h
def Bdh{g:Gr}{m:Mo}(h:L5 g=0)(o:L6 m g.pts.length=0)(hq:q<g.pts.length):Q2 (Qr g.pts m q)<=27:=by
 obtain⟨k,r,n,a,-,hri⟩:=Kn h;obtain⟨ml,mp,i,-,m6,mrow⟩:=Ab4 o;unfold Qr
 split
 .exact Ae (Q4 (x:=0) dc dc) dc
 .rename_i l;have c:min (q+1) (g.pts.length-1)<g.pts.length:=om;have e:q-1<g.pts.length:=om;have pA:=a _ (Wz (d:=0) e);have pB:=a _ (Wz (d:=0) c)
  have hd:g.pts.getD (q-1) 0<g.pts.getD (min (q+1) (g.pts.length-1)) 0:=by
   have:=H1.1 (Ah6 hri) (q-1) _ e c om;simpa[List.getD,e,c]using this
  have j:=mrow _ (Wz (d:=[]) (show q<m.length by omega))
  have:=Ar9 (t:=0) (s:=3) (show 0<g.pts.getD (min (q+1) (g.pts.length-1)) 0-g.pts.getD (q-1) 0 by omega) om (mrow _ (Wz (d:=[]) (show q-1<m.length by omega))).2.1
   (mrow _ (Wz (d:=[]) (show min (q+1) (g.pts.length-1)<m.length by omega))).2.1 j.2.1 (Q4 (x:=0) dc dc)
  omega
def Bdi(g:Gr)(m:Mo)(q:Nat)(f:L5 g=0)(k:L6 m g.pts.length=0)(i:q<g.pts.length):
  AE 273 [g.v,moV m,.i q] (.tup [(nR (Qr g.pts m q)).v,.i 0]):=by
 have a:=Bdg g m q f k i;have e:=Ml g;rw[f]at e;have c:=To m g.pts.length;rw[k]at c;have⟨pts,d⟩:=g;simp only at i c a|-;generalize Qr pts m q=u at*;have ev:(Gr.mk pts d).v=.agg [.ro 1 (Ap pts),.ro 1 (Ap d)]:=rfl;have j:moV m=.agg [.ro 1 (Eo m)]:=rfl;rw[ev,j]at a|-;rw[ev]at e;have t:=A0 pts;have n:=Ac pts;have o:=Ac d;have l:=D0 m;rw[j]at c;rw[<-t]at c;simp only[Y2]at a|-;have w:=Jl;have s:=Jm;generalize Ap pts=pv,Ap d=qv,Eo m=mv at*;refine Ai func273 λw0 N0=>?_;refine Y [2,3,4,6] [3,4,6] sr (J (Au 1 sr ?_));refine Ge [2,3,4,6,8] [3,4,6] e func55 ?_;refine A5 [13] sr ?_;refine Ce (J (Au 4 sr ?_));refine Ge [2,3,4,6,9] [3,4,6] c func106 ?_;refine A5 [22] sr ?_;refine Ce (J (Y [2,3,4,6,33] [3,4,6] sr ?_));refine Ce (Au 3 sr ?_);refine Ge [6,7] [6] a func306 ?_;exact Bv C1 (rfl)
def W0(q:Rat):Int:=if(q*(100000000:Int)).floor< -9223372036854775808\/1000000<(q*(100000000:Int)).floor then 1000000 else(q*(100000000:Int)).floor
def A6x(g:Gr)(m:Mo)(q:Nat)(x:L5 g=0)(z:L6 m g.pts.length=0)(y:q<g.pts.length):
  AC prog 243 [g.v,moV m,.i q] (λr=>r=.tup [.i (W0 (Qr g.pts m q)),.i 0]):=by
 have f:=Bdi g m q x z y;have hz:=Bdh x z y;have l:=Wu 100000000 1 dc dc dc dc;rw[Rx]at l;unfold W0;generalize Qr g.pts m q=u at*;have z1:Q2 ((100000000:Int):Rat)<=3:=Q4 dc dc;have c:=Ayl (nR u) (nR ((100000000:Int):Rat)) (N7 om) (N7 om);rw[M5,M5]at c;have z2:=Ayo hz z1;have d:=A1y (nR (u*((100000000:Int):Rat))) (N7 om);rw[M5]at d;have a:=A6h (nI (u*((100000000:Int):Rat)).floor) (Ct _);rw[I9]at a;generalize(u*((100000000:Int):Rat)).floor=F at*;generalize u*((100000000:Int):Rat)=U at*;generalize((100000000:Int):Rat)=M at*
 obtain⟨s,n,hr,k,o⟩:∃s n,Wv F=.tup [.i s,.bool n]/\(n=decide (-9223372036854775808<=F/\F<=9223372036854775807))/\(n=true->s=F):=by
  unfold Wv;split
  .rename_i h;exact⟨_,_,rfl,by simp[h],λ_=>rfl⟩
  .rename_i h;exact⟨_,_,rfl,by simp only[h,decide_false],λh=>by cases h⟩
 rw[hr]at a;have em:moV m=.agg [.ro 1 (Eo m)]:=rfl;have pm:=D0 m;have eg:g.v=.agg [.ro 1 (Ap g.pts),.ro 1 (Ap g.pri)]:=rfl;have pp:=Ac g.pts;have pq:=Ac g.pri;rw[em,eg]at f|-;simp only[Y2,Avs]at f l c d a;have p1:=Jl;have p2:=Jm;have p3:=Ws;generalize Ap g.pts=pv,Ap g.pri=qv,Eo m=mv at*;refine Ai func243 λw0 N0=>?_;refine Y [2,3,4] [3,4] sr (Au 3 sr ?_);refine Ge [8,9] [8] f func273 ?_;refine J (Y [8,9,22] [8] sr ?_);refine Ce (J (Cb (Aw l func103 ?_)));refine Ak [8,10] [8,10] sr (Au 2 sr ?_);refine Aw c func174 ?_;refine Aw d func275 ?_;refine Ge [12,13] [] a func274 ?_;refine J (Y [12,41] [] sr ?_)
 refine A1 (λh2=>?_) λh2=>?_
 .have t:F< -9223372036854775808\/1000000<F:=by
   by_cases i:n=true
   .rw[i]at h2;have:=o i;simp at h2;omega
   .rw[k]at i;simp at i;omega
  exact Y [6,7] [] sr (Aj (Aa sr (by rw[Ab t])))
 have j:¬(F< -9223372036854775808\/1000000<F)/\s=F:=by
  by_cases i:n=true
  .rw[i]at h2;have e:=o i;simp at h2;rw[i]at k;have:=Kd k.symm;exact⟨by omega,e⟩
  .simp[i]at h2
 rw[j.2];have w:IntKind.i64.wrap F=F:=Bm om om;exact Y [6,7] [] sR (Aj (Aa sr (by rw[I j.1])))
def Il(p:α->Bool):List α->Nat->Int
 |[],_=> -1
 |x::r,i=>if p x=true then(i:Int)else Il p r (i+1)
def Px(p:α->Bool){l:List α}(h:k<l.length):Il p (l.drop k) k=if p l[k]=true then(k:Int)else Il p (l.drop (k+1)) (k+1):=by
 rw[Bo h,Il]
def Qc(p:α->Bool):∀(l:List α)(i:Nat),decide (0<=Il p l i)=l.any p
 |[],_=>rfl
 |x::r,i=>by
  rw[Il,Zv]
  split
  .rename_i h;rw[h];simp
  .rename_i h;rw[Qc p r (i+1),Bool.eq_false_iff.2 h];rfl
def Ayu(p:α->Bool):∀(l:List α)(i:Nat),-1<=Il p l i/\Il p l i<i+l.length/\(0<=Il p l i->(i:Int)<=Il p l i)
 |[],i=>by simp only[Il,Bg];omega
 |x::r,i=>by
  rw[Il];have:=Ayu p r (i+1)
  split
  .simp only[Ax];omega
  .simp only[Ax];omega
def R3(g:FuncId):Bh (.fn g) (.fc g [] []):=by
 refine⟨λw N x a=>?_,λ_=>rfl⟩;cases a with
 |fn=>exact .fc g [] [] [] [] rfl rfl sm sm
def Aml(l:List Int)(x:Int):AE 113 [.ro 1 (Ap l),.i x] (.i (Il (λy=>decide (x=y)) l 0)):=by
 refine K6 0 rfl λg=>?_;have m:=λ(k:Nat)(h:k<l.length)=>Fr h
 have n:=A0 l;rw[n]at g
 have j:(l.length:Int)<=9223372036854775807:=by
  have:maxLen<=9223372036854775807:=dc;omega
 generalize Ap l=f at*;refine Ai func113 λw0 N0=>?_;refine Y [0,1] [] sr (J (A5 [7,8] sr (Ad (Ho 8 (λk=>Il (λy=>decide (x=y)) (l.drop k) k=Il (λy=>decide (x=y)) l 0) l.length rfl ?_))));intro k nx hk c;refine Y [0,1,7,8,9] [] sr (J ?_)
 refine Bk (λh1=>?_) λh1=>?_
 .have a:k<l.length:=by simp at h1;omega
  have d:k<f.length:=om;have i:=m k a;rw[Px _ a]at c;generalize l[k]=y at i c;refine J (Ad (Y [0,1,5,7,8] [] sr (A5 [16] (by simp[i,d]<;>rfl) ?_)))
  refine A1 (λh2=>?_) λh2=>?_
  .exact Y [4] [] sr (Aj (Aa sr (by rw[<-c,Ab h2])))
  refine A6 [0,1,7,8] [] (by simp[(A4 (k:=k) om)]<;>rfl) ?_;exact⟨a,by rw[<-c,I (by rw[h2];decide)],_,Z⟩
 .refine A3 ?_;have e:k=l.length:=sO h1
  rw[e,Cl,Il]at c;exact Qp [4]
def S7(l:List Int)(x:Int):AE 63 [.ro 1 (Ap l),.i x] (.bool (decide (x∈l))):=by
 have a:=Aml l x
 have d:decide (x∈l)=decide (0<=Il (λy=>decide (x=y)) l 0):=by
  rw[Qc]
  by_cases h:x∈l
  .rw[X3 h];symm;rw[Es];exact⟨x,h,by simp⟩
  .rw[decide_eq_false h];symm;rw[Tg];intro y c;simp;exact λe=>h (e▸c)
 rw[d];have pl:=Ac l;generalize Ap l=lv,Il (λy=>decide (x=y)) l 0=z at*;refine Ai func63 λw0 N0=>?_;refine Y [0,1] [] sr (Au 2 sr ?_);refine Ge [4] [] a func113 ?_;exact Bv sr (rfl)
def Asa(l:List Pit)(g:FuncId)(us vs:List V)(f:Pit->Bool)(w:∀p∈l,Z9 gv prog (.fc g us vs) [Pit.v p] (λr=>r=.bool (f p))):Jp gv prog 279 [.ro 9 (C7 l),.fc g us vs] (λr=>r=.i (Il f l 0)):=by
 have s:=λ(k:Nat)(h:k<l.length)=>Jg h
 have u:=Er l;refine Rr 0 rfl λn=>?_;rw[u]at n
 have o:(l.length:Int)<=9223372036854775807:=by
  have:maxLen<=9223372036854775807:=dc;omega
 generalize C7 l=m at*;refine Bp func279 λw0 N0 t=>?_;refine Y [0,1] [] sr (J (Y [0,1,7,8] [] sr (Ad (Ho 8 (λk=>Il f (l.drop k) k=Il f l 0) l.length rfl ?_))));intro k nx hk c;refine Y [0,1,7,8,9] [] sr (J ?_)
 refine Bk (λh1=>?_) λh1=>?_
 .have a:k<l.length:=by simp at h1;omega
  have d:k<m.length:=om;have i:=s k a;have e:=w _ (As a);rw[Px _ a]at c;generalize l[k]=y at i c e;rw[Gq]at i e;generalize f _ =fb at c e;refine J (Ad (Y [0,1,5,7,8] [] sr (Au 5 (by simp[i,d]<;>rfl) ?_)));refine N5 t e sm rfl rfl sr sr sM sr (Ak [0,1,5,7,8,16] [] sr ?_)
  refine A1 (λh2=>?_) λh2=>?_
  .exact Y [4] [] sr (Aj (Aa sr (by rw[<-c,Ab h2])))
  refine A6 [0,1,7,8] [] (by simp[(A4 (k:=k) om)]<;>rfl) ?_;exact⟨a,by rw[<-c,I (by rw[h2];decide)],_,Z⟩
 .refine A3 ?_;have j:k=l.length:=sO h1
  rw[j,Cl,Il]at c;exact Qp [4]
def A6y(l:List Pit)(g:FuncId)(us vs:List V)(f:Pit->Bool)(d:∀p∈l,Z9 gv prog (.fc g us vs) [Pit.v p] (λr=>r=.bool (f p))):AQ 430 [.ro 9 (C7 l),.fc g us vs] (.bool (l.any f)):=by
 have a:=Asa l g us vs f d;rw[<-Qc f l 0];have pl:=Cw l;generalize C7 l=lv,Il f l 0=z at*;refine Bp func430 λw0 N0 c=>?_;refine Y [0,1] [] sr (Au 2 sr ?_);refine Jk [4] [] c a func279 ?_;exact Bv sr (rfl)
def A6z(l:List Ru)(g:FuncId)(us vs:List V)(f:Ru->Bool)(x:∀p∈l,Z9 gv prog (.fc g us vs) [Ru.v p] (λr=>r=.bool (f p))):Jp gv prog 339 [.ro 5 (Hw l),.fc g us vs] (λr=>r=.i (Il f l 0)):=by
 have t:=λ(k:Nat)(h:k<l.length)=>Wx h
 have w:=Ui l;refine Rr 0 rfl λo=>?_;rw[w]at o
 have s:(l.length:Int)<=9223372036854775807:=by
  have:maxLen<=9223372036854775807:=dc;omega
 generalize Hw l=m at*;refine Bp func339 λw0 N0 u=>?_;refine Y [0,1] [] sr (J (Y [0,1,7,8] [] sr (Ad (Ho 8 (λk=>Il f (l.drop k) k=Il f l 0) l.length rfl ?_))));intro k nx hk c;refine Y [0,1,7,8,9] [] sr (J ?_)
 refine Bk (λh1=>?_) λh1=>?_
 .have a:k<l.length:=by simp at h1;omega
  have d:k<m.length:=om;have i:=t k a;have e:=x _ (As a);rw[Px _ a]at c;generalize l[k]=y at i c e;rw[show y.v=.agg [.i y.kind,.i y.n,.i y.mn,.i y.mx,.str y.code]from rfl]at i e;generalize f _ =fb at c e;refine J (Ad (Y [0,1,5,7,8] [] sr (Au 5 (by simp[i,d]<;>rfl) ?_)));refine N5 u e sm rfl rfl sr sr sm sr (Ak [0,1,5,7,8,16] [] sr ?_)
  refine A1 (λh2=>?_) λh2=>?_
  .exact Y [4] [] sr (Aj (Aa sr (by rw[<-c,Ab h2])))
  refine A6 [0,1,7,8] [] (by simp[(A4 (k:=k) om)]<;>rfl) ?_;exact⟨a,by rw[<-c,I (by rw[h2];decide)],_,Z⟩
 .refine A3 ?_;have j:k=l.length:=sO h1
  rw[j,Cl,Il]at c;exact Qp [4]
def A60(l:List Ru)(g:FuncId)(us vs:List V)(f:Ru->Bool)(d:∀p∈l,Z9 gv prog (.fc g us vs) [Ru.v p] (λr=>r=.bool (f p))):AQ 314 [.ro 5 (Hw l),.fc g us vs] (.bool (l.any f)):=by
 have a:=A6z l g us vs f d;rw[<-Qc f l 0];have pl:=Dm l;generalize Hw l=lv,Il f l 0=z at*;refine Bp func314 λw0 N0 c=>?_;refine Y [0,1] [] sr (Au 2 sr ?_);refine Jk [4] [] c a func339 ?_;exact Bv sr (rfl)
def A61(l:List Int)(g:FuncId)(us vs:List V)(f:Int->Bool)(w:∀p∈l,Z9 gv prog (.fc g us vs) [V.i p] (λr=>r=.bool (f p))):Jp gv prog 340 [.ro 1 (Ap l),.fc g us vs] (λr=>r=.i (Il f l 0)):=by
 have s:=λ(k:Nat)(h:k<l.length)=>Fr h
 have u:=A0 l;refine Rr 0 rfl λm=>?_;rw[u]at m
 have o:(l.length:Int)<=9223372036854775807:=by
  have:maxLen<=9223372036854775807:=dc;omega
 generalize Ap l=j at*;refine Bp func340 λw0 N0 t=>?_;refine Y [0,1] [] sr (J (Y [0,1,7,8] [] sr (Ad (Ho 8 (λk=>Il f (l.drop k) k=Il f l 0) l.length rfl ?_))));intro k nx hk c;refine Y [0,1,7,8,9] [] sr (J ?_)
 refine Bk (λh1=>?_) λh1=>?_
 .have a:k<l.length:=by simp at h1;omega
  have d:k<j.length:=om;have n:=s k a;have i:=w _ (As a);rw[Px _ a]at c;generalize l[k]=y at n c i;generalize f _ =fb at c i;refine J (Ad (Y [0,1,5,7,8] [] sr (Au 5 (by simp[n,d]<;>rfl) ?_)));refine N5 t i sm rfl rfl sr sr sm sr (Ak [0,1,5,7,8,16] [] sr ?_)
  refine A1 (λh2=>?_) λh2=>?_
  .exact Y [4] [] sr (Aj (Aa sr (by rw[<-c,Ab h2])))
  refine A6 [0,1,7,8] [] (by simp[(A4 (k:=k) om)]<;>rfl) ?_;exact⟨a,by rw[<-c,I (by rw[h2];decide)],_,Z⟩
 .refine A3 ?_;have e:k=l.length:=sO h1
  rw[e,Cl,Il]at c;exact Qp [4]
def A62(l:List Int)(g:FuncId)(us vs:List V)(f:Int->Bool)(d:∀p∈l,Z9 gv prog (.fc g us vs) [V.i p] (λr=>r=.bool (f p))):AQ 318 [.ro 1 (Ap l),.fc g us vs] (.bool (l.any f)):=by
 have a:=A61 l g us vs f d;rw[<-Qc f l 0];have pl:=Ac l;generalize Ap l=lv,Il f l 0=z at*;refine Bp func318 λw0 N0 c=>?_;refine Y [0,1] [] sr (Au 2 sr ?_);refine Jk [4] [] c a func340 ?_;exact Bv sr (rfl)
def Bh4(n:Nat):V:=.ro 1 (Gx n)
def A63(l:List Nat)(g:FuncId)(us vs:List V)(f:Nat->Bool)(x:∀p∈l,Z9 gv prog (.fc g us vs) [Bh4 p] (λr=>r=.bool (f p))):Jp gv prog 292 [.ro 1 (B9 l),.fc g us vs] (λr=>r=.i (Il f l 0)):=by
 have s:=λ(k:Nat)(h:k<l.length)=>Li h
 have u:=Ib l;refine Rr 0 rfl λn=>?_;rw[u]at n
 have o:(l.length:Int)<=9223372036854775807:=by
  have:maxLen<=9223372036854775807:=dc;omega
 generalize B9 l=m at*;refine Bp func292 λw0 N0 t=>?_;refine Y [0,1] [] sr (J (Y [0,1,7,8] [] sr (Ad (Ho 8 (λk=>Il f (l.drop k) k=Il f l 0) l.length rfl ?_))));intro k nx hk c;refine Y [0,1,7,8,9] [] sr (J ?_)
 refine Bk (λh1=>?_) λh1=>?_
 .have a:k<l.length:=by simp at h1;omega
  have d:k<m.length:=om;have i:=s k a;have e:=x _ (As a);rw[Px _ a]at c;generalize l[k]=y at i c e;have w:=F7 y;rw[show Bh4 y=.ro 1 (Gx y)from rfl]at e;rw[show Az (B0 y)=Gx y from rfl]at i;generalize f _ =fb at c e;refine J (Ad (Y [0,1,5,7,8] [] sr (Au 5 (by simp[i,d]<;>rfl) ?_)));refine N5 t e sm rfl rfl sr sr sM sr (Ak [0,1,5,7,8,16] [] sr ?_)
  refine A1 (λh2=>?_) λh2=>?_
  .exact Y [4] [] sr (Aj (Aa sr (by rw[<-c,Ab h2])))
  refine A6 [0,1,7,8] [] (by simp[(A4 (k:=k) om)]<;>rfl) ?_;exact⟨a,by rw[<-c,I (by rw[h2];decide)],_,Z⟩
 .refine A3 ?_;have j:k=l.length:=sO h1
  rw[j,Cl,Il]at c;exact Qp [4]
def A64(l:List Nat)(g:FuncId)(us vs:List V)(f:Nat->Bool)(d:∀p∈l,Z9 gv prog (.fc g us vs) [Bh4 p] (λr=>r=.bool (f p))):AQ 251 [.ro 1 (B9 l),.fc g us vs] (.bool (l.any f)):=by
 have a:=A63 l g us vs f d;rw[<-Qc f l 0];have pl:=Bx l;generalize B9 l=lv,Il f l 0=z at*;refine Bp func251 λw0 N0 c=>?_;refine Y [0,1] [] sr (Au 2 sr ?_);refine Jk [4] [] c a func292 ?_;exact Bv sr (rfl)
def W2(f:α->Bool){l:List α}(h:k<l.length):(l.take (k+1)).filter f=(l.take k).filter f++(if f l[k]=true then [l[k]]else []):=by
 rw[Av h,La]
 congr 1
 by_cases a:f l[k]=true
 .rw[Ab a,Is a];rfl
 .rw[I a,Iu a];rfl
def W4{β:Type}(f:α->β){l:List α}(h:k<l.length):(l.take (k+1)).map f=(l.take k).map f++[f l[k]]:=by
 rw[Av h,Cg];rfl
def A16(a b:List Pit):C7 (a++b)=C7 a++C7 b:=Cg
def A17(p:Pit):C7 [p]=[.agg [.i p.id,.str p.code,.i p.fam,.i p.st,.i p.wo,.i p.se,.i p.pt,.i p.ky,.ro 1 (Eo p.m)]]:=rfl
def Ayv(pool:List Pit)(ids:List Int):List Pit:=pool.filter λp=>decide (p.id∈ids)
def Asb(pool:List Pit)(ids:List Int)(z:pool.length<=18):AC prog 121 [.ro 9 (C7 pool),.ro 1 (Ap ids)] (λx=>x=.ro 9 (C7 (Ayv pool ids))):=by
 have s:=λ(k:Nat)(h:k<pool.length)=>Jg h
 have lq:=Er pool;have t:=S7 ids;have y:=Ac ids;have i:∀k,((pool.take k).filter λp=>decide (p.id∈ids)).length<=18:=λk=>Ae (H9 _ _) so
 have o:=λ(k:Nat)(h:k<pool.length)=>W2 (λp:Pit=>decide (p.id∈ids)) h
 unfold Ayv;generalize Ap ids=iv,C7 pool=pv at*;refine Ai func121 λw0 N0=>?_;refine Y [0,1] [] sr (A5 [5] sr (J (Y [1,5,8,9,10] [] sr ?_)));refine Fg 5 100 9 111 [1,5,8,9,10] [100] sr sr (Ad ?_)
 refine Gn (λx:Nat×Nat×Nat=>[(5,.sl 100 x.2.1 9 ((pool.take x.1).filter λp=>decide (p.id∈ids)).length),(10,V.i (x.1:Nat))]) (λx=>[(100,⟨x.2.1,9,111,C7 ((pool.take x.1).filter λp=>decide (p.id∈ids))⟩)]) (λx=>x.2.2)
  (λx=>x.1<=pool.length) (λx=>pool.length-x.1) (0,_,_) (B5 _) Z ?_
 rintro⟨k,qv,nx⟩u;simp only at u|-;refine Y [1,5,8,9,10,11] [100] sr (J ?_)
 refine Bk (λh1=>?_) λh1=>?_
 .have c:k<pool.length:=by simp at h1;omega
  have d:k<pv.length:=om;have l:=s k c;have Ec:=A4 (k:=k) om;have a:=o k c;have j:=i k;rw[Gq]at l;generalize pool[k]=p at l a;have f:=t p.id;have w:=D0 p.m;generalize(pool.take k).filter (λp=>decide (p.id∈ids))=Lk at a j|-;have n:Lk.length+1<=maxLen/\(Lk.length+1)*96<=140737488355328:=⟨Ae (show Lk.length+1<=19 by omega) dc,by omega⟩;generalize aa:decide (p.id∈ids)=e at f a;refine J (Ad (Y [1,5,7,8,9,10] [7,100] (by simp[l,d]<;>rfl) (Au 3 sr ?_)));refine Ge [1,5,7,8,9,10,17] [7,100] f func63 ?_
  refine A1 (λh2=>?_) λh2=>?_
  .refine A6 [1,5,8,9,10] [100] (by simp[n]<;>rfl) (Cs [] (by simp[Ec]<;>rfl) ?_);rw[Ab h2]at a;exact⟨(k+1,_,_),c,by simp only;omega,by simp only[a,A16,A17,Aq,Ax,Bg];exact Z⟩
  refine A6 [1,5,8,9,10] [100] (by simp[Ec]<;>rfl) ?_;rw[I (by rw[h2];simp),Do]at a;exact⟨(k+1,_,_),c,by simp only;omega,by simp only[a];exact Z⟩
 .refine A3 ?_;have r:k=pool.length:=sO h1
  subst r;simp only[Bb];have g:=Cw (pool.filter λp=>decide (p.id∈ids));refine Y [4] [100] sr ?_;exact Bv (by simp[results121,g]<;>rfl) (rfl)
def Ju(a:List (Int×Int)):List Int:=a.map Prod.fst
def A18{l:List (Int×Int)}(h:k<l.length):Ju (l.take (k+1))=Ju (l.take k)++[l[k].1]:=W4 Prod.fst h
def Ah7(l:List (Int×Int)):(Ju l).length=l.length:=by simp[Ju]
def Asc(a:List (Int×Int))(hl:a.length<=1000):AC prog 122 [.ro 2 (A9 a)] (λx=>x=.ro 1 (Ap (Ju a))):=by
 have o:=λ(k:Nat)(h:k<a.length)=>Ix h
 have lq:=Eh a;have g:=λ(k:Nat)(h:k<a.length)=>A18 h
 generalize A9 a=pv at*;refine Ai func122 λw0 N0=>?_;refine Y [0] [] sr (A5 [3] sr (J (Y [3,6,7,8] [] sr ?_)));refine Fg 3 100 1 3 [3,6,7,8] [100] sr sr (Ad ?_)
 refine Gn (λx:Nat×Nat×Nat=>[(3,.sl 100 x.2.1 1 (Ju (a.take x.1)).length),(8,V.i (x.1:Nat))]) (λx=>[(100,⟨x.2.1,1,3,Ap (Ju (a.take x.1))⟩)]) (λx=>x.2.2)
  (λx=>x.1<=a.length) (λx=>a.length-x.1) (0,_,_) (B5 _) Z ?_
 rintro⟨k,qv,nx⟩r;simp only at r|-;refine Y [3,6,7,8,9] [100] sr (J ?_)
 refine Bk (λh1=>?_) λh1=>?_
 .have d:k<a.length:=by simp at h1;omega
  have e:k<pv.length:=om;have n:=o k d;have Ec:=A4 (k:=k) om;have c:=g k d;have i:(Ju (a.take k)).length<=1000:=by rw[Ah7];simp;omega
  generalize a[k]=p at n c;generalize Ju (a.take k)=l at c i|-;have j:l.length+1<=maxLen/\(l.length+1)*8<=140737488355328:=⟨Ae (show l.length+1<=1001 by omega) dc,by omega⟩;refine J (Ad (Y [3,5,6,7,8] [5,100] (by simp[n,e]<;>rfl) (A6 [3,6,7,8] [100] (by simp[j]<;>rfl) (Cs [] (by simp[Ec]<;>rfl) ?_))));exact⟨(k+1,_,_),d,by simp only;omega,by simp only[c,R2,Ace,Aq,Ax,Bg];exact Z⟩
 .refine A3 ?_;have m:k=a.length:=sO h1
  subst m;simp only[Bb];have f:=Ac (Ju a);refine Y [2] [100] sr ?_;exact Bv (by simp[results122,f]<;>rfl) (rfl)
def Akr(m:Mo)(c:Int):Bool:=decide (0<=c)&&decide (c<Y1 m)
def Ayw(m:Mo)(c:Int):AE 205 [moV m,.i c] (.bool (Akr m c)):=by
 have a:=Ao1 m;unfold Akr;have e:moV m=.agg [.ro 1 (Eo m)]:=rfl;have d:=D0 m;rw[e]at a|-;generalize Eo m=mv at*;refine Ai func205 λw0 N0=>?_;refine Y [1,2] [2] sr (Au 5 sr ?_);refine Ff (c:=decide (0<=c)) (λhg=>a) func62 rfl kr sr rfl rfl sr sM sr (Ak [4] [] sr ?_);exact Bv sr sm
def Bme:Pit:=⟨0,[],0,0,0,0,0,0,[]⟩
def M0(pool:List Pit)(id:Int):Option Pit:=pool.find? λp=>decide (p.id=id)
def Aks(o:Option Pit):Pit:=match o with|some p=>p|none=>Bme
def Ad8(f:α->Bool){l:List α}(h:k<l.length):(l.drop k).find? f=if f l[k]=true then some l[k]else(l.drop (k+1)).find? f:=by
 rw[Bo h,List.find?_cons]
 by_cases a:f l[k]=true
 .rw[Ab a,a]
 .rw[I a,Bool.eq_false_iff.2 a]
def Ayx(pool:List Pit)(id:Int):AC prog 204 [.ro 9 (C7 pool),.i id] (λr=>r=.tup [(Aks (M0 pool id)).v,.bool (M0 pool id).isSome]):=by
 refine AC.relaxP (K6 0 rfl (λg=>?_));have j:=λ(k:Nat)(h:k<pool.length)=>Jg h
 have l:=Er pool;rw[l]at g
 have i:(pool.length:Int)<=9223372036854775807:=by
  have:maxLen<=9223372036854775807:=dc;omega
 unfold M0;generalize C7 pool=pv at*;refine Ai func204 λw0 N0=>?_;refine Y [0,1,4] [4] sr (J (Y [1,4,8,9,10] [4] sr (Ad (Ho 10 (λk=>(pool.drop k).find? (λp=>decide (p.id=id))=pool.find? (λp=>decide (p.id=id))) pool.length rfl ?_))));intro k nx hk c;refine Y [1,4,8,9,10,11] [4] sr (J ?_)
 refine Bk (λh1=>?_) λh1=>?_
 .have a:k<pool.length:=by simp at h1;omega
  have d:k<pv.length:=om;have e:=j k a;rw[Ad8 _ a]at c;rw[Gq]at e;generalize pool[k]=p at e c;have n:=D0 p.m;refine J (Ad (Y [1,4,7,8,9,10] [4,7] (by simp[e,d]<;>rfl) (Y [1,4,7,8,9,10,17] [4,7] sr ?_)))
  refine A1 (λh2=>?_) λh2=>?_
  .refine Y [4,5] [4] sr (Aj (Aa C1 ?_));rw[<-c,Ab (sG h2)];exact Bh.refl _
  refine A6 [1,4,8,9,10] [4] (by simp[(A4 (k:=k) om)]<;>rfl) ?_;exact⟨a,by rw[<-c,I (by rw[show decide (p.id=id)=false from by simpa using h2];decide)],_,Z⟩
 .refine A3 ?_;have f:k=pool.length:=sO h1
  rw[f,Cl,List.find?_nil]at c;refine Y [4,5] [4] sr (Aj (Aa sr ?_));rw[<-c];refine Bh.tup (.cons (Bh.agg (.cons (Bh.refl _) (.cons (Bh.refl _) (.cons (Bh.refl _) (.cons (Bh.refl _) (.cons (Bh.refl _) (.cons (Bh.refl _) (.cons (Bh.refl _) (.cons (Bh.refl _) (.cons (Bh.nils 1) .nil)))))))))) (.cons (Bh.refl _) .nil))
def Vs(a:List Int)(q:Nat)(l:List Pit):List Int:=l.map λp=>W0 (Qr a p.m q)
def Yn{l:List Pit}{n:Int}(h:Kh l n=0):l.length<=18/\Uh 0 (Q5 l)=true/\∀p∈l,L6 p.m n=0:=by
 unfold Kh at h
 (repeat' split at h)<;>try omega
 rename_i h1 h2;refine⟨by omega,by simpa using h2,λp hp=>?_⟩;have:=T9 h p hp;unfold Av0 at this
 (repeat' split at this)<;>omega
def Av6(l:List Pit)(g:Gr)(q:Nat)(hg:L5 g=0)(hq:q<g.pts.length)(hp:Kh l g.pts.length=0):
  AQ 183 [.ro 9 (C7 l),g.v,.i q] (.tup [.ro 1 (Ap (Vs g.pts q l)),.i 0]):=by
 have j:=Ml g;rw[hg]at j;have n:=Nh l g.pts.length;rw[hp]at n;obtain⟨ad,-,hmod⟩:=Yn hp;have s:=λp(h:p∈l)=>A6x g p.m q hg (hmod p h) hq
 have aa:=λ(k:Nat)(h:k<l.length)=>Jg h
 have lq:=Er l;have pl:=Cw l;have hn:∀(k:Nat)(h:k<l.length),(Ap (Vs g.pts q l))[k]?=some (.i (W0 (Qr g.pts l[k].m q))):=λk h=>by simp[Ap,Vs,h]
 have t:(Ap (Vs g.pts q l)).length=l.length:=by simp[Vs]
 have ab:=Ac (Vs g.pts q l);have eg:g.v=.agg [.ro 1 (Ap g.pts),.ro 1 (Ap g.pri)]:=rfl;have pp:=Ac g.pts;have pq:=Ac g.pri;have lp:=A0 g.pts;rw[eg]at j s|-;rw[<-lp]at n;generalize Ap (Vs g.pts q l)=e,Ap g.pts=pt,Ap g.pri=pr,C7 l=pv at*;refine Bp func183 λw0 N0 hG=>?_;refine Y [0,2,4] [4] sr (J (Au 1 sr ?_));refine Ge [0,2,4,8] [4] j func55 ?_;refine A5 [18] sr ?_;refine Ce (J (Au 4 sr ?_));refine Jk [0,2,4,9] [4] hG n func29 ?_;refine A5 [26] sr ?_;refine Ce (J (Y [0,2,4,36] [4] sr ?_));refine Ce ?_;have y:(pv.length:Int)<=9223372036854775807:=om;have z:8*(pv.length:Int)<=281474976710656:=om;refine Y [0,2,4,10] [4,39] (by simp[y,z]<;>rfl) (J (Y [2,4,10,40,41,42] [4,39] sr (Ad (H5 (λk=>[(42,V.i k)]) (λk=>[(39,{v:=27,sz:=1,ty:=3,es:=E4 e (.i 0) k})]) (λk=>True) l.length trivial (by rw[Ia,t,<-lq];exact Z) ?_))));intro k nx hk hI;have x:=Jc e (.i 0) k om;refine Y [2,4,10,40,41,42,43] [4,39] sr (J ?_)
 refine Bk (λw=>?_) λw=>?_
 .have d:k<l.length:=by simp at w;omega
  have f:k<pv.length:=om;have i:k<e.length:=om;have ga:=aa k d;have a:=Je e (.i 0) k i (hn k d);have o:Gz (E4 e (.i 0) k) k=some (.i 0):=Jd e _ k i;have Ec:=A4 (k:=k) om;have c:=s _ (As d);rw[Gq]at ga;generalize l[k]=p at ga a c;have em:moV p.m=.agg [.ro 1 (Eo p.m)]:=rfl;have pm:=D0 p.m;rw[em]at c;generalize W0 (Qr g.pts p.m q)=u,Eo p.m=mv at*;generalize E4 e (.i 0) k=row at o a x|-;refine J (Ad (Y [2,4,10,11,12,40,41,42] [4,39,12] (by simp[ga,f]<;>rfl) (Au 4 sr ?_)));refine Ge [2,4,10,11,13,14,40,41,42] [4,39] c func243 ?_;refine J (A5 [56] sr ?_);refine Ce (A6 [2,4,10,40,41,42] [4,39] (by simp[f,o,a]<;>rfl) (Cs [] (by simp[Ec]<;>rfl) ?_));exact⟨d,trivial,_,Z⟩
 .refine A3 ?_;have ae:=sO w
  rw[Jz e (.i 0) k om];refine Bq 39 [10] [] C1 ?_;exact Y [6,7] [] sr (Bv sr rf)
def Asd{f:α->Int}:∀ {l:List α},(∀x∈l,f x=0)->M6 f l=0
 |[],_=>rfl
 |x::r,h=>by rw[M6,I (by rw[h x (Fc ..)];simp),Asd λy a=>h y (Dt _ a)]
def Ah8:∀ {l m:List Int}{p:Int},l.Sublist m->Uh p m=true->Uh p l=true
 |_,_,_,.slnil,_=>rfl
 |_,_,p,.cons a h,c=>by
  simp only[Uh,Be,decide_eq_true_eq]at c;refine Ah8 h ?_;have⟨h1,h2⟩:=Agd c.2
  have d:∀(r:List Int)(a p:Int),p<a->Uh a r=true->Uh p r=true:=by
   intro r a p f e;cases r with
   |nil=>rfl
   |cons x r=>
    simp only[Uh,Be,decide_eq_true_eq]at e|-;exact⟨⟨e.1.1,by omega⟩,e.2⟩
  exact d _ _ _ c.1.2 c.2
 |_,_,p,.cons_cons a h,c=>by
  simp only[Uh,Be,decide_eq_true_eq]at c|-;exact⟨c.1,Ah8 h c.2⟩
def A19{l m:List Pit}{n:Int}(h:l.Sublist m)(a:Kh m n=0):Kh l n=0:=by
 unfold Kh at a|-
 (repeat' split at a)<;>try omega
 rename_i h1 h2;have hl:=h.length_le;have d:Uh 0 (Q5 l)=true:=Ah8 (h.map Pit.id) (by simpa[Q5]using h2);rw[I om,I (by rw[d];decide)];exact Asd λx c=>T9 a x (h.subset c)
def A2a(pool:List Pit)(ids:List Int):(Ayv pool ids).Sublist pool:=Qx
def Hq(g:Gr)(w:List Nat)(l:List Pit):List Int:=Vs g.pts (Ahu g.pts (Qq g w)) l
def Ase(g:Gr)(w:List Nat)(l:List Pit)(h:sumsOk g w)(hp:Kh l g.pts.length=0):
  AQ 123 [g.v,.ro 1 (B9 w),.ro 9 (C7 l)] (.tup [.ro 1 (Ap (Hq g w l)),.i 0]):=by
 have a:=Bda g w h;have c:=Bdb g h.grid (Qq g w) (Ae (A6o h) dc);have d:=Av6 l g (Ahu g.pts (Qq g w)) h.grid (Bcg _ ((Kn h.grid).pos)) hp;unfold Hq;have k:=Ac (Vs g.pts (Ahu g.pts (Qq g w)) l);generalize Vs g.pts (Ahu g.pts (Qq g w)) l=L,Ahu g.pts (Qq g w)=q,Qq g w=mn at*;have n:g.v=.agg [.ro 1 (Ap g.pts),.ro 1 (Ap g.pri)]:=rfl;have f:=Ac g.pts;have i:=Ac g.pri;have s:=Bx w;have pl:=Cw l;rw[n]at a c d|-;simp only[Y2]at a c;have o:=Jl;have j:=Jm;generalize Ap g.pts=pt,Ap g.pri=pr,B9 w=wv,C7 l=pv at*;refine Bp func123 λw0 N0 m=>?_;refine Y [1,2,3] [3] sr (Au 2 sr ?_);refine Ge [2,3,8,9] [3,8] a func181 ?_;refine J (A5 [18] sr ?_);refine Ce (Au 2 sr ?_);refine Ge [2,3,9,10] [3] c func182 ?_;refine J (A5 [27] sr ?_);refine Ce (Au 3 sr ?_);refine Jk [6,7] [] m d func183 ?_;exact Bv C1 (rfl)
def Ul(l:List Ru):List V:=l.map Aae
@[simp]def Amm(l:List Ru):(Ul l).length=l.length:=by simp[Ul]
def A2b{l:List Ru}(h:k<l.length):Gz (Ul l) k=some (Aae l[k]):=by rw[C0];simp[Ul,h]
def A2c(r:Ru):∀c∈Ahz r,c.isCell=true:=by
 unfold Ahz;(repeat' split)<;>simp[V.isCell,V.still]
def Ah9(r:Ru):(Aae r).pureE=true:=by
 unfold Aae Ahz;(repeat' split)<;>simp[V.pureE,V.pureC,V.cells]<;>rfl
def Av7(l:List Ru):(Ul l).all V.pureE=true:=by
 rw[Ao];intro x a;simp only[Ul,Bc]at a;obtain⟨n,_,rfl⟩:=a;exact Ah9 n
def Av8{l:List Ru}(h:k<l.length):Ul (l.take (k+1))=Ul (l.take k)++[Aae l[k]]:=W4 Aae h
set_option maxHeartbeats 4000000 in
def Av9(len:Int)(rs:List Ru)(hl:rs.length<=20)(hf:∀r∈rs,r.fits=true):AE 311 [Ry len rs] (.ro 1 (Ul rs)):=by
 have y:=λ(k:Nat)(h:k<rs.length)=>Wx h
 have lq:=Ui rs
 have u:=λ(k:Nat)(h:k<rs.length)=>Av8 h
 unfold Ry
 generalize Hw rs=f at*
 refine Aqy func311 rfl (by show(1:Nat)<=31;omega) (λw0 N0=>?_)
 refine Y [1] [1] C1 ?_
 have m:(f.length:Int)<=9223372036854775807:=by omega
 have o:16*(f.length:Int)<=281474976710656:=by omega
 refine Y [1,3] [1,11] (by simp[m,o]<;>rfl) ?_
 refine J ?_
 refine Y [3,13,14,15] [11] sR ?_
 refine Ad ?_
 refine Gn (λx:Nat×Nat×Nat=>[(3,.sl 11 x.2.1 1 x.1),(15,V.i (x.1:Nat))]) (λx=>[(11,⟨x.2.1,1,205,Ul (rs.take x.1)⟩)]) (λx=>x.2.2)
  (λx=>x.1<=rs.length) (λx=>rs.length-x.1) (0,_,_) (B5 _) Z ?_
 rintro⟨k,qv,nx⟩z
 simp only at z|-
 refine Y [3,13,14,15,16] [11] sR ?_
 refine J ?_
 refine Bk (λh1=>?_) (λh1=>?_)
 .have c:k<rs.length:=by simp at h1;omega
  have j:k<f.length:=by omega
  have s:=y k c
  have Ec:=A4 (k:=k) om
  have a:=u k c
  have d:=hf _ (As c)
  generalize rs[k]=r at s a d
  have e:=Afh (Aaf d)
  rw[d]at e
  have aa:=A2c r
  have g:=Ah9 r
  rw[show r.v=.agg [.i r.kind,.i r.n,.i r.mn,.i r.mx,.str r.code]from rfl]at s e
  unfold Aae at a g
  generalize Arz r=dt at*
  generalize Ahz r=dc at*
  have i:(Ul (rs.take k)).length=k:=by rw[Amm,C8];omega
  generalize Ul (rs.take k)=Lk at a i|-
  have t:k+1<=maxLen/\(k+1)*16<=140737488355328:=⟨Ae (show k+1<=21 by omega) dC,by omega⟩
  refine J ?_
  refine Ad ?_
  refine Y [3,5,13,14,15] [11,5] (by simp[s,j]<;>rfl) ?_
  refine J (Cb ?_)
  refine C3 1 sR ?_
  refine Ef e func100 rfl (by kernel_rfl) rfl rfl rfl sR sM sR ?_
  refine Ak [3,6,7,13,14,15] [11] sR ?_
  refine Y [3,6,13,14,15,24] [11] sR ?_
  refine Ek ?_
  .refine A6 [3,13,14,15] [11] (by simp[t,i]<;>rfl) ?_
   refine Cs [] (by simp[Ec]<;>rfl) ?_
   exact⟨(k+1,_,_),c,by simp only;omega,by simp only[a];exact Z⟩
 .refine A3 ?_
  have w:k=rs.length:=sO h1
  subst w
  simp only[Bb]
  have l:=Av7 rs
  refine Y [2] [11] sR ?_
  exact Bv C1 (rfl)
variable {args us vs:List V}{fn:Func}{r:V}
def A2d(s t:List UInt8):Bool:=decide (t.length<=s.length)&&decide (s.take t.length=t)
def Akt(s t:List UInt8):AE 255 [.str s,.str t] (.bool (A2d s t)):=by
 unfold A2d;refine Ai func255 λw0 N0=>?_;refine Y [0,1] [] sr ?_
 by_cases h:t.length<=s.length
 .have a:(t.length:Int)<=s.length:=om;exact Y [4] [] C1 (Bv sr Gi)
 .have a:¬(t.length:Int)<=s.length:=om;exact Y [4] [] C1 (Bv sr Gi)
def Acg(s t:List UInt8):AE 212 [.str s,.str t] (.bool (A2d s t)):=by
 refine Ai func212 λw0 N0=>?_;refine Y [0,1] [] sr (Au 2 sr ?_);refine Aw (Akt s t) func255 ?_;refine Ak [4] [] sr (Bv sr ?_);rfl
def Vf(a c:List UInt8):Bool:=decide (c=[])||(decide (a=c)||A2d a (c++[46]))
def A65(a c:List UInt8)(h:c.length<9223372036854775807):AE 155 [.str a,.str c] (.bool (Vf a c)):=by
 have d:c.length<=9223372036854775806:=om;refine Ai func155 λw0 N0=>?_;refine Y [0,1] [] sr (Au 11 C1 ?_);refine Ff (λhg=>(Acg a (c++[46]))) func212 rfl kr sr rfl rfl sr sm sr (Ak [4] [] sr ?_);refine Bv sr ?_;simp[Vf,Bool.or_assoc]
def A66(a b:Int):Int×Int:=(if b<a then b else a,if a<b then b else a)
def Awa(a b:Int):AE 352 [.i a,.i b] (.agg [.i (A66 a b).1,.i (A66 a b).2]):=by
 refine Ai func352 λw0 N0=>?_;refine Y [0,1,4] [4] sr (Y [4] [4] sr ?_);refine Bv sr ?_;rfl
def Aia{a:FuncId}(h:Jp gv prog a (us++args++vs) (λx=>x=r))(c:prog.funcs[a]?=some fn)(e:fn.body.isSome=true)(d:(fn.name== "runtime.NumGoroutine")=false):Z9 gv prog (.fc a us vs) args (λx=>x=r):=Avg h c e d
def Aib(r:Ru)(p:Pit):Int:=
 if r.kind=1 then Ki (Vf p.code r.code)else if r.kind=2 then p.wo else if r.kind=3 then p.se else if r.kind=4 then p.pt else Ki (decide (p.ky=r.n))
def Bh5(r:Ru)(p:Pit)(h:r.code.length<9223372036854775807):AC prog 153 [p.v,.rp r.v] (λx=>x=.i (Ki (Vf p.code r.code))):=by
 have a:=A65 p.code r.code h;have c:=Ww (Vf p.code r.code);generalize Vf p.code r.code=u at*;generalize Ki u=o at*;rw[Gq,show r.v=.agg [.i r.kind,.i r.n,.i r.mn,.i r.mx,.str r.code]from rfl];have pm:=D0 p.m;refine Ai func153 λw0 N0=>?_;refine Y [1,2] [2] sr (Au 4 sr ?_);refine Aw a func155 ?_;refine Aw c func154 ?_;exact Ak [3] [] sr (Bv sr (rfl))
def Bh6(p:Pit):AC prog 156 [p.v] (λx=>x=.i p.wo):=by
 rw[Gq];refine Ai func156 λw0 N0=>?_;exact Y [1] [1] sr (Y [2] [] sr (Bv sr rf))
def Bh7(p:Pit):AC prog 157 [p.v] (λx=>x=.i p.se):=by
 rw[Gq];refine Ai func157 λw0 N0=>?_;exact Y [1] [1] sr (Y [2] [] sr (Bv sr rf))
def Bh8(p:Pit):AC prog 158 [p.v] (λx=>x=.i p.pt):=by
 rw[Gq];refine Ai func158 λw0 N0=>?_;exact Y [1] [1] sr (Y [2] [] sr (Bv sr rf))
def Bh9(r:Ru)(p:Pit):AC prog 159 [p.v,.rp r.v] (λx=>x=.i (Ki (decide (p.ky=r.n)))):=by
 have a:=Ww (decide (p.ky=r.n));generalize hu:Ki (decide (p.ky=r.n))=o at*;rw[Gq,show r.v=.agg [.i r.kind,.i r.n,.i r.mn,.i r.mx,.str r.code]from rfl];refine Ai func159 λw0 N0=>?_;refine Y [1,2] [2] sr (Au 5 sr ?_);refine Aw a func154 ?_;exact Ak [3] [] sr (Bv sr (rfl))
def Bia(a b n:Int)(p:Pit):AC prog 421 [.agg [.i a,.i b,.i n],p.v] (λx=>x=.i (Ki (decide (p.st=n)))):=by
 have c:=Ww (decide (p.st=n));generalize hu:Ki (decide (p.st=n))=o at*;rw[Gq];refine Ai func421 λw0 N0=>?_;refine Y [2,3] [2,3] sr (Au 5 sr ?_);refine Aw c func154 ?_;exact Ak [4] [] sr (Bv sr (rfl))
def Bib(p:Pit):AC prog 428 [p.v] (λx=>x=.i 0):=by
 rw[Gq];refine Ai func428 λw0 N0=>?_;exact Y [] [] sr (A5 [2] sr (Bv sr rf))
def Bic(p:Pit):AC prog 309 [p.v] (λx=>x=.i 1):=by
 rw[Gq];refine Ai func309 λw0 N0=>?_;exact Y [] [] sr (A5 [2] sr (Bv sr rf))
def Bid(n:Int)(p:Pit):AC prog 437 [p.v,.rp (.agg [.i n])] (λx=>x=.i (Ki (decide (p.id=n)))):=by
 have a:=Ww (decide (p.id=n));generalize hu:Ki (decide (p.id=n))=o at*;rw[Gq];refine Ai func437 λw0 N0=>?_;refine Y [1,2] [2] sr (Au 5 sr ?_);refine Aw a func154 ?_;exact Ak [3] [] sr (Bv sr (rfl))
def Bie(n:Int)(p:Pit):AC prog 444 [p.v,.rp (.i n)] (λx=>x=.i (Ki (decide (p.fam=n)))):=by
 have a:=Ww (decide (p.fam=n));generalize hu:Ki (decide (p.fam=n))=o at*;rw[Gq];refine Ai func444 λw0 N0=>?_;refine Y [1,2] [2] sr (Au 4 sr ?_);refine Aw a func154 ?_;exact Ak [3] [] sr (Bv sr (rfl))
def Bif(a b:Int)(p:Pit):AC prog 313 [p.v,.rp (.agg [.i a,.i b])] (λx=>x=.i (Ki (decide (p.id=a)||decide (p.id=b)))):=by
 have c:=Ww (decide (p.id=a)||decide (p.id=b));generalize hu:Ki (decide (p.id=a)||decide (p.id=b))=o at*;rw[Gq];refine Ai func313 λw0 N0=>?_;refine Y [1,2] [2] sr (Au 12 sr ?_);refine Aw c func154 ?_;exact Ak [3] [] sr (Bv sr (rfl))
def A67(n:Int)(p:Pit):AC prog 280 [p.v,.rp (.i n)] (λx=>x=.bool (decide (p.id=n))):=by
 rw[Gq];refine Ai func280 λw0 N0=>?_;exact Y [1,2] [2] sr (Y [3] [] sr (Bv sr rf))
def A68(n:Int)(p:Pit):AC prog 431 [p.v,.rp (.i n)] (λx=>x=.bool (decide (p.id=n))):=by
 rw[Gq];refine Ai func431 λw0 N0=>?_;exact Y [1,2] [2] sr (Y [3] [] sr (Bv sr rf))
def A2e(a n:Int)(r:Ru):AC prog 315 [r.v,.rp (.i a),.rp (.i n)] (λx=>x=.bool (decide (r.kind=a)&&decide (r.n=n))):=by
 rw[show r.v=.agg [.i r.kind,.i r.n,.i r.mn,.i r.mx,.str r.code]from rfl];refine Ai func315 λw0 N0=>?_;exact Y [1,2,3] [3] sr (Y [4] [] sr (Bv sr rf))
variable {vars:Nat}
def frV(len:Int)(rs:List Ru)(pool:List Pit)(vars a:Int):V:=.agg [.i len,.ro 5 (Hw rs),.ro 9 (C7 pool),.i vars,.i a]
def G0:Gp where
 P:=λ_=>True
 bl:=λ_=>False
 stable:=λ_ _ _ _=>trivial
 low:=λ_ _ _ h=>h.elim
def Awb(B:Bs):Gon G0 B:=⟨trivial,λ_ h=>h.elim⟩
def Ach(pool:List Pit)(id:Int):AQ 245 [.ro 9 (C7 pool),.i id] (.i (Il (λp=>decide (p.id=id)) pool 0)):=by
 have a:=Asa pool 280 [] [.rp (.i id)] (λp=>decide (p.id=id)) (λp _=>Aia ((A67 id p).q gv) func280 kr rfl);have pl:=Cw pool;generalize C7 pool=pv,Il (λp=>decide (p.id=id)) pool 0=z at*;refine Bp func245 λw0 N0 c=>?_;refine Y [0,3] [3] sr (Bq 3 [0,3] [] sr (Au 2 sr ?_));refine Jk [4] [] c a func279 ?_;exact Bv sr (rfl)
def Ao7(pool:List Pit)(id:Int):AQ 429 [.ro 9 (C7 pool),.i id] (.bool (pool.any λp=>decide (p.id=id))):=by
 have a:=A6y pool 431 [] [.rp (.i id)] (λp=>decide (p.id=id)) (λp _=>Aia ((A68 id p).q gv) func431 kr rfl);have pl:=Cw pool;generalize C7 pool=pv,(pool.any λp=>decide (p.id=id))=z at*;refine Bp func429 λw0 N0 c=>?_;refine Y [0,3] [3] sr (Bq 3 [0,3] [] sr (Au 2 sr ?_));refine Jk [4] [] c a func430 ?_;exact Bv sr (rfl)
def Ayy(len:Int)(rs:List Ru)(pool:List Pit)(vars c:Int)(id:Int):AQ 427 [frV len rs pool vars c,.i id] (.bool (pool.any λp=>decide (p.id=id))):=by
 have a:=Ao7 pool id;have pl:=Cw pool;unfold frV;generalize C7 pool=pv,Hw rs=rv,(pool.any λp=>decide (p.id=id))=z at*;refine Bp func427 λw0 N0 d=>?_;refine Y [1,2] [2] sr (Au 3 sr ?_);refine Jk [4] [] d a func429 ?_;exact Bv sr (rfl)
def W5(rs:List Ru)(a n:Int):Bool:=rs.any λr=>decide (r.kind=a)&&decide (r.n=n)
def Amn(len:Int)(rs:List Ru)(pool:List Pit)(vars d:Int)(a n:Int):AQ 278 [frV len rs pool vars d,.i a,.i n] (.bool (W5 rs a n)):=by
 have c:=A60 rs 315 [] [.rp (.i a),.rp (.i n)] (λr=>decide (r.kind=a)&&decide (r.n=n)) (λp _=>Aia ((A2e a n p).q gv) func315 kr rfl);have pl:=Dm rs;unfold frV W5;generalize C7 pool=pv,Hw rs=rv,(rs.any λr=>decide (r.kind=a)&&decide (r.n=n))=z at*;refine Bp func278 λw0 N0 e=>?_;refine Y [3,4,5] [3,4,5] sr (Bq 4 [3,4,5] [3,5] sr (Bq 5 [3,4,5] [3] sr (Au 4 sr ?_)));refine Jk [6] [] e c func314 ?_;exact Bv sr (rfl)
def Kj(pool:List Pit)(vars:Nat)(a:Pit->Int):List Int:=pool.map a++List.replicate (vars-pool.length) 0
def Aci{pool:List Pit}(a:Pit->Int)(h:pool.length<=vars):(Kj pool vars a).length=vars:=by simp[Kj];omega
def A69{pool:List Pit}(a:Pit->Int)(h:k<pool.length):(Ap (Kj pool vars a))[k]?=some (.i (a pool[k])):=by
 simp only[Ap,Kj,Cg,K9];rw[Bt (sG h)];simp[h]
def A2f{pool:List Pit}(a:Pit->Int):E4 (Ap (Kj pool vars a)) (.i 0) pool.length=Ap (Kj pool vars a):=by
 have e:Ap (Kj pool vars a)=Ap (pool.map a)++List.replicate (vars-pool.length) (.i 0):=by
  unfold Kj;rw[R2];congr 1;simp[Ap]
 rw[e,E4,Qo (by simp)]
 congr 1
 simp
structure Rw where
 coef:List Int
 mn:Int
 mx:Int
def Rw.v(r:Rw):V:=.agg [.ro 1 (Ap r.coef),.i r.mn,.i r.mx]
def G9(l:List Rw):List V:=l.map Rw.v
@[simp]def Ou(l:List Rw):(G9 l).length=l.length:=by simp[G9]
def Aic{l:List Rw}(h:k<l.length):Gz (G9 l) k=some l[k].v:=by rw[C0];simp[G9,h]
def Gu(l:List Rw):(G9 l).all V.pureE=true:=by
 rw[Ao];intro x a;simp only[G9,Bc]at a;obtain⟨n,_,rfl⟩:=a;have:=Ac n.coef;simp[Rw.v,V.pureE,V.pureC,V.cells]
def Aid(a b:List Rw):G9 (a++b)=G9 a++G9 b:=Cg
def Acj{a:FuncId}(h:AC prog a (us++args++vs) (λx=>x=r))(c:prog.funcs[a]?=some fn)(e:fn.body.isSome=true)(d:(fn.name== "runtime.NumGoroutine")=false):Z9 G0 prog (.fc a us vs) args (λx=>x=r):=Avg (h.q G0) c e d
def Ao8(len:Int)(rs:List Ru)(pool:List Pit)(vars:Nat)(st:Int)(g:FuncId)(us vs:List V)(f:Pit->Int)(a b:Int)(hp:pool.length<=vars)(hv:vars<=1000)
  (hf:∀p∈pool,Z9 G0 prog (.fc g us vs) [p.v] (λr=>r=.i (f p))):
  ACO prog 310 [frV len rs pool vars st,.fc g us vs,.i a,.i b] 1 3 (λF es=>F=(λd q=>.agg [.sl d q 1 vars,.i a,.i b])/\es=Ap (Kj pool vars f)):=by
 have hq:=λ(k:Nat)(h:k<pool.length)=>Jg h
 have lq:=Er pool;have hn:=λ(k:Nat)(h:k<pool.length)=>A69 (vars:=vars) f h
 have ab:(Ap (Kj pool vars f)).length=vars:=by rw[A0,Aci f hp]
 have z:=A2f (pool:=pool) (vars:=vars) f;have t:=Uk (Kj pool vars f);unfold frV;generalize Ap (Kj pool vars f)=j,C7 pool=pv,Hw rs=rv at*;refine Kf func310 λw0 N0=>?_;refine Y [1,2,3,4,8] [4,8] sr ?_;have w:(vars:Int)<=9223372036854775807:=om;have x:8*(vars:Int)<=281474976710656:=om;refine Y [1,2,3,4,8,9] [4,8,14] C1 (J (Y [1,2,3,8,9,16,17,18] [8,14] sr (Ad (H5 (λk=>[(18,V.i k)]) (λk=>[(14,{v:=4,sz:=1,ty:=3,es:=E4 j (.i 0) k})]) (λk=>True) pool.length trivial (by rw[Ia,ab];exact Z) ?_))));intro k nx hk hI;have u:=Jc j (.i 0) k om;refine Y [1,2,3,8,9,16,17,18,19] [8,14] sr (J ?_)
 refine Bk (λh1=>?_) λh1=>?_
 .have e:k<pool.length:=by simp at h1;omega
  have o:k<pv.length:=om;have i:k<j.length:=om;have l:k<vars:=om;have y:=hq k e;have c:=Je j (.i 0) k i (hn k e);have n:Gz (E4 j (.i 0) k) k=some (.i 0):=Jd j _ k i;have Ec:=A4 (k:=k) om;have s:=hf _ (As e);rw[Gq]at y s;generalize pool[k]=p at y c s;have pm:=D0 p.m;generalize E4 j (.i 0) k=row at n c u|-;refine J (Ad (Y [1,2,3,8,9,10,11,16,17,18] [8,14,11] (by simp[y,o]<;>rfl) (Ik 4 sr ?_)));refine N5 (Awb _) s sm rfl rfl sr sr sM sr (Ak [1,2,3,8,9,16,17,18] [8,14] (by simp[l,n,c]<;>rfl) ?_);refine Cs [] (by simp[Ec]<;>rfl) ?_;exact⟨e,trivial,_,Z⟩
 .refine A3 ?_;have aa:k=pool.length:=sO h1
  rw[aa,z];refine Y [8] [8,14] sr ?_;exact Aj (Hv 14 rfl rfl rfl t sr ⟨rfl,rfl⟩)
def Aah(len:Int)(rs:List Ru)(pool:List Pit)(vars:Nat)(d:Int)(g:FuncId)(us vs:List V)(c:Pit->Int)(a b:Int)(hp:pool.length<=vars)(e:vars<=1000)
  (f:∀p∈pool,Z9 G0 prog (.fc g us vs) [p.v] (λr=>r=.i (c p))):
  AE 310 [frV len rs pool vars d,.fc g us vs,.i a,.i b] (Rw.v ⟨Kj pool vars c,a,b⟩):=by
 refine(Ao8 len rs pool vars d g us vs c a b hp e f).ac ?_;rintro F es⟨rfl,rfl⟩;have h2:(Ap (Kj pool vars c)).length=vars:=by rw[A0,Aci c hp]
 exact⟨_,by simp[AS.viewT,AS.view,AS.viewL,AS.viewC,AS.elems,Eng.get,(Ac (Kj pool vars c)),h2,Aci c hp,V.pureC,Rw.v],rfl⟩
structure frOk(pool:List Pit)(vars st:Nat):Prop where
 le:pool.length<=vars
 small:vars<=1000
 lt:st<=vars
def Tp(len:Int)(rs:List Ru)(pool:List Pit)(vars a:Int):frV len rs pool vars a=.agg [.i len,.ro 5 (Hw rs),.ro 9 (C7 pool),.i vars,.i a]:=rfl
def A7a(c:List Int)(a b:Int):Rw.v ⟨c,a,b⟩=.agg [.ro 1 (Ap c),.i a,.i b]:=rfl
def Ad9(len:Int)(rs:List Ru)(pool:List Pit)(vars e:Nat)(g:FuncId)(d:Pit->Int)(a b:Int)(h:frOk pool vars e)
  (j:∀p∈pool,Z9 G0 prog (.fc g [] []) [p.v] (λr=>r=.i (d p))):
  AE 408 [.agg [.i a,.i b,.fc g [] []],frV len rs pool vars e] (.ro 3 (G9 [⟨Kj pool vars d,a,b⟩])):=by
 have c:=Aah len rs pool vars e g [] [] d a b h.le h.small j;have pl:=Cw pool;have i:=Dm rs;have f:=Ac (Kj pool vars d);rw[Tp]at c|-;rw[A7a]at c;rw[show G9 [⟨Kj pool vars d,a,b⟩]=[.agg [.ro 1 (Ap (Kj pool vars d)),.i a,.i b]]from rfl];generalize Ap (Kj pool vars d)=cv,C7 pool=pv,Hw rs=rv at*;refine Ai func408 λw0 N0=>?_;refine Y [2,3] [2,3] sr (Au 9 sr ?_);refine Ge [4] [15] c func310 ?_;exact Bv C1 (rfl)
def Amo(len:Int)(rs:List Ru)(pool:List Pit)(vars f:Nat)(g:FuncId)(e:V)(d:Pit->Int)(a b:Int)(h:frOk pool vars f)
  (k:∀p∈pool,Z9 G0 prog (.fc g [] [.rp e]) [p.v] (λr=>r=.i (d p))):
  AE 408 [.agg [.i a,.i b,.fc g [] [.rp e]],frV len rs pool vars f] (.ro 3 (G9 [⟨Kj pool vars d,a,b⟩])):=by
 have c:=Aah len rs pool vars f g [] [.rp e] d a b h.le h.small k;have pl:=Cw pool;have j:=Dm rs;have i:=Ac (Kj pool vars d);rw[Tp]at c|-;rw[A7a]at c;rw[show G9 [⟨Kj pool vars d,a,b⟩]=[.agg [.ro 1 (Ap (Kj pool vars d)),.i a,.i b]]from rfl];generalize Ap (Kj pool vars d)=cv,C7 pool=pv,Hw rs=rv at*;refine Ai func408 λw0 N0=>?_;refine Y [2,3] [2,3] sr (Au 9 sr ?_);refine Ge [4] [15] c func310 ?_;exact Bv C1 (rfl)
def Amp(l:List Int)(i:Nat)(x:Int):(Ap l).set i (.i x)=Ap (l.set i x):=by simp[Ap,O6]
def Ql(a b:Int):Int:=if b<a then b else a
def Age(pool:List Pit)(vars st:Nat)(a b n:Int):List Rw:=
 [⟨(Kj pool vars λp=>Ki (decide (p.st=n))).set st (-(Ql b 1000000)),-1000000,0⟩,⟨(Kj pool vars λp=>Ki (decide (p.st=n))).set st (-(Ql a 1000000)),0,1000000⟩]
def A7b(len:Int)(rs:List Ru)(pool:List Pit)(vars st:Nat)(a b n:Int)(h:frOk pool vars st)(c:st<vars)(ha:0<=a)(hb:0<=b):
  AE 420 [.agg [.i a,.i b,.i n],frV len rs pool vars st] (.ro 3 (G9 (Age pool vars st a b n))):=by
 have f:=λ(p:Pit)=>Acj (us:=[.agg [.i a,.i b,.i n]]) (args:=[p.v]) (vs:=[]) (r:=.i (Ki (decide (p.st=n)))) (Bia a b n p) func421 kr rfl
 have o:=Ao8 len rs pool vars st 421 [.agg [.i a,.i b,.i n]] [] (λp=>Ki (decide (p.st=n))) (-1000000) 0 h.le h.small (λp _=>f p);have i:=Ao8 len rs pool vars st 421 [.agg [.i a,.i b,.i n]] [] (λp=>Ki (decide (p.st=n))) 0 1000000 h.le h.small (λp _=>f p);have d:=Aci (λp=>Ki (decide (p.st=n))) h.le;unfold Age;generalize Kj pool vars (λp=>Ki (decide (p.st=n)))=C at*;have pl:=Cw pool;have j:=Dm rs;have m:=A0 C;have s:=Ac (C.set st (-(Ql b 1000000)));have g:=Ac (C.set st (-(Ql a 1000000)));have w:(C.set st (-(Ql b 1000000))).length=vars:=by simp[d]
 have l2:(C.set st (-(Ql a 1000000))).length=vars:=by simp[d]
 rw[show∀x y,G9 [⟨C.set st x,-1000000,0⟩,⟨C.set st y,0,1000000⟩]=[.agg [.ro 1 (Ap (C.set st x)),.i (-1000000),.i 0],.agg [.ro 1 (Ap (C.set st y)),.i 0,.i 1000000]]from λ_ _=>rfl];rw[Tp]at o i|-;have u:IntKind.i64.wrap (-(Ql b 1000000))= -(Ql b 1000000):=Bm (by unfold Ql;split<;>omega) (by unfold Ql;split<;>omega);have z:IntKind.i64.wrap (-(Ql a 1000000))= -(Ql a 1000000):=Bm (by unfold Ql;split<;>omega) (by unfold Ql;split<;>omega);have s1:=Amp C st (-(Ql b 1000000));have t:=Amp C st (-(Ql a 1000000));have m1:(if(1000000:Int)<b then(1000000:Int)else b)=Ql b 1000000:=rfl;have m2:(if(1000000:Int)<a then(1000000:Int)else a)=Ql a 1000000:=rfl;generalize Ql b 1000000=x,Ql a 1000000=y at*;have d1:=A0 (C.set st (-x));have d2:=A0 (C.set st (-y));generalize Ap (C.set st (-x))=D1,Ap (C.set st (-y))=D2 at*;have e:=Fr (l:=C) (k:=st) om;generalize C[st]'(by omega)=c0 at e;generalize C7 pool=pv,Hw rs=rv at*;refine Ai func420 λw0 N0=>?_;refine Y [2,3] [2,3] sr (Au 3 sr ?_);refine K5 100 o func310 rfl kr rfl rfl rfl sr C1 sr (Ak [2,3,5] [2,3,5,100] sr ?_);refine A5 [] C1 (Bq 100 [2,3,5] [2,3,5] C1 (Au 3 sr ?_));refine K5 101 i func310 rfl kr rfl rfl rfl sr C1 sr ?_;refine Ak [2,3,5,6] [2,3,5,6,101] sr ?_;refine Y [5,6] [5,6,101] C1 (Bq 101 [5,6] [5,6] C1 (Y [4] [37] sr ?_));exact Bv C1 (rfl)
def Amq(pool:List Pit)(n:Int):Bool:=pool.any λp=>decide (p.id=n)
def Agf(pool:List Pit)(vars:Nat)(n:Int):List Rw:=if Amq pool n=true then []else [⟨Kj pool vars λ_=>0,1,1⟩]
def A2g(len:Int)(rs:List Ru)(pool:List Pit)(vars d:Nat)(n:Int)(h:frOk pool vars d):Jp gv prog 426 [.agg [.i n],frV len rs pool vars d] (λr=>r=.ro 3 (G9 (Agf pool vars n))):=by
 refine Jp.relaxP ?_;have c:=Ayy len rs pool vars d n;have a:=Aah len rs pool vars d 428 [] [] (λ_=>0) 1 1 h.le h.small (λp _=>Acj (args:=[p.v]) (us:=[]) (vs:=[]) (r:=.i 0) (Bib p) func428 kr rfl);have a:=a.argsR (args:=[frV len rs pool vars d,.fn 428,.i 1,.i 1]) (.cons (Bh.refl _) (.cons (R3 428) (.cons (Bh.refl _) (.cons (Bh.refl _) .nil))));unfold Agf;change Jp _ _ _ _ (λr=>r=.bool (Amq pool n))at c;generalize Amq pool n=q at*;have pl:=Cw pool;have e:=Dm rs;have f:=Ac (Kj pool vars λ_=>0);rw[Tp]at a c|-;rw[A7a]at a;generalize hC:Kj pool vars (λ_=>0)=C,C7 pool=pv,Hw rs=rv at*;refine Bp func426 λw0 N0 g=>?_;refine Y [2,3] [2,3] sr (J (Au 3 sr ?_));refine Jk [3,9] [3] g c func427 ?_
 refine A1 (λh1=>?_) λh1=>?_
 .refine Y [4] [] sr (Aj (Aa sr ?_));rw[Ab h1];exact Bh.nils 3
 refine Y [3,5] [3] sr (Au 2 sr ?_);refine Ge [4] [13] a func310 ?_;refine Aj (Aa C1 ?_);rw[I (by rw[h1];decide)];exact Bh.refl _
def Agg(rs:List Ru)(pool:List Pit)(vars:Nat)(n:Int):List Rw:=if(!Amq pool n|| !W5 rs 7 n)=true then []else [⟨Kj pool vars λp=>Ki (decide (p.id=n)),0,0⟩]
def A2h(len:Int)(rs:List Ru)(pool:List Pit)(vars f:Nat)(n:Int)(h:frOk pool vars f):Jp gv prog 436 [.agg [.i n],frV len rs pool vars f] (λr=>r=.ro 3 (G9 (Agg rs pool vars n))):=by
 refine Jp.relaxP ?_;have d:=Ayy len rs pool vars f n;have e:=Amn len rs pool vars f 7 n;have a:=Aah len rs pool vars f 437 [] [.rp (.agg [.i n])] (λp=>Ki (decide (p.id=n))) 0 0 h.le h.small (λp _=>Acj (args:=[p.v]) (us:=[]) (vs:=[.rp (.agg [.i n])]) (r:=.i (Ki (decide (p.id=n)))) (Bid n p) func437 kr rfl);unfold Agg;change Jp _ _ _ _ (λr=>r=.bool (Amq pool n))at d;generalize Amq pool n=q,W5 rs 7 n=k at*;have pl:=Cw pool;have g:=Dm rs;have j:=Ac (Kj pool vars λp=>Ki (decide (p.id=n)));rw[Tp]at a d e|-;rw[A7a]at a;generalize hC:Kj pool vars (λp=>Ki (decide (p.id=n)))=C,C7 pool=pv,Hw rs=rv at*;refine Bp func436 λw0 N0 i=>?_;refine Y [2,3] [2,3] sr (J (Au 3 sr ?_));refine Dw i d func427 ?_;refine C3 5 sr (U6 i (c:=q) (λhg=>e) func278 rfl kr sm rfl rfl sr sM sr ?_);refine Ak [2,3,17] [2,3] sr ?_
 refine A1 (λh1=>?_) λh1=>?_
 .refine Y [4] [] sr (Aj (Aa sr ?_));rw[Ab (sG h1)];exact Bh.nils 3
 refine Bq 2 [2,3] [3] sr (Y [3,5] [3] sr (Au 2 sr ?_));refine Ge [4] [22] a func310 ?_;refine Aj (Aa C1 ?_);rw[I (by rw[show(!q|| !k)=false from by simpa using h1];decide)];exact Bh.refl _
def Ack:List Pit->List (Int×Int)->List Int->List Int
 |[],_,l=>l
 |p::r,m,l=>if p.fam<=0 then Ack r m l else Ack r ((p.fam,Fi m p.fam+1)::m) (if Fi m p.fam+1=2 then l++[p.fam]else l)
def A2i{pool:List Pit}(h:k<pool.length)(m:List (Int×Int))(l:List Int):
  Ack (pool.drop k) m l=if pool[k].fam<=0 then Ack (pool.drop (k+1)) m l else Ack (pool.drop (k+1)) ((pool[k].fam,Fi m pool[k].fam+1)::m) (if Fi m pool[k].fam+1=2 then l++[pool[k].fam]else l):=by
 rw[Bo h,Ack]
def Akv(pool:List Pit):List Int:=Ld (Ack pool [] [])
def W6:∀(pool:List Pit)(m:List (Int×Int))(l:List Int),(Ack pool m l).length<=l.length+pool.length
 |[],_,l=>by simp[Ack]
 |p::r,m,l=>by
  rw[Ack]
  split
  .have:=W6 r m l;simp only[Ax];omega
  .have:=W6 r ((p.fam,Fi m p.fam+1)::m) (if Fi m p.fam+1=2 then l++[p.fam]else l);have h2:(if Fi m p.fam+1=2 then l++[p.fam]else l).length<=l.length+1:=by split<;>simp
   simp only[Ax];omega
def Py(l:List Int):(Ld l).length=l.length:=by simp[Ld]
def A7c{m:List (Int×Int)}{n:Int}(h:∀p∈m,0<=p.2/\p.2<=n)(hn:0<=n)(a:Int):0<=Fi m a/\Fi m a<=n:=by
 induction m with
 |nil=>simp[Fi];omega
 |cons p r ih=>
  rw[Fi]
  split
  .exact h _ (Fc ..)
  .exact ih λq c=>h q (Dt _ c)
def Asf(pool:List Pit)(aa:pool.length<=18):AE 443 [.agg [],.ro 9 (C7 pool)] (.ro 1 (Ap (Akv pool))):=by
 have f:=λ(k:Nat)(h:k<pool.length)=>Jg h
 have lq:=Er pool;have l:=W6 pool [] [];unfold Akv;generalize C7 pool=pv at*;refine Ai func443 λw0 N0=>?_;refine Y [1] [] sr (J (Cb (Sz .i64 rfl rfl (λb hb _=>⟨_,rfl,?_⟩))));refine Ak [1,5] [] sr (A5 [6] sr (J (Y [5,6,10,11,12] [] sr ?_)));refine Fg 6 100 1 3 [5,6,10,11,12] [100] sr sr (Ad ?_)
 refine Gn (λx:Nat×Nat×Nat×List (Int×Int)×List Int=>[(5,.mp b .i64 (mV x.2.2.2.1)),(6,.sl 100 x.2.1 1 x.2.2.2.2.length),(12,V.i (x.1:Nat))]) (λx=>[(100,⟨x.2.1,1,3,Ap x.2.2.2.2⟩)]) (λx=>x.2.2.1)
  (λx=>x.1<=pool.length/\x.2.2.2.2.length<=x.1/\(∀p∈x.2.2.2.1,0<=p.2/\p.2<=(x.1:Int))/\Ack (pool.drop x.1) x.2.2.2.1 x.2.2.2.2=Ack pool [] []) (λx=>pool.length-x.1) (0,_,_,[],[]) ⟨B5 _,A2 _,by simp,rfl⟩ Z ?_
 rintro⟨k,qv,nx,m,L⟩⟨hk,hL,g,a⟩;simp only at hk hL g a|-;refine Y [5,6,10,11,12,13] [100] sr (J ?_)
 refine Bk (λh1=>?_) λh1=>?_
 .have c:k<pool.length:=by simp at h1;omega
  have j:k<pv.length:=om;have s:=f k c;have Ec:=A4 (k:=k) om;rw[A2i c]at a;rw[Gq]at s;generalize pool[k]=p at s a;have pm:=D0 p.m;have i:=Agc m p.fam;have u:=A7c g om p.fam;generalize Fi m p.fam=la at i u a;have Sk:IntKind.i64.wrap (la+1)=la+1:=Bm om om;have t:L.length+1<=maxLen/\(L.length+1)*8<=140737488355328:=⟨Ae (show L.length+1<=19 by omega) dc,by omega⟩;refine J (Ad (Y [5,6,8,10,11,12] [8,100] (by simp[s,j]<;>rfl) (J (A5 [18] sr ?_))))
  refine A1 (λh2=>?_) λh2=>?_
  .refine A3 ?_;refine A6 [5,6,10,11,12] [100] (by simp[Ec]<;>rfl) ?_;rw[Ab (sG h2)]at a;exact⟨(k+1,_,_,m,L),⟨c,by simp only;omega,λq f=>by have:=g q f;simp only;omega,a⟩,by simp only;omega,Z⟩
  rw[I (sO h2)]at a;refine Au 5 (by simp[i,-Of,Sk]<;>rfl) ?_;refine Tk (b:=b) hb rfl rfl rfl sr sr sr rfl Av3 rfl sr ?_;refine Ak [5,6,8,10,11,12] [8,100] sr ?_;refine A5 [28] sr ?_
  refine A1 (λo=>?_) λo=>?_
  .refine A6 [5,6,10,11,12] [100] (by simp[t]<;>rfl) (Cs [] (by simp[Ec]<;>rfl) ?_);rw[Ab (sG o)]at a;exact⟨(k+1,_,_,(p.fam,la+1)::m,L++[p.fam]),⟨c,by simp;omega,λq f=>(Bu.1 f).elim (λe=>by subst e;simp only;omega) (λe=>by have:=g q e;simp only;omega),a⟩,by simp only;omega,by simp only[R2,Ace,Aq,Ax,Bg];exact Z⟩
  refine A6 [5,6,10,11,12] [100] (by simp[Ec]<;>rfl) ?_;rw[I (sG o)]at a;exact⟨(k+1,_,_,(p.fam,la+1)::m,L),⟨c,by simp only;omega,λq f=>(Bu.1 f).elim (λe=>by subst e;simp only;omega) (λe=>by have:=g q e;simp only;omega),a⟩,by simp only;omega,Z⟩
 .refine A3 ?_;have y:k=pool.length:=sO h1
  rw[y,Cl,Ack]at a;subst a;simp only[Bg]at l;generalize Ack pool [] []=L at*;have w:=Ah4 L om;have f1:=Uk L;have z:=Uk (Ld L);have n:=Ac (Ld L);have l1:=A0 L;have l2:=A0 (Ld L);have l3:=Py L;refine Au 1 sr ?_;refine Yc (d:=100) (v:=qv) w f1 z func117 rfl kr rfl rfl rfl sr sr sr ?_;refine Ak [6] [100] sr ?_;refine Y [4] [100] sr ?_;exact Bv (by simp[results443,n,l3]<;>rfl) (rfl)
variable {d sz:Nat}{es:List V}
def A2j{v:Nat}{c:V}(h:c.pureC=true):c.frzC d v sz es=c:=by
 cases c<;>first|rfl|simp[V.pureC]at h
def Asg{l:List V}{f:V->V}(h:∀c∈l,f c=c):l.map f=l:=by
 induction l with
 |nil=>rfl
 |cons x r ih=>rw[Br,h x (Fc ..),ih λc a=>h c (Dt _ a)]
def Amr(d v sz:Nat)(es:List V){e:V}(h:e.pureE=true):e.frz d v sz es=e:=by
 have a:=Ao.1 h;cases e with
 |agg cs=>
  have h2:cs.map (V.frzC d v sz es)=cs:=Asg λc h1=>A2j (a c h1)
  simp only[V.frz,h2]
 |_=>first|rfl|(have f:=a _ (Bz.2 rfl);simp[V.pureC]at f)
def Fm{l:List V}(h:l.all V.pureE=true)(d v sz:Nat)(es:List V):l.map (V.frz d v sz es)=l:=Asg λc a=>Amr d v sz es (Ao.1 h c a)
def W7(pool:List Pit)(vars:Nat)(f:Int):Rw:=⟨Kj pool vars λp=>Ki (decide (p.fam=f)),0,1⟩
def Mn(pool:List Pit)(vars:Nat)(a:List Int):List Rw:=a.map (W7 pool vars)
def Ao9{pool:List Pit}{a:List Int}(h:k<a.length):Mn pool vars (a.take (k+1))=Mn pool vars (a.take k)++[W7 pool vars a[k]]:=W4 _ h
def Afi(pool:List Pit)(vars:Nat)(a:List Int):(Mn pool vars a).length=a.length:=by simp[Mn]
def A7d(len:Int)(rs:List Ru)(pool:List Pit)(vars m:Nat)(h:frOk pool vars m)(z:pool.length<=18):AE 442 [.agg [],frV len rs pool vars m] (.ro 3 (G9 (Mn pool vars (Akv pool)))):=by
 have j:=Asf pool z
 have af:(Akv pool).length<=18:=by
  have:=W6 pool [] [];rw[Akv,Py];simp only[Bg]at this;omega
 have c:=λ(f:Int)=>Aah len rs pool vars m 444 [] [.rp (.i f)] (λp=>Ki (decide (p.fam=f))) 0 1 h.le h.small (λp _=>Acj (args:=[p.v]) (us:=[]) (vs:=[.rp (.i f)]) (r:=.i (Ki (decide (p.fam=f)))) (Bie f p) func444 kr rfl)
 change∀f,AC _ _ _ (λr=>r=(W7 pool vars f).v)at c;have s:=λ(f:Int)=>Ac (W7 pool vars f).coef
 have ab:=λ(k:Nat)(o:k<(Akv pool).length)=>Ao9 (pool:=pool) (vars:=vars) o
 generalize Akv pool=a at*;have hq:=λ(k:Nat)(h:k<a.length)=>Fr h
 have lq:=A0 a;have pl:=Cw pool;have pr:=Dm rs;simp only[Tp]at c;rw[Tp];generalize ae:C7 pool=pv,Hw rs=rv,Ap a=fv at*;refine Ai func442 λw0 N0=>?_;refine Y [2,3] [2,3] sr (A5 [5] sr (J (Au 3 sr ?_)));refine Ge [3,5,12,13,14] [3] j func443 ?_;refine Fg 5 100 3 418 [3,5,12,13,14] [3,100] sr sr ?_;refine Ad ?_
 refine Gn (λx:Nat×Nat×Nat=>[(5,.sl 100 x.2.1 3 (Mn pool vars (a.take x.1)).length),(14,V.i (x.1:Nat))]) (λx=>[(100,⟨x.2.1,3,418,G9 (Mn pool vars (a.take x.1))⟩)]) (λx=>x.2.2)
  (λx=>x.1<=a.length) (λx=>a.length-x.1) (0,_,_) (B5 _) Z ?_
 rintro⟨k,qv,nx⟩o;simp only at o|-;refine Y [3,5,12,13,14,15] [3,100] sr (J ?_)
 refine Bk (λh1=>?_) λh1=>?_
 .have g:k<a.length:=by simp at h1;omega
  have l:k<fv.length:=om;have ga:=hq k g;have Ec:=A4 (k:=k) om;have d:=ab k g;have y:(Mn pool vars (a.take k)).length<=18:=by rw[Afi];simp;omega
  generalize a[k]=f at ga d;have e:=c f;have pc:=s f;rw[show(W7 pool vars f).v=.agg [.ro 1 (Ap (W7 pool vars f).coef),.i 0,.i 1]from rfl]at e;generalize Mn pool vars (a.take k)=i at d y|-;have aa:i.length+1<=maxLen/\(i.length+1)*40<=140737488355328:=⟨Ae (show i.length+1<=19 by omega) dc,by omega⟩;have w:G9 (Mn pool vars (a.take (k+1)))=G9 i++[.agg [.ro 1 (Ap (W7 pool vars f).coef),.i 0,.i 1]]:=by rw[d,Aid];rfl
  have u:(Mn pool vars (a.take (k+1))).length=i.length+1:=by rw[d,Aq];rfl
  generalize Ap (W7 pool vars f).coef=cv at*;refine J (Ad (Y [3,5,7,12,13,14] [3,7,100] (by simp[ga,l]<;>rfl) ?_));have t:=Fm (Gu i);refine Bq 7 [3,5,7,12,13,14] [3,100] (by simp[t]<;>rfl) (Y [3,5,8,12,13,14] [3,100] sr (Ik 3 sr ?_));refine Aw e func310 ?_;refine Ak [3,5,12,13,14] [3,100] (by simp[aa]<;>rfl) ?_;refine Cs [] (by simp[Ec]<;>rfl) ?_;exact⟨(k+1,_,_),g,by simp only;omega,by simp only[w,u];exact Z⟩
 .refine A3 ?_;have ad:k=a.length:=sO h1
  subst ad;simp only[Bb];have n:=Gu (Mn pool vars a);refine Y [4] [100] sr ?_;exact Bv C1 (rfl)
end Go.Proofs.YtnoignhlamifmaaGreatDoor
namespace Go.Proofs
open Go.Shelf
def Tryz.sortPairs_ren:Go.Shelf.Ren:=⟨λ|6=>353|15=>177|14=>357|28=>232|29=>233|20=>359|21=>360|22=>361|23=>362|24=>363|25=>364|26=>365|27=>366|46=>368|47=>266|48=>267|49=>369|50=>370|57=>371|n=>n,λ|22=>28|24=>447|25=>480|3=>3|39=>102|0=>0|53=>164|55=>42|4=>4|46=>364|45=>363|50=>269|5=>5|9=>9|66=>400|70=>403|76=>431|77=>432|n=>n,λ|n=>n⟩
def Tryz.sortPairs:Go.Proofs.SlLaysF0.n6 prog sortPairs_ren:={
 mixed:=by kernel_rfl
 f6:=⟨Tryz.f353.name,by decide,func353.trans (congrArg some kr)⟩
 f14:=⟨Tryz.f357.name,by decide,func357.trans (congrArg some kr)⟩
 f15:=func177.trans (congrArg some kr)
 f20:=⟨Tryz.f359.name,by decide,func359.trans (congrArg some kr)⟩
 f21:=⟨Tryz.f360.name,by decide,func360.trans (congrArg some kr)⟩
 f22:=⟨Tryz.f361.name,by decide,func361.trans (congrArg some kr)⟩
 f23:=⟨Tryz.f362.name,by decide,func362.trans (congrArg some kr)⟩
 f24:=⟨Tryz.f363.name,by decide,func363.trans (congrArg some kr)⟩
 f25:=⟨Tryz.f364.name,by decide,func364.trans (congrArg some kr)⟩
 f26:=⟨Tryz.f365.name,by decide,func365.trans (congrArg some kr)⟩
 f27:=⟨Tryz.f366.name,by decide,func366.trans (congrArg some kr)⟩
 f28:=func232.trans (congrArg some kr)
 f29:=func233.trans (congrArg some kr)
 f46:=⟨Tryz.f368.name,by decide,func368.trans (congrArg some kr)⟩
 f47:=func266.trans (congrArg some kr)
 f48:=func267.trans (congrArg some kr)
 f49:=⟨Tryz.f369.name,by decide,func369.trans (congrArg some kr)⟩
 f50:=⟨Tryz.f370.name,by decide,func370.trans (congrArg some kr)⟩
 f57:=⟨Tryz.f371.name,by decide,func371.trans (congrArg some kr)⟩
 t0:=underlying0
 a0:=isAgg0
 z0:=sizeOf0
 v0:=zeroValue0
 t3:=underlying3
 a3:=isAgg3
 z3:=sizeOf3
 v3:=zeroValue3
 t4:=underlying4
 a4:=isAgg4
 z4:=sizeOf4
 v4:=zeroValue4
 t5:=underlying5
 a5:=isAgg5
 z5:=sizeOf5
 v5:=zeroValue5
 t9:=underlying9
 a9:=isAgg9
 z9:=sizeOf9
 v9:=zeroValue9
 t22:=underlying28
 a22:=isAgg28
 z22:=sizeOf28
 v22:=zeroValue28
 t25:=underlying480
 a25:=isAgg480
 z25:=sizeOf480
 v25:=zeroValue480
 t39:=underlying102
 a39:=isAgg102
 z39:=sizeOf102
 v39:=zeroValue102
 t45:=underlying363
 a45:=isAgg363
 z45:=sizeOf363
 v45:=zeroValue363
 t46:=underlying364
 a46:=isAgg364
 z46:=sizeOf364
 v46:=zeroValue364
 t50:=underlying269
 a50:=isAgg269
 z50:=sizeOf269
 v50:=zeroValue269
 t53:=underlying164
 a53:=isAgg164
 z53:=sizeOf164
 v53:=zeroValue164
 t55:=underlying42
 a55:=isAgg42
 z55:=sizeOf42
 v55:=zeroValue42
 t66:=underlying400
 a66:=isAgg400
 z66:=sizeOf400
 v66:=zeroValue400
 t70:=underlying403
 a70:=isAgg403
 z70:=sizeOf403
 v70:=zeroValue403
 t76:=underlying431
 a76:=isAgg431
 z76:=sizeOf431
 v76:=zeroValue431
 t77:=underlying432
 a77:=isAgg432
 z77:=sizeOf432
 v77:=zeroValue432}
def Tryz.cmpInt_ren:Go.Shelf.Ren:=⟨λ|5=>189|7=>248|n=>n,λ|22=>3|3=>3|4=>4|n=>n,λ|n=>n⟩
def Tryz.cmpInt:Go.Proofs.SlLaysC2.n5 prog cmpInt_ren:={
 mixed:=by kernel_rfl
 f5:=⟨Tryz.f189.name,by decide,func189.trans (congrArg some kr)⟩
 f7:=⟨Tryz.f248.name,by decide,func248.trans (congrArg some kr)⟩
 t3:=underlying3
 a3:=isAgg3
 z3:=sizeOf3
 v3:=zeroValue3
 t4:=underlying4
 a4:=isAgg4
 z4:=sizeOf4
 v4:=zeroValue4
 t22:=underlying3
 a22:=isAgg3
 z22:=sizeOf3
 v22:=zeroValue3}
open Go.RowKit
def Tryz.or2(b off:Nat)(A C r:Int)(m:A=0->r=C)(l:A≠0->r=A)(w:World)(j:w.cell? ⟨b,off,none⟩=some (.int .i64 A))(h1:w.cell? ⟨b,off+1,none⟩=some (.int .i64 C)):
  Calls prog 188 #[.slice (some ⟨b,off,none⟩) 2 2] w λe w'=>e=.returned (.int .i64 r)/\w'=w:=by
 go_enter func188,ntmps188
 go_wp2
 go_loop [8] (λi=>∃k:Nat,k<=2/\i=.int .i64 k/\(0<k->A=0)/\(1<k->C=0)) (λi=>2-(intOf i).toNat)
 case atStart=>exact⟨0,by omega,rfl,by omega,by omega⟩
 case round=>
  obtain⟨k,hk,rfl,hA,hC⟩:=hrel;obtain⟨z,d,c⟩:∃z,(k=0->z=A)/\(k=1->z=C):=⟨if k=0 then A else C,by intro h;simp[h],by intro h;simp[h]⟩
  have g:(k:Int)<2->w.cell? ⟨b,off+k,none⟩=some (.int .i64 z):=by
   intro h
   rcases Cz k 1 with h2|h2
   .have:k=0:=om;subst this;rw[d rfl];simpa using j
   .have:k=1:=om;subst this;rw[c rfl];simpa using h1
  clear j h1
  go_wp2
  .have f:=sG (‹(z != 0)=true›)
   have a:(k:Int)<2:=by assumption
   have:z=r:=om
   go_ret
   exact⟨by rw[this];rfl,rfl⟩
  .have f:=sG (‹(z != 0)=false›)
   have a:(k:Int)<2:=by assumption
   refine⟨⟨k+1,by omega,?_,by omega,by omega⟩,?_⟩
   .simp
   .simp[intOf];omega
  .have a:¬(k:Int)<2:=om;have:r=0:=om
   go_ret
   exact⟨by rw[this];rfl,rfl⟩
def Tryz.cmp159(x y:Int)(w:World):Calls prog 189 #[.int .i64 x,.int .i64 y] w λe w'=>e=.returned (.int .i64 (Lib.compareInt x y))/\w'=w:=AnyG.cmp_Compare_int cmpInt x y w
def Ash(V:World)(a:Array Value)(T n:Nat)(c:n=V.heap.size)(k:Nat)(v:Value)(h:a[k]?=some v):((V.alloc (.cells a T)).drew).cell? ⟨n,k,none⟩=some v:=by
 show(V.alloc (.cells a T)).cell? ⟨n,k,none⟩=some v
 subst c;have d:(V.alloc (.cells a T)).heap[V.heap.size]?=some (.cells a T):=heap_alloc_new V _;simp only[World.cell?,d,h];rfl
open Go.Sort in
def GR(W w':World):Prop:=∃q os',w'=grow (W.drewN q) os'
open Go.Sort in
theorem GR.refl(W:World):GR W W:=⟨0,#[],by rw [grow_empty];rfl⟩
open Go.Sort in
theorem GR.alloc{W w:World}(h:GR W w)(o:Obj):GR W (w.alloc o):=by
 obtain⟨q,os,rfl⟩:=h;exact⟨q,os++ #[o],by rw [alloc_eq_grow,grow_grow]⟩
open Go.Sort in
theorem GR.drew{W w:World}(h:GR W w):GR W w.drew:=by
 obtain⟨q,os,rfl⟩:=h;exact⟨q+1,os,rfl⟩
open Go.Sort in
set_option maxRecDepth 8000 in
theorem Tryz.closure309(x1 x2 y1 y2 a b r:Int)(ha:Lib.compareInt x1 y1=a)(hb:Lib.compareInt x2 y2=b)(hr1:a=0->r=b)(hr2:a≠0->r=a)(W:World):Calls prog 354 #[.agg #[.int .i64 x1,.int .i64 x2],.agg #[.int .i64 y1,.int .i64 y2]] W fun e w'=>e=.returned (.int .i64 r)/\∃q os',w'=grow (W.drewN q) os':=by
 have h1:=fun W'=>cmp159 x1 y1 W'
 have h2:=fun W'=>cmp159 x2 y2 W'
 rw [ha]at h1;rw [hb]at h2
 go_enter func354,ntmps354
 go_wp
 go_region_held3 (fun w'=>w'.cell? ⟨W.heap.size,0,none⟩=some (.int .i64 x1)/\w'.cell? ⟨W.heap.size,1,none⟩=some (.int .i64 x2)/\w'.cell? ⟨W.heap.size+1,0,none⟩=some (.int .i64 y1)/\w'.cell? ⟨W.heap.size+1,1,none⟩=some (.int .i64 y2)) (go_keep)
  (first
   |(go_at_call_of 189 (Value.int .i64 x1);refine(h1 _).mono ?_;rintro e w'⟨rfl,rfl⟩)
   |(go_at_call_of 189 (Value.int .i64 x2);refine(h2 _).mono ?_;rintro e w'⟨rfl,rfl⟩)
   |(go_at_call 188;refine(or2 _ _ a b r hr1 hr2 _ ?_ ?_).mono ?_;(exact Ash _ _ _ _ sm _ _ rfl);(exact Ash _ _ _ _ sm _ _ rfl);rintro e w'⟨rfl,rfl⟩))
 all_goals go_wp2
 all_goals go_ret
 all_goals refine⟨rfl,?_⟩
 all_goals(repeat(first|exact GR.refl _ |apply GR.drew|apply GR.alloc))
end Go.Proofs
namespace Go.Proofs.YtnoignhlamifmaaGreatDoor
open Go.Eng Go.Eng.Limb Go.RowKit Go.Sort
variable {d g k n:Nat}{ty:TypeId}
def Awc(x y:Int×Int):Int:=if Lib.compareInt x.1 y.1=0 then Lib.compareInt x.2 y.2 else Lib.compareInt x.1 y.1
def ltP(x y:Int×Int):Bool:=decide (x.1<y.1\/(x.1=y.1/\x.2<y.2))
def leP(x y:Int×Int):Bool:=decide (x.1<y.1\/(x.1=y.1/\x.2<=y.2))
def Ams:ltOf Awc=ltP:=by
 funext x y
 have c:∀a b:Int,(Lib.compareInt a b=0↔a=b)/\(Lib.compareInt a b<0↔a<b):=by
  intro a b;unfold Lib.compareInt
  by_cases h1:a<b
  .simp[h1];omega
  .by_cases h2:b<a
   .simp[h1,h2];omega
   .simp[h1,h2];omega
 unfold ltOf Awc ltP;have h1:=c x.1 y.1;have h2:=c x.2 y.2
 by_cases h:x.1=y.1
 .rw[Ab (h1.1.2 h)];simp only[h2.2];congr 1;simp[h]
 .rw[I (λe=>h (h1.1.1 e))];simp only[h1.2];congr 1;simp[h]
def Bmf:SWO ltP where
 irrefl x:=by simp[ltP]
 trans x y z h1 h2:=by simp only[ltP,decide_eq_true_eq]at*;omega
 ntrans x y z h1 h2:=by simp only[ltP,decide_eq_false_iff_not]at*;omega
def Aai(x:Int×Int):List Value:=[.int .i64 x.1,.int .i64 x.2]
def A7e(blk off a:Nat)(w:World):CmpLays prog 354 #[] Aai 2 Awc blk off a w:=by
 intro m os dk _ x y;exact closure309 x.1 x.2 y.1 y.2 _ _ (Awc x y) rfl rfl (λh=>by unfold Awc;rw[Ab h]) (λh=>by unfold Awc;rw[I h]) _
def Asi{w:World}{f:Array Obj}(d:Array Value):w.grownBy (grow (putRow id (Sort.ahead w n) g 0 d) f) (some g):=by
 refine⟨rfl,rfl,rfl,by simp,λk c a=>?_⟩;rw[heap_grow_old _ _ (sG c)];have:g≠k:=λe=>a (by rw[e])
 simp[putRow,mapBlock,Sort.ahead,Lp,this]
def A7f{w:World}{i:Array Obj}{a:Array Value}{e:TypeId}{c:Nat×Nat}(d:Array Value)(f:w.heap[g]?=some (.cells a e c)):
  (grow (putRow id (Sort.ahead w n) g 0 d) i).heap[g]?=some (.cells (putCells id 0 d a) e c):=by
 rw[heap_grow_old _ _ (sG ((B3.1 f).1))];simp[putRow,mapBlock,Sort.ahead,Lp,f,onCells]
def Awd(l:List (Int×Int)):∀e∈A9 l,e.fits 2:=by
 intro x a;simp only[A9,Bc]at a;obtain⟨h,_,rfl⟩:=a;exact⟨rfl,by simp[V.cells,V.isCell]⟩
def Aea{l:List (Int×Int)}(h:k<l.length):(A9 l)[k]?=some (.agg [.i l[k].1,.i l[k].2]):=by simp[A9,h]
def Awe{w:World}{e:Nat}{l:List (Int×Int)}(h:Alq w g ty 2 e (A9 l)):HoldsK Aai 2 w g 0 l.toArray/\g<w.heap.size/\∃a,w.heap[g]?=some (.cells a ty (0,0))/\a.size=e*2:=by
 have⟨h1,h2,a,c,r,o⟩:=h;refine⟨λj k=>?_,(B3.1 c).1,a,c,r⟩;rw[size_flatK,Dz]at k;have i:j/2<l.length:=om
 have n:(flatK Aai 2 l.toArray)[j]! =(Aai l[j/2])[j%2]! :=by
  rw[get_flatK Aai 2 l.toArray j (sG k)];simp[i]
 have m:j/2*2+j%2=j:=om
 rcases(by omega:j%2=0\/j%2=1)with f|f
 .have⟨x,d,hp⟩:=o (j/2) _ (j%2) (.int .i64 l[j/2].1) (Aea i) (by rw[f];rfl);rw[m]at d;cases hp
  rw[n,f];exact⟨by simp[World.cell?,c,d,Aai],by simp[World.frozen?,c]⟩
 .have⟨x,d,hp⟩:=o (j/2) _ (j%2) (.int .i64 l[j/2].2) (Aea i) (by rw[f];rfl);rw[m]at d;cases hp
  rw[n,f];exact⟨by simp[World.cell?,c,d,Aai],by simp[World.frozen?,c]⟩
def A7g{w:World}{r:Array Obj}{a:Array Value}{l:List (Int×Int)}(u:w.heap[g]?=some (.cells a ty (0,0)))(hs:a.size=d*2)(s:l.length<=d):
  Alq (grow (putRow id (Sort.ahead w n) g 0 (flatK Aai 2 l.toArray)) r) g ty 2 d (A9 l):=by
 refine⟨by rw[Eh];exact s,Awd l,_,A7f _ u,by simp[putCells,hs],λk e j c f h=>?_⟩;have i:k<l.length:=by have:=(Al.1 f).1;simpa using this
 rw[Aea i]at f;cases f;have m:j<2:=by have:=(Al.1 h).1;simpa[V.cells]using this
 have t:(flatK Aai 2 l.toArray)[k*2+j]! =(Aai l[k])[j]! :=by
  rw[get_flatK Aai 2 l.toArray (k*2+j) so,show(k*2+j)/2=k by omega,show(k*2+j)%2=j by omega];simp[i]
 have o:(putCells id 0 (flatK Aai 2 l.toArray) a)[k*2+j]?=some ((Aai l[k])[j]!):=by
  rw[putCells,Array.getElem?_mapIdx,M1 (show k*2+j<a.size by omega)];simp only[I0,size_flatK,Dz,Dn,Mz,id];rw[Ab om,t]
 refine⟨_,o,?_⟩
 rcases(by omega:j=0\/j=1)with rfl|rfl
 .simp only[V.cells,Dy,Am]at h;subst h;exact .int _ _
 .simp only[V.cells,Hb,Dy,Am]at h;subst h;exact .int _ _
def Um(l:List (Int×Int)):List (Int×Int):=l.mergeSort leP
def A7h{l m:List (Int×Int)}(hp:m.Perm l)(hs:m.Pairwise λx y=>leP x y=true):m=Um l:=by
 refine Ty (le:=λx y=>leP x y=true) (λa b _ _ h1 h2=>?_) hs (List.pairwise_mergeSort (λa b c h1 h2=>?_) (λa b=>?_) l) (hp.trans (List.mergeSort_perm l leP).symm)
 .simp only[leP,decide_eq_true_eq]at h1 h2;exact Prod.ext om om
 .simp only[leP,decide_eq_true_eq]at*;omega
 .simp only[leP,I1,decide_eq_true_eq];omega
def Akw{d:Array (Int×Int)}(h:SortedIn ltP 0 d.size d):d.toList.Pairwise λx y=>leP x y=true:=by
 rw[H1];intro i j e c a;have:=h i j (B5 _) a (sG c);have g:d[j]! =d.toList[j]:=by rw[getElem!_pos d j (sG c)];simp
 have f:d[i]! =d.toList[i]:=by rw[getElem!_pos d i (sG e)];simp
 rw[g,f]at this;simp only[ltP,decide_eq_false_iff_not]at this;simp only[leP,decide_eq_true_eq];omega
def Awf(l:List (Int×Int))(hz:l.length<=17592186044416):Bku prog 353 354 2 447 (A9 l) (A9 (Um l)) (λ_ _=>.tup []):=by
 have eg:=enters_of func354 kr rfl
 refine⟨λw g j r c=>?_,λhe=>?_⟩
 .have⟨t,u,z,hb,hs⟩:=Awe c;have i:=c.1;rw[Eh]at i|-;have a:=AnyQ.slices_SortFunc sortPairs 2 isAgg447 sizeOf447 Aai (λ_=>rfl) (λx v s=>by simp[Aai]at s;rcases s with rfl|rfl<;>rfl) Awc (by rw[Ams];exact Bmf) 354 #[] g 0 j l.toArray w eg (A7e g 0 _ w) t u so;rw[Ams]at a;refine a.mono ?_;rintro e w'⟨rfl,h,n,os,hp,o,rfl⟩;have hd:=sG hp.1
  have f:h.toList.Perm l:=by
   have h3:=hp.2.2;have y:(h.extract 0 l.toArray.size).toList=h.toList:=by simp;rw[Ba (by simp;omega)]
   have a2:(l.toArray.extract 0 l.toArray.size).toList=l:=sm
   rwa[y,a2]at h3
  have m:h=(Um l).toArray:=by rw[<-(A7h f (Akw (by rw[hd];simpa using o)))]
  subst m;exact⟨_,rfl,Asi _,A7g hb hs (by simp[Um];omega),λd v μ N' _=>.pur (.tup [] [] rfl sm)⟩
 .have:l=[]:=by simpa[A9]using he
  subst this;refine⟨by simp[Um,A9],λw A=>?_⟩;refine(AnyF.slices_SortFunc_none sortPairs A 0 _ w).mono ?_;rintro e w'⟨rfl,rfl⟩;exact⟨_,rfl,⟨rfl,rfl,rfl,A2 _,λ_ _ _=>rfl⟩,λd v μ N' _=>.pur (.tup [] [] rfl sm)⟩
variable {S:AS}{fn:Func}{m:Nat}{r:V}
def Ln:List (Int×Int)->List (Int×Int)
 |[]=>[]
 |[x]=>[x]
 |x::y::r=>if x=y then Ln (y::r)else x::Ln (y::r)
def Amt(y x:Int×Int):∀a:List (Int×Int),Ln (a++[y,x])=Ln (a++[y])++(if y=x then []else [x])
 |[]=>by
  show Ln [y,x]=Ln [y]++_
  by_cases h:y=x
  .subst h;simp[Ln]
  .simp[Ln,h]
 |z::a=>by
  have ih:=Amt y x a
  match a,ih with
  |[],ih=>
   show(if z=y then Ln [y,x]else z::Ln [y,x])=(if z=y then Ln [y]else z::Ln [y])++_
   rw[show Ln [y,x]=_ from ih];split<;>simp
  |b::r,ih=>
   show(if z=b then Ln (b::r++[y,x])else z::Ln (b::r++[y,x]))=(if z=b then Ln (b::r++[y])else z::Ln (b::r++[y]))++_
   rw[ih];split<;>simp
def Amu{l:List (Int×Int)}(h:m+1<l.length):Ln (l.take (m+2))=Ln (l.take (m+1))++(if l[m]'(by omega)=l[m+1]then []else [l[m+1]]):=by
 have c:l.take (m+2)=l.take m++[l[m]'(by omega),l[m+1]]:=by
  rw[Av h,Av (show m<l.length by omega),B6];rfl
 have a:l.take (m+1)=l.take m++[l[m]'(by omega)]:=Av om;rw[c,a,Amt]
def Aie:∀l:List (Int×Int),(Ln l).length<=l.length
 |[]=>by simp[Ln]
 |[x]=>by simp[Ln]
 |x::y::r=>by
  have:=Aie (y::r);rw[Ln];split<;>simp only[Ax]at*<;>omega
def Bmg(l:List (Int×Int))(i:Nat)(x:Int×Int):(A9 l).set i (.agg [.i x.1,.i x.2])=A9 (l.set i x):=by simp[A9,O6]
def Ayz(a b:Int×Int):(decide (a.1=b.1)&&decide (a.2=b.2))=decide (a=b):=by
 have⟨d,f⟩:=a;have⟨e,c⟩:=b;by_cases h:d=e<;>by_cases h2:f=c<;>simp[h,h2]
def Bk3(v:Nat)(l:List (Int×Int))(r:V)(a:List (Nat×Ob)):Prop:=
 ∃L:List (Int×Int),a=[(100,⟨v,2,447,A9 L⟩)]/\((r=.sl 100 v 2 L.length/\L=Ln l)\/(r=.ss 100 v 2 0 (Ln l).length/\L.take (Ln l).length=Ln l/\(Ln l).length<=L.length))
def Aeb{nx:Nat}{R:V->List (Nat×Ob)->Prop}{E:List PanicEntry->Prop}{ob:Ob}(a:nx<=S.nx)(c:Zi prog S fn.results.toList=some r)(d:Eng.get S.objs k=some ob)(f:R r [(k,ob)]):Abq prog fn R E nx .ret S:=
 ⟨a,r,_,c,λ_ _ e=>B2 d e,f⟩
def Apa(v:Nat)(l:List (Int×Int))(hl:l.length<=1000000):Q0 prog 355 [.sl 100 v 2 l.length] [(100,⟨v,2,447,A9 l⟩)] (Bk3 v l) (λ_=>False):=by
 refine Ed func355 λw0 N0 af=>?_;refine Y [0] [100] sr (J (Y [0,8] [100] sr ?_))
 refine A1 (λh1=>?_) λh1=>?_
 .refine Y [2] [100] sr (Aj (Aeb sy sr rfl ⟨l,rfl,.inl ⟨rfl,?_⟩⟩));have az:l.length<2:=sO h1
  match l,az with
  |[],_=>rfl
  |[x],_=>rfl
 have bf:2<=l.length:=sO h1
 refine J (Y [0,3] [100] sr (Ad ?_));refine Gn (λt:Nat×Nat=>[(3,V.int .i64 ((t.1+1:Nat):Int))]) (λ_=>[]) (λt=>t.2) (λt=>t.1+1<=l.length/\af<=t.2/\Ln (l.take (t.1+1))=l.take (t.1+1)) (λt=>l.length-t.1) (0,_) ⟨by simp only;omega,by simp only;omega,by rw[Av om,Kw];rfl⟩ Z ?_;rintro⟨k,nx⟩⟨hk,a5,hI⟩;simp only at hk a5 hI|-;refine J (Y [0,3,13] [100] sr ?_)
 refine Bk (λh2=>?_) λh2=>?_
 .have r:k+1<l.length:=by simp at h2;omega
  have ba:k+1<(A9 l).length:=by rw[Eh];exact r
  have bb:k<(A9 l).length:=by rw[Eh];omega
  have g1:=Ix r;have g0:=Ix (show k<l.length by omega);have Ec:IntKind.i64.wrap (k:Int)=k:=Bm om om;have Sk:IntKind.i64.wrap ((k:Int)+1+1)=(k:Int)+1+1:=Bm om om;have ak:(0:Int)<=(k:Int)+1:=om;have aw:(k:Int)+1<l.length:=om;have a9:(k:Int)<l.length:=om;have ht:=Amu r;have ag:=Ayz l[k+1] (l[k]'(by omega));generalize a7:l[k+1]=x1,bg:l[k]'(by omega)=x0 at*;refine J (Ad (I3 [0,3,4,4,3,1,8,2] [0,3,25] [100] sr (by simp[g1,g0,Ec,ak,aw,a9]<;>rfl) ?_))
  refine A1 (λh3=>?_) λh3=>?_
  .have s:x1=x0:=by rw[<-decide_eq_true_iff (p:=x1=x0),<-ag];simpa using h3
   have hN:l.length-(k+1)+(k+1)=l.length:=om;have a0:(k:Int)+1<=l.length:=om;rw[Ab s.symm,Do,hI]at ht;refine Y [0,3,4] [100] C1 (J (Y [0,3,4,5] [100] sr (Ad ?_)))
   refine Gn (λt:Nat×Nat×List (Int×Int)×Nat=>[(3,V.int .i64 (t.2.1:Nat)),(5,V.int .i64 ((t.1+1:Nat):Int))]) (λt=>[(100,⟨v,2,447,A9 t.2.2.1⟩)]) (λt=>t.2.2.2)
    (λt=>k+1+(t.1+1)<=l.length/\t.2.2.1.length=l.length/\t.2.1=(Ln (l.take (k+1+t.1+1))).length/\t.2.2.1.take t.2.1=Ln (l.take (k+1+t.1+1))/\t.2.1<=k+1+t.1/\(∀q,k+1+t.1<=q->t.2.2.1[q]?=l[q]?)/\af<=t.2.2.2)
    (λt=>l.length-t.1) (0,k+1,l,_) ⟨by simp only;omega,rfl,by simp only[Eb];rw[ht,C8];omega,by simp only[Eb];rw[ht],by simp only;omega,λ_ _=>rfl,by simp only;omega⟩ Z ?_
   rintro⟨a,c,L,bi⟩⟨hj,o,i,j,ay,n,ae⟩;simp only at hj o i j ay n ae|-;have be:((l.length-(k+1):Nat):Int)=(l.length:Int)-(k+1):=om;refine J (Y [0,3,4,5,32] [100] sr ?_)
   refine Bk (λh4=>?_) λh4=>?_
   .have a1:k+1+(a+1)<l.length:=by simp at h4;omega
    have q1:=n (k+1+(a+1)) om;have q0:=n (k+1+a) om;rw[Ah om,Ah a1]at q1;rw[Ah om,Ah (show k+1+a<l.length by omega)]at q0;injection q1 with q1;injection q0 with q0;have u:=Ix (l:=L) (k:=k+1+(a+1)) om;have aq:=Ix (l:=L) (k:=k+1+a) om;rw[q1]at u;rw[q0]at aq;have h:=Amu (l:=l) (m:=k+1+a) om;have ab:=Ayz (l[k+1+(a+1)]) (l[k+1+a]'(by omega));have ax:=Bmg L c (l[k+1+(a+1)]);have ad:(L.set c (l[k+1+(a+1)])).length=l.length:=by rw[Hy];exact o
    have a4:(L.set c (l[k+1+(a+1)])).take (c+1)=L.take c++[l[k+1+(a+1)]]:=by
     rw[Av (by rw[ad];omega),List.getElem_set_self,List.take_set_of_le (A2 _)]
    have ar:∀q,c<q->(L.set c (l[k+1+(a+1)]))[q]?=L[q]? :=λq hq=>Ip om
    have f:k+1+a+1=k+1+(a+1):=om;have w:k+1+a+2=k+1+(a+1)+1:=om;simp only[f,w]at h j i;have ai:Gz (A9 L) c=some (.agg [.int .i64 (L[c]'(by omega)).1,.int .i64 (L[c]'(by omega)).2]):=Ix om;generalize(L[c]'(by omega))=yo at ai;generalize l[k+1+(a+1)]=y,l[k+1+a]'(by omega)=y0 at*;generalize L.set c y=L' at*;have av:IntKind.i64.wrap (a:Int)=a:=Bm om om;have ah:IntKind.i64.wrap ((a:Int)+1+1)=(a:Int)+1+1:=Bm om om;have a2:IntKind.i64.wrap ((c:Int)+1)=(c:Int)+1:=Bm om om;have am:(0:Int)<=(a:Int)+1:=om;have an:(a:Int)+1<((l.length-(k+1):Nat):Int):=om;have au:(a:Int)<((l.length-(k+1):Nat):Int):=om;have a6:(c:Int)<l.length:=om;have al:=Eh L;refine J (Ad (I3 [0,3,4,4,3,1,8,2] [0,3,4,5,44] [100] sr (by simp[u,aq,av,am,an,au]<;>rfl) ?_));have ao:(!decide (y.1=y0.1)|| !decide (y.2=y0.2))= !decide (y=y0):=by rw[<-ab,Bool.not_and]
    refine A1 (λh5=>?_) λh5=>?_
    .have aj:¬y=y0:=by rw[ao]at h5;simpa using h5
     rw[I (λe=>aj e.symm)]at h;refine Y [0,3,4,5] [100] (by simp[u,am,an,a6,ai,ax]<;>rfl) (A6 [0,3,4,5] [100] (by simp[a2]<;>rfl) (A6 [0,3,4,5] [100] (by simp[ah]<;>rfl) ?_));exact⟨(a+1,c+1,L',_),⟨by simp only;omega,ad,by simp only[];rw[h,Aq,<-i];rfl,by simp only[];rw[h,a4,j],by simp only;omega,λq hq=>by rw[ar q oM];exact n q om,by simp only;omega⟩,by simp only;omega,Z⟩
    have a3:y=y0:=by rw[ao]at h5;simpa using h5
    rw[Ab a3.symm,Do]at h;refine A6 [0,3,4,5] [100] (by simp[ah]<;>rfl) ?_;exact⟨(a+1,c,L,_),⟨by simp only;omega,o,by simp only[];rw[h];exact i,by simp only[];rw[h];exact j,by simp only;omega,λq hq=>n q om,by simp only;omega⟩,by simp only;omega,Z⟩
   .refine A3 ?_;have bh:k+1+(a+1)=l.length:=sO h4
    have g:l.take (k+1+a+1)=l:=Ba om;rw[g]at i j;have bd:=Aie l;have al:=Eh L;have aa:(c:Int)<=l.length:=om;have bc:c<=l.length:=om;have a8:(A9 L).take c=A9 (Ln l):=by rw[<-j];simp[A9,Tx]
    refine Au 3 (by simp[aa]<;>rfl) ?_;refine A08 (d:=100) (off:=c) (len:=l.length-c) (ob:=⟨v,2,447,A9 L⟩) (te:=447) (z:=.agg #[.int .i64 0,.int .i64 0]) rfl rfl rfl sm gt (by simp[o];omega) sm zeroValue447 rfl (by simp[Value.cells,Value.oneCell']) (by simp[a8]<;>rfl) ?_;refine Ak [0,3] [100] sr ?_;refine Y [2] [100] (by simp[aa]<;>rfl) ?_;exact Aj (Aeb sy sr rfl ⟨Ln l,rfl,.inr ⟨by rw[i],Bb,A2 _⟩⟩)
  have s:¬x1=x0:=by rw[<-decide_eq_true_iff (p:=x1=x0),<-ag,h3];decide
  rw[I (λe=>s e.symm),hI]at ht;refine A6 [0,3] [100] (by simp[Sk]<;>rfl) ?_;exact⟨(k+1,_),⟨by simp only;omega,by simp only;omega,by rw[ht,Av (show k+1<l.length by omega),a7]⟩,by simp only;omega,Z⟩
 .refine A3 ?_;have bj:k+1=l.length:=sO h2
  have g:l.take (k+1)=l:=Ba om;rw[g]at hI;refine Y [2] [100] sr ?_;exact Aj (Aeb sy sr rfl ⟨l,rfl,.inl ⟨rfl,hI.symm⟩⟩)
def A2k(p:Int×Int):Bool:=decide (p.1≠p.2)
def Aif(l:List (Int×Int)):List (Int×Int):=(l.filter A2k).map λp=>A66 p.1 p.2
def A2l{l:List (Int×Int)}(h:k<l.length):Aif (l.take (k+1))=Aif (l.take k)++(if A2k l[k]=true then [A66 l[k].1 l[k].2]else []):=by
 unfold Aif;rw[W2 A2k h,Cg]
 congr 1
 by_cases a:A2k l[k]=true<;>simp[a]
def Aig(l:List (Int×Int)):(Aif l).length<=l.length:=by unfold Aif;rw[Db];exact H9 _ _
def Asj(l:List (Int×Int)):List (Int×Int):=Ln (Um (Aif l))
def Aec(l:List (Int×Int)):(Um l).length=l.length:=by simp[Um]
def Aed(l:List (Int×Int)):(Asj l).length<=l.length:=Ae (Aie _) (by rw[Aec];exact Aig l)
def Aih(a b:List (Int×Int)):A9 (a++b)=A9 a++A9 b:=Cg
def Aii(p:Int×Int):A9 [p]=[.agg [.i p.1,.i p.2]]:=rfl
def flatP(l:List (Int×Int)):(A9 l).all Ih=true:=by
 rw[Ao];intro x a;simp only[A9,Bc]at a;obtain⟨n,_,rfl⟩:=a;rfl
def A7i(l:List (Int×Int))(hl:l.length<=1000):AE 338 [.ro 2 (A9 l)] (.ro 2 (A9 (Asj l))):=by
 have hq:=λ(k:Nat)(h:k<l.length)=>Ix h
 have lq:=Eh l;have u:=λ(k:Nat)(h:k<l.length)=>A2l h
 have ag:=Aig l;unfold Asj;generalize A9 l=w at*;refine Ai func338 λw0 N0=>?_;refine Y [0] [] sr (A5 [3] sr (J (Y [3,6,7,8] [] sr ?_)));refine Fg 3 100 2 447 [3,6,7,8] [100] sr sr (Ad ?_)
 refine Gn (λx:Nat×Nat×Nat=>[(3,.sl 100 x.2.1 2 (Aif (l.take x.1)).length),(8,V.i (x.1:Nat))]) (λx=>[(100,⟨x.2.1,2,447,A9 (Aif (l.take x.1))⟩)]) (λx=>x.2.2)
  (λx=>x.1<=l.length) (λx=>l.length-x.1) (0,_,_) (B5 _) Z ?_
 rintro⟨k,qv,nx⟩f;simp only at f|-;refine Y [3,6,7,8,9] [100] sr (J ?_)
 refine Bk (λh1=>?_) λh1=>?_
 .have c:k<l.length:=by simp at h1;omega
  have i:k<w.length:=om;have ga:=hq k c;have Ec:=A4 (k:=k) om;have a:=u k c;have s:(Aif (l.take k)).length<=1000:=Ae (Aig _) so;generalize l[k]=p at ga a;have g:=Awa p.1 p.2;generalize A66 p.1 p.2=op at*;have e:A2k p= !decide (p.1=p.2):=by unfold A2k;simp
  generalize Aif (l.take k)=z at a s|-;have t:z.length+1<=maxLen/\(z.length+1)*16<=140737488355328:=⟨Ae (show z.length+1<=1001 by omega) dc,by omega⟩;refine J (Ad (Y [3,5,6,7,8] [5,100] (by simp[ga,i]<;>rfl) (A5 [16] sr ?_)))
  refine A1 (λh2=>?_) λh2=>?_
  .refine Ik 5 sr ?_;refine Aw g func352 ?_;refine Ak [3,6,7,8] [100] (by simp[t]<;>rfl) ?_;refine Cs [] (by simp[Ec]<;>rfl) ?_;rw[Ab (by rw[e];simpa using h2)]at a;exact⟨(k+1,_,_),c,by simp only;omega,by simp only[a,Aih,Aii,Aq,Ax,Bg];exact Z⟩
  refine A6 [3,6,7,8] [100] (by simp[Ec]<;>rfl) ?_;rw[I (by rw[e];simp at h2;simp[h2]),Do]at a;exact⟨(k+1,_,_),c,by simp only;omega,by simp only[a];exact Z⟩
 .refine A3 ?_;have ad:k=l.length:=sO h1
  subst ad;simp only[Bb];generalize Aif l=L at*;have ab:=Awf L om;have j:=Apa qv (Um L) (by rw[Aec];omega);have f1:=flatP L;have f2:=flatP (Um L);have l1:=Eh L;rw[Aec]at j;refine Au 1 sr ?_;refine Avh (d:=100) (v:=qv) ab f1 f2 func353 rfl kr rfl rfl rfl rfl sr sr sr ?_;refine Ak [3] [100] sr ?_;refine Au 1 sr ?_;refine Dx j func355 rfl kr rfl rfl rfl sr (λk o f=>B2 gt f) ?_ λch m=>m.elim;rintro r ae ah⟨L2,rfl,hr⟩af;refine⟨λk f=>J4 f,?_⟩;have pL:=A8 (Ln (Um L))
  rcases hr with⟨rfl,rfl⟩|⟨rfl,aa,y⟩
  .refine⟨_,by simp<;>rfl,?_⟩;refine Ak [2] [100] sr ?_;exact Bv (by simp[results338,pL]<;>rfl) rfl
  .have n:(A9 L2).take (Ln (Um L)).length=A9 (Ln (Um L)):=by rw[<-aa];simp[A9,Tx]
   refine⟨_,by simp<;>rfl,?_⟩;refine Ak [2] [100] sr ?_;exact Bv (by simp[results338,pL,n,y]<;>rfl) rfl
@[simp]def Apb:Aa6 prog 330=some (.i64,4):=by kernel_rfl
def mB(l:List Int):List (Int×V):=l.map λx=>(x,.bool true)
def Bdk(l:List Int)(a:Int):Of false (.bool false) (Hj a (mB l))=.bool (decide (a∈l)):=by
 induction l with
 |nil=>rfl
 |cons x r ih=>
  simp only[mB,Br,Hj]at ih|-
  by_cases h:x=a
  .rw[Ab h];simp[Of,h]
  .rw[I h,ih];congr 1;simp[show¬a=x from λe=>h e.symm]
def W8(ids:List Int)(p:Int×Int):Bool:=decide (p.1∈ids)&&decide (p.2∈ids)
def Ov(l:List (Int×Int))(ids:List Int):List (Int×Int):=(Asj l).filter (W8 ids)
def Apc(l:List (Int×Int))(ids:List Int)(hl:l.length<=1000)(hi:ids.length<=1000):AE 312 [.ro 2 (A9 l),.ro 1 (Ap ids)] (.ro 2 (A9 (Ov l ids))):=by
 have i:=A7i l hl;have ai:=Aed l;have pl:=A8 l;have hq:=λ(k:Nat)(h:k<ids.length)=>Fr h
 have lq:=A0 ids;have f:∀a,Of false (.bool false) (Hj a (mB ids.reverse))=.bool (decide (a∈ids)):=λa=>by rw[Bdk];congr 1;simp
 unfold Ov;generalize Asj l=N at*;have o:=λ(k:Nat)(h:k<N.length)=>Ix h
 have y:=Eh N;have af:=λ(k:Nat)(h:k<N.length)=>W2 (W8 ids) h
 have w:∀k,((N.take k).filter (W8 ids)).length<=1000:=λk=>Ae (H9 _ _) so
 generalize A9 l=lv at*;generalize ag:A9 N=Nv at i o y;generalize Ap ids=iv at*;refine Ai func312 λw0 N0=>?_;refine Y [0,1] [] sr (J (Cb (Sz .i64 rfl rfl (λb hb _=>⟨_,rfl,?_⟩))));refine Ak [0,1,5] [] sr (J (Y [0,5,12,13,14] [] sr ?_));refine Ad (H5 (λk=>[(5,.mp b .i64 (mB (ids.take k).reverse)),(14,V.i k)]) (λ_=>[]) (λk=>True) ids.length trivial Z ?_);intro k nx hk hI;refine Y [0,5,12,13,14,15] [] sr (J ?_)
 refine Bk (λh1=>?_) λh1=>?_
 .have c:k<ids.length:=by simp at h1;omega
  have g:k<iv.length:=om;have n:=hq k c;have Ec:=A4 (k:=k) om;have m:mB (ids.take (k+1)).reverse=(ids[k],.bool true)::mB (ids.take k).reverse:=by rw[Av c,List.reverse_append];rfl
  generalize ids[k]=id at n m;refine J (Ad (Y [0,5,7,12,13,14] [] (by simp[n,g]<;>rfl) ?_));refine Ik 2 sr ?_;refine Tk (b:=b) hb rfl rfl rfl sr sr sr rfl Apb rfl sr ?_;refine Ak [0,5,12,13,14] [] sr ?_;refine Cs [] (by simp[Ec]<;>rfl) ?_;exact⟨c,trivial,_,by rw[m];exact Z⟩
 .refine A3 ?_;have j:k=ids.length:=sO h1
  rw[j,Bb];generalize mB ids.reverse=mv at*;refine Y [0,5,8] [] sr ?_;refine J (Au 1 sr ?_);refine Ge [5,8,22,23,24] [] i func338 ?_;refine Fg 8 100 2 447 [5,8,22,23,24] [100] sr sr ?_;refine Ad ?_
  refine Gn (λx:Nat×Nat×Nat=>[(8,.sl 100 x.2.1 2 ((N.take x.1).filter (W8 ids)).length),(24,V.i (x.1:Nat))]) (λx=>[(100,⟨x.2.1,2,447,A9 ((N.take x.1).filter (W8 ids))⟩)]) (λx=>x.2.2)
   (λx=>x.1<=N.length) (λx=>N.length-x.1) (0,_,_) (B5 _) Z ?_
  rintro⟨e,qv,ah⟩ab;simp only at ab|-;refine Y [5,8,22,23,24,25] [100] sr ?_;refine J ?_
  refine Bk (λh2=>?_) λh2=>?_
  .have c:e<N.length:=by simp at h2;omega
   have g:e<Nv.length:=om;have n:=o e c;have Ec:=A4 (k:=e) om;have d:=af e c;have z:=w e;generalize N[e]=p at n d;have ae:=f p.1;have aa:=f p.2;have s:W8 ids p=(decide (p.1∈ids)&&decide (p.2∈ids)):=rfl;generalize decide (p.1∈ids)=e1,decide (p.2∈ids)=e2 at*;generalize(N.take e).filter (W8 ids)=Lk at d z|-;have ad:Lk.length+1<=maxLen/\(Lk.length+1)*16<=140737488355328:=⟨Ae (show Lk.length+1<=1001 by omega) dc,by omega⟩;refine J (Ad (Y [5,8,10,22,23,24] [10,100] (by simp[n,g]<;>rfl) ?_));refine A5 [37] (by simp[ae,aa,-Of]<;>rfl) ?_
   refine A1 (λt=>?_) λt=>?_
   .refine A6 [5,8,22,23,24] [100] (by simp[ad]<;>rfl) ?_;refine Cs [] (by simp[Ec]<;>rfl) ?_;rw[Ab (by rw[s];simpa using t)]at d;exact⟨(e+1,_,_),c,by simp only;omega,by simp only[d,Aih,Aii,Aq,Ax,Bg];exact Z⟩
   refine A6 [5,8,22,23,24] [100] (by simp[Ec]<;>rfl) ?_;rw[I (by rw[s];intro h;rw[h]at t;simp at t),Do]at d;exact⟨(e+1,_,_),c,by simp only;omega,by simp only[d];exact Z⟩
  .refine A3 ?_;have j:e=N.length:=sO h2
   subst j;simp only[Bb];have u:=A8 (N.filter (W8 ids));refine Y [4] [100] sr ?_;exact Bv (by simp[results312,u]<;>rfl) (rfl)
def A7j:U9 prog 280 "examboard/blueprint.rows" 4 408 0 3:=by
 intro xs w e
 match xs,e with
 |[a,b,c,d],_=>show _ =_;kernel_rfl
def A7k:U9 prog 282 "examboard/blueprint.rows" 3 408 0 3:=by
 intro xs w d
 match xs,d with
 |[a,b,c],_=>show _ =_;kernel_rfl
def A7l:U9 prog 283 "examboard/blueprint.rows" 3 408 0 3:=by
 intro xs w d
 match xs,d with
 |[a,b,c],_=>show _ =_;kernel_rfl
def A7m:U9 prog 284 "examboard/blueprint.rows" 3 408 0 3:=by
 intro xs w d
 match xs,d with
 |[a,b,c],_=>show _ =_;kernel_rfl
def A7n:U9 prog 286 "examboard/blueprint.rows" 4 408 0 3:=by
 intro xs w e
 match xs,e with
 |[a,b,c,d],_=>show _ =_;kernel_rfl
def A7o:U9 prog 288 "examboard/blueprint.rows" 3 420 0 3:=by
 intro xs w d
 match xs,d with
 |[a,b,c],_=>show _ =_;kernel_rfl
def A7p:U9 prog 290 "examboard/blueprint.rows" 1 426 0 1:=by
 intro xs w c
 match xs,c with
 |[a],_=>show _ =_;kernel_rfl
def A7q:U9 prog 291 "examboard/blueprint.rows" 1 436 0 1:=by
 intro xs w c
 match xs,c with
 |[a],_=>show _ =_;kernel_rfl
def A7r:U9 prog 293 "examboard/blueprint.rows" 0 442 0 0:=by
 intro xs w a
 match xs,a with
 |[],_=>show _ =_;kernel_rfl
def Mp(rs:List Ru)(pool:List Pit)(vars a:Nat)(r:Ru):List Rw:=
 if r.kind=6 then Age pool vars a r.mn r.mx r.n
 else if r.kind=7 then Agf pool vars r.n
 else if r.kind=8 then Agg rs pool vars r.n
 else if r.kind=9 then Mn pool vars (Akv pool)
 else [⟨Kj pool vars (Aib r),r.mn,r.mx⟩]
def Bdl{a b:Int}(h:Ahx a b=0):0<=a/\0<=b:=by unfold Ahx at h;(repeat' split at h)<;>omega
def A7s(len:Int)(rs:List Ru)(pool:List Pit)(vars a:Nat)(r:Ru)(h:frOk pool vars a)(i:pool.length<=18)(l:r.fits=true)(c:Aoz r=0)(j:r.kind=6->a<vars):
  ICQ gv prog (Aae r) "examboard/blueprint.rows" [frV len rs pool vars a] (λx=>x=.ro 3 (G9 (Mp rs pool vars a r))):=by
 unfold Aae Arz Ahz Mp
 rcases Amc l with e|e|e|e|e|e|e|e|e
 .have f:r.code.length<9223372036854775807:=by
   unfold Aoz at c;rw[Ab e]at c
   split at c
   .omega
   .rename_i h2
    have:r.code.length<=24:=by
     have g:=sG h2
     unfold Qk at g;rw[Be]at g;exact Kd g.1
    omega
  have d:Aib r=λp=>Ki (Vf p.code r.code):=by funext p;unfold Aib;rw[Ab e]
  simp only[e,if_true,if_false,Int.reduceEq];rw[d];exact⟨280,_,408,_,0,3,.inl rfl,A7j,func408,rfl,by kernel_rfl,(Amo len rs pool vars a 153 r.v (λp=>Ki (Vf p.code r.code)) r.mn r.mx h (λp _=>Acj (args:=[p.v]) (us:=[]) (vs:=[.rp r.v]) (r:=.i (Ki (Vf p.code r.code))) (Bh5 r p f) func153 kr rfl)).q gv⟩
 .have d:Aib r=Pit.wo:=by funext p;unfold Aib;rw[I om,Ab e]
  simp only[e,if_true,if_false,Int.reduceEq];rw[d];have c:=(Ad9 len rs pool vars a 156 Pit.wo r.mn r.mx h (λp _=>Acj (args:=[p.v]) (us:=[]) (vs:=[]) (r:=.i p.wo) (Bh6 p) func156 kr rfl)).argsR (args:=[.agg [.i r.mn,.i r.mx,.fn 156],frV len rs pool vars a]) (.cons (Bh.agg (.cons (Bh.refl _) (.cons (Bh.refl _) (.cons (R3 156) .nil)))) (.cons (Bh.refl _) .nil));exact⟨282,_,408,_,0,3,.inl rfl,A7k,func408,rfl,by kernel_rfl,c.q gv⟩
 .have d:Aib r=Pit.se:=by funext p;unfold Aib;rw[I om,I om,Ab e]
  simp only[e,if_true,if_false,Int.reduceEq];rw[d];have c:=(Ad9 len rs pool vars a 157 Pit.se r.mn r.mx h (λp _=>Acj (args:=[p.v]) (us:=[]) (vs:=[]) (r:=.i p.se) (Bh7 p) func157 kr rfl)).argsR (args:=[.agg [.i r.mn,.i r.mx,.fn 157],frV len rs pool vars a]) (.cons (Bh.agg (.cons (Bh.refl _) (.cons (Bh.refl _) (.cons (R3 157) .nil)))) (.cons (Bh.refl _) .nil));exact⟨283,_,408,_,0,3,.inl rfl,A7l,func408,rfl,by kernel_rfl,c.q gv⟩
 .have d:Aib r=Pit.pt:=by funext p;unfold Aib;rw[I om,I om,I om,Ab e]
  simp only[e,if_true,if_false,Int.reduceEq];rw[d];have c:=(Ad9 len rs pool vars a 158 Pit.pt r.mn r.mx h (λp _=>Acj (args:=[p.v]) (us:=[]) (vs:=[]) (r:=.i p.pt) (Bh8 p) func158 kr rfl)).argsR (args:=[.agg [.i r.mn,.i r.mx,.fn 158],frV len rs pool vars a]) (.cons (Bh.agg (.cons (Bh.refl _) (.cons (Bh.refl _) (.cons (R3 158) .nil)))) (.cons (Bh.refl _) .nil));exact⟨284,_,408,_,0,3,.inl rfl,A7m,func408,rfl,by kernel_rfl,c.q gv⟩
 .have d:Aib r=λp=>Ki (decide (p.ky=r.n)):=by funext p;unfold Aib;rw[I om,I om,I om,I oM]
  simp only[e,if_true,if_false,Int.reduceEq];rw[d];exact⟨286,_,408,_,0,3,.inl rfl,A7n,func408,rfl,by kernel_rfl,(Amo len rs pool vars a 159 r.v (λp=>Ki (decide (p.ky=r.n))) r.mn r.mx h (λp _=>Acj (args:=[p.v]) (us:=[]) (vs:=[.rp r.v]) (r:=.i (Ki (decide (p.ky=r.n)))) (Bh9 r p) func159 kr rfl)).q gv⟩
 .simp only[e,if_true,if_false,Int.reduceEq]
  have k:0<=r.mn/\0<=r.mx:=by
   unfold Aoz at c;simp only[e,if_true,if_false,Int.reduceEq,or_self]at c
   split at c
   .omega
   .exact Bdl c
  exact⟨288,_,420,_,0,3,.inl rfl,A7o,func420,rfl,by kernel_rfl,(A7b len rs pool vars a r.mn r.mx r.n h (j e) k.1 k.2).q gv⟩
 .simp only[e,if_true,if_false,Int.reduceEq];exact⟨290,_,426,_,0,1,.inl rfl,A7p,func426,rfl,by kernel_rfl,A2g len rs pool vars a r.n h⟩
 .simp only[e,if_true,if_false,Int.reduceEq];exact⟨291,_,436,_,0,1,.inl rfl,A7q,func436,rfl,by kernel_rfl,A2h len rs pool vars a r.n h⟩
 .simp only[e,if_true,if_false,Int.reduceEq];exact⟨293,_,442,_,0,0,.inl rfl,A7r,func442,rfl,by kernel_rfl,(A7d len rs pool vars a h i).q gv⟩
def Agh{len:Int}{rs:List Ru}(h:Uj len rs=0):1<=len/\len<=18/\rs.length<=20/\∀r∈rs,r.fits=true/\Aoz r=0:=by
 unfold Uj at h
 (repeat' split at h)<;>try omega
 rename_i h1 h2;refine⟨by omega,by omega,by omega,λr c=>?_⟩;have:=T9 h r c;unfold Ame at this
 split at this
 .omega
 .rename_i a;exact⟨by simpa using a,this⟩
def A7t(pool:List Pit):Int:=match pool with|[]=>0|p::_=>p.m.length
def Bdm{pool:List Pit}{n:Int}(h:Kh pool n=0):Kh pool (A7t pool)=0:=by
 cases pool with
 |nil=>rfl
 |cons p r=>
  have:=(Yn h).2.2 p (Fc ..);have e:(p.m.length:Int)=n:=by unfold L6 at this;(repeat' split at this)<;>omega
  simp only[A7t];rw[e];exact h
def Akx(len:Int)(rs:List Ru)(pool:List Pit)(en:List (Int×Int))(n:Int)(hs:Uj len rs=0)(hp:Kh pool n=0)(he:en.length<=400):
  AQ 276 [Ry len rs,.ro 9 (C7 pool),.ro 2 (A9 en)] (.i 0):=by
 have c:=Zn len rs;rw[hs]at c;have a:=Nh pool (A7t pool);rw[Bdm hp]at a;have pr:=Dm rs;have pl:=Cw pool;have le:=Eh en;have t:=Er pool
 have h0:(pool=[]/\A7t pool=0)\/∃p,∃h:0<pool.length,pool[0]=p/\A7t pool=p.m.length:=by
  cases pool with
  |nil=>exact .inl ⟨rfl,rfl⟩
  |cons p r=>exact .inr ⟨p,by simp,rfl,rfl⟩
 have z:=λ(k:Nat)(h:k<pool.length)=>Jg h
 unfold Ry at c|-;generalize Hw rs=rv,aa:A9 en=ev at*
 rcases h0 with⟨e,j⟩|⟨p,g,o,j⟩
 .rw[j]at a;have l:(C7 pool).length=0:=by rw[t,e];rfl
  generalize C7 pool=pv at*;refine Bp func276 λw0 N0 i=>?_;refine Y [1,2,3] [3] sr (J (Au 1 sr ?_));refine Dw i c func54 ?_;refine Ak [1,2,7] [] sr (A5 [13] sr ?_);refine Ce (Y [1,2,8] [] sr (J (A5 [17] sr ?_)));refine Ce (J (Au 2 sr ?_));refine Dw i a func29 ?_;refine Ak [2,9] [] sr ?_;refine A5 [28] sr ?_;refine Ce (J (Y [32] [] sr ?_));refine Ce ?_;exact Y [6] [] sr (Bv sr rf)
 .rw[j]at a;have d:=z 0 g;rw[o]at d;have f:0<(C7 pool).length:=by rw[t];exact g
  have x:(Eo p.m).length=p.m.length:=by simp[Eo]
  generalize C7 pool=pv at*;unfold Pit.v Pit.cs at d;generalize Eo p.m=mv at*;refine Bp func276 λw0 N0 i=>?_;refine Y [1,2,3] [3] sr (J (Au 1 sr ?_));refine Dw i c func54 ?_;refine Ak [1,2,7] [] sr ?_;refine A5 [13] sr ?_;refine Ce (Y [1,2,8] [] sr (J (A5 [17] sr ?_)))
  refine Ek ?_
  .refine A6 [1,2,8] [] C1 (J (Au 2 sr ?_));refine Dw i a func29 ?_ (ha:=C1) (hs:=C1);refine Ak [2,9] [] sr ?_;refine A5 [28] sr ?_;refine Ce (J (Y [32] [] sr ?_));refine Ce ?_;exact Y [6] [] sr (Bv sr rf)
def Y6(r:Ru):Nat:=if r.kind=6 then 1 else 0
def Gb:List Ru->Nat
 |[]=>0
 |r::t=>Y6 r+Gb t
def Aij:∀(a b:List Ru),Gb (a++b)=Gb a+Gb b
 |[],b=>by simp[Gb]
 |r::t,b=>by rw[Cj,Gb,Gb,Aij t b];omega
def Acl:∀(l:List Ru),Gb l<=l.length
 |[]=>A2 _
 |r::t=>by have:=Acl t;simp only[Gb,Y6,Ax];split<;>omega
def Asl(r:Ru):Ki (decide (r.kind=6))=(Y6 r:Int):=by unfold Y6 Ki;by_cases h:r.kind=6<;>simp[h]
def Aee(rs:List Ru)(pool:List Pit)(vars:Nat):Nat->List Ru->List Rw
 |_,[]=>[]
 |a,r::t=>Mp rs pool vars a r++Aee rs pool vars (a+Y6 r) t
def Asm(rs:List Ru)(pool:List Pit)(vars:Nat):∀(a b:List Ru)(c:Nat),Aee rs pool vars c (a++b)=Aee rs pool vars c a++Aee rs pool vars (c+Gb a) b
 |[],b,c=>by simp[Aee,Gb]
 |r::t,b,c=>by rw[Cj,Aee,Aee,Asm rs pool vars t b,B6,Gb,Hm]
def A7u(pool:List Pit):(Akv pool).length<=pool.length:=by
 have:=W6 pool [] [];rw[Akv,Py];simp only[Bg]at this;omega
def Afj(rs:List Ru)(pool:List Pit)(vars a:Nat)(r:Ru)(h:pool.length<=18):(Mp rs pool vars a r).length<=18:=by
 unfold Mp Age Agf Agg;have:=A7u pool
 repeat' split
 all_goals simp only[Ax,Bg,Afi]
 all_goals omega
def Asn(rs:List Ru)(pool:List Pit)(vars:Nat)(h:pool.length<=18):∀(l:List Ru)(a:Nat),(Aee rs pool vars a l).length<=18*l.length
 |[],_=>by simp[Aee]
 |r::t,a=>by
  have h1:=Asn rs pool vars h t (a+Y6 r);have h2:=Afj rs pool vars a r h;rw[Aee,Aq,Ax];omega
def Aky(len:Int)(rs:List Ru)(pool:List Pit)(vars:Nat)(k:Nat):List Rw:=⟨Kj pool vars λ_=>1,len,len⟩::Aee rs pool vars pool.length (rs.take k)
def stA(rs:List Ru)(pool:List Pit)(k:Nat):Nat:=pool.length+Gb (rs.take k)
def Aik{rs:List Ru}(pool:List Pit)(h:k<rs.length):stA rs pool (k+1)=stA rs pool k+Y6 rs[k]:=by
 unfold stA;rw[Av h,Aij];simp only[Gb];omega
def A2m(len:Int){rs:List Ru}(pool:List Pit)(vars:Nat)(h:k<rs.length):Aky len rs pool vars (k+1)=Aky len rs pool vars k++Mp rs pool vars (stA rs pool k) rs[k]:=by
 unfold Aky stA;rw[Av h,Asm];simp[Aee]
def Aef(l:List Ru)(k:Nat):Gb (l.take k)<=Gb l:=by
 conv=>rhs;rw[<-Ga k l]
 rw[Aij];omega
def Aso(len:Int)(rs:List Ru)(pool:List Pit)(vars k:Nat)(h:pool.length<=18):(Aky len rs pool vars k).length<=18*rs.length+1:=by
 unfold Aky;have:=Asn rs pool vars h (rs.take k) pool.length;rw[Ax];rw[C8]at this;have:min k rs.length<=rs.length:=P5 _ _;omega
def A2n(len:Int)(rs:List Ru)(pool:List Pit)(vars:Nat):Aky len rs pool vars 0=[⟨Kj pool vars λ_=>1,len,len⟩]:=by simp[Aky,Aee]
def Yo(l:List Int)(x:Int):Ap (l++[x])=Ap l++[.i x]:=by rw[R2];rfl
def Apd(pool:List Pit)(k:Nat):List Int:=(pool.take k).map Pit.id
def A2o{pool:List Pit}(h:k<pool.length):Apd pool (k+1)=Apd pool k++[pool[k].id]:=W4 _ h
def A7v(pool:List Pit)(k:Nat):(Apd pool k).length<=pool.length:=by unfold Apd;simp;omega
def Asp(pool:List Pit)(vars:Nat)(e:Int×Int):Rw:=⟨Kj pool vars λp=>Ki (decide (p.id=e.1)||decide (p.id=e.2)),0,1⟩
def Ape(len:Int)(rs:List Ru)(pool:List Pit)(vars:Nat)(c:List (Int×Int))(k:Nat):List Rw:=Aky len rs pool vars rs.length++(c.take k).map (Asp pool vars)
def A2p(len:Int)(rs:List Ru)(pool:List Pit)(vars:Nat){c:List (Int×Int)}(h:k<c.length):Ape len rs pool vars c (k+1)=Ape len rs pool vars c k++[Asp pool vars c[k]]:=by
 unfold Ape;rw[B6,W4 _ h]
def Asq(len:Int)(rs:List Ru)(pool:List Pit)(vars:Nat)(c:List (Int×Int))(k:Nat)(h:pool.length<=18):(Ape len rs pool vars c k).length<=18*rs.length+1+c.length:=by
 unfold Ape;have:=Aso len rs pool vars rs.length h;rw[Aq,Db,C8];have:min k c.length<=c.length:=P5 _ _;omega
def V2(len:Int)(rs:List Ru)(pool:List Pit)(en:List (Int×Int))(vars:Nat):List Rw:=Ape len rs pool vars (Ov en (pool.map Pit.id)) (Ov en (pool.map Pit.id)).length
def Awg(len:Int)(rs:List Ru)(pool:List Pit)(en:List (Int×Int))(hs:Uj len rs=0)(t:pool.length<=18)(he:en.length<=400):
  AQ 277 [frV len rs pool (pool.length+Gb rs:Nat) (pool.length:Nat),.ro 2 (A9 en)] (.ro 3 (G9 (V2 len rs pool en (pool.length+Gb rs)))):=by
 have⟨_,_,bb,ak⟩:=Agh hs;have ad:=Av9 len rs bb (λr hr=>(ak r hr).1);have bi:=Acl rs;have af:∀k,frOk pool (pool.length+Gb rs) (stA rs pool k):=λk=>⟨by omega,by omega,by have:=Aef rs k;unfold stA;omega⟩
 have w:=λ(st:Nat)(hk:frOk pool (pool.length+Gb rs) st)=>Aah len rs pool (pool.length+Gb rs) st 309 [] [] (λ_=>1) len len hk.le hk.small (λp _=>Acj (args:=[p.v]) (us:=[]) (vs:=[]) (r:=.i 1) (Bic p) func309 kr rfl)
 have ab:=λ(st:Nat)(hk:frOk pool (pool.length+Gb rs) st)(a b:Int)=>Aah len rs pool (pool.length+Gb rs) st 313 [] [.rp (.agg [.i a,.i b])] (λp=>Ki (decide (p.id=a)||decide (p.id=b))) 0 1 hk.le hk.small (λp _=>Acj (args:=[p.v]) (us:=[]) (vs:=[.rp (.agg [.i a,.i b])]) (r:=.i (Ki (decide (p.id=a)||decide (p.id=b)))) (Bif a b p) func313 kr rfl)
 have o:=(w pool.length ⟨by omega,by omega,by omega⟩).argsR (args:=[frV len rs pool (pool.length+Gb rs:Nat) (pool.length:Nat),.fn 309,.i len,.i len]) (.cons (Bh.refl _) (.cons (R3 309) (.cons (Bh.refl _) (.cons (Bh.refl _) .nil))))
 have aa:=λ(k:Nat)(h:k<rs.length)=>A7s len rs pool (pool.length+Gb rs) (stA rs pool k) rs[k] (af k) t (ak _ (As h)).1 (ak _ (As h)).2 (λe=>by
  have h1:=Aik pool h;have h2:=Aef rs (k+1);unfold Y6 at h1;rw[Ab e]at h1;unfold stA at h1|-;omega)
 have bl:(Ov en (pool.map Pit.id)).length<=400:=by unfold Ov;exact Ae (H9 _ _) (Ae (Aed en) he)
 have an:=Apc en (pool.map Pit.id) om so;have bd:=λ(k:Nat)(h:k<rs.length)=>A2m len pool (pool.length+Gb rs) h
 have a3:=λ(k:Nat)(h:k<rs.length)=>Aik pool h
 have a0:=λ(k:Nat)=>Aso len rs pool (pool.length+Gb rs) k t
 have ar:=A2n len rs pool (pool.length+Gb rs);have az:stA rs pool 0=pool.length:=by simp[stA,Gb]
 have ay:=λ(k:Nat)(h:k<pool.length)=>A2o h
 have ba:=A7v pool;have a4:Apd pool pool.length=pool.map Pit.id:=by simp[Apd]
 have be:=λ(k:Nat)(h:k<(Ov en (pool.map Pit.id)).length)=>A2p len rs pool (pool.length+Gb rs) h
 have ax:=λ(k:Nat)=>Asq len rs pool (pool.length+Gb rs) (Ov en (pool.map Pit.id)) k t
 have av:Ape len rs pool (pool.length+Gb rs) (Ov en (pool.map Pit.id)) 0=Aky len rs pool (pool.length+Gb rs) rs.length:=by simp[Ape]
 have ai:=λ(e:Int×Int)=>ab (stA rs pool rs.length) (af rs.length) e.1 e.2
 change∀e,AC _ _ _ (λr=>r=(Asp pool (pool.length+Gb rs) e).v)at ai;have a9:=λ(e:Int×Int)=>Ac (Asp pool (pool.length+Gb rs) e).coef
 unfold V2;generalize Ov en (pool.map Pit.id)=N at*;generalize pool.map Pit.id=il,Aky len rs pool (pool.length+Gb rs)=i at*;generalize Ape len rs pool (pool.length+Gb rs) N=m,stA rs pool=j at*;have a7:=λ(k:Nat)(h:k<N.length)=>Ix h
 have b0:=Eh N;have a8:=λ(k:Nat)(h:k<pool.length)=>Jg h
 have bt:=Er pool;have a1:=λ(k:Nat)(h:k<rs.length)=>Wx h
 have bs:=Ui rs;have bc:=λ(k:Nat)(h:k<rs.length)=>A2b h
 have bk:=Amm rs;have pl:=Cw pool;have pr:=Dm rs;have pe:=A8 en;have pN:=A8 N;have b2:((pool.length+Gb rs:Nat):Int)=(pool.length+Gb rs:Nat):=rfl;generalize bz:pool.length+Gb rs=vars at*;simp only[Tp]at w ab o aa ai;rw[Tp];unfold Ry at ad;generalize bw:A9 en=ev,b1:A9 N=Nv,bu:C7 pool=pv,Hw rs=rv,Ul rs=dv at*;have bm:=Ac (Kj pool vars λ_=>1);rw[A7a]at o;have ao:G9 (i 0)=[.agg [.ro 1 (Ap (Kj pool vars λ_=>1)),.i len,.i len]]:=by rw[ar];rfl
 have al:(i 0).length=1:=by rw[ar];rfl
 generalize Ap (Kj pool vars λ_=>1)=r0 at*;refine Bp func277 λw0 N0 hG=>?_;refine Y [1,2] [2] sr (A5 [5] sr (Au 8 sr ?_));refine Ge [1,2,6] [2,24] o func310 ?_;refine J (Au 2 sr ?_);refine Ge [1,2,6,27,28,29] [2,24] ad func311 ?_;refine Ad ?_
 refine Gn (λx:Nat×Nat×Nat=>[(6,.sl 24 x.2.1 3 (i x.1).length),(29,V.i (x.1:Nat))]) (λx=>[(2,{v:=0,sz:=5,ty:=412,es:=[V.agg [V.i len,V.ro 5 rv,V.ro 9 pv,V.i vars,V.i (j x.1:Nat)]]}),(24,⟨x.2.1,3,418,G9 (i x.1)⟩)]) (λx=>x.2.2)
  (λx=>x.1<=rs.length) (λx=>rs.length-x.1) (0,_,_) (B5 _) (by simp only[ao,al,az];exact Z) ?_
 rintro⟨k,qv,nx⟩hk;simp only at hk|-;refine Y [1,2,6,27,28,29,30] [2,24] sr (J ?_)
 refine Bk (λh1=>?_) λh1=>?_
 .have c:k<rs.length:=by simp at h1;omega
  have f:k<rv.length:=om;have am:k<dv.length:=om;have bg:(k:Int).toNat=k:=rfl;have ga:=a1 k c;have gd:=bc k c;have Ec:=A4 (k:=k) om;have g:=bd k c;have bv:=a3 k c;have bq:=a0 k;have ae:=af k;have cI:=aa k c;have dl:=Afj rs pool vars (j k) rs[k] t;have h6:=Asl rs[k];rw[show rs[k].v=.agg [.i rs[k].kind,.i rs[k].n,.i rs[k].mn,.i rs[k].mx,.str rs[k].code]from rfl]at ga;have y:=Ww (decide (rs[k].kind=6));rw[h6]at y;have bj:Y6 rs[k]<=1:=by unfold Y6;split<;>omega
  have a5:IntKind.i64.wrap ((j k:Int)+(Y6 rs[k]:Int))=(j (k+1):Nat):=by rw[Bm om (by have:=ae.lt;have:=ae.small;omega)];omega
  unfold Aae at cI gd;have pd:=Gu (Mp rs pool vars (j k) rs[k]);have l:(i k).length+(Mp rs pool vars (j k) rs[k]).length<=maxLen/\((i k).length+(Mp rs pool vars (j k) rs[k]).length)*40<=140737488355328:=⟨Ae (show(i k).length+(Mp rs pool vars (j k) rs[k]).length<=400 by omega) dc,by omega⟩;have ag:G9 (i (k+1))=G9 (i k)++G9 (Mp rs pool vars (j k) rs[k]):=by rw[g,Aid]
  have ah:(i (k+1)).length=(i k).length+(Mp rs pool vars (j k) rs[k]).length:=by rw[g,Aq]
  generalize Mp rs pool vars (j k) rs[k]=dr,Arz rs[k]=dt,Ahz rs[k]=dc,rs[k].kind=kd at*;generalize Y6 rs[k]=sx at*;refine J (Ad (Y [1,2,6,7,8,27,28,29] [2,24] (by simp[gd,am]<;>rfl) (Au 3 sr ?_)));refine Al3 hG cI sM rfl rfl sr sr sM sr ?_;refine Ak [1,2,6,7,27,28,29] [2,24] (by simp[Ou,l]<;>rfl) ?_;refine H0 [(0,[]),(2,[]),(3,[]),(5,[]),(1,[]),(4,[]),(6,[]),(7,[]),(8,[]),(9,[]),(10,[]),(11,[]),(12,[]),(13,[])] Jt kr ?_;refine B8 10 (by simp[ga,f]<;>rfl) ?_;refine B1 (λhg=>y) func154 ?_;refine C5 [1,2,6,27,28,29] [2,24] (by simp[a5]<;>rfl) ?_;refine Cs [] (by simp[Ec]<;>rfl) ?_;exact⟨(k+1,_,_),c,by simp only;omega,by simp only[ag,ah];exact Z⟩
 .refine A3 ?_;have s:k=rs.length:=sO h1
  subst s;refine Y [1,2,6,9] [2,24] sr (J (A5 [54,55,56] sr ?_));refine Fg 9 101 1 3 [1,2,6,9,54,55,56] [2,24,101] sr sr ?_;refine Ad ?_
  refine If (λx:Nat×Nat×Nat=>⟨[(1,V.ro 2 ev),(2,V.bp 2 (0) 5 0 0),(6,.sl 24 qv 3 (i rs.length).length),(9,.sl 101 x.2.1 1 (Apd pool x.1).length),(54,.ro 9 pv),(55,.i pv.length),(56,V.i (x.1:Nat))],[(2,{v:=0,sz:=5,ty:=412,es:=[V.agg [V.i len,V.ro 5 rv,V.ro 9 pv,V.i vars,V.i (j rs.length:Nat)]]}),(24,⟨qv,3,418,G9 (i rs.length)⟩),(101,⟨x.2.1,1,3,Ap (Apd pool x.1)⟩)],x.2.2,83⟩)
   (λx=>x.1<=pool.length) (λx=>pool.length-x.1) (0,_,_) (B5 _) Z ?_
  rintro⟨u,bx,br⟩a2;simp only at a2|-;refine Y [1,2,6,9,54,55,56,57] [2,24,101] sr (J ?_)
  refine Bk (λh2=>?_) λh2=>?_
  .have c:u<pool.length:=by simp at h2;omega
   have f:u<pv.length:=om;have ga:=a8 u c;have Ec:=A4 (k:=u) om;have g:=ay u c;have aq:=ba u;rw[Gq]at ga;generalize Apd pool u=Lk at g aq|-;have l:Lk.length+1<=maxLen/\(Lk.length+1)*8<=140737488355328:=⟨Ae (show Lk.length+1<=19 by omega) dc,by omega⟩;refine J (Ad (Y [1,2,6,9,11,54,55,56] [2,11,24,101] (by simp[ga,f]<;>rfl) (A6 [1,2,6,9,54,55,56] [2,24,101] (by simp[l]<;>rfl) (Cs [] (by simp[Ec]<;>rfl) ?_))));exact⟨(u+1,_,_),c,by simp only;omega,by simp only[g,Yo,Aq,Ax,Bg];exact Z⟩
  .refine A3 ?_;have s:u=pool.length:=sO h2
   subst s;rw[a4];have pi:=Ac il;have a6:=A0 il;generalize bn:Ap il=iv at*;refine J (Au 2 sr ?_);have aj:=Fm (Gu (i rs.length));refine L0 101 [2,6,66,67] [2,24] (by simp[aj,pi,a6]<;>rfl) ?_;refine Aw an func312 ?_;refine Ak [2,6,68,69,70] [2,24] sr ?_;refine Ad ?_
   refine If (λx:Nat×Nat×Nat=>⟨[(2,V.bp 2 (0) 5 0 0),(6,.sl 24 x.2.1 3 (m x.1).length),(68,.ro 2 Nv),(69,.i Nv.length),(70,V.i (x.1:Nat))],[(2,{v:=0,sz:=5,ty:=412,es:=[V.agg [V.i len,V.ro 5 rv,V.ro 9 pv,V.i vars,V.i (j rs.length:Nat)]]}),(24,⟨x.2.1,3,418,G9 (m x.1)⟩)],x.2.2,83⟩)
    (λx=>x.1<=N.length) (λx=>N.length-x.1) (0,_,_) (B5 _) (by simp only[av];exact Z) ?_
   rintro⟨d,bh,bo⟩aw;simp only at aw|-;refine Y [2,6,68,69,70,71] [2,24] sr (J ?_)
   refine Bk (λh3=>?_) λh3=>?_
   .have c:d<N.length:=by simp at h3;omega
    have f:d<Nv.length:=om;have ga:=a7 d c;have Ec:=A4 (k:=d) om;have g:=be d c;have bf:=ax d;have z:=ai N[d];have pc:=a9 N[d];rw[show(Asp pool vars N[d]).v=.agg [.ro 1 (Ap (Asp pool vars N[d]).coef),.i 0,.i 1]from rfl]at z;have ag:G9 (m (d+1))=G9 (m d)++[.agg [.ro 1 (Ap (Asp pool vars N[d]).coef),.i 0,.i 1]]:=by rw[g,Aid];rfl
    have ah:(m (d+1)).length=(m d).length+1:=by rw[g,Aq];rfl
    have l:(m d).length+1<=maxLen/\((m d).length+1)*40<=140737488355328:=⟨Ae (show(m d).length+1<=800 by omega) dc,by omega⟩;generalize Ap (Asp pool vars N[d]).coef=cv,N[d]=e3 at*;refine J (Ad (Y [2,6,13,68,69,70] [2,13,24] (by simp[ga,f]<;>rfl) ?_));have aj:=Fm (Gu (m d));refine Bq 13 [2,6,13,68,69,70] [2,24] (by simp[aj]<;>rfl) (Y [2,6,14,68,69,70] [2,24] sr (Ik 3 sr ?_));refine Aw z func310 ?_;refine Ak [2,6,68,69,70] [2,24] (by simp[l]<;>rfl) ?_;refine Cs [] (by simp[Ec]<;>rfl) ?_;exact⟨(d+1,_,_),c,by simp only;omega,by simp only[ag,ah];exact Z⟩
   .refine A3 ?_;have s:d=N.length:=sO h3
    subst s;have au:=Gu (m N.length);refine Y [4] [24] sr ?_;exact Bv (by simp[results277,au]<;>rfl) (rfl)
def Bdn(rs:List Ru)(p:Pit):Int:=if W5 rs 7 p.id=true then 1 else if W5 rs 8 p.id=true then 0 else -1
def Q8(rs:List Ru)(pool:List Pit):List Int:=pool.map (Bdn rs)++List.replicate (Gb rs) (-1)
def Asr(rs:List Ru)(pool:List Pit):(Q8 rs pool).length=pool.length+Gb rs:=by simp[Q8]
def Bdo{rs:List Ru}{pool:List Pit}(h:k<pool.length):(Ap (Q8 rs pool))[k]?=some (.i (Bdn rs pool[k])):=by
 simp only[Ap,Q8,Cg,K9];rw[Bt (sG h)];simp[h]
def Bdp{rs:List Ru}{pool:List Pit}(h:pool.length<=k)(h2:k<pool.length+Gb rs):(Ap (Q8 rs pool))[k]?=some (.i (-1)):=by
 simp only[Ap,Q8,Cg,K9];rw[Bn (sG h)];simp[show k-pool.length<Gb rs by omega]
def Ass(len:Int)(rs:List Ru)(pool:List Pit)(en:List (Int×Int)):Int:=
 if 24<pool.length+Gb rs\/60<(V2 len rs pool en (pool.length+Gb rs)).length then 5 else 0
def Ast(a:List Int)(c:List Rw)(f:V):V:=.agg [.ro 1 (Ap a),.ro 3 (G9 c),f]
def Ay0:V:=.agg [.nils,.nils,.nils]
def Vg(a:List Int)(rs:List Ru):List Int:=a++List.replicate (Gb rs) 0
def Amv(e:Int)(c:List Int)(d:List Rw)(f:List Int)(r:V)(a:List (Nat×Ob)):Prop:=
 if e=0 then∃v,r=.tup [Ast c d (.sl 78 v 1 f.length),.i 0]/\a=[(78,⟨v,1,3,Ap f⟩)]
 else r=.tup [Ay0,.i e]/\a=[]
def Apf(len:Int)(rs:List Ru)(pool:List Pit)(en:List (Int×Int))(a:List Int)(n:Int)(hs:Uj len rs=0)(hp:Kh pool n=0)(aw:pool.length<=18)(he:en.length<=400)
  (bk:a.length=pool.length)(aq:∀v∈a,-1000000<=v/\v<=1000000):
  U5 gv prog 244 [Ry len rs,.ro 9 (C7 pool),.ro 2 (A9 en),.ro 1 (Ap a)] [] (Amv (Ass len rs pool en) (Vg a rs) (V2 len rs pool en (pool.length+Gb rs)) (Q8 rs pool)):=by
 have u:=Akx len rs pool en n hs hp he;have z:=Awg len rs pool en hs aw he;have ab:=λ(kd:Int)(st:Int)(n:Int)=>Amn len rs pool (pool.length+Gb rs:Nat) st kd n
 have bb:=Acl rs;have bs:rs.length<=20:=(Agh hs).2.2.1;have ai:=Asr rs pool;have aj:=λ(k:Nat)(h:k<pool.length)=>Bdo (rs:=rs) h
 have am:=λ(k:Nat)(h:pool.length<=k)(h2:k<pool.length+Gb rs)=>Bdp h h2
 have a6:=λ(k:Nat)(h:k<pool.length)=>Jg h
 have a1:=Er pool;have av:=λ(k:Nat)(h:k<rs.length)=>Wx h
 have bh:=Ui rs;have ba:=λ(k:Nat)(h:k<a.length)=>Fr h
 have bd:=A0 a;have pl:=Cw pool;have pr:=Dm rs;have pe:=A8 en;have a7:=Ac a;have au:stA rs pool 0=pool.length:=by simp[stA,Gb]
 have a5:stA rs pool rs.length=pool.length+Gb rs:=by simp[stA]
 unfold Ry at u|-;simp only[Tp]at z ab;unfold Ass Amv Ast Vg;generalize bq:V2 len rs pool en (pool.length+Gb rs)=cr at*;have bo:=Gu cr;have aa:=Ou cr;have a9:(Ap (Q8 rs pool)).length=pool.length+Gb rs:=by rw[A0,ai]
 have az:=Ac (Q8 rs pool);rw[ai];generalize Ap (Q8 rs pool)=t at*;have ar:Ap (a++List.replicate (Gb rs) 0)=Ap a++List.replicate (Gb rs) (.i 0):=by rw[R2];congr 1;simp[Ap]
 rw[ar];generalize G9 cr=cv,Ap a=s,bn:A9 en=ev,bj:C7 pool=pv,Hw rs=rv at*;refine Ij func244 λw0 N0 f hG=>?_;refine Y [1,2,3,4,8] [4,8] sr (J (Au 3 sr ?_));refine Dw hG u func276 ?_ (hlt:=Gi);refine Ak [1,2,3,4,8,10] [4,8] sr (A5 [24] sr ?_);refine Ce (J (Y [1,2,3,4,8,31] [4,8] sr ?_));refine Ce (J (Y [1,2,3,4,8,33,34,35] [4,8] sr (Ad (H4 (λk nx=>⟨[(1,V.ro 9 pv),(2,V.ro 2 ev),(3,V.ro 1 s),(4,V.bp 4 f 2 0 0),(8,V.bp 8 (f+1) 3 0 0),(33,V.ro 1 s),(34,V.i s.length),(35,V.i k)],[(4,{v:=f,sz:=2,ty:=24,es:=[V.agg [V.i len,V.ro 5 rv]]}),(8,{v:=f+1,sz:=3,ty:=326,es:=[.agg [.nils,.nils,.nils]]})],nx,131⟩) (λk=>True) a.length _ trivial Z ?_))));intro k nx hk hI;refine Y [1,2,3,4,8,33,34,35,36] [4,8] sr (J ?_)
 refine Bk (λh3=>?_) λh3=>?_
 .have c:k<a.length:=by simp at h3;omega
  have j:k<s.length:=om;have y:=ba k c;have Ec:=A4 (k:=k) om;have a2:=aq _ (As c);generalize a[k]=v at y a2;refine J (Ad (Y [1,2,3,4,8,12,33,34,35] [4,8] (by simp[y,j]<;>rfl) (Y [1,2,3,4,8,33,34,35,44] [4,8] sr ?_)));refine Ce (A6 [1,2,3,4,8,33,34,35] [4,8] (by simp[Ec]<;>rfl) ?_);exact⟨c,trivial,_,Z⟩
 .refine A3 ?_;refine Y [1,2,3,4,8,13] [4,8,13] sr (J (Y [1,2,3,8,13,55,56,57] [8,13] sr (Ad (H5 (λk=>[(57,V.i k)]) (λk=>[(13,{v:=nx+1+7,sz:=5,ty:=412,es:=[V.agg [V.int IntKind.i64 len,V.ro 5 rv,V.ro 9 pv,V.int IntKind.i64 (stA rs pool k:Nat),V.int IntKind.i64 (pool.length:Nat)]]})]) (λk=>True) rs.length trivial (by simp only[a1,au];exact Z) ?_))));intro g e bg bi;refine Y [1,2,3,8,13,55,56,57,58] [8,13] sr (J ?_)
  refine Bk (λh5=>?_) λh5=>?_
  .have c:g<rs.length:=by simp at h5;omega
   have j:g<rv.length:=om;have y:=av g c;have Ec:=A4 (k:=g) om;have bl:=Aik pool c;have h6:=Asl rs[g];rw[show rs[g].v=.agg [.i rs[g].kind,.i rs[g].n,.i rs[g].mn,.i rs[g].mx,.str rs[g].code]from rfl]at y;have w:=Ww (decide (rs[g].kind=6));rw[h6]at w;have bc:Y6 rs[g]<=1:=by unfold Y6;split<;>omega
   have bf:=Aef rs g;have a4:IntKind.i64.wrap ((stA rs pool g:Int)+(Y6 rs[g]:Int))=(stA rs pool (g+1):Nat):=by rw[Bm om (by unfold stA;omega)];omega
   generalize Y6 rs[g]=sx,rs[g].kind=kd at*;refine J (Ad (Y [1,2,3,8,13,15,55,56,57] [8,13,15] (by simp[y,j]<;>rfl) ?_));refine H6 [0,1,2,1,1,1,3,6] sr ?_;refine B8 5 sr ?_;refine B1 (λhg=>w) func154 ?_;refine C5 [1,2,3,8,13,55,56,57] [8,13] (by simp[a4]<;>rfl) ?_;refine Cs [] (by simp[Ec]<;>rfl) ?_;exact⟨c,trivial,_,Z⟩
  .refine A3 ?_;have ae:g=rs.length:=sO h5
   rw[ae,a5];generalize br:pool.length+Gb rs=vars at*;have ak:(vars:Int)<=9223372036854775807:=om;have ah:8*(vars:Int)<=281474976710656:=om;refine J (Af4 (.take 0 [] (.take 4 [] (.take 6 [] (.take 1 [72,78,16] (.take 3 [72,78,16] (.take 5 [] (.take 7 [72,78,16] (.alt 2 (.alt 8 (.take 9 [] (.take 10 [] (.take 11 [] .done))) (.alt 10 (.take 8 [] (.take 9 [] (.take 11 [] .done))) .stop)) (.alt 8 (.alt 2 (.take 9 [] (.take 10 [] (.take 11 [] .done))) (.alt 10 (.take 2 [] (.take 9 [] (.take 11 [] .done))) .stop)) (.alt 10 (.alt 2 (.take 8 [] (.take 9 [] (.take 11 [] .done))) (.alt 8 (.take 2 [] (.take 9 [] (.take 11 [] .done))) .stop)) .stop)))))))))) Jt kr ?_);refine U8 sr ?_;refine U8 sr ?_;refine U8 sr ?_;refine U8 sr ?_;refine U8 (by simp[ak,ah]<;>rfl) ?_;refine A1b hG (λhg=>z) func277 rfl kr rfl rfl sr rfl rfl sr (by simp[pl,pr,pe]) sr ?_;refine U7 (L:=[1,3,8,13,16]) (M:=[8,13,72,78,16]) (by simp[ak,ah]<;>rfl) ?_;intro T hT;have a3:=(show T=_ by simpa using hT);subst a3;refine J (Y [1,3,8,13,16,88] [8,13,72,78,16] (by simp[aa]<;>rfl) ?_)
   refine A1 (λh6=>?_) λh6=>?_
   .refine Y [8,9] [8] sr ?_;have hE:24<vars\/60<cr.length:=by simp[aa]at h6;omega
    exact Dc f (Ea (A7 _ _) sr (outs0:=[]) (by rw[Ab hE,I dC];exact⟨rfl,rfl⟩) (λk o hk=>by cases hk))
   have hE:¬(24<vars\/60<cr.length):=by simp[aa]at h6;omega
   have ay:s.length<=vars:=om;refine Au 3 sr ?_;refine A1a (te:=3) rfl rfl kr kr (by simp[ay]<;>rfl) ?_;refine Ak [1,8,13,16] [8,13,72,78,16] sr ?_;refine J (A5 [96,97] sr (Ad (H5 (λk=>[(97,V.i k)]) (λk=>[(78,{v:=e+1+8,sz:=1,ty:=3,es:=E4 t (.i 0) k})]) (λk=>True) vars trivial (by rw[Ia,a9];exact Z) ?_)));intro d ag be bm;have af:=Jc t (.i 0) d om;refine Y [1,8,13,16,96,97,98] [8,13,72,78,16] sr (J ?_)
   refine Bk (λh7=>?_) λh7=>?_
   .have c:d<vars:=by simp at h7;omega
    have m:d<t.length:=om;have Ec:=A4 (k:=d) om;have i:=λ(x:V)(hx:t[d]?=some x)=>Je t (.i 0) d m hx
    have al:Gz (E4 t (.i 0) d) d=some (.i 0):=Jd t _ d m;generalize E4 t (.i 0) d=row at al i af|-;have ao:∀x,Gz (row.set d x) d=some x:=λx=>by rw[C0];simp[af,m]
    refine J (Ad (Y [1,8,13,16,17,96,97] [8,13,72,78,16] sr (A5 [] (by simp[al,c]<;>rfl) (J (A5 [107] sr ?_)))))
    refine A1 (λh8=>?_) λh8=>?_
    .refine A3 ?_;refine A6 [1,8,13,16,96,97] [8,13,72,78,16] (by simp[i _ (am d (sO h8) c),Ec]<;>rfl) ?_;exact⟨c,trivial,_,Z⟩
    have an:d<pool.length:=sO h8
    have j:d<pv.length:=om;have y:=a6 d an;have r:=aj d an;have l:Bdn rs pool[d]=if W5 rs 7 pool[d].id=true then 1 else if W5 rs 8 pool[d].id=true then 0 else -1:=rfl
    rw[Gq]at y;generalize Bdn rs pool[d]=fp,pool[d].id=id at*;refine Y [1,8,13,16,17,18,96,97] [8,13,72,78,16] (by simp[y,j]<;>rfl) (Ad (Au 2 sr ?_));refine Dw hG (ab 7 (pool.length:Nat) id) func278 ?_ (hlt:=by simp[pl,pr]) (hp:=by simp[pl,pr]);refine Ak [1,8,13,16,17,18,96,97,113] [8,13,72,78,16] sr ?_
    refine Co (λh9=>?_) λh9=>?_
    .rw[Ab (sG h9)]at l;subst l;refine A6 [1,8,13,16,96,97] [8,13,72,78,16] (by simp[ao,c]<;>rfl) (Cs [] (by simp[i _ r,Ec]<;>rfl) ?_);exact⟨c,trivial,_,Z⟩
    .rw[I (sG h9)]at l;refine Au 2 sr ?_;refine Dw hG (ab 8 (pool.length:Nat) id) func278 ?_ (hlt:=by simp[pl,pr]) (hp:=by simp[pl,pr]);refine Ak [1,8,13,16,17,96,97,121] [8,13,72,78,16] sr ?_
     refine A1 (λad=>?_) λad=>?_
     .rw[Ab (sG ad)]at l;subst l;refine A6 [1,8,13,16,96,97] [8,13,72,78,16] (by simp[ao,c]<;>rfl) (Cs [] (by simp[i _ r,Ec]<;>rfl) ?_);exact⟨c,trivial,_,Z⟩
     rw[I (sG ad)]at l;subst l;refine A6 [1,8,13,16,96,97] [8,13,72,78,16] (by simp[i _ r,Ec]<;>rfl) ?_;exact⟨c,trivial,_,Z⟩
   .refine A3 ?_;have ae:d=vars:=sO h7
    rw[ae,Jz t (.i 0) vars oM];have a0:vars-s.length=Gb rs:=om;rw[a0];refine Y [8,9] [8,72,78] sr ?_;have a8:=Fm az;have ax:s.length+Gb rs=vars:=om;refine Bq 72 [8,9] [8,78] (by simp[a7,a8,ax]<;>rfl) ?_;exact Dc f (Ea (A7 _ _) sr (outs0:=[(78,⟨e+1+8,1,3,t⟩)]) (by rw[I hE,Ab rfl];exact⟨e+1+8,rfl,rfl⟩) (λk o hk=>B2 gt hk))
variable {α:Type}
def S8{l:List α}{f:α->Bool}(h:k<l.length)(a:f l[k]=true):l.any f=true:=Es.2 ⟨_,As h,a⟩
def Ow{l:List α}{f:α->Bool}(h:k<l.length)(a:(l.take k).any f=false)(c:f l[k]=false):(l.take (k+1)).any f=false:=by
 rw[Av h,List.any_append,a];simp[c]
def inB(n m:Int):Bool:=decide (-m<=n)&&decide (n<=m)
def Amx(n m:Int)(hm:0<=m)(c:m<=1000000000):AE 317 [.i n,.i m] (.bool (inB n m)):=by
 have a:IntKind.i64.wrap (-m)= -m:=Bm om om;refine Ai func317 λw0 N0=>?_;exact Y [0,1] [] sr (Y [4] [] C1 (Bv sr (by simp[inB])))
def Big(n:Int):AE 316 [.i n] (.bool (!inB n 1000000)):=by
 have a:=Amx n 1000000 dc dc;generalize inB n 1000000=z at*;refine Ai func316 λw0 N0=>?_;refine Y [0] [] sr (Au 1 sr ?_);refine Aw a func317 ?_;exact Ak [2] [] sr (Bv sr (rfl))
def Ak0(r:Rw):Bool:=r.coef.any (λc=> !inB c 1000000)||(!inB r.mn 24000000|| !inB r.mx 24000000)
def Aeg(a:List Int)(d:List Rw)(e:List Int):Int:=
 if 24<a.length\/60<d.length then 5 else if e.length≠a.length then 1 else if d.any (λr=>decide (r.coef.length≠a.length))=true then 1
 else if a.any (λc=> !inB c 1000000)=true then 3 else if d.any Ak0=true then 3 else if e.any (λf=>decide (f< -1)||decide (1<f))=true then 3 else 0
def Bdq(d:List Int)(a:List Rw)(j:List Int)(hz:d.length<=1000/\a.length<=1000/\j.length<=1000):AQ 281 [.agg [.ro 1 (Ap d),.ro 3 (G9 a),.ro 1 (Ap j)]] (.i (Aeg d a j)):=by
 unfold Aeg;have aa:=λ(l:List Int)=>(A62 l 316 [] [] (λc=> !inB c 1000000) (λc _=>Aia ((Big c).q gv) func316 kr rfl)).argsR (args:=[.ro 1 (Ap l),.fn 316]) (.cons (Bh.refl _) (.cons (R3 316) .nil))
 have ae:=aa d;have hw:=λ(n:Int)=>Amx n 24000000 dc dc
 have ad:=λ(k:Nat)(h:k<a.length)=>Aic h
 have au:=Ou a;have af:=λ(k:Nat)(h:k<j.length)=>Fr h
 have aj:=A0 j;have ak:=A0 d;have pr:=Gu a;have pv:=Ac d;have pf:=Ac j;have ah:=λ(r:Rw)=>Ac r.coef
 have ag:=λ(r:Rw)=>A0 r.coef
 generalize G9 a=rw,an:Ap j=fv,am:Ap d=vv at*;refine Bp func281 λw0 N0 hG=>?_;refine Y [1] [1] sr (A5 [3] sr (J (A5 [21] sr ?_)))
 refine Co (λh1=>?_) λh1=>D9 ?_
 .exact Y [2] [] sr (Aj (Aa sr (by rw[Ab (sO h1)])))
 rw[I (sO h1)];refine J (Y [1,3,26] [1] sr ?_)
 refine Co (λh2=>?_) λh2=>D9 ?_
 .exact Y [2] [] sr (Aj (Aa sr (by rw[Ab (sO h2)])))
 rw[I (sO h2)];refine J (Y [1,3,28,29,30] [1] sr (Ad (Ho 30 (λk=>(a.take k).any (λr=>decide (r.coef.length≠d.length))=false) a.length rfl ?_)));intro k nx hk hI;refine Y [1,3,28,29,30,31] [1] sr (J ?_)
 refine Bk (λh3=>?_) λh3=>?_
 .have e:k<a.length:=by simp at h3;omega
  have i:k<rw.length:=om;have u:=ad k e;have Ec:=A4 (k:=k) om;rw[show a[k].v=.agg [.ro 1 (Ap a[k].coef),.i a[k].mn,.i a[k].mx]from rfl]at u;have aq:=ag a[k];have o:=λh=>Ow (f:=λr:Rw=>decide (r.coef.length≠d.length)) e hI h
  have m:=λh=>S8 (f:=λr:Rw=>decide (r.coef.length≠d.length)) e h
  generalize a[k]=r at*;generalize Ap r.coef=cv at*;refine J (Ad (Y [1,3,5,28,29,30] [1,5] (by simp[u,i]<;>rfl) (Y [1,3,28,29,30,38] [1] sr ?_)))
  refine A1 (λh4=>?_) λh4=>?_
  .exact Y [2] [] sr (Aj (Aa sr (by rw[Ab (m (by simp at h4|-;omega))])))
  refine A6 [1,3,28,29,30] [1] (by simp[Ec]<;>rfl) ?_;exact⟨e,o (by simp at h4|-;omega),_,Z⟩
 .refine A3 ?_;have s:k=a.length:=sO h3
  rw[s,Bb]at hI;rw[I (by rw[hI];simp)];refine Y [1,6] [1] sr (J (Au 3 sr ?_));refine Dw hG ae func318 ?_;refine Ak [1,6,43] [1] sr ?_
  refine L3 [2] (J (Y [1,6,45,46,47] [1] sr (Ad (Ho 47 (λk=>(a.take k).any Ak0=false) a.length rfl ?_))));intro g ao al t;refine Y [1,6,45,46,47,48] [1] sr (J ?_)
  refine Bk (λh6=>?_) λh6=>?_
  .have e:g<a.length:=by simp at h6;omega
   have i:g<rw.length:=om;have u:=ad g e;have Ec:=A4 (k:=g) om;rw[show a[g].v=.agg [.ro 1 (Ap a[g].coef),.i a[g].mn,.i a[g].mx]from rfl]at u;have x:=aa a[g].coef;have z:=ah a[g];have o:=λh=>Ow (f:=Ak0) e t h
   have m:=λh=>S8 (f:=Ak0) e h
   have ab:Ak0 a[g]=(a[g].coef.any (λc=> !inB c 1000000)||(!inB a[g].mn 24000000|| !inB a[g].mx 24000000)):=rfl;have c1:=hw a[g].mn;have c2:=hw a[g].mx;generalize Ak0 a[g]=fa,a[g].coef.any (λc=> !inB c 1000000)=q1,inB a[g].mn 24000000=q2,inB a[g].mx 24000000=q3 at*;generalize a[g].mn=mn,a[g].mx=mx at*;generalize Ap a[g].coef=cv at*;refine J (Ad (Y [1,6,8,45,46,47] [1,8] (by simp[u,i]<;>rfl) (J (Cb (C3 3 sr ?_)))));refine Dw hG x func318 ?_;refine C3 3 sr ?_;refine Gd (c:= !q1) (λhg=>c1) func317 ?_;refine C3 5 sr ?_;refine Gd (c:=(!q1&&q2)) (λhg=>c2) func317 ?_;refine Ak [1,6,45,46,47,66] [1] sr ?_
   refine A1 (λh7=>?_) λh7=>?_
   .exact Y [2] [] sr (Aj (Aa sr (by rw[Ab (m (by rw[ab];revert h7;cases q1<;>cases q2<;>cases q3<;>simp))])))
   refine A6 [1,6,45,46,47] [1] (by simp[Ec]<;>rfl) ?_;exact⟨e,o (by rw[ab];revert h7;cases q1<;>cases q2<;>cases q3<;>simp),_,Z⟩
  .refine A3 ?_;have s:g=a.length:=sO h6
   rw[s,Bb]at t;rw[I (by rw[t];simp)];refine J (Y [69,70,71] [] sr (Ad (Ho 71 (λk=>(j.take k).any (λf=>decide (f< -1)||decide (1<f))=false) j.length rfl ?_)));intro y ai ar w;refine Y [69,70,71,72] [] sr (J ?_)
   refine Bk (λh8=>?_) λh8=>?_
   .have e:y<j.length:=by simp at h8;omega
    have i:y<fv.length:=om;have u:=af y e;have Ec:=A4 (k:=y) om;have o:=λh=>Ow (f:=λf:Int=>decide (f< -1)||decide (1<f)) e w h
    have m:=λh=>S8 (f:=λf:Int=>decide (f< -1)||decide (1<f)) e h
    generalize j[y]=f at*;refine J (Ad (Y [10,69,70,71] [] (by simp[u,i]<;>rfl) (Y [69,70,71,80] [] sr ?_)))
    refine A1 (λh9=>?_) λh9=>?_
    .exact Y [2] [] sr (Aj (Aa sr (by rw[Ab (m (sG h9))])))
    refine A6 [69,70,71] [] (by simp[Ec]<;>rfl) ?_;exact⟨e,o (sG h9),_,Z⟩
   .refine A3 ?_;have s:y=j.length:=sO h8
    rw[s,Bb]at w;rw[I (by rw[w];simp)];exact Qp [2]
def Cr{l:List α}(h:k<l.length)(d:α):l.getD k d=l[k]:=by simp[List.getD,h]
def Acm(c x:List Int):Nat->Int
 |0=>0
 |k+1=>IntKind.i64.wrap (Acm c x k+IntKind.i64.wrap (c.getD k 0*x.getD k 0))
def Zp(c x:List Int):Int:=Acm c x c.length
def Ail(c x:List Int)(h:c.length<=x.length)(hl:c.length<=1000):AE 343 [.ro 1 (Ap c),.ro 1 (Ap x)] (.i (Zp c x)):=by
 unfold Zp;have l:=λ(k:Nat)(h:k<c.length)=>Fr h
 have z:=A0 c;have s:=λ(k:Nat)(h:k<x.length)=>Fr h
 have y:=A0 x;have m:∀k(h1:k<c.length)(h2:k<x.length),Acm c x (k+1)=IntKind.i64.wrap (Acm c x k+IntKind.i64.wrap (c[k]*x[k])):=λk h1 h2=>by rw[Acm,Cr h1,Cr h2]
 have o:Acm c x 0=0:=rfl;have pc:=Ac c;have px:=Ac x;generalize Ap c=i,Ap x=t,Acm c x=pk at*;refine Ai func343 λw0 N0=>?_;refine Y [0,1] [] sr (A5 [5] sr (J (Y [1,5,8,9,10] [] sr (Ad (H5 (λk=>[(5,V.i (pk k)),(10,V.i k)]) (λ_=>[]) (λk=>True) c.length trivial (by simp only[o];exact Z) ?_)))));intro k nx hk hI;refine Y [1,5,8,9,10,11] [] sr (J ?_)
 refine Bk (λh1=>?_) λh1=>?_
 .have d:k<c.length:=by simp at h1;omega
  have e:k<x.length:=om;have g:k<i.length:=om;have f:k<t.length:=om;have u:=l k d;have w:=s k e;have Ec:=A4 (k:=k) om;have n:=m k d e;generalize c[k]=a,x[k]=b at*;refine J (Ad (Y [1,5,6,7,8,9,10] [] (by simp[u,g]<;>rfl) (A6 [1,5,8,9,10] [] (by simp[w,f]<;>rfl) (Cs [] (by simp[Ec]<;>rfl) ?_))));exact⟨d,trivial,_,by rw[n];exact Z⟩
 .refine A3 ?_;have j:k=c.length:=sO h1
  subst j;exact Y [4] [] sr (Bv sr rf)
def J6(a:List Int):Nat->List Int
 |0=>[]
 |k+1=>if a.getD k 0<0 then J6 a k++[(k:Int)]else J6 a k
def E0(a:List Int):List Int:=J6 a a.length
def Un(a:List Int):∀k,(J6 a k).length<=k
 |0=>A2 _
 |k+1=>by have:=Un a k;rw[J6];split<;>simp<;>omega
def Acn(c:List Int):∀k,∀i∈J6 c k,0<=i/\i<k
 |0=>λi a=>by cases a
 |k+1=>λi a=>by
  have ih:=Acn c k;rw[J6]at a
  split at a
  .rcases Cc.1 a with h1|h1
   .have:=ih i h1;omega
   .have:=Bz.1 h1;omega
  .have:=ih i a;omega
def Asu(e:List V)(rw:List V)(a:List Int)(pv:e.all V.pureE=true)(pr:rw.all V.pureE=true)(hl:a.length<=1000):ACO prog 319 [.agg [.ro 1 e,.ro 3 rw,.ro 1 (Ap a)]] 1 3 (λF es=>(F=λd q=>.sl d q 1 (E0 a).length)/\es=Ap (E0 a)):=by
 unfold E0;have t:=λ(k:Nat)(h:k<a.length)=>Fr h
 have aa:=A0 a;have pf:=Ac a;have r:∀k(h:k<a.length),J6 a (k+1)=if a[k] <0 then J6 a k++[(k:Int)]else J6 a k:=λk h=>by rw[J6,Cr h]
 have m:=Un a;have l:J6 a 0=[]:=rfl;generalize J6 a=j,Ap a=s at*;refine Kf func319 λw0 N0=>?_;refine Y [1] [1] sr (A5 [3] sr (J (Y [3,7,8,9] [] sr (Ad (Fg 3 100 1 3 [3,7,8,9] [100] sr sr ?_)))))
 refine Gn (λx:Nat×Nat×Nat=>[(3,.sl 100 x.2.1 1 (j x.1).length),(9,V.i (x.1:Nat))]) (λx=>[(100,⟨x.2.1,1,3,Ap (j x.1)⟩)]) (λx=>x.2.2)
  (λx=>x.1<=a.length) (λx=>a.length-x.1) (0,_,_) (B5 _) (by simp only[l];exact Z) ?_
 rintro⟨k,qv,nx⟩y;simp only at y|-;refine Y [3,7,8,9,10] [100] sr (J ?_)
 refine Bk (λh1=>?_) λh1=>?_
 .have c:k<a.length:=by simp at h1;omega
  have i:k<s.length:=om;have w:=t k c;have Ec:=A4 (k:=k) om;have hs:=r k c;have z:=m k;generalize a[k]=f,j k=o at*;have n:o.length+1<=maxLen/\(o.length+1)*8<=140737488355328:=⟨Ae (show o.length+1<=1001 by omega) dc,by omega⟩;refine J (Ad (Y [3,4,5,7,8,9] [100] (by simp[w,i]<;>rfl) (Y [3,4,7,8,9,15] [100] sr ?_)))
  refine A1 (λh2=>?_) λh2=>?_
  .rw[Ab (sG h2)]at hs;refine A6 [3,7,8,9] [100] (by simp[n]<;>rfl) (Cs [] (by simp[Ec]<;>rfl) ?_);exact⟨(k+1,_,_),c,by simp only;omega,by simp only[hs,Yo,Aq,Ax,Bg];exact Z⟩
  rw[I (sG h2)]at hs;refine A6 [3,7,8,9] [100] (by simp[Ec]<;>rfl) ?_;exact⟨(k+1,_,_),c,by simp only;omega,by simp only[hs];exact Z⟩
 .refine A3 ?_;have u:k=a.length:=sO h1
  subst u;have g:=Uk (j a.length);refine Y [2] [100] sr ?_;exact Aj (Hv 100 sr rfl rfl (sG g) sr ⟨rfl,rfl⟩)
def Bdr(a:List V)(rw:List V)(c:List Int)(pv:a.all V.pureE=true)(f:rw.all V.pureE=true)(d:c.length<=1000):AE 319 [.agg [.ro 1 a,.ro 3 rw,.ro 1 (Ap c)]] (.ro 1 (Ap (E0 c))):=by
 refine(Asu a rw c pv f d).ac ?_;rintro F e⟨rfl,rfl⟩;exact⟨_,by simp[(Ac (E0 c)),(A0 (E0 c))]<;>rfl,rfl⟩
instance:Inhabited Rw:=⟨⟨[],0,0⟩⟩
def Asv(c:List Int):Nat->Int
 |0=>0
 |k+1=>IntKind.i64.wrap (Asv c k+c.getD k 0)
def W9(c:Int):Bool:=decide (c≠0)&&decide (c≠1)
def Aim(c:List Int):Int:=if c.any W9=true then -1 else Asv c c.length
def Tq(a:List Rw):Nat->Int×Int
 |0=>(-1,0)
 |k+1=>if(Tq a k).2<Aim (a.getD k default).coef then((k:Int),Aim (a.getD k default).coef)else Tq a k
def A7w(a:List Rw):Int:=(Tq a a.length).1
def A2q(l:List V)(a:List Rw)(fv:List V)(pv:l.all V.pureE=true)(pf:fv.all V.pureE=true)(hl:a.length<=1000)(hc:∀r∈a,r.coef.length<=1000):AE 342 [.agg [.ro 1 l,.ro 3 (G9 a),.ro 1 fv]] (.i (A7w a)):=by
 unfold A7w;have ad:=λ(k:Nat)(h:k<a.length)=>Aic h
 have al:=Ou a;have pr:=Gu a;have ag:∀k(h:k<a.length),Tq a (k+1)=if(Tq a k).2<Aim a[k].coef then((k:Int),Aim a[k].coef)else Tq a k:=λk h=>by rw[Tq,Cr h]
 have hw0:Tq a 0=(-1,0):=rfl;generalize Tq a=wk,G9 a=rw at*;refine Ai func342 λw0 N0=>?_;refine Y [1] [1] sr (A5 [3,4] sr (J (Y [3,4,11,12,13] [] sr (Ad (H5 (λk=>[(3,V.i (wk k).1),(4,V.i (wk k).2),(13,V.i k)]) (λ_=>[]) (λk=>True) a.length trivial (by simp only[hw0];exact Z) ?_)))));intro k nx hk hI;refine Y [3,4,11,12,13,14] [] sr (J ?_)
 refine Bk (λh1=>?_) λh1=>?_
 .have i:k<a.length:=by simp at h1;omega
  have u:k<rw.length:=om;have ga:=ad k i;have Ec:=A4 (k:=k) om;have hs:=ag k i;have ai:=hc _ (As i);rw[show a[k].v=.agg [.ro 1 (Ap a[k].coef),.i a[k].mn,.i a[k].mx]from rfl]at ga;generalize a[k].coef=d,wk k=p0 at*;have⟨aa,m0⟩:=p0;simp only at hs|-;have w:=λ(k:Nat)(h:k<d.length)=>Fr h
  have ak:=A0 d;have pc:=Ac d;have af:∀k(h:k<d.length),Asv d (k+1)=IntKind.i64.wrap (Asv d k+d[k]):=λk h=>by rw[Asv,Cr h]
  have z:Asv d 0=0:=rfl;have j:Aim d=if d.any W9=true then -1 else Asv d d.length:=rfl
  generalize Asv d=sk,Ap d=cv,Aim d=on at*;refine J (Ad (Y [3,4,5,6,11,12,13] [6] (by simp[ga,u]<;>rfl) (Y [3,4,5,6,7,11,12,13] [6] sr (J (Y [3,4,5,7,11,12,13,19,20,21] [] sr (Ad (H5 (λg=>[(7,V.i (sk g)),(21,V.i g)]) (λ_=>[]) (λg=>(d.take g).any W9=false) d.length rfl (by simp only[z];exact Z) ?_)))))));intro g t aj n;refine Y [3,4,5,7,11,12,13,19,20,21,22] [] sr (J ?_)
  refine Bk (λh2=>?_) λh2=>?_
  .have e:g<d.length:=by simp at h2;omega
   have o:g<cv.length:=om;have gc:=w g e;have Sk:=A4 (k:=g) om;have ae:=λh=>Ow (f:=W9) e n h
   have ab:=λh=>S8 (f:=W9) e h
   have y:=af g e;have s:W9 d[g]=(decide (d[g]≠0)&&decide (d[g]≠1)):=rfl;generalize d[g]=c at*;refine J (Ad (Y [3,4,5,7,9,11,12,13,19,20,21] [] (by simp[gc,o]<;>rfl) (J (A5 [30] sr ?_))))
   refine A1 (λh3=>?_) λh3=>?_
   .rw[Ab (ab (by rw[s];simpa using h3))]at j;subst j;refine Y [3,4,5,7,11,12,13] [] sr (A3 ?_);refine A5 [37] sr ?_
    refine A1 (λx=>?_) λx=>?_
    .rw[Ab (sG x)]at hs;refine A6 [3,4,11,12,13] [] sr (Cs [] (by simp[Ec]<;>rfl) ?_);exact⟨i,trivial,_,by simp only[hs];exact Z⟩
    rw[I (sG x)]at hs;refine A6 [3,4,11,12,13] [] (by simp[Ec]<;>rfl) ?_;exact⟨i,trivial,_,by simp only[hs];exact Z⟩
   refine A6 [3,4,5,7,11,12,13,19,20,21] [] sr (Cs [] (by simp[Sk]<;>rfl) ?_);exact⟨e,ae (by rw[s];simpa using h3),_,by simp only[y];exact Z⟩
  .refine A3 ?_;have m:g=d.length:=sO h2
   rw[m,Bb]at n;rw[I (by rw[n];simp)]at j;rw[m,<-j];refine Y [3,4,5,7,11,12,13,37] [] sr ?_
   refine A1 (λh5=>?_) λh5=>?_
   .rw[Ab (sG h5)]at hs;refine A6 [3,4,11,12,13] [] sr (Cs [] (by simp[Ec]<;>rfl) ?_);exact⟨i,trivial,_,by simp only[hs];exact Z⟩
   rw[I (sG h5)]at hs;refine A6 [3,4,11,12,13] [] (by simp[Ec]<;>rfl) ?_;exact⟨i,trivial,_,by simp only[hs];exact Z⟩
 .refine A3 ?_;have ah:k=a.length:=sO h1
  subst ah;exact Y [2] [] sr (Bv sr rf)
def Dk{l:List Int}(h:k<l.length):Gz (Ap l) k=some (.i (l.getD k 0)):=by rw[Cr h];exact Fr h
def Aco{l:List Rw}(h:k<l.length):Gz (G9 l) k=some (.agg [.ro 1 (Ap (l.getD k default).coef),.i (l.getD k default).mn,.i (l.getD k default).mx]):=by rw[Cr h];exact Aic h
def Ain{l:Mo}(h:k<l.length):Gz (Eo l) k=some (.ro 1 (Ap (l.getD k []))):=by rw[Cr h];exact Ua h
def Gy{l:List α}{P:α->Prop}(h:∀x∈l,P x)(a:k<l.length)(d:α):P (l.getD k d):=by rw[Cr a];exact h _ (As a)
structure Ss where
 vals:List Int
 rows:List Rw
 fx:List Int
 free:List Int
 one:Bool
 once:Bool
 low:Mo
 high:Mo
 wide:Int
 order:List Int
structure Sd where
 x:List Int
 value:Int
 sums:List Int
 least:Int
 best:Option (List Int)
 most:Int
 found:Bool
def bV:Option (List Int)->V
 |none=>.nils
 |some l=>.ro 1 (Ap l)
def Agi(o:Option (List Int)):(bV o).pureC=true:=by cases o<;>simp[bV,V.pureC]
def srC(s:Ss)(d:Sd)(c a:V):List V:=
 [.ro 1 (Ap s.vals),.ro 3 (G9 s.rows),.ro 1 (Ap s.fx),.ro 1 (Ap s.free),.bool s.one,.bool s.once,c,.i d.value,a,.ro 1 (Eo s.low),.ro 1 (Eo s.high),.i s.wide,.ro 1 (Ap s.order),.i d.least,bV d.best,.i d.most,.bool d.found]
structure WfS(s:Ss):Prop where
 hr:s.rows.length<=1000
 hv:s.vals.length<=1000
 hc:∀r∈s.rows,r.coef.length=s.vals.length
 hf:∀i∈s.free,0<=i/\i<s.vals.length
 hfl:s.free.length<=1000
 hl:s.low.length=s.free.length+1
 hh:s.high.length=s.free.length+1
 hlr:∀l∈s.low,l.length=s.rows.length
 hhr:∀l∈s.high,l.length=s.rows.length
 hw: -1<=s.wide/\s.wide<s.rows.length
 ho:∀e∈s.order,0<=e/\e<s.free.length
 hol:s.order.length<=1000
structure WfD(s:Ss)(d:Sd):Prop where
 hx:d.x.length=s.vals.length
 hs:d.sums.length=s.rows.length
def Apg(s:Ss)(d:Sd)(a k:Nat):Bool:=
 decide ((s.rows.getD k default).mx<IntKind.i64.wrap (d.sums.getD k 0+(s.low.getD a []).getD k 0))||decide (IntKind.i64.wrap (d.sums.getD k 0+(s.high.getD a []).getD k 0)<(s.rows.getD k default).mn)
def Aio(s:Ss)(d:Sd)(a:Nat):Nat->Bool
 |0=>true
 |k+1=>Aio s d a k&& !Apg s d a k
def Ak1(s:Ss)(d:Sd)(a:Nat):Bool:=Aio s d a s.rows.length
def Asw{s:Ss}{d:Sd}{a:Nat}(h:Apg s d a k=true):∀m,k<m->Aio s d a m=false
 |0,c=>absurd c om
 |m+1,c=>by
  rw[Aio]
  by_cases e:k=m
  .subst e;rw[h];simp
  .rw[Asw h m om];rfl
def Asx(s:Ss)(d:Sd)(a:Nat)(hs:WfS s)(hd:WfD s d)(aq:a<=s.free.length):
  AE 345 [.rp (.agg (srC s d (.ro 1 (Ap d.x)) (.ro 1 (Ap d.sums)))),.i a] (.bool (Ak1 s d a)):=by
 unfold Ak1;have a2:=hs.hr;have af:=λ(k:Nat)(h:k<s.rows.length)=>Aco h
 have a5:=Ou s.rows;have pr:=Gu s.rows;have pv:=Ac s.vals;have pf:=Ac s.fx;have az:=Ac s.free;have px:=Ac d.x;have a6:=Ac d.sums;have a4:=D0 s.low;have a0:=D0 s.high;have a3:=Ac s.order;have pb:=Agi d.best;have g:a<s.low.length:=by have:=hs.hl;omega
 have o:a<s.high.length:=by have:=hs.hh;omega
 have ai:=Ain g;have ag:=Ain o;have a7:=Gy hs.hlr g [];have aw:=Gy hs.hhr o [];have a1:=Mj s.low;have au:=Mj s.high;have ax:=hd.hs;have am:∀k,Apg s d a k=(decide ((s.rows.getD k default).mx<IntKind.i64.wrap (d.sums.getD k 0+(s.low.getD a []).getD k 0))||decide (IntKind.i64.wrap (d.sums.getD k 0+(s.high.getD a []).getD k 0)<(s.rows.getD k default).mn)):=λk=>rfl
 have j:=λ(k:Nat)(h:Apg s d a k=true)=>Asw h s.rows.length
 have ak:∀k,Aio s d a (k+1)=(Aio s d a k&& !Apg s d a k):=λk=>rfl
 have an:Aio s d a 0=true:=rfl;unfold srC;generalize Aio s d a=pk,Apg s d a=bp,s.low.getD a []=lo,s.high.getD a []=hi at*;have ad:=λ(k:Nat)(h:k<d.sums.length)=>Dk h
 have n:=λ(k:Nat)(h:k<lo.length)=>Dk h
 have z:=λ(k:Nat)(h:k<hi.length)=>Dk h
 have av:=A0 d.sums;have ao:=A0 lo;have ar:=A0 hi;generalize G9 s.rows=rw,Ap d.sums=sv,Eo s.low=w,Eo s.high=l,Ap lo=ab,Ap hi=ae,Ap s.vals=vv,Ap s.fx=fv,Ap s.free=aa,Ap d.x=xv,Ap s.order=ov,bV d.best=bv at*;refine Ai func345 λw0 N0=>?_;refine Y [0,1] [] sr (J (A5 [11,12,13] sr (Ad (Ho 13 (λk=>pk k=true) s.rows.length an ?_))));intro k nx hk hI;refine Y [0,1,11,12,13,14] [] sr (J ?_)
 refine Bk (λh1=>?_) λh1=>?_
 .have c:k<s.rows.length:=by simp at h1;omega
  have y:k<rw.length:=om;have ga:=af k c;have Ec:=A4 (k:=k) om;have gs:=ad k om;have gl:=n k om;have gh:=z k om;have f:k<sv.length:=om;have t:k<ab.length:=om;have u:k<ae.length:=om;have i:a<w.length:=om;have e:a<l.length:=om;have m:=am k;have aj:=j k;have al:=ak k;generalize s.rows.getD k default=r,d.sums.getD k 0=su,lo.getD k 0=l1,hi.getD k 0=ay,bp k=b at*;refine J (Ad (Y [0,1,5,6,11,12,13] [6] (by simp[ga,y]<;>rfl) ?_));refine I3 [0,3,4,1,7,3,11,1,14,1,18,1,3,1,5,2,10,1,12,2,15,3,19,6,26,1,29,3,33,1,36,1,40,1,25,1,27,2,32,1,34,2,37,3,41,3] [0,1,11,12,13,61] [] sr (by simp[gs,gl,gh,f,t,u,i,e,ai,ag]<;>rfl) ?_
  refine A1 (λh2=>?_) λh2=>?_
  .exact Y [4] [] sr (Aj (Aa sr (by rw[aj (by rw[m];simpa using h2) c])))
  refine A6 [0,1,11,12,13] [] (by simp[Ec]<;>rfl) ?_;exact⟨c,by rw[al,hI,m];simpa using h2,_,Z⟩
 .refine A3 ?_;have ah:k=s.rows.length:=sO h1
  rw[ah]at hI;rw[hI];exact Qp [4]
def Mq(s:Ss)(i:Nat):Bool:=decide (0<=s.wide)&&decide ((s.rows.getD s.wide.toNat default).coef.getD i 0=1)
def Pe(s:Ss)(d:Sd)(a:Nat):Nat->Int×Int
 |0=>(if 0<=s.wide then IntKind.i64.wrap ((s.rows.getD s.wide.toNat default).mx-d.sums.getD s.wide.toNat 0)else 0,d.value)
 |k+1=>if s.order.getD k 0<a then Pe s d a k
  else if Mq s (s.free.getD (s.order.getD k 0).toNat 0).toNat=true then
   (if(Pe s d a k).1<=0 then Pe s d a k else(IntKind.i64.wrap ((Pe s d a k).1-1),IntKind.i64.wrap ((Pe s d a k).2+s.vals.getD (s.free.getD (s.order.getD k 0).toNat 0).toNat 0)))
  else((Pe s d a k).1,IntKind.i64.wrap ((Pe s d a k).2+s.vals.getD (s.free.getD (s.order.getD k 0).toNat 0).toNat 0))
def Awh(s:Ss)(d:Sd)(a:Nat):Int:=(Pe s d a s.order.length).2
def A7y(s:Ss)(d:Sd)(e:Nat)(hs:WfS s)(hd:WfD s d):
  AE 346 [.rp (.agg (srC s d (.ro 1 (Ap d.x)) (.ro 1 (Ap d.sums)))),.i e] (.i (Awh s d e)):=by
 unfold Awh;have hol:=hs.hol;have aw:=λ(k:Nat)(h:k<s.rows.length)=>Aco h
 have bb:=Ou s.rows;have pr:=Gu s.rows;have pv:=Ac s.vals;have pf:=Ac s.fx;have a5:=Ac s.free;have px:=Ac d.x;have bc:=Ac d.sums;have bg:=D0 s.low;have a9:=D0 s.high;have bh:=Ac s.order;have pb:=Agi d.best;have a8:=hd.hs;have az:=λ(k:Nat)(h:k<d.sums.length)=>Dk h
 have al:=λ(k:Nat)(h:k<s.order.length)=>Dk h
 have z:=λ(k:Nat)(h:k<s.free.length)=>Dk h
 have aq:=λ(k:Nat)(h:k<s.vals.length)=>Dk h
 have bd:=A0 d.sums;have a3:=A0 s.order;have a2:=A0 s.free;have a6:=A0 s.vals
 have ao:∀k,Pe s d e (k+1)=if s.order.getD k 0<e then Pe s d e k
  else if Mq s (s.free.getD (s.order.getD k 0).toNat 0).toNat=true then
   (if(Pe s d e k).1<=0 then Pe s d e k else(IntKind.i64.wrap ((Pe s d e k).1-1),IntKind.i64.wrap ((Pe s d e k).2+s.vals.getD (s.free.getD (s.order.getD k 0).toNat 0).toNat 0)))
  else((Pe s d e k).1,IntKind.i64.wrap ((Pe s d e k).2+s.vals.getD (s.free.getD (s.order.getD k 0).toNat 0).toNat 0)):=λk=>rfl
 have n:Pe s d e 0=(if 0<=s.wide then IntKind.i64.wrap ((s.rows.getD s.wide.toNat default).mx-d.sums.getD s.wide.toNat 0)else 0,d.value):=rfl;have j:∀i,Mq s i=(decide (0<=s.wide)&&decide ((s.rows.getD s.wide.toNat default).coef.getD i 0=1)):=λi=>rfl
 have ba:=hs.hw;have au:=λ(k:Nat)(h:k<s.rows.length)=>Gy hs.hc h default
 unfold srC;generalize Pe s d e=bk,Mq s=wh,bf:s.wide=wd,G9 s.rows=rw,Ap d.sums=sv,Eo s.low=an,Eo s.high=aj,Ap s.vals=vv,Ap s.fx=fv,Ap s.free=w,Ap d.x=xv,Ap s.order=ov,bV d.best=bv at*;refine Ai func346 λw0 N0=>?_;refine Y [0,1] [] sr (A5 [5] sr (J (A5 [14] sr ?_)))
 refine A1 (λh1=>?_) λh1=>?_
 .have⟨o,a0⟩:=Cn (show 0<=wd by simpa using h1);subst a0;simp only[C4]at n j;have ak:o<s.rows.length:=om;have gr:=aw o ak;have gs:=az o om;have am:o<rw.length:=om;have ar:o<sv.length:=om;have hw0:(0:Int)<=(o:Int):=om;have av:=au o ak;rw[Ab hw0]at n;replace j:∀i,wh i=decide ((s.rows.getD o default).coef.getD i 0=1):=λi=>by rw[j];simp
  generalize s.rows.getD o default=r,d.sums.getD o 0=su at*;have⟨cf,be,a4⟩:=r;simp only at av n j gr;have ay:=λ(k:Nat)(h:k<s.vals.length)=>Dk (l:=cf) (show k<cf.length by omega)
  have a7:=A0 cf;generalize Ap cf=cv at*;refine Ahm [0,4,5,3,12,3,16,3,4,1,8,4,15,1,19,5] [0,1,5] [] sr (by simp[gr,gs,am,ar]<;>rfl) (A5 [6] sr (J (A5 [45,46,47] sr (Ad (H5 (λk=>[(5,.i (bk k).1),(6,.i (bk k).2),(47,V.i k)]) (λ_=>[]) (λk=>True) s.order.length trivial (by simp only[n];exact Z) ?_)))));intro k nx hk hI;refine Y [0,1,5,6,45,46,47,48] [] sr (J ?_)
  refine Bk (λh2=>?_) λh2=>?_
  .have f:k<s.order.length:=by simp at h2;omega
   have t:k<ov.length:=om;have ga:=al k f;have Ec:=A4 (k:=k) om;have a:=ao k;have⟨ae,aa⟩:=Gy hs.ho f 0;have⟨en,ad⟩:=Cn ae;rw[ad]at ga a aa;have m:en<s.free.length:=om;have ge:=z en m;have⟨ab,af⟩:=Gy hs.hf m 0;have⟨i,hi⟩:=Cn ab;simp only[C4]at a;rw[hi]at ge af a;simp only[C4]at a;have u:i<s.vals.length:=om;have gv:=aq i u;have ag:en<w.length:=om;have y:i<vv.length:=om;generalize s.vals.getD i 0=v,bk k=p at*;have⟨ai,a1⟩:=p;simp only at a|-;have gc:=ay i u;have ax:i<cv.length:=om;rw[j i]at a;generalize cf.getD i 0=c at*;refine J (Ad (Y [0,1,5,6,8,45,46,47] [] (by simp[ga,t]<;>rfl) (J (A5 [53] sr ?_))))
   refine A1 (λh3=>?_) λh3=>?_
   .rw[Ab (sG h3)]at a;refine A3 ?_;refine A6 [0,1,5,6,45,46,47] [] (by simp[Ec]<;>rfl) ?_;exact⟨f,trivial,_,by simp only[a];exact Z⟩
   rw[I (sG h3)]at a;refine Y [0,1,5,6,9,45,46,47] [] (by simp[ge,ag]<;>rfl) (J (I3 [0,10,11,3,18,1,10,1,14,4,19,4] [0,1,5,6,9,45,46,47,83] [] sr (by simp[gr,gc,ax,hw0,am]<;>rfl) ?_))
   refine A1 (λh4=>?_) λh4=>?_
   .refine J ?_;rw[Ab (sG h4)]at a;refine Y [0,1,5,6,9,45,46,47,85] [] sr ?_
    refine A1 (λh5=>?_) λh5=>?_
    .rw[Ab (sG h5)]at a;refine A3 ?_;refine A6 [0,1,5,6,45,46,47] [] (by simp[Ec]<;>rfl) ?_;exact⟨f,trivial,_,by simp only[a];exact Z⟩
    rw[I (sG h5)]at a;refine A6 [0,1,5,6,9,45,46,47] [] sr (A6 [0,1,5,6,45,46,47] [] (by simp[gv,y]<;>rfl) (Cs [] (by simp[Ec]<;>rfl) ?_));exact⟨f,trivial,_,by simp only[a];exact Z⟩
   rw[I (sG h4)]at a;refine A6 [0,1,5,6,45,46,47] [] (by simp[gv,y]<;>rfl) (Cs [] (by simp[Ec]<;>rfl) ?_);exact⟨f,trivial,_,by simp only[a];exact Z⟩
  .refine A3 ?_;have ah:k=s.order.length:=sO h2
   subst ah;exact Y [4] [] sr (Bv sr rf)
 have g:¬(0:Int)<=wd:=sG h1
 rw[I g]at n;replace j:∀i,wh i=false:=λi=>by rw[j];simp only[g,decide_false,Bool.false_and]
 refine Y [0,1,5,6] [] sr (J (A5 [45,46,47] sr (Ad (H5 (λk=>[(5,.i (bk k).1),(6,.i (bk k).2),(47,V.i k)]) (λ_=>[]) (λk=>True) s.order.length trivial (by simp only[n];exact Z) ?_))));intro k nx hk hI;refine Y [0,1,5,6,45,46,47,48] [] sr (J ?_)
 refine Bk (λh6=>?_) λh6=>?_
 .have f:k<s.order.length:=by simp at h6;omega
  have t:k<ov.length:=om;have ga:=al k f;have Ec:=A4 (k:=k) om;have a:=ao k;have⟨ae,aa⟩:=Gy hs.ho f 0;have⟨en,ad⟩:=Cn ae;rw[ad]at ga a aa;have m:en<s.free.length:=om;have ge:=z en m;have⟨ab,af⟩:=Gy hs.hf m 0;have⟨i,hi⟩:=Cn ab;simp only[C4]at a;rw[hi]at ge af a;simp only[C4]at a;have u:i<s.vals.length:=om;have gv:=aq i u;have ag:en<w.length:=om;have y:i<vv.length:=om;generalize s.vals.getD i 0=v,bk k=p at*;have⟨ai,a1⟩:=p;simp only at a|-;rw[j i]at a;refine J (Ad (Y [0,1,5,6,8,45,46,47] [] (by simp[ga,t]<;>rfl) (J (A5 [53] sr ?_))))
  refine A1 (λh7=>?_) λh7=>?_
  .rw[Ab (sG h7)]at a;refine A3 ?_;refine A6 [0,1,5,6,45,46,47] [] (by simp[Ec]<;>rfl) ?_;exact⟨f,trivial,_,by simp only[a];exact Z⟩
  rw[I (sG h7)]at a;refine Y [0,1,5,6,9,45,46,47] [] (by simp[ge,ag]<;>rfl) (J (I3 [0,10,11,3,18,1,10,1,14,4,19,4] [0,1,5,6,9,45,46,47,83] [] sr (by simp[g]<;>rfl) ?_));refine Ce ?_;rw[I (by simp)]at a;refine A6 [0,1,5,6,45,46,47] [] (by simp[gv,y]<;>rfl) (Cs [] (by simp[Ec]<;>rfl) ?_);exact⟨f,trivial,_,by simp only[a];exact Z⟩
 .refine A3 ?_;have ah:k=s.order.length:=sO h6
  subst ah;exact Y [4] [] sr (Bv sr rf)
variable {N0:Nat->Prop}{P:Program}{Q:Exit->AS->Prop}{b c:Nat}{o:Ob}{w0:Bs}
def Xa{c:Code}(a:Nat)(h:AW P w0 N0 c Q {S with nx:=a+S.nx}):AW P w0 N0 c Q S:=
 T1 (S':={S with nx:=a+S.nx}) (Wg rfl rfl rfl (Vv _ _)) h
def Aeh(s:Ss)(d:Sd)(v c a:Nat):List (Nat×Ob):=
 [(22,⟨v,17,455,[.agg (srC s d (.sl 27 c 1 d.x.length) (.sl 61 a 1 d.sums.length))]⟩),(27,⟨c,1,3,Ap d.x⟩),(61,⟨a,1,3,Ap d.sums⟩)]
def Fs{a:Nat}{x y z:Ob}{l:List (Nat×Ob)}(h1:Eng.get l a=some x)(h2:Eng.get l b=some y)(f:Eng.get l c=some z)(d:Eng.get [(a,x),(b,y),(c,z)] k=some o):Eng.get l k=some o:=by
 simp only[Eng.get]at d
 split at d
 .rename_i e;subst e;cases d;exact h1
 .split at d
  .rename_i e;subst e;cases d;exact h2
  .split at d
   .rename_i e;subst e;cases d;exact f
   .cases d
def Aaj(c:List Rw)(i:Nat)(d:Int)(a:List Int):Nat->List Int
 |0=>a
 |k+1=>(Aaj c i d a k).set k (IntKind.i64.wrap ((Aaj c i d a k).getD k 0+IntKind.i64.wrap (d*(c.getD k default).coef.getD i 0)))
def Xb(c:List Rw)(i:Nat)(d:Int)(a:List Int):∀k,(Aaj c i d a k).length=a.length
 |0=>rfl
 |k+1=>by rw[Aaj,Hy,Xb c i d a k]
def sgn(b:Int):Int:=IntKind.i64.wrap (IntKind.i64.wrap (2*b)-1)
def I4(s:Ss)(d:Sd)(i:Nat)(b:Int):Sd:=
 {d with x:=d.x.set i b,value:=IntKind.i64.wrap (d.value+IntKind.i64.wrap (sgn b*s.vals.getD i 0)),sums:=Aaj s.rows i (sgn b) d.sums s.rows.length}
def S9{s:Ss}{d:Sd}(h:WfD s d)(i:Nat)(b:Int):WfD s (I4 s d i b):=⟨by simp[I4,h.hx],by simp[I4,Xb,h.hs]⟩
def Xc(l:List Int)(k:Nat)(x:Int):Ap (l.set k x)=(Ap l).set k (.i x):=by simp[Ap,O6]
def Bds(s:Ss)(d:Sd)(i:Nat)(b:Int)(v z y:Nat)(hs:WfS s)(hd:WfD s d)(hi:i<s.vals.length):
  Q0 prog 347 [.bp 22 v 17 0 0,.i i,.i b] (Aeh s d v z y) (λr j=>r=.tup []/\j=Aeh s (I4 s d i b) v z y) (λ_=>False):=by
 have a1:=hs.hr;have ao:=λ(k:Nat)(h:k<s.rows.length)=>Aco h
 have ad:=λ(k:Nat)(h:k<s.rows.length)=>Dk (l:=(s.rows.getD k default).coef) (k:=i) (by rw[Gy hs.hc h default];exact hi)
 have n:=λ(k:Nat)(h:k<s.rows.length)=>Gy hs.hc h default
 have a6:=Ou s.rows;have az:=hd.hs;have a0:=hd.hx;have gv:=Dk hi;have a3:=A0 s.vals;have af:=A0 d.x;have gx:=Dk (l:=d.x) (k:=i) om;have am:=λ(k:Nat)(h:k<(Aaj s.rows i (sgn b) d.sums k).length)=>Dk h
 have e:=Xb s.rows i (sgn b) d.sums;have ah:∀k,Aaj s.rows i (sgn b) d.sums (k+1)=(Aaj s.rows i (sgn b) d.sums k).set k (IntKind.i64.wrap ((Aaj s.rows i (sgn b) d.sums k).getD k 0+IntKind.i64.wrap (sgn b*(s.rows.getD k default).coef.getD i 0))):=λk=>rfl
 have ag:Aaj s.rows i (sgn b) d.sums 0=d.sums:=rfl;have aw:IntKind.i64.wrap (IntKind.i64.wrap (2*b)-1)=sgn b:=rfl;have ar:=Xc d.x i b;unfold Aeh srC I4;simp only[Hy,e,ar];generalize Aaj s.rows i (sgn b) d.sums=f at*;generalize sgn b=sg,G9 s.rows=rw,Eo s.low=au,Eo s.high=aj,s.vals.getD i 0=vi,Ap s.vals=vv,Ap s.fx=fv at*;generalize Ap s.free=ab at*;generalize Ap d.x=xv at*;generalize Ap s.order=ov at*;generalize bV d.best=bv at*;have a4:i<xv.length:=om;have g:i<vv.length:=om;have ae:i<d.x.length:=om;refine Ed func347 λw0 N0 ai=>?_;refine Y [0,1,2] [22,27,61] (by simp[ntmps347,ae,gx]<;>rfl) (Y [0,1,6] [22,27,61] (by simp[aw]<;>rfl) ?_);refine Om [(0,[]),(1,[]),(2,[]),(4,[]),(5,[]),(6,[]),(7,[]),(8,[]),(10,[]),(3,[]),(9,[]),(11,[]),(12,[]),(13,[]),(14,[]),(15,[]),(16,[]),(17,[])] [0,1,6] [22,27,61] Jt kr (by simp[gv,g]<;>rfl) ?_;refine A5 [40,41,42] sr (Ad (H4 (λk nx=>⟨[(0,V.bp 22 v 17 0 0),(1,V.i i),(6,.i sg),(40,.ro 3 rw),(41,.i rw.length),(42,V.i k)],[(22,⟨v,17,455,[V.agg [V.ro 1 vv,V.ro 3 rw,V.ro 1 fv,V.ro 1 ab,V.bool s.one,V.bool s.once,V.sl 27 z 1 d.x.length,V.int IntKind.i64 (IntKind.i64.wrap (d.value+IntKind.i64.wrap (sg*vi))),V.sl 61 y 1 d.sums.length,V.ro 1 au,V.ro 1 aj,V.int IntKind.i64 s.wide,V.ro 1 ov,V.int IntKind.i64 d.least,bv,V.int IntKind.i64 d.most,V.bool d.found]]⟩),(27,⟨z,1,3,xv.set i (.i b)⟩),(61,⟨y,1,3,Ap (f k)⟩)],nx,64⟩) (λk=>True) s.rows.length _ trivial (by simp only[ag];exact Z) ?_));intro k nx hk hI;refine Y [0,1,6,40,41,42,43] [22,27,61] sr (J ?_)
 refine Bk (λh1=>?_) λh1=>?_
 .have a:k<s.rows.length:=by simp at h1;omega
  have u:k<rw.length:=om;have ga:=ao k a;have gc:=ad k a;have lc:=n k a;have Ec:=A4 (k:=k) om;have t:=ah k;have aa:=Xc (f k) k;have al:k<(f k).length:=by rw[e];omega
  have gs:=am k al;have a5:=A0 (f k);have ax:=e k;generalize s.rows.getD k default=r at*;have⟨cf,a2,ay⟩:=r;simp only at gc lc ga t;have n:=A0 cf;generalize Ap cf=cv,cf.getD i 0=c,Ap (f k)=m at*;generalize(f k).getD k 0=su at*;have an:i<cv.length:=om;have a7:k<m.length:=om;have aq:k<d.sums.length:=om;have w:m.length=d.sums.length:=om;refine J (Ad (Y [0,1,6,7,8,40,41,42] [8,22,27,61] (by simp[ga,u]<;>rfl) ?_));refine Ahm [0,3,4,1,7,2,10,1,3,1,5,2,9,1,11,6] [0,1,6,40,41,42] [22,27,61] sr (by simp[gs,gc,an,aq]<;>rfl) ?_;refine Cs [] (by simp[Ec]<;>rfl) ?_;exact⟨a,trivial,_,by rw[t,aa];exact Z⟩
 .have av:k=s.rows.length:=by simp at h1;omega
  subst av;refine Xa ai ?_;refine A3 ?_;exact⟨A7 _ _,.tup [],_,by simp[results347],λk o hk=>Fs gt gt gt hk,rfl,rfl⟩
def N8(a:n<=100000)(c:b<=1000):n<=maxLen/\n*b<=140737488355328:=
 ⟨Ae a dc,Ae (Iq a c) dc⟩
def Acp(es:List V)(hp:es.all V.pureE=true)(c:es.all Ih=true)(f:es.length<=100000):ACO prog 135 [.ro 1 es] 1 3 (λF a=>(F=λd q=>.sl d q 1 es.length)/\a=es):=by
 have e:=N8 (b:=8) f dc;refine Kf func135 λw0 N0=>?_;refine Y [0] [] sr (J (Au 1 sr ?_));refine N4 rfl rfl sr rfl kr (λb h=>⟨_,by simp<;>rfl,?_⟩);refine Ak [0,4] [] sr ?_
 refine A1 (λh1=>?_) λh1=>?_
 .refine Y [2] [] sr ?_;have g:=Ag.1 (h h1);subst g;exact Fg 2 2 1 3 [2] [2] sr sr (Aj (Hv 2 sr rfl rfl sm sr ⟨rfl,rfl⟩))
 exact Y [2] [5] C1 (Aj (Hv 5 sr rfl rfl (sG c) sr ⟨rfl,rfl⟩))
def Afk(es:List V)(hp:es.all V.pureE=true)(a:es.all Ih=true)(c:es.length<=100000):AE 135 [.ro 1 es] (.ro 1 es):=by
 refine(Acp es hp a c).ac ?_;rintro F d⟨rfl,rfl⟩;exact⟨_,by simp[hp]<;>rfl,rfl⟩
def Aph(es:List V)(hp:es.all V.pureE=true)(c:es.all Ih=true)(f:es.length<=100000):ACO prog 138 [.ro 1 es] 1 164 (λF a=>(F=λd q=>.sl d q 1 es.length)/\a=es):=by
 have e:=N8 (b:=4) f dc;refine Kf func138 λw0 N0=>?_;refine Y [0] [] sr (J (Au 1 sr ?_));refine N4 rfl rfl sr rfl kr (λb h=>⟨_,by simp<;>rfl,?_⟩);refine Ak [0,4] [] sr ?_
 refine A1 (λh1=>?_) λh1=>?_
 .refine Y [2] [] sr ?_;have g:=Ag.1 (h h1);subst g;exact Fg 2 2 1 164 [2] [2] sr sr (Aj (Hv 2 sr rfl rfl sm sr ⟨rfl,rfl⟩))
 exact Y [2] [5] C1 (Aj (Hv 5 sr rfl rfl (sG c) sr ⟨rfl,rfl⟩))
def Afl(es:List V)(hp:es.all V.pureE=true)(a:es.all Ih=true)(c:es.length<=100000):AE 138 [.ro 1 es] (.ro 1 es):=by
 refine(Aph es hp a c).ac ?_;rintro F d⟨rfl,rfl⟩;exact⟨_,by simp[hp]<;>rfl,rfl⟩
def Acq(es:List V)(hp:es.all V.pureE=true)(c:es.all Ih=true)(f:es.length<=100000):ACO prog 136 [.ro 2 es] 2 121 (λF a=>(F=λd q=>.sl d q 2 es.length)/\a=es):=by
 have e:=N8 (b:=16) f dc;refine Kf func136 λw0 N0=>?_;refine Y [0] [] sr (J (Au 1 sr ?_));refine N4 rfl rfl sr rfl kr (λb h=>⟨_,by simp<;>rfl,?_⟩);refine Ak [0,4] [] sr ?_
 refine A1 (λh1=>?_) λh1=>?_
 .refine Y [2] [] sr ?_;have g:=Ag.1 (h h1);subst g;exact Fg 2 2 2 121 [2] [2] sr sr (Aj (Hv 2 sr rfl rfl sm sr ⟨rfl,rfl⟩))
 exact Y [2] [5] C1 (Aj (Hv 5 sr rfl rfl (sG c) sr ⟨rfl,rfl⟩))
def Asy(es:List V)(hp:es.all V.pureE=true)(a:es.all Ih=true)(c:es.length<=100000):AE 136 [.ro 2 es] (.ro 2 es):=by
 refine(Acq es hp a c).ac ?_;rintro F d⟨rfl,rfl⟩;exact⟨_,by simp[hp]<;>rfl,rfl⟩
def Api(es:List V)(hp:es.all V.pureE=true)(f:es.length<=100000):Q0 prog 137 [.ro 1 es] [] (λr c=>∃v,r=.sl 5 v 1 es.length/\c=[(5,⟨v,1,30,es⟩)]) (λ_=>False):=by
 have e:=N8 (b:=24) f dc;refine Ed func137 λw0 N0 a=>?_;refine Y [0] [] sr (J (Au 1 sr ?_));refine N4 rfl rfl sr rfl kr (λb h=>⟨_,by simp<;>rfl,?_⟩);refine Ak [0,4] [] sr ?_
 refine A1 (λh1=>?_) λh1=>?_
 .refine Y [2] [] sr ?_;have g:=Ag.1 (h h1);subst g;exact Fg 2 5 1 30 [2] [5] sr sr (Dc a (Ea (A7 _ _) sr ⟨_,rfl,rfl⟩ (λk o d=>B2 gt d)))
 exact Y [2] [5] C1 (Dc a (Ea (A7 _ _) sr ⟨_,rfl,rfl⟩ (λk o d=>B2 gt d)))
def Acr(S:AS)(o:Option (List Int)):S.viewC (bV o)=some (bV o):=by
 cases o with
 |none=>rfl
 |some l=>have:=Ac l;simp[bV,AS.viewC]
def Lj{a:Nat}{x y z g f h:Ob}(d:Eng.get [(a,x),(b,y),(c,z)] k=none):Eng.get [(a,g),(b,f),(c,h)] k=none:=by
 simp only[Eng.get]at d|-
 split at d
 .cases d
 .rename_i h1;rw[I h1]
  split at d
  .cases d
  .rename_i h2;rw[I h2]
   split at d
   .cases d
   .rename_i e;rw[I e]
def Zq(s:Ss)(d:Sd)(a:Nat):Bool:= !Ak1 s d a||decide (Awh s d a<d.least)
def Amy(s:Ss)(d:Sd):Sd:={d with best:=some d.x,most:=d.value,found:=true,least:=if s.once=true then 9223372036854775807 else IntKind.i64.wrap (d.value+1)}
def vI(s:Ss)(a:Nat):Nat:=(s.free.getD a 0).toNat
def Asz(s:Ss)(a:Nat):Bool:= !s.one&&decide (s.vals.getD (vI s a) 0<=0)
def Hi(s:Ss):Nat->Nat->Sd->Sd
 |0,a,d=>if Zq s d a=true then d else Amy s d
 |m+1,a,d=>if Zq s d a=true then d else
  if Asz s a=true then I4 s (Hi s m (a+1) (I4 s (Hi s m (a+1) d) (vI s a) 1)) (vI s a) 0
  else Hi s m (a+1) (I4 s (Hi s m (a+1) (I4 s d (vI s a) 1)) (vI s a) 0)
def A7z{s:Ss}{d:Sd}(h:WfD s d):WfD s (Amy s d):=⟨h.hx,h.hs⟩
def Ta{s:Ss}:∀(m a:Nat){d:Sd},WfD s d->WfD s (Hi s m a d)
 |0,a,d,h=>by rw[Hi];split;exact h;exact A7z h
 |m+1,a,d,h=>by
  rw[Hi]
  split
  .exact h
  .split
   .exact S9 (Ta m _ (S9 (Ta m _ h) _ _)) _ _
   .exact Ta m _ (S9 (Ta m _ (S9 h _ _)) _ _)
def Amz{s:Ss}{a:Nat}{d:Sd}(h:Zq s d a=true):Hi s m a d=d:=by cases m<;>rw[Hi,Ab h]
def Bih(s:Ss)(v f e m:Nat):Prop:=∀(a:Nat)(d:Sd),a+m=s.free.length->WfD s d->
 Q0 prog 323 [.bp 22 v 17 0 0,.i a] (Aeh s d v f e) (λr c=>r=.tup []/\c=Aeh s (Hi s m a d) v f e) (λ_=>False)
def Aip(s:Ss)(hs:WfS s)(v xq sq m:Nat)(ih:∀m',m'+1=m->Bih s v xq sq m'):Bih s v xq sq m:=by
 intro c d bi hd;have ah:=Asx s d c hs hd om;have af:=A7y s d c hs hd;have z:Zq s d c=(!Ak1 s d c||decide (Awh s d c<d.least)):=rfl;generalize t:Hi s m c d=R;generalize Ak1 s d c=ps,Awh s d c=bn at*;have n:=A0 d.x;have aj:=A0 d.sums;have ax:=A0 s.free;have a8:=A0 s.vals;have pb:=Agi d.best;have px:=Ac d.x;have ad:=Ac d.sums;have p1:=Ac s.vals;have p2:=Gu s.rows;have p3:=Ac s.fx;have p4:=Ac s.free;have p5:=D0 s.low;have p6:=D0 s.high;have p7:=Ac s.order;have hfl:=hs.hfl;have bh:=hs.hv;have a5:=λ(k:Nat)(h:k<s.free.length)=>Dk h
 have bb:=λ(k:Nat)(h:k<s.vals.length)=>Dk h
 have ay:=Fm px;have ar:=Fm ad;have bk:∀y:Option (List Int),∀u:Bool,∀w:V,(bV y=.whn u w)=False:=λy u w=>by cases y<;>simp[bV]
 refine Ed func323 λw0 N0 j=>?_;unfold Aeh;simp only[srC]at ah af|-;refine J ?_;cases ps with
 |false=>
  refine J (Ii [2] Jt ?_);refine Fk [0,2] sr sr ?_
  refine Hn (i:=2) (ks:=[]) kr rfl sm (Yg sm ah func345 rfl kr sr rfl rfl sr (by simp[n,aj,px,ad,↓Acr]<;>rfl) rfl sr) ?_;refine Fk [3,4] sr sr ?_
  refine Fk [7,7] sr sr ?_
  refine Gl [0,1,19] [22,27,61] kr sr ?_;refine Ek ?_;rw[Amz (by rw[z];rfl)]at t;subst t;exact Dc j (Ea (A7 _ _) sr ⟨rfl,rfl⟩ (λk o a=>Fs gt gt gt a))
 |true=>
 refine Lc ⟨[(0,V.bp 22 v 17 0 0),(1,V.i c),(19,V.bool (decide (bn<d.least)))],[(22,⟨v,17,455,[V.agg [V.ro 1 (Ap s.vals),V.ro 3 (G9 s.rows),V.ro 1 (Ap s.fx),V.ro 1 (Ap s.free),V.bool s.one,V.bool s.once,V.sl 27 xq 1 d.x.length,V.int IntKind.i64 d.value,V.sl 61 sq 1 d.sums.length,V.ro 1 (Eo s.low),V.ro 1 (Eo s.high),V.int IntKind.i64 s.wide,V.ro 1 (Ap s.order),V.int IntKind.i64 d.least,bV d.best,V.int IntKind.i64 d.most,V.bool d.found]]⟩),(27,⟨xq,1,3,Ap d.x⟩),(61,⟨sq,1,3,Ap d.sums⟩)],j+14,104⟩ ?h1 ?h2
 case h1=>
  refine Ii [2,7] Jt ?_;refine Fk [0,2] sr sr ?_
  refine Hn (i:=2) (ks:=[]) kr rfl sm (Yg sm ah func345 rfl kr sr rfl rfl sr (by simp[n,aj,px,ad,↓Acr]<;>rfl) rfl sr) ?_;refine Fk [3,4,8,3] sr sr ?_
  refine Km [7,11] kr ?_;intro i hi;simp only[Bu,Ck,or_false]at hi
  rcases hi with rfl|rfl
  .refine⟨_,_,rfl,Yg sm af func346 rfl kr sr rfl rfl sr (by simp[n,aj,px,ad,↓Acr]<;>rfl) rfl sr,?_⟩;refine Fk [11,3] sr sr ?_
   refine Gl [0,1,19] [22,27,61] kr sr ?_;exact⟨rfl,Z⟩
  .refine⟨_,_,rfl,Nc sr,?_⟩;refine Hn (i:=7) (ks:=[]) kr rfl sm (Yg sm af func346 rfl kr sr rfl rfl sr (by simp[n,aj,px,ad,↓Acr]<;>rfl) rfl sr) ?_;refine Fk [12,2] sr sr ?_
   refine Gl [0,1,19] [22,27,61] kr sr ?_;exact⟨rfl,Z⟩
 refine A1 (λh1=>?_) λh1=>?_
 .rw[Amz (by rw[z];simpa using h1)]at t;subst t;exact Dc j (Ea (A7 _ _) sr ⟨rfl,rfl⟩ (λk o a=>Fs gt gt gt a))
 have al:Zq s d c=false:=by rw[z];simpa using h1
 refine J (Y [0,1,26] [22,27,61] (by simp[ax]<;>rfl) ?_)
 refine A1 (λh2=>?_) λh2=>?_
 .have be:c=s.free.length:=by simp at h2;omega
  have a6:m=0:=om;subst a6;rw[Hi,I (by rw[al];simp)]at t;unfold Amy at t;have ak:=Acp (Ap d.x) px (Uk d.x) (by rw[A0,hd.hx];omega);refine Lc ⟨[(0,V.bp 22 v 17 0 0)],[(22,⟨v,17,455,[V.agg [V.ro 1 (Ap s.vals),V.ro 3 (G9 s.rows),V.ro 1 (Ap s.fx),V.ro 1 (Ap s.free),V.bool s.one,V.bool s.once,V.sl 27 xq 1 d.x.length,V.int IntKind.i64 d.value,V.sl 61 sq 1 d.sums.length,V.ro 1 (Eo s.low),V.ro 1 (Eo s.high),V.int IntKind.i64 s.wide,V.ro 1 (Ap s.order),V.int IntKind.i64 d.least,V.sl 34 (j+14+7+7) 1 d.x.length,V.int IntKind.i64 d.value,V.bool true]]⟩),(27,⟨xq,1,3,Ap d.x⟩),(61,⟨sq,1,3,Ap d.sums⟩),(34,⟨j+14+7+7,1,3,Ap d.x⟩)],j+14+7+21,104⟩ ?g1 ?g2
  case g1=>
   refine Ii [7] Jt ?_;refine Fk [0,7,8,3] sr sr ?_
   refine Km [7,11] kr ?_;intro i hi;simp only[Bu,Ck,or_false]at hi
   rcases hi with rfl|rfl
   .refine⟨_,_,rfl,Abu 34 sm ak func135 rfl kr sr rfl rfl sr (by simp[n,px]<;>rfl) sr,?_⟩;refine Fk [11,10] sr sr ?_
    refine Gl [0] [22,27,61,34] kr sr ?_;exact⟨rfl,Z⟩
   .refine⟨_,_,rfl,Nc sr,?_⟩;refine Hn (i:=7) (ks:=[]) kr rfl sm (Abu 34 sm ak func135 rfl kr sr rfl rfl sr (by simp[n,px]<;>rfl) sr) ?_;refine Fk [12,9] sr sr ?_
    refine Gl [0] [22,27,61,34] kr sr ?_;exact⟨rfl,Z⟩
  refine Bq 34 [0] [22,27,61] (by simp[px,ay,ar,n]<;>rfl) (A5 [] sr (J (A5 [56] sr ?_)))
  refine A1 (λh3=>?_) λh3=>?_
  .refine A6 [] [22,27,61] sr ?_;rw[Ab (sG h3)]at t;subst t;exact Dc j (Ea (A7 _ _) sr ⟨rfl,rfl⟩ (λk o a=>Fs (by simp[Eng.get,bV]) gt gt a))
  rw[I (sG h3)]at t;subst t;exact Dc j (Ea (A7 _ _) sr ⟨rfl,rfl⟩ (λk o a=>Fs (by simp[Eng.get,bV]) gt gt a))
 have bf:¬c=s.free.length:=λe=>by simp[e]at h2
 obtain⟨m',rfl⟩:∃m',m=m'+1:=⟨m-1,by omega⟩;obtain⟨l,aq⟩:∃x:Nat,x=c+1:=⟨_,rfl⟩;have Ec:IntKind.i64.wrap ((c:Int)+1)=(l:Int):=by rw[aq];exact A4 om
 have aa:c<s.free.length:=om;have gf:=a5 c aa;have⟨a7,a3⟩:=Gy hs.hf aa 0;have⟨i,hi⟩:=Cn a7;have aw:vI s c=i:=by unfold vI;rw[hi];rfl
 have a2:Asz s c=(!s.one&&decide (s.vals.getD i 0<=0)):=by unfold Asz;rw[aw]
 rw[hi]at gf a3;have ao:i<s.vals.length:=om;have gv:=bb i ao;rw[Hi,I (by rw[al];simp),a2,aw,<-aq]at t;have ab:=λd' am=>(ih m' rfl) l d' om am
 have ai:=λd' b am=>Bds s d' i b v xq sq hs am ao
 simp only[Aeh,srC]at ab ai;generalize s.vals.getD i 0=vi at*;refine Y [0,1,4] [22,27,61] (by simp[gf,aa,ax]<;>rfl) (A5 [5] (by simp[gv,ao,a8]<;>rfl) (J (A5 [83] sr ?_)))
 refine A1 (λh4=>?_) λh4=>?_
 .rw[Ab (sG h4)]at t;refine Ik 3 (by simp[Ec]<;>rfl) ?_;refine Dx (ab d hd) func323 rfl kr rfl rfl rfl sr (λk o a=>Fs gt gt gt a) ?_ λch f=>f.elim;rintro r g bj⟨rfl,rfl⟩bc;refine⟨λk a=>Lj a,_,by simp<;>rfl,?_⟩;have au:WfD s (Hi s m' l d):=Ta _ _ hd;generalize Hi s m' l d=d1 at*;refine Ak [0,1,4,5] [22,27,61] sr ?_;refine Au 2 sr ?_;refine Dx (ai d1 1 au) func347 rfl kr rfl rfl rfl sr (λk o a=>Fs gt gt gt a) ?_ λch f=>f.elim;rintro r g ba⟨rfl,rfl⟩av;refine⟨λk a=>Lj a,_,by simp<;>rfl,?_⟩;have ae:WfD s (I4 s d1 i 1):=S9 au _ _;generalize I4 s d1 i 1=d2 at*;refine Ak [0,1,4,5] [22,27,61] sr ?_;refine Au 3 (by simp[Ec]<;>rfl) ?_;refine Dx (ab d2 ae) func323 rfl kr rfl rfl rfl sr (λk o a=>Fs gt gt gt a) ?_ λch f=>f.elim;rintro r g a4⟨rfl,rfl⟩a1;refine⟨λk a=>Lj a,_,by simp<;>rfl,?_⟩;have ag:WfD s (Hi s m' l d2):=Ta _ _ ae;generalize Hi s m' l d2=d3 at*;refine Ak [0,1,4,5] [22,27,61] sr ?_;refine Au 2 sr ?_;refine Dx (ai d3 0 ag) func347 rfl kr rfl rfl rfl sr (λk o a=>Fs gt gt gt a) ?_ λch f=>f.elim;rintro r g a9⟨rfl,rfl⟩az;refine⟨λk a=>Lj a,_,by simp<;>rfl,?_⟩;have an:WfD s (I4 s d3 i 0):=S9 ag _ _;generalize I4 s d3 i 0=d4 at*;refine Ak [0,1,5] [22,27,61] sr ?_;refine Xa j ?_;refine Y [0,1,99] [22,27,61] sr ?_;refine Ce ?_;subst t;exact⟨by simp only;omega,.tup [],_,by simp[results323],(λk o a=>Fs gt gt gt a),rfl,rfl⟩
 rw[I (sG h4)]at t;refine Au 2 sr ?_;refine Dx (ai d 1 hd) func347 rfl kr rfl rfl rfl sr (λk o a=>Fs gt gt gt a) ?_ λch f=>f.elim;rintro r g ba⟨rfl,rfl⟩av;refine⟨λk a=>Lj a,_,by simp<;>rfl,?_⟩;have ae:WfD s (I4 s d i 1):=S9 hd _ _;generalize I4 s d i 1=d2 at*;refine Ak [0,1,4,5] [22,27,61] sr ?_;refine Au 3 (by simp[Ec]<;>rfl) ?_;refine Dx (ab d2 ae) func323 rfl kr rfl rfl rfl sr (λk o a=>Fs gt gt gt a) ?_ λch f=>f.elim;rintro r g a4⟨rfl,rfl⟩a1;refine⟨λk a=>Lj a,_,by simp<;>rfl,?_⟩;have ag:WfD s (Hi s m' l d2):=Ta _ _ ae;generalize Hi s m' l d2=d3 at*;refine Ak [0,1,4,5] [22,27,61] sr ?_;refine Au 2 sr ?_;refine Dx (ai d3 0 ag) func347 rfl kr rfl rfl rfl sr (λk o a=>Fs gt gt gt a) ?_ λch f=>f.elim;rintro r g a9⟨rfl,rfl⟩az;refine⟨λk a=>Lj a,_,by simp<;>rfl,?_⟩;have an:WfD s (I4 s d3 i 0):=S9 ag _ _;generalize I4 s d3 i 0=d4 at*;refine Ak [0,1,5] [22,27,61] sr ?_;refine Xa j ?_;refine Y [0,1,99] [22,27,61] sr ?_
 refine Lq rfl (λh6=>?_) (λh6=>absurd h4 (by revert h6;cases s.one<;>simp<;>omega))
 .refine Ik 3 (by simp[Ec]<;>rfl) ?_;refine Dx (ab d4 an) func323 rfl kr rfl rfl rfl sr (λk o a=>Fs gt gt gt a) ?_ λch f=>f.elim;rintro r g bg⟨rfl,rfl⟩a0;refine⟨λk a=>Lj a,_,by simp<;>rfl,?_⟩;have bd:WfD s (Hi s m' l d4):=Ta _ _ an;generalize Hi s m' l d4=d5 at*;refine Ak [] [22,27,61] sr ?_;subst t;exact⟨by simp only;simp at a0;omega,.tup [],_,by simp[results323],(λk o a=>Fs gt gt gt a),rfl,rfl⟩
def Am0(s:Ss)(hs:WfS s)(v c a:Nat):∀m,Bih s v c a m
 |0=>Aip s hs v c a 0 (λd h=>by omega)
 |m+1=>Aip s hs v c a (m+1) (λd h=>by
  have:d=m:=om;subst this;exact Am0 s hs v c a d)
def Am1(s:Ss)(hs:WfS s)(v e c:Nat)(d:Sd)(f:WfD s d):
  Q0 prog 323 [.bp 22 v 17 0 0,.i 0] (Aeh s d v e c) (λr a=>r=.tup []/\a=Aeh s (Hi s s.free.length 0 d) v e c) (λ_=>False):=
 Am0 s hs v e c s.free.length 0 d om f
variable {j:Nat}{x:Int}
def Qs(l:List Int)(j:Nat):List Int:=(l.set (j+1) (l.getD j 0)).set j (l.getD (j+1) 0)
def bub(cmp:Int->Int->Int):Nat->List Int->List Int
 |0,l=>l
 |j+1,l=>if cmp (l.getD (j+1) 0) (l.getD j 0)<0 then bub cmp j (Qs l j)else l
def Nr(cmp:Int->Int->Int)(l:List Int):Nat->List Int
 |0=>l
 |k+1=>bub cmp (k+1) (Nr cmp l k)
def Hk(cmp:Int->Int->Int)(l:List Int):List Int:=Nr cmp l (l.length-1)
def Uo(l:List Int)(j:Nat):(Qs l j).length=l.length:=by simp[Qs]
def Ay1(cmp:Int->Int->Int):∀(j:Nat)(l:List Int),(bub cmp j l).length=l.length
 |0,l=>rfl
 |j+1,l=>by rw[bub];split;rw[Ay1 cmp j,Uo];rfl
def Ox(cmp:Int->Int->Int)(l:List Int):∀k,(Nr cmp l k).length=l.length
 |0=>rfl
 |k+1=>by rw[Nr,Ay1,Ox cmp l k]
def Aei{l:List Int}(c:j+1<l.length)(h:x∈Qs l j):x∈l:=by
 unfold Qs at h;rw[Cr c,Cr (show j<l.length by omega)]at h
 rcases Fz h with h|h
 .rcases Fz h with h|h
  .exact h
  .rw[h];exact As _
 .rw[h];exact As _
def Ay2{cmp:Int->Int->Int}:∀(j:Nat)(l:List Int),j<l.length->x∈bub cmp j l->x∈l
 |0,l,_,h=>h
 |j+1,l,c,h=>by
  rw[bub]at h
  split at h
  .exact Aei c (Ay2 j _ (by rw[Uo];omega) h)
  .exact h
def Xd{cmp:Int->Int->Int}{l:List Int}:∀k,k<l.length->x∈Nr cmp l k->x∈l
 |0,_,h=>h
 |k+1,c,h=>Xd k om (Ay2 (k+1) _ (by rw[Ox];exact c) h)
def N9(cmp:Int->Int->Int)(l:List Int):(Hk cmp l).length=l.length:=Ox cmp l _
def Up{cmp:Int->Int->Int}{l:List Int}(h:x∈Hk cmp l):x∈l:=by
 cases l with
 |nil=>exact h
 |cons a t=>exact Xd _ sm h
def Aiq(d v:Nat)(l:List Int)(f:FuncId)(us vs:List V)(cmp:Int->Int->Int)(n:Nat)(a4:n<=l.length)(hl:l.length<=1000)
  (hf:∀a∈l,∀b∈l,Z9 G0 prog (.fc f us vs) [.i a,.i b] (λr=>r=.i (cmp a b))):
  Q0 prog 284 [.sl d v 1 l.length,.i 0,.i n,.fc f us vs] [(d,⟨v,1,3,Ap l⟩)] (λr t=>r=.tup []/\t=[(d,⟨v,1,3,Ap (Nr cmp l (n-1))⟩)]) (λ_=>False):=by
 have al:=Ox cmp l;have av:∀k,k<l.length->∀x∈Nr cmp l k,x∈l:=λk hk x hx=>Xd k hk hx
 have ag:∀k,Nr cmp l (k+1)=bub cmp (k+1) (Nr cmp l k):=λk=>rfl
 have ak:Nr cmp l 0=l:=rfl;generalize Nr cmp l=ik at*;refine Ed func284 λw0 N0 aa=>?_;refine Y [0,1,2,3,8] [d] sr (Ad (H4 (λk nx=>⟨[(0,V.sl d v 1 l.length),(1,V.i 0),(2,V.i n),(3,.fc f us vs),(8,.i (k+1:Nat))],[(d,⟨v,1,3,Ap (ik k)⟩)],nx,53⟩) (λk=>True) (n-1) _ trivial (by simp only[ak];exact Z) ?_));intro k nx hk hI;refine J (Y [0,1,2,3,8,14] [d] sr ?_)
 refine Bk (λh1=>?_) λh1=>?_
 .have ay:k+1<n:=by simp at h1;omega
  have aq:k+1<l.length:=om;have Ec:IntKind.i64.wrap ((k:Int)+1+1)=(k:Int)+1+1:=Bm om om;have ax:=ag k;have ae:=al k;have an:=av k om;refine J (Ad (Y [0,1,2,3,8,9] [d] sr (Ad ?_)))
  refine If (λx:List Int×Nat×Nat=>⟨[(0,V.sl d v 1 l.length),(1,V.i 0),(2,V.i n),(3,.fc f us vs),(8,.i (k+1:Nat)),(9,.i x.2.1)],[(d,⟨v,1,3,Ap x.1⟩)],x.2.2,53⟩)
   (λx=>x.1.length=l.length/\x.2.1<l.length/\(∀y∈x.1,y∈l)/\bub cmp x.2.1 x.1=ik (k+1)) (λx=>x.2.1) (ik k,k+1,_) ⟨ae,aq,an,ax.symm⟩ Z ?_
  rintro⟨A,j,a5⟩⟨ab,af,e,c⟩;simp only at ab af e c|-;refine J ?_;have az:=A0 A;cases j with
  |zero=>
   have ad:0<l.length:=om;have w:IntKind.i64.wrap (-1)= -1:=rfl;have aj:=Dk (l:=A) (k:=0) om;have ar:(Ap A).length=l.length:=om;refine J (Ii [] Jt ?_);refine Fk [0,8,9,4,8,1,13,4] sr C1 ?_
   refine Gl [0,1,2,3,8,9,34] [d] kr sr (Nf ?_);refine A3 (A6 [0,1,2,3,8] [d] C1 ?_);rw[bub]at c;exact⟨by omega,trivial,_,by rw[c];exact Z⟩
  |succ j=>
  have u:j+1<A.length:=om;have z:j<l.length:=om;have g1:=Dk u;have g0:=Dk (l:=A) (k:=j) om;have ah:A.getD (j+1) 0∈l:=e _ (by rw[Cr u];exact As _);have am:A.getD j 0∈l:=e _ (by rw[Cr (show j<A.length by omega)];exact As _);have hF:=hf _ ah _ am;rw[bub]at c;have a6:=Uo A j;have aw:=λ(u:j+1<A.length)(x:Int)(h:x∈Qs A j)=>e x (Aei u h)
  have m:IntKind.i64.wrap (j:Int)=(j:Int):=Bm om om;have s:(0:Int)<=(j:Int)+1/\(j:Int)+1<(l.length:Int):=om;have a7:j+1<(Ap A).length:=om;have a3:j<(Ap A).length:=om;have g:(Ap A).length=l.length:=om;have au:Ap (Qs A j)=((Ap A).set (j+1) (.i (A.getD j 0))).set j (.i (A.getD (j+1) 0)):=by unfold Qs;rw[Xc,Xc]
  generalize A.getD (j+1) 0=a1,A.getD j 0=a0 at*;obtain⟨i1,a2⟩:∃i1:Int,i1=((j+1:Nat):Int):=⟨_,rfl⟩;refine J (Ii [14] Jt ?_);refine Fk [0,14] sr C1 ?_
  refine Hn (i:=14) (ks:=[]) kr rfl sm (Wi sm (Awb _) hF sr rfl sr sr sm sr) (Fk [15,2] sr sr ?_)
  refine Gl [0,1,2,3,8,9,34] [d] kr sr ?_
  refine Bk (λh2=>?_) λh2=>?_
  .refine J ?_;rw[Ab (sG h2)]at c;have ai:∀x,Gz ((Ap A).set (j+1) x) j=some (.i a0):=λx=>by rw[C0,Ip om,<-C0];exact g0
   refine Ad (Ahm [0,9,10,3,9,1,13,5] [0,1,2,3,8,9] [d] sr C1 ?_);refine A6 [0,1,2,3,8,9] [d] C1 ?_;exact⟨(Qs A j,j,_),⟨by simp only;omega,by simp only;omega,aw u,c⟩,by simp only;omega,by simp only[au];exact Z⟩
  .rw[I (sG h2)]at c;refine A3 (A6 [0,1,2,3,8] [d] (by simp[Ec]<;>rfl) ?_);exact⟨by omega,trivial,_,by rw[<-c];exact Z⟩
 .have ao:k=n-1:=by simp at h1;omega
  subst ao;refine Xa aa (A3 ?_);exact⟨by simp only;omega,.tup [],_,by simp[results284],λk o hk=>B2 gt hk,rfl,rfl⟩
def Am2{cmp:Int->Int->Int}{l:List Int}(h:∀k,m<=k->k+1<l.length->0<=cmp ((Nr cmp l m).getD (k+1) 0) ((Nr cmp l m).getD k 0)):∀k,m<=k->k<l.length->Nr cmp l k=Nr cmp l m
 |0,h1,_=>by rw[X4.1 h1]
 |k+1,h1,h2=>by
  rcases Nat.eq_or_lt_of_le h1 with e|h3
  .rw[e]
  .rw[Nr,Am2 h k om om,bub,I (Int.not_lt.2 (h k om h2))]
def A2r(d v:Nat)(l:List Int)(f:FuncId)(us vs:List V)(cmp:Int->Int->Int)(a b:Nat)(hb:b<=l.length)(hl:l.length<=1000)
  (y:∀a∈l,∀b∈l,Z9 G0 prog (.fc f us vs) [.i a,.i b] (λr=>r=.i (cmp a b)))
  (hn:∀k,a<k->k<b->0<=cmp (l.getD k 0) (l.getD (k-1) 0))(ha:a<=1000):
  Q0 prog 284 [.sl d v 1 l.length,.i a,.i b,.fc f us vs] [(d,⟨v,1,3,Ap l⟩)] (λr e=>r=.tup []/\e=[(d,⟨v,1,3,Ap l⟩)]) (λ_=>False):=by
 have j:=A0 l;have hw0:IntKind.i64.wrap ((a:Int)+1)=((a+1:Nat):Int):=A4 om;refine Ed func284 λw0 N0 g=>?_;refine Y [0,1,2,3,8] [d] C1 (Ad ?_)
 refine Gn (λx:Nat×Nat=>[(8,.i (x.1:Nat))]) (λ_=>[]) (λx=>x.2)
  (λx=>a<x.1) (λx=>b-x.1) (a+1,_) sy Z ?_
 rintro⟨i,nx⟩c;simp only at c|-;refine J (Y [0,1,2,3,8,14] [d] sr ?_)
 refine Bk (λh1=>?_) λh1=>?_
 .have m:i<b:=by simp at h1;omega
  obtain⟨p,rfl⟩:∃p,i=p+1:=⟨i-1,by omega⟩;have u:=hn (p+1) c m;rw[Nt]at u;have Ec:IntKind.i64.wrap (((p+1:Nat):Int)+1)=((p+2:Nat):Int):=A4 om;have t:IntKind.i64.wrap (((p+1:Nat):Int)-1)=(p:Int):=by rw[Bm om oM];omega
  have hp:p<l.length:=om;have s:p+1<l.length:=om;have w:=Dk s;have z:=Dk hp;have hF:=y (l.getD (p+1) 0) (by rw[Cr s];exact As _) (l.getD p 0) (by rw[Cr hp];exact As _);generalize l.getD (p+1) 0=a1,l.getD p 0=a0 at*;have n:p+1<(Ap l).length:=om;have h:p<(Ap l).length:=om;generalize hq:p+1=q at*;refine J (Ad (Y [0,1,2,3,8,9] [d] sr (Ad (Gn (λnx:Nat=>[]) (λ_=>[]) (λnx=>nx) (λ_=>True) (λ_=>0) _ trivial Z ?_))));intro nx _;refine J (J (Ii [14] Jt ?_));refine Fk [0,14] sr C1 ?_
  refine Hn (i:=14) (ks:=[]) kr rfl sm (Wi sm (Awb _) hF sr rfl sr sr sm sr) (Fk [15,2] sr sr ?_)
  refine Gl [0,1,2,3,8,9,34] [d] kr sr (Nf ?_);refine A3 (A6 [0,1,2,3,8] [d] C1 ?_);exact⟨(p+2,_),by simp only;omega,by simp only;omega,Z⟩
 .refine Xa g (A3 ?_);exact⟨by simp only;omega,.tup [],_,by simp[results284],λk o hk=>B2 gt hk,rfl,rfl⟩
def Ay3{x y h:Nat}(hx:x<=1000)(hy:y<=1000)(hh:h=(x+y)/2):∃s:Int,IntKind.i64.wrap ((x:Int)+(y:Int))=s/\IntKind.u64.wrap s=s/\s.fdiv (2^min 1 IntKind.u64.bits)=(h:Int)/\IntKind.i64.wrap (h:Int)=(h:Int):=by
 refine⟨((x+y:Nat):Int),by rw[Bm om oM];omega,wrap_u64 om,?_,Bm om om⟩;rw[show(2:Int)^min 1 IntKind.u64.bits=2 by decide,B4 _ dC];omega
def As0(d v:Nat)(l:List Int)(f:FuncId)(us vs:List V)(cmp:Int->Int->Int)(hl:l.length<=1000)
  (hf:∀a∈l,∀b∈l,Z9 G0 prog (.fc f us vs) [.i a,.i b] (λr=>r=.i (cmp a b))):
  ∀(n a m b:Nat),b-a<=n->a<m->m<b->b<=l.length->(∀i j,a<=i->i<m->m<=j->j<b->0<=cmp (l.getD j 0) (l.getD i 0))->
  Q0 prog 356 [.sl d v 1 l.length,.i a,.i m,.i b,.fc f us vs] [(d,⟨v,1,3,Ap l⟩)] (λr ab=>r=.tup []/\ab=[(d,⟨v,1,3,Ap l⟩)]) (λ_=>False)
 |0,a,m,b,h0,h1,h2,_,_=>by omega
 |n+1,a,m,b,h0,h1,h2,h3,hn=>by
  have rc:=As0 d v l f us vs cmp hl hf n;have ai:=A0 l;have hg:=λi(h:i<l.length)=>Dk (l:=l) (k:=i) h
  have hF:=λi j(hi:i<l.length)(hj:j<l.length)=>hf (l.getD i 0) (by rw[Cr hi];exact As _) (l.getD j 0) (by rw[Cr hj];exact As _)
  have bc:IntKind.i64.wrap ((m:Int)-(a:Int))=((m-a:Nat):Int):=by rw[Bm om oM];omega
  have ba:IntKind.i64.wrap ((b:Int)-(m:Int))=((b-m:Nat):Int):=by rw[Bm om oM];omega
  refine Ed func356 λw0 N0 ah=>?_;refine J (Y [0,1,2,3,4,28] [d] C1 ?_)
  refine A1 (λc1=>?_) λc1=>?_
  .have bi:m=a+1:=by simp at c1;omega
   have wm:IntKind.i64.wrap ((m:Int)-1)=(a:Int):=by rw[Bm om oM];omega
   have ga:=hg a om;refine Y [0,1,3,4,10] [d] sr (Y [0,1,4,10,11] [d] sr (J (Ad ?_)));refine Gn (λx:Nat×Nat=>[(11,V.i x.1)]) (λ_=>[]) (λx=>x.2) (λx=>m<=x.1/\x.1<=b) (λx=>x.1-m) (b,_) ⟨by simp only;omega,by simp only;omega⟩ Z ?_;rintro⟨j,nx⟩⟨a8,bb⟩;simp only at a8 bb|-;refine J (Y [0,1,4,10,11,33] [d] sr ?_)
   refine Bk (λc2=>?_) λc2=>?_
   .have bl:m<j:=by simp at c2;omega
    obtain⟨h,hh⟩:∃h,h=(m+j)/2:=⟨_,rfl⟩;have⟨s,e1,e2,e3,e4⟩:=Ay3 (x:=m) (y:=j) om om hh;have z:h<l.length:=om;have av:a<l.length:=om;have ay:=hn a h (A2 _) h1 om om;have ae:=hF h a z av;have gh:=hg h z;have aa:h<(Ap l).length:=om;have ar:a<(Ap l).length:=om;generalize l.getD h 0=y1,l.getD a 0=y0 at*;refine Ad (Y [0,1,4,10,11,12] [d] (by simp[e1,e2,e3,e4]<;>rfl) (J (Ii [9] Jt ?_)));refine Fk [0,4,5,3,4,1,8,1] sr (by simp[gh,ga,z,av]<;>rfl) ?_
    refine Hn (i:=9) (ks:=[]) kr rfl sm (Wi sm (Awb _) ae sr rfl sr sr sm sr) ?_;refine Fk [10,1] sr sr ?_
    refine Gl [0,1,4,10,11,12,50] [d] kr sr ?_;refine Nf ?_;refine A6 [0,1,4,10,11] [d] sr ?_;exact⟨(h,_),⟨by simp only;omega,by simp only;omega⟩,by simp only;omega,Z⟩
   .refine A3 ?_;refine J (Y [0,10,13] [d] sr (Ad (Gn (λnx:Nat=>[]) (λ_=>[]) (λnx=>nx) (λ_=>True) (λ_=>0) _ trivial Z ?_)));intro nx _;refine J (Y [0,10,13,58] [d] (by simp[wm]<;>rfl) ?_);refine Nf ?_;refine Xa ah ?_;refine A3 ?_;exact Aj (Ara sy (by simp[results356]) (λk o u=>B2 gt u))
  refine J (Y [0,1,2,3,4,80] [d] (by simp[ba]<;>rfl) ?_)
  refine A1 (λc5=>?_) λc5=>?_
  .have bj:b=m+1:=by simp at c5;omega
   have gm:=hg m om;refine Y [0,2,4,14] [d] sr (Y [0,2,4,14,15] [d] sr (J (Ad ?_)));refine Gn (λx:Nat×Nat=>[(14,V.i x.1)]) (λ_=>[]) (λx=>x.2) (λx=>a<=x.1/\x.1<=m) (λx=>m-x.1) (a,_) ⟨by simp only;omega,by simp only;omega⟩ Z ?_;rintro⟨i,nx⟩⟨am,ak⟩;simp only at am ak|-;refine J (Y [0,2,4,14,15,85] [d] sr ?_)
   refine Bk (λc6=>?_) λc6=>?_
   .have ax:i<m:=by simp at c6;omega
    obtain⟨h,hh⟩:∃h,h=(i+m)/2:=⟨_,rfl⟩;have⟨s,e1,e2,e3,e4⟩:=Ay3 (x:=i) (y:=m) om om hh;have z:h<l.length:=om;have aq:m<l.length:=om;have ay:=hn h m om om (A2 _) h2;have ae:=hF m h aq z;have gh:=hg h z;have Ec:IntKind.i64.wrap ((h:Int)+1)=((h+1:Nat):Int):=A4 om;have aa:h<(Ap l).length:=om;have au:m<(Ap l).length:=om;generalize l.getD h 0=y1,l.getD m 0=y0 at*;refine Ad (Y [0,2,4,14,15,16] [d] (by simp[e1,e2,e3,e4]<;>rfl) (J (Ii [9] Jt ?_)));refine Fk [0,4,5,3,4,1,8,1] sr (by simp[gh,gm,z,aq]<;>rfl) ?_
    refine Hn (i:=9) (ks:=[]) kr rfl sm (Wi sm (Awb _) ae sr rfl sr sr sm sr) ?_;refine Fk [10,2] sr sr ?_
    refine Gl [0,2,4,14,15,16,103] [d] kr sr ?_;refine Ek ?_;refine A6 [0,2,4,14,15] [d] (by simp[Ec]<;>rfl) ?_;exact⟨(h+1,_),⟨by simp only;omega,by simp only;omega⟩,by simp only;omega,Z⟩
   .have ax:i=m:=by simp at c6;omega
    subst ax;refine A3 ?_;refine J (Y [0,14,17] [d] sr (Ad (Gn (λnx:Nat=>[]) (λ_=>[]) (λnx=>nx) (λ_=>True) (λ_=>0) _ trivial Z ?_)));intro nx _;refine J (Y [0,14,17,110] [d] sr ?_);refine Nf ?_;refine Xa ah ?_;refine A3 ?_;exact Aj (Ara sy (by simp[results356]) (λk o u=>B2 gt u))
  obtain⟨e,a7⟩:∃e,e=(a+b)/2:=⟨_,rfl⟩;have⟨s,e1,e2,e3,e4⟩:=Ay3 (x:=a) (y:=b) om om a7;have wn:IntKind.i64.wrap ((e:Int)+(m:Int))=((e+m:Nat):Int):=by rw[Bm om oM];omega
  obtain⟨s0,r0,t,w⟩:∃s0 r0:Nat,(e<m->s0=e+m-b/\r0=e)/\(¬e<m->s0=a/\r0=m):=by
   by_cases h:e<m
   .exact⟨_,_,λ_=>⟨rfl,rfl⟩,λh'=>absurd h h'⟩
   .exact⟨_,_,λh'=>absurd h' h,λ_=>⟨rfl,rfl⟩⟩
  have be:¬m-a=1:=sO c1
  have bh:¬b-m=1:=sO c5
  obtain⟨nn,a9⟩:∃nn,nn=e+m:=⟨_,rfl⟩;rw[<-a9]at wn;have a5:e<m->IntKind.i64.wrap ((nn:Int)-(b:Int))=(s0:Int):=λh=>by rw[Bm om oM];have:=t h;omega
  have wp:IntKind.i64.wrap ((nn:Int)-1)=((nn-1:Nat):Int):=by rw[Bm om oM];omega
  refine Y [0,1,2,3,4,18] [d] (by simp[e1,e2,e3,e4]<;>rfl) (Y [0,1,2,3,4,18,19] [d] (by simp[wn]<;>rfl) (Y [0,1,2,3,4,18,19] [d] sr ?_))
  refine Lc ⟨[(0,V.sl d v 1 l.length),(1,V.i a),(2,V.i m),(3,V.i b),(4,.fc f us vs),(18,V.i e),(19,V.i nn),(20,V.i s0),(21,V.i r0)],[(d,⟨v,1,3,Ap l⟩)],ah+1000,220⟩ ?_ ?_
  .refine Y [0,1,2,3,4,18,19,140] [d] sr ?_
   refine Co (λc9=>?_) λc9=>?_
   .have g:e<m:=by simp at c9;omega
    have hr:=(t g).2;refine Y [0,1,2,3,4,18,19,20] [d] (by simp[a5 g]<;>rfl) (A6 [0,1,2,3,4,18,19,20,21] [d] sr ?_);rw[hr];exact⟨rfl,Wg rfl rfl rfl sy⟩
   .have g:¬e<m:=by simp at c9;omega
    have⟨q1,q2⟩:=w g;refine Y [0,1,2,3,4,18,19,20] [d] sr (A6 [0,1,2,3,4,18,19,20,21] [d] sr ?_);rw[q1,q2];exact⟨rfl,Wg rfl rfl rfl sy⟩
  obtain⟨p,hp⟩:∃p,p=nn-1:=⟨_,rfl⟩;rw[<-hp]at wp
  have bk:s0<=r0:=by
   by_cases h:e<m
   .have:=t h;omega
   .have:=w h;omega
  refine Y [0,1,2,3,4,18,19,20,21,22] [d] (by simp[wp]<;>rfl) (J (Ad ?_));refine Gn (λx:Nat×Nat=>[(20,V.i x.1)]) (λ_=>[]) (λx=>x.2) (λx=>s0<=x.1/\x.1<=r0) (λx=>r0-x.1) (s0,_) ⟨by simp only;omega,by simp only;omega⟩ Z ?_;rintro⟨i,nx⟩⟨am,ak⟩;simp only at am ak|-;refine J (Y [0,1,2,3,4,18,19,20,21,22,151] [d] sr ?_)
  refine Bk (λca=>?_) λca=>?_
  .have aw:i<r0:=by simp at ca;omega
   obtain⟨c,hh⟩:∃c,c=(i+r0)/2:=⟨_,rfl⟩
   have bf:s0<=c/\c<r0/\r0<=1000/\i<=1000:=by
    by_cases h:e<m
    .have:=t h;omega
    .have:=w h;omega
   have⟨s',f1,f2,f3,f4⟩:=Ay3 (x:=i) (y:=r0) om om hh;obtain⟨q,hq⟩:∃q,q=p-c:=⟨_,rfl⟩
   have af:a<=c/\c<m/\m<=q/\q<b/\c<=p:=by
    by_cases h:e<m
    .have:=t h;omega
    .have:=w h;omega
   have wq:IntKind.i64.wrap ((p:Int)-(c:Int))=(q:Int):=by rw[Bm om oM];omega
   have aj:c<l.length:=om;have al:q<l.length:=om;have ay:=hn c q af.1 af.2.1 af.2.2.1 af.2.2.2.1;have ae:=hF q c al aj;have gc:=hg c aj;have gq:=hg q al;have Ec:IntKind.i64.wrap ((c:Int)+1)=((c+1:Nat):Int):=A4 om;have ao:c<(Ap l).length:=om;have az:q<(Ap l).length:=om;generalize l.getD c 0=y1,l.getD q 0=y0 at*;refine Ad (Y [0,1,2,3,4,18,19,20,21,22,23] [d] (by simp[f1,f2,f3,f4]<;>rfl) (J (Ii [11] Jt ?_)));refine Fk [0,6,7,3,6,1,10,1] sr (by simp[wq,gc,gq,aj,al]<;>rfl) ?_
   refine Hn (i:=11) (ks:=[]) kr rfl sm (Wi sm (Awb _) ae sr rfl sr sr sm sr) ?_;refine Fk [12,2] sr sr ?_
   refine Gl [0,1,2,3,4,18,19,20,21,22,23,171] [d] kr sr ?_;refine Ek ?_;refine A6 [0,1,2,3,4,18,19,20,21,22] [d] (by simp[Ec]<;>rfl) ?_;exact⟨(c+1,_),⟨by simp only;omega,by simp only;omega⟩,by simp only;omega,Z⟩
  have aw:i=r0:=sO ca
  subst aw;refine Xa ah ?_;refine A3 ?_
  have we:IntKind.i64.wrap ((nn:Int)-(i:Int))=((nn-i:Nat):Int):=by
   rw[Bm om oM]
   by_cases h:e<m
   .have:=t h;omega
   .have:=w h;omega
  obtain⟨en,bd⟩:∃en,en=nn-i:=⟨_,rfl⟩;rw[<-bd]at we;refine Y [0,1,2,3,4,18,20,24] [d] (by simp[we]<;>rfl) (J ?_)
  have bg:¬(i<m/\m<en):=by
   by_cases h:e<m
   .have:=t h;omega
   .have:=w h;omega
  refine Y [0,1,2,3,4,18,20,24,185] [d] sr ?_;refine Ce (J ?_)
  by_cases g:e<m
  .have⟨q1,q2⟩:=t g;have ag:en=m:=om;subst q2;refine Y [0,1,3,4,18,20,24,199] [d] sr ?_;refine Ce (Y [0,3,4,18,24,213] [d] (by simp[ag,g,h2]<;>rfl) ?_);refine Ek ?_;have rq:=rc i m b om g h2 h3 (λx y a1 a2 a3 a4=>hn x y om a2 a3 a4);refine Ik 5 sr ?_;refine Dx rq func356 rfl kr rfl rfl rfl sr (λk o u=>B2 gt u) ?_ λch an=>an.elim;rintro r ab a0⟨rfl,rfl⟩ad;refine⟨λk u=>J4 u,_,by simp<;>rfl,?_⟩;refine Ak [] [d] sr ?_;exact⟨by simp only;simp at ad;omega,.tup [],_,by simp[results356],λk o u=>B2 gt u,rfl,rfl⟩
  .have⟨q1,q2⟩:=w g;have ag:en=e:=om;subst q2;refine Y [0,1,3,4,18,20,24,199] [d] (by simp[h1]<;>rfl) ?_
   refine A1 (λcd=>?_) λcd=>?_
   .have a6:i<e:=by simp at cd;omega
    have rq:=rc a i e om h1 a6 om (λx y a1 a2 a3 a4=>hn x y a1 a2 a3 om);refine Ik 5 sr ?_;refine Dx rq func356 rfl kr rfl rfl rfl sr (λk o u=>B2 gt u) ?_ λch an=>an.elim;rintro r ab a0⟨rfl,rfl⟩ad;refine⟨λk u=>J4 u,_,by simp<;>rfl,?_⟩;refine Ak [0,3,4,18,24] [d] sr ?_;refine Y [0,3,4,18,24,213] [d] (by simp[ag]<;>rfl) ?_;refine Ce ?_;exact⟨by simp only;simp at ad;omega,.tup [],_,by simp[results356],λk o u=>B2 gt u,rfl,rfl⟩
   .refine Y [0,3,4,18,24,213] [d] (by simp[ag]<;>rfl) ?_;refine Ce ?_;exact⟨by simp only;omega,.tup [],_,by simp[results356],λk o u=>B2 gt u,rfl,rfl⟩
def A2s(d v:Nat)(l:List Int)(f:FuncId)(us vs:List V)(cmp:Int->Int->Int)(hl:l.length<20)
  (w:∀a∈l,∀b∈l,Z9 G0 prog (.fc f us vs) [.i a,.i b] (λr=>r=.i (cmp a b))):
  Q0 prog 341 [.sl d v 1 l.length,.i l.length,.fc f us vs] [(d,⟨v,1,3,Ap l⟩)] (λr c=>r=.tup []/\c=[(d,⟨v,1,3,Ap (Hk cmp l)⟩)]) (λ_=>False):=by
 have e:=Aiq d v l f us vs cmp l.length (A2 _) om w;change Q0 _ _ _ _ (λr c=>r=.tup []/\c=[(d,⟨v,1,3,Ap (Hk cmp l)⟩)]) _ at e;have n:¬(20:Int)<=l.length:=om;have h:¬(20:Int)<l.length:=om;have g:=N9 cmp l;refine Ed func341 λw0 N0 j=>?_;refine Y [0,1,2,6] [d] sr (Y [0,1,2,6,7,8] [d] sr (J (Ad (Gn (λnx:Nat=>[]) (λ_=>[]) (λnx=>nx) (λ_=>True) (λ_=>0) _ trivial Z ?_))));intro nx _;refine J (Y [0,1,2,6,7,8,13] [d] sr ?_)
 refine Nf ?_
 .refine A3 (Au 4 sr ?_);refine Dx e func284 rfl kr rfl rfl rfl sr (λk o g=>B2 gt g) ?_ λch m=>m.elim;rintro r c u⟨rfl,rfl⟩s;refine⟨λk g=>J4 g,_,by simp<;>rfl,?_⟩;refine Ak [0,1,2,6] [d] sr (Ad (Gn (λnx:Nat=>[]) (λ_=>[]) (λnx=>nx) (λ_=>True) (λ_=>0) _ trivial Z ?_));intro t _;refine J (Y [0,1,2,6,30] [d] sr ?_)
  refine Nf ?_
  .refine Xa j (A3 ?_);exact⟨by simp only;omega,.tup [],_,by simp[results341],λk o g=>B2 gt g,rfl,rfl⟩
def Awi{l:List Int}(h:j+1<k):(Qs l j).drop k=l.drop k:=by
 unfold Qs;rw[Qu om,Qu h]
def As1{cmp:Int->Int->Int}:∀(j:Nat)(l:List Int),j<k->(bub cmp j l).drop k=l.drop k
 |0,l,_=>rfl
 |j+1,l,h=>by
  rw[bub]
  split
  .rw[As1 j _ om,Awi oM]
  .rfl
def Am3{cmp:Int->Int->Int}{l:List Int}:∀(k:Nat){m:Nat},k<m->(Nr cmp l k).drop m=l.drop m
 |0,_,_=>rfl
 |k+1,m,h=>by rw[Nr,As1 _ _ h,Am3 k om]
def A2t(d v:Nat)(l:List Int)(f:FuncId)(us vs:List V)(cmp:Int->Int->Int)(ax:20<=l.length)(a2:l.length<40)(hz:∀x∈l.drop 20,∀y∈l,0<=cmp x y)
  (hf:∀a∈l,∀b∈l,Z9 G0 prog (.fc f us vs) [.i a,.i b] (λr=>r=.i (cmp a b))):
  Q0 prog 341 [.sl d v 1 l.length,.i l.length,.fc f us vs] [(d,⟨v,1,3,Ap l⟩)] (λr c=>r=.tup []/\c=[(d,⟨v,1,3,Ap (Hk cmp l)⟩)]) (λ_=>False):=by
 have cA:=Aiq d v l f us vs cmp 20 ax om hf;have ab:=Ox cmp l 19;have g:∀x∈Nr cmp l 19,x∈l:=λx hx=>Xd 19 om hx
 have au:=Am3 (cmp:=cmp) (l:=l) 19 (m:=20) om
 have z:∀k,20<=k->k<l.length->(Nr cmp l 19).getD k 0∈l.drop 20:=λk h1 h2=>by
  rw[<-au,Cr oM];exact Sp.2 ⟨k-20,by omega,by congr 1;omega⟩
 have aa:∀k,k<l.length->(Nr cmp l 19).getD k 0∈l:=λk h2=>by
  rw[Cr oM];exact g _ (As _)
 have av:Hk cmp l=Nr cmp l 19:=Am2 (λk h1 h2=>hz _ (z _ om h2) _ (aa _ om)) _ om om;rw[av];change Q0 _ _ _ _ (λr c=>r=.tup []/\c=[(d,⟨v,1,3,Ap (Nr cmp l 19)⟩)]) _ at cA;rw[show(((20:Nat):Nat):Int)=(20:Int)from rfl]at cA;have cB:=A2r d v (Nr cmp l 19) f us vs cmp 20 l.length om om (λa ha b hb=>hf a (g a ha) b (g b hb)) (λk h1 h2=>hz _ (z _ om h2) _ (aa _ om)) om;have cC:=λh=>As0 d v (Nr cmp l 19) f us vs cmp om (λa ha b hb=>hf a (g a ha) b (g b hb)) 100 0 20 l.length om om h om (λi j _ h2 h3 h4=>hz _ (z _ h3 h4) _ (aa _ om))
 rw[show(((20:Nat):Nat):Int)=(20:Int)from rfl,ab]at cB;rw[show(((20:Nat):Nat):Int)=(20:Int)from rfl,show(((0:Nat):Nat):Int)=(0:Int)from rfl,ab]at cC;have a3:(Ap (Nr cmp l 19)).length=l.length:=by rw[A0,ab]
 generalize Ap (Nr cmp l 19)=B at*;have a0:=A0 l;generalize Ap l=A at*;obtain⟨L,al,aj⟩:∃L:Nat->List V,L 0=A/\L 1=B:=⟨λk=>if k=0 then A else B,rfl,rfl⟩;obtain⟨u,am,ah⟩:∃u:Nat->Int,u 0=0/\u 1=20:=⟨λk=>if k=0 then 0 else 20,rfl,rfl⟩;obtain⟨w,hw0,Ec⟩:∃w:Nat->Int,w 0=20/\w 1=40:=⟨λk=>if k=0 then 20 else 40,rfl,rfl⟩;have ad:(20:Int)<=l.length:=om;have s:¬(40:Int)<=l.length:=om;have af:¬(40:Int)<l.length:=om;have ao:IntKind.i64.wrap (20+20)=40:=rfl;have ag:IntKind.i64.wrap (20*2)=40:=rfl;have an:IntKind.i64.wrap (2*20)=40:=rfl;have ar:IntKind.i64.wrap 20=20:=rfl;have t:IntKind.i64.wrap 40=40:=rfl;refine Ed func341 λw0 N0 ae=>?_;refine Y [0,1,2,6] [d] sr (Y [0,1,2,6,7,8] [d] sr (J (Ad (If (λx:Nat×Nat=>⟨[(0,V.sl d v 1 l.length),(1,V.i l.length),(2,.fc f us vs),(6,V.i 20),(7,V.i (u x.1)),(8,V.i (w x.1))],[(d,⟨v,1,3,L x.1⟩)],x.2,63⟩) (λx=>x.1<=1) (λx=>1-x.1) (0,_) sm (by simp only[al,am,hw0];exact Z) ?_))));rintro⟨k,nx⟩e;simp only at e|-;refine J ?_
 obtain rfl|rfl:k=0\/k=1:=by omega
 .rw[al,am,hw0];refine Y [0,1,2,6,7,8,13] [d] sr (Aff ?_);refine Ad (Au 4 sr ?_);refine Dx cA func284 rfl kr rfl rfl rfl sr (λk o e=>B2 gt e) ?_ λch n=>n.elim;rintro r c aq⟨rfl,rfl⟩ai;refine⟨λk e=>J4 e,_,by simp<;>rfl,?_⟩;refine Ak [0,1,2,6,8] [d] sr (Y [0,1,2,6,7,8] [d] sr (A6 [0,1,2,6,7,8] [d] C1 ?_));exact⟨(1,_),by simp,by simp,by simp only[aj,ah,Ec];exact Z⟩
 rw[aj,ah,Ec];refine Y [0,1,2,6,7,8,13] [d] sr (Nf ?_);refine A3 (Au 4 sr ?_);refine Dx cB func284 rfl kr rfl rfl rfl sr (λk o e=>B2 gt e) ?_ λch n=>n.elim;rintro r c aq⟨rfl,rfl⟩ai;refine⟨λk e=>J4 e,_,by simp<;>rfl,?_⟩;refine Ak [0,1,2,6] [d] sr (Ad (Gn (λx:Nat×Nat=>[(6,V.i (w x.1))]) (λ_=>[]) (λx=>x.2) (λx=>x.1<=1) (λx=>1-x.1) (0,_) sm (by simp only[hw0];exact Z) ?_));rintro⟨k,az⟩e;simp only at e|-;refine J ?_
 obtain rfl|rfl:k=0\/k=1:=by omega
 .rw[hw0];refine Y [0,1,2,6,30] [d] sr ?_
  refine Bk (λh2=>?_) λh2=>?_
  .have aw:20<l.length:=by simp at h2;omega
   have ak:(20:Int)<l.length:=om;refine Ad (Y [0,1,2,6,7,8] [d] C1 (J (Ad (Gn (λnx:Nat=>[]) (λ_=>[]) (λnx=>nx) (λ_=>True) (λ_=>0) _ trivial Z ?_))));intro a4 _;refine J (Y [0,1,2,6,7,8,35] [d] sr ?_);refine Nf ?_;refine A3 (J (Y [0,1,2,6,7,9] [d] C1 (Y [0,1,2,6,7,9,54] [d] sr ?_)));refine Ek ?_;refine Ik 5 sr (Dx (cC aw) func356 rfl kr rfl rfl rfl sr (λk o e=>B2 gt e) ?_ (λch n=>n.elim));rintro r c a1⟨rfl,rfl⟩ay;refine⟨λk e=>J4 e,_,by simp<;>rfl,?_⟩;refine Ak [0,1,2,6] [d] sr (A6 [0,1,2,6] [d] C1 ?_);exact⟨(1,_),by simp,by simp,by simp only[Ec];exact Z⟩
  .refine Xa ae (A3 ?_);exact⟨by simp only;omega,.tup [],_,by simp[results341],λk o e=>B2 gt e,rfl,rfl⟩
 .rw[Ec];refine Y [0,1,2,6,30] [d] sr (Nf ?_);refine Xa ae (A3 ?_);exact⟨by simp only;omega,.tup [],_,by simp[results341],λk o e=>B2 gt e,rfl,rfl⟩
def A70(d v:Nat)(l:List Int)(f:FuncId)(us vs:List V)(cmp:Int->Int->Int)(j:l.length<20\/(l.length<40/\∀x∈l.drop 20,∀y∈l,0<=cmp x y))
  (g:∀a∈l,∀b∈l,Z9 G0 prog (.fc f us vs) [.i a,.i b] (λr=>r=.i (cmp a b))):
  Q0 prog 341 [.sl d v 1 l.length,.i l.length,.fc f us vs] [(d,⟨v,1,3,Ap l⟩)] (λr c=>r=.tup []/\c=[(d,⟨v,1,3,Ap (Hk cmp l)⟩)]) (λ_=>False):=by
 rcases Cz l.length 20 with h|h
 .exact A2s d v l f us vs cmp h g
 .exact A2t d v l f us vs cmp h (j.elim (λe=>absurd e om) And.left) (j.elim (λe=>absurd e om) And.right) g
def Am4(d v:Nat)(l:List Int)(f:FuncId)(us vs:List V)(cmp:Int->Int->Int)(t:l.length<20\/(l.length<40/\∀x∈l.drop 20,∀y∈l,0<=cmp x y))
  (s:∀a∈l,∀b∈l,Z9 G0 prog (.fc f us vs) [.i a,.i b] (λr=>r=.i (cmp a b))):
  Q0 prog 320 [.sl d v 1 l.length,.fc f us vs] [(d,⟨v,1,3,Ap l⟩)] (λr c=>r=.tup []/\c=[(d,⟨v,1,3,Ap (Hk cmp l)⟩)]) (λ_=>False):=by
 refine Ed func320 λw0 N0 m=>?_;refine Ik 4 sr (Dx (A70 d v l f us vs cmp t s) func341 rfl kr rfl rfl rfl sr (λk o g=>B2 gt g) ?_ (λch j=>j.elim));rintro r c n⟨rfl,rfl⟩h;refine⟨λk g=>J4 g,_,by simp<;>rfl,?_⟩;refine Ak [] [d] sr ?_;exact⟨by simp only;simp at h;omega,.tup [],_,by simp[results320],λk o g=>B2 gt g,rfl,rfl⟩
def Awj{l:List Int}(h:j+1<l.length):(Qs l j).Perm l:=by
 have:= @List.set_set_perm Int l (j+1) j h om;unfold Qs
 rwa[Cr h,Cr (show j<l.length by omega)]
def As2(a:Int->Int->Int):∀(j:Nat)(l:List Int),j<l.length->(bub a j l).Perm l
 |0,l,_=>.refl _
 |j+1,l,h=>by
  rw[bub]
  split
  .exact(As2 a j _ (by rw[Uo];omega)).trans (Awj h)
  .exact .refl _
def Am5(a:Int->Int->Int)(l:List Int):∀k,k<l.length->(Nr a l k).Perm l
 |0,_=>.refl _
 |k+1,h=>(As2 a (k+1) _ (by rw[Ox];exact h)).trans (Am5 a l k om)
def R4(c:Int->Int->Int)(l:List Int):(Hk c l).Perm l:=by
 cases l with
 |nil=>exact .refl _
 |cons a t=>exact Am5 c _ _ sm
def Bmh(c:Int->Int->Int)(l:List Int)(K j:Nat):Prop:=∀a b,a<b->b<=K->b≠j->¬c (l.getD b 0) (l.getD a 0)<0
structure CmpOk(cmp:Int->Int->Int)(P:Int->Prop):Prop where
 asym:∀x y,P x->P y->cmp x y<0->¬cmp y x<0
 trans:∀x y z,P x->P y->P z->¬cmp y x<0->¬cmp z y<0->¬cmp z x<0
def As3{l:List Int}(h:j+1<l.length)(i:Nat):(Qs l j).getD i 0=if i=j then l.getD (j+1) 0 else if i=j+1 then l.getD j 0 else l.getD i 0:=by
 unfold Qs;simp only[List.getD,Lv,Hy]
 by_cases h1:i=j
 .subst h1;simp[show i<l.length by omega]
 .rw[I (Ne.symm h1),I h1]
  by_cases h2:i=j+1
  .subst h2;simp[h]
  .rw[I (Ne.symm h2),I h2]
def Ay4{c:Int->Int->Int}{P:Int->Prop}(r:CmpOk c P){K:Nat}:∀(j:Nat)(l:List Int),j<=K->K<l.length->(∀x∈l,P x)->Bmh c l K j->∀a b,a<b->b<=K->¬c ((bub c j l).getD b 0) ((bub c j l).getD a 0)<0
 |0,l,_,_,_,h=>λa b d k=>h a b d k om
 |j+1,l,hj,hK,hp,h=>by
  have m:∀i,i<l.length->P (l.getD i 0):=λi u=>Gy hp u 0
  rw[bub]
  by_cases e:c (l.getD (j+1) 0) (l.getD j 0)<0
  .rw[Ab e];have s:j+1<l.length:=om;refine Ay4 r j (Qs l j) om (by rw[Uo];omega) (λx t=>hp x (Aei s t)) ?_;intro a b d k f;rw[As3 s,As3 s,I f]
   by_cases n:b=j+1
   .rw[Ab n]
    by_cases g:a=j
    .rw[Ab g];exact r.asym _ _ (m _ om) (m _ om) e
    .rw[I g,I oM];exact h a j om om om
   .rw[I n]
    by_cases g:a=j
    .rw[Ab g];exact h (j+1) b om k om
    .rw[I g]
     by_cases o:a=j+1
     .rw[Ab o];exact h j b om k om
     .rw[I o];exact h a b d k om
  .rw[I e];intro a b d k
   by_cases f:b=j+1
   .subst f
    by_cases g:a=j
    .rw[g];exact e
    .exact r.trans _ _ _ (m _ om) (m _ om) (m _ om) (h a j om om om) e
   .exact h a b d k f
def As4{c:Int->Int->Int}{P:Int->Prop}(e:CmpOk c P){l:List Int}(hp:∀x∈l,P x):∀k,k<l.length->∀a b,a<b->b<=k->¬c ((Nr c l k).getD b 0) ((Nr c l k).getD a 0)<0
 |0,_=>λa b d i=>by omega
 |k+1,g=>by
  rw[Nr];refine Ay4 e (k+1) _ (A2 _) (by rw[Ox];exact g) (λx f=>hp x (Xd k om f)) ?_;intro a b d i h;exact As4 e hp k om a b d om
def Aej{c:Int->Int->Int}{P:Int->Prop}(g:CmpOk c P){l:List Int}(hp:∀x∈l,P x):(Hk c l).Pairwise (λa b=>¬c b a<0):=by
 rw[H1];intro i j e f d;rw[N9]at e f;have:=As4 g hp (l.length-1) om i j d om;unfold Hk
 rwa[Cr (by rw[Ox];exact f),Cr (by rw[Ox];exact e)]at this
def A2u{c:Int->Int->Int}{P:Int->Prop}(f:CmpOk c P){l m:List Int}(hp:∀x∈l,P x)(e:l.Perm m)
  (j:∀x y,P x->P y->¬c x y<0->¬c y x<0->x=y):Hk c l=Hk c m:=by
 have d:∀x∈m,P x:=λx h=>hp x (e.mem_iff.2 h)
 refine Ty (le:=λa b=>¬c b a<0) ?_ (Aej f hp) (Aej f d) (((R4 c l).trans e).trans (R4 c m).symm);intro a b h1 h2 g i;exact j a b (hp a (Up h1)) (d b (Up h2)) i g
variable {i:Nat}{y:List Int}
def M7(c x:List Int):Nat->Int
 |0=>0
 |k+1=>M7 c x k+c.getD k 0*x.getD k 0
def Ak2(n:Nat)(x:List Int):Prop:=x.length=n/\∀i,x.getD i 0=0\/x.getD i 0=1
def Bnd(c:List Int):Prop:=∀i,-1000000<=c.getD i 0/\c.getD i 0<=1000000
def Vh{c x:List Int}(d:Bnd c)(a:Ak2 n x):∀k:Nat,-1000000*(k:Int)<=M7 c x k/\M7 c x k<=1000000*(k:Int)
 |0=>by simp[M7]
 |k+1=>by
  have ih:=Vh d a k;have h1:=d k;rw[M7];rcases a.2 k with h|h<;>rw[h]<;>omega
def Air{c x:List Int}(d:Bnd c)(a:Ak2 n x):∀k,k<=1000->Acm c x k=M7 c x k
 |0,_=>rfl
 |k+1,hk=>by
  have hb:=Vh d a k;have h1:=d k;rw[Acm,(Air d a k om),M7]
  rcases a.2 k with h|h<;>rw[h]
  .rw[Int.mul_zero,Bm (x:=0) om om,Bm om oM]
  .rw[Int.mul_one,Bm (x:=c.getD k 0) om om,Bm om oM]
def Kt(x:List Int)(i:Nat)(b:Int)(k:Nat):(x.set i b).getD k 0=if k=i/\i<x.length then b else x.getD k 0:=by
 simp only[List.getD,Lv]
 by_cases h:i=k
 .subst h
  by_cases h2:i<x.length
  .simp[h2]
  .simp[h2]
 .rw[I h,I (λa=>h a.1.symm)]
def Acs{x:List Int}(c:List Int)(b:Int)(a:i<x.length):∀k,M7 c (x.set i b) k=M7 c x k+if i<k then c.getD i 0*(b-x.getD i 0)else 0
 |0=>by simp[M7]
 |k+1=>by
  rw[M7,M7,Acs c b a k,Kt]
  by_cases h:k=i
  .subst h;rw[I (c:=k<k) om,Ab (c:=k=k/\k<x.length) ⟨rfl,a⟩,Ab (c:=k<k+1) om,Int.mul_sub];omega
  .rw[I (c:=k=i/\i<x.length) (λh2=>h h2.1)]
   by_cases h2:i<k
   .rw[Ab (c:=i<k) h2,Ab (c:=i<k+1) oM];omega
   .rw[I (c:=i<k) h2,I (c:=i<k+1) oM];omega
def Ais{x:List Int}(c:List Int)(h:∀i,y.getD i 0=x.getD i 0):∀k,M7 c y k=M7 c x k
 |0=>rfl
 |k+1=>by rw[M7,M7,Ais c h k,h k]
def As5{x:List Int}(a:Ak2 n x)(i:Nat){b:Int}(c:b=0\/b=1):Ak2 n (x.set i b):=
 ⟨by rw[Hy];exact a.1,λk=>by rw[Kt];split;exact c;exact a.2 k⟩
def Iy(f:Nat->Int):List Nat->Int
 |[]=>0
 |i::t=>f i+Iy f t
def As6(f:Nat->Int)(l m:List Nat):Iy f (l++m)=Iy f l+Iy f m:=by
 induction l with
 |nil=>simp[Iy]
 |cons a t ih=>simp only[Cj,Iy,ih];omega
def Am6(f:Nat->Int){l m:List Nat}(h:l.Perm m):Iy f l=Iy f m:=by
 induction h with
 |nil=>rfl
 |cons a _ ih=>simp only[Iy,ih]
 |swap a b l=>simp only[Iy];omega
 |trans _ _ h1 h2=>rw[h1,h2]
def Agj{f g:Nat->Int}{l:List Nat}(h:∀i∈l,f i<=g i):Iy f l<=Iy g l:=by
 induction l with
 |nil=>exact Int.le_refl _
 |cons a t ih=>
  have h1:=h a sm;have h2:=ih (λi c=>h i Gi);simp only[Iy];omega
def Apj{f:Nat->Int}{l:List Nat}(h:∀i∈l,-1000000<=f i/\f i<=1000000): -1000000*(l.length:Int)<=Iy f l/\Iy f l<=1000000*(l.length:Int):=by
 induction l with
 |nil=>simp[Iy]
 |cons a t ih=>
  have h1:=h a sm;have h2:=ih (λi c=>h i Gi);simp only[Iy,Ax];omega
def Ay5(c:List Int)(l:Ak2 n y):∀(t:List Nat){x:List Int},Ak2 n x->t.Nodup->(∀i∈t,i<n)->(∀i∈t,x.getD i 0=0)->(∀i,i∉t->y.getD i 0=x.getD i 0)->
  M7 c y n=M7 c x n+Iy (λi=>c.getD i 0*y.getD i 0) t
 |[],x,_,_,_,_,h=>by rw[Ais c (λi=>h i sm) n];simp[Iy]
 |i::t,x,j,g,o,r,h=>by
  have m:=o i sm;have d:i<x.length:=by rw[j.1];exact m
  have ih:=Ay5 c l t (x:=x.set i (y.getD i 0)) (As5 j i (l.2 i)) (I2.1 g).2 (λk a=>o k Gi)
   (λk a=>by rw[Kt,I (c:=k=i/\i<x.length) (λe=>((I2.1 g).1) (e.1▸a))];exact r k Gi)
   (λk a=>by
    rw[Kt]
    by_cases e:k=i
    .rw[Ab (c:=k=i/\i<x.length) ⟨e,d⟩,e]
    .rw[I (c:=k=i/\i<x.length) (λs=>e s.1)];exact h k Gi)
  rw[ih,Acs c _ d n,Ab m,r i sm,Iy,Int.sub_zero];omega
def gre(W:Nat->Bool)(v:Nat->Int):Int->List Nat->Int
 |_,[]=>0
 |r,i::t=>if W i=true then(if r<=0 then gre W v r t else v i+gre W v (r-1) t)else v i+gre W v r t
def Ait{W:Nat->Bool}{v:Nat->Int}{M:Int}(a:0<=M):∀(t:List Nat)(r:Int),0<r->(∀i∈t,v i<=M)->gre W v r t<=M+gre W v (r-1) t
 |[],r,_,_=>by simp[gre];exact a
 |i::t,r,f,d=>by
  have h1:=d i sm;have h2:∀k∈t,v k<=M:=λk g=>d k Gi
  rw[gre,gre]
  by_cases e:W i=true
  .simp only[Ab e];rw[I oM]
   by_cases c:r-1<=0
   .rw[Ab c];omega
   .rw[I c];have:=Ait (W:=W) a t (r-1) om h2;omega
  .simp only[I e];have:=Ait (W:=W) a t r f h2;omega
def Bdu{f:Nat->Int}{l:List Nat}(h:∀i∈l,0<=f i):0<=Iy f l:=by
 induction l with
 |nil=>exact Int.le_refl _
 |cons a t ih=>
  have h1:=h a sm;have h2:=ih (λi c=>h i Gi);simp only[Iy];omega
def Aiu{W:Nat->Bool}{v y:Nat->Int}(d:∀i,y i=0\/y i=1):∀(t:List Nat)(r:Int),t.Pairwise (λa b=>v b<=v a)->(∀i∈t,0<v i)->Iy (λi=>if W i=true then y i else 0) t<=r->Iy (λi=>v i*y i) t<=gre W v r t
 |[],r,_,_,_=>by simp[gre,Iy]
 |i::t,r,hp,g,e=>by
  have h1:=g i sm;have h2:∀k∈t,0<v k:=λk l=>g k Gi
  have c:=(Nu.1 hp);have m:0<=Iy (λi=>if W i=true then y i else 0) t:=Bdu (λk _=>by split;rcases d k with h|h<;>omega;omega);simp only[Iy]at e|-;rw[gre]
  by_cases j:W i=true
  .simp only[Ab j]at e|-
   by_cases f:r<=0
   .rw[Ab f];have ih:=Aiu (W:=W) d t r c.2 h2
    rcases d i with h|h<;>rw[h]at e|-
    .have:=ih oM;omega
    .omega
   .rw[I f]
    rcases d i with h|h<;>rw[h]at e|-
    .have ih:=Aiu (W:=W) d t r c.2 h2 om;have:=Ait (W:=W) (M:=v i) om t r om c.1;omega
    .have ih:=Aiu (W:=W) d t (r-1) c.2 h2 om;omega
  .simp only[I j]at e|-;have ih:=Aiu (W:=W) d t r c.2 h2 om;rcases d i with h|h<;>rw[h]<;>omega
variable {free:List Int}
def Ts(c:List Int)(a b:Int):Int:=IntKind.i64.wrap (c.getD b.toNat 0-c.getD a.toNat 0)
def Bdv(c:List Int)(i k:List V)(pr:i.all V.pureE=true)(pf:k.all V.pureE=true)(a b:Int)(m:0<=a/\a<c.length)(o:0<=b/\b<c.length):
  AE 321 [.i a,.i b,.rp (.agg [.ro 1 (Ap c),.ro 3 i,.ro 1 k])] (.i (Ts c a b)):=by
 obtain⟨h,rfl⟩:=Cn m.1;obtain⟨b',rfl⟩:=Cn o.1;have d:h<c.length:=om;have g:b'<c.length:=om;have l:=Dk d;have n:=Dk g;have lv:=A0 c;have pv:=Ac c;unfold Ts;simp only[C4];generalize c.getD h 0=va,c.getD b' 0=vb,Ap c=j at*;have e:h<j.length:=om;have f:b'<j.length:=om;refine Ai func321 λw0 N0=>?_;refine Y [0,1,2] [] sr (I3 [0,1,2,1,5,1,7,1,1,1,3,2,6,1,8,4] [5] [] sr C1 ?_);exact Bv sr (rfl)
def Ak3(c free:List Int)(a b:Int):Int:=IntKind.i64.wrap (c.getD (free.getD b.toNat 0).toNat 0-c.getD (free.getD a.toNat 0).toNat 0)
def Bdw(c:List Int)(x fv:List V)(free:List Int)(pr:x.all V.pureE=true)(pf:fv.all V.pureE=true)(hf:∀i∈free,0<=i/\i<c.length)(a b:Int)(ha:0<=a/\a<free.length)(hb:0<=b/\b<free.length):
  AE 344 [.i a,.i b,.rp (.agg [.ro 1 (Ap c),.ro 3 x,.ro 1 fv]),.rp (.ro 1 (Ap free))] (.i (Ak3 c free a b)):=by
 obtain⟨s,rfl⟩:=Cn ha.1;obtain⟨b',rfl⟩:=Cn hb.1;have f:s<free.length:=om;have d:b'<free.length:=om;have ga:=Dk f;have gb:=Dk d;have⟨o,ad⟩:=Gy hf f 0;have⟨l,ab⟩:=Gy hf d 0;unfold Ak3;simp only[C4];generalize free.getD s 0=fa,free.getD b' 0=fb at*;obtain⟨n,rfl⟩:=Cn o;obtain⟨t,rfl⟩:=Cn l;have k:n<c.length:=om;have h:t<c.length:=om;have m:=Dk k;have w:=Dk h;have lv:=A0 c;have pv:=Ac c;have lf:=A0 free;have aa:=Ac free;simp only[C4];generalize c.getD n 0=va,c.getD t 0=vb,Ap c=y,Ap free=z at*;have j:n<y.length:=om;have u:t<y.length:=om;have g:s<z.length:=om;have e:b'<z.length:=om;refine Ai func344 λw0 N0=>?_;refine Y [0,1,2,3] [] sr (I3 [0,1,3,1,8,1,11,1,1,2,4,4,9,2,12,6] [6] [] sr C1 ?_);exact Bv sr (rfl)
def Tz(f:Int):Int:=if f<0 then 0 else f
def mn0(c:Int):Int:=if 0<c then 0 else c
def xP(a:List Int):List Int:=a.map Tz
def smP(a:List Rw)(x:List Int):List Int:=a.map λr=>Zp r.coef x
def loT(g:Int->Int)(a:List Rw)(free:List Int):Nat->List Int
 |0=>List.replicate a.length 0
 |m+1=>(List.range a.length).map λr=>IntKind.i64.wrap ((loT g a free m).getD r 0+g ((a.getD r default).coef.getD (free.getD (free.length-(m+1)) 0).toNat 0))
def Acv(g:Int->Int)(a:List Rw)(free:List Int):∀m,(loT g a free m).length=a.length
 |0=>by simp[loT]
 |m+1=>by simp[loT]
def loL(g:Int->Int)(a:List Rw)(free:List Int):Mo:=(List.range (free.length+1)).map λd=>loT g a free (free.length-d)
def Tb(g:Int->Int)(a:List Rw)(free:List Int):(loL g a free).length=free.length+1:=by simp[loL]
def Ay7(g:Int->Int)(a:List Rw)(free:List Int):∀l∈loL g a free,l.length=a.length:=by
 intro l c;simp only[loL,Bc]at c;obtain⟨d,_,rfl⟩:=c;exact Acv g a free _
def Awk(g:Int->Int)(a:List Rw)(free:List Int)(h:d<=free.length):(loL g a free).getD d []=loT g a free (free.length-d):=by
 rw[Cr (by rw[Tb];omega)];simp[loL]
def R5(a free:List Int):Nat->List Int
 |0=>[]
 |k+1=>if 0<a.getD (free.getD k 0).toNat 0 then R5 a free k++[(k:Int)]else R5 a free k
def Acw(a free:List Int):∀k,(R5 a free k).length<=k
 |0=>A2 _
 |k+1=>by have:=Acw a free k;rw[R5];split<;>simp<;>omega
def Acx(a free:List Int):∀k,∀i∈R5 a free k,0<=i/\i<k
 |0=>λi c=>by cases c
 |k+1=>λi c=>by
  have ih:=Acx a free k;rw[R5]at c
  split at c
  .rcases Cc.1 c with h1|h1
   .have:=ih i h1;omega
   .have:=Bz.1 h1;omega
  .have:=ih i c;omega
def nwS(c:List Int)(a:List Rw)(d free:List Int):Ss:=
 ⟨c,a,d,free,false,false,loL mn0 a free,loL Tz a free,A7w a,Hk (Ak3 c free) (R5 c free free.length)⟩
def nwD(a:List Int)(c:List Rw)(d:List Int):Sd:=⟨xP d,Zp a (xP d),smP c (xP d),0,none,0,false⟩
def Agk(a:List Rw):∀k,k<=a.length-> -1<=(Tq a k).1/\(Tq a k).1<a.length
 |0,_=>by simp only[Tq];omega
 |k+1,h=>by
  have:=Agk a k om;rw[Tq]
  split
  .simp only;omega
  .exact this
structure WfP(vals:List Int)(rows:List Rw)(fx free:List Int):Prop where
 hr:rows.length<=1000
 hv:vals.length<=1000
 hx:fx.length=vals.length
 hc:∀r∈rows,r.coef.length=vals.length
 hf:∀i∈free,0<=i/\i<vals.length
 hfl:free.length<=24
 hpo:(R5 vals free free.length).length<20
def A71{a:List Int}{c:List Rw}{d:List Int}(h:WfP a c d free):WfS (nwS a c d free)where
 hr:=h.hr
 hv:=h.hv
 hc:=h.hc
 hf:=h.hf
 hfl:=by have:=h.hfl;simp only[nwS];omega
 hl:=Tb _ _ _
 hh:=Tb _ _ _
 hlr:=Ay7 _ _ _
 hhr:=Ay7 _ _ _
 hw:=Agk c c.length (A2 _)
 ho:=λe f=>Acx a free free.length e (Up f)
 hol:=by have:=h.hfl;have:=Acw a free free.length;simp only[nwS,N9];omega
def A72{a:List Int}{c:List Rw}{d:List Int}(h:WfP a c d free):WfD (nwS a c d free) (nwD a c d):=
 ⟨by simp[nwD,nwS,xP,h.hx],by simp[nwD,nwS,smP]⟩
variable {u:Nat}
def Bii{x:Code}(a:AS)(h1:AW P w0 N0 x (λe T=>e=.normal/\T.le a) S)(h2:∀T,T.le a->Q .normal T):AW P w0 N0 x Q S:=
 h1.mono λe T⟨he,hT⟩=>by subst he;exact h2 T hT
def loE(g:Int->Int)(a:List Rw)(free:List Int)(u:Nat):List V:=List.replicate u .nils++(Eo (loL g a free)).drop u
def Bdx(g:Int->Int)(a:List Rw)(free:List Int):loE g a free (free.length+1)=List.replicate (free.length+1) .nils:=by
 unfold loE;rw[O9 (by rw[Mj,Tb];omega),Do]
def A73(g:Int->Int)(a:List Rw)(free:List Int):loE g a free 0=Eo (loL g a free):=by simp[loE]
def Apl(g:Int->Int)(a:List Rw)(free:List Int)(h:u<=free.length+1):(loE g a free u).length=free.length+1:=by
 simp[loE,Tb];omega
def Ay9(g:Int->Int)(a:List Rw)(free:List Int)(h:d<u):Gz (loE g a free u) d=some .nils:=by
 rw[C0,loE,Bt (sG h)];simp[h]
def Bdy(g:Int->Int)(a:List Rw)(free:List Int)(h:d<=free.length):(Eo (loL g a free))[d]?=some (.ro 1 (Ap (loT g a free (free.length-d)))):=by
 rw[<-C0,Ain (by rw[Tb];omega),Awk g a free h]
def Apm(g:Int->Int)(a:List Rw)(free:List Int)(h:d<=free.length):Gz (loE g a free d) d=some (.ro 1 (Ap (loT g a free (free.length-d)))):=by
 rw[C0,loE,Bn sm,Di];simp only[List.length_replicate,F4,Eb];exact Bdy g a free h
def Aza(g:Int->Int)(a:List Rw)(free:List Int)(h:d<=free.length):(loE g a free (d+1)).set d (.ro 1 (Ap (loT g a free (free.length-d))))=loE g a free d:=by
 apply Lu;intro i;rw[Lv,Apl g a free oM]
 by_cases e:d=i
 .subst e;rw[Ab rfl,Ab om,<-C0,Apm g a free h]
 .rw[I e];unfold loE
  by_cases c:i<d
  .rw[Bt so,Bt (by simp;omega)];simp[c,show i<d+1 by omega]
  .rw[Bn so,Bn so,Di,Di];simp only[List.length_replicate]
   congr 1;omega
def As7(g:Int->Int)(a:List Rw)(free:List Int)(u:Nat):(loE g a free u).all V.pureE=true:=by
 rw[Ao];intro x c
 rcases Cc.1 c with h|h
 .have:=Kg h;subst this;rfl
 .exact Ao.1 (D0 _) x (Df h)
def Azb(g:Int->Int)(a:List Rw)(free:List Int){r:Nat}(hd:d<free.length)(e:r<a.length):
  (Ap (loT g a free (free.length-d)))[r]?=some (.i (IntKind.i64.wrap ((loT g a free (free.length-(d+1))).getD r 0+g ((a.getD r default).coef.getD (free.getD d 0).toNat 0)))):=by
 obtain⟨m,c⟩:∃m,free.length-d=m+1:=⟨free.length-(d+1),by omega⟩;have h1:free.length-(d+1)=m:=om;have h2:free.length-(m+1)=d:=om;rw[c,h1,loT,h2];simp[Ap,e]
def Zr(g:List Int)(e:List Rw)(w free:List Int)(h:WfP g e w free):
  Q0 prog 322 [.agg [.ro 1 (Ap g),.ro 3 (G9 e),.ro 1 (Ap w)],.ro 1 (Ap free)] []
   (λr a7=>∃v xq sq,r=.bp 22 v 17 0 0/\a7=Aeh (nwS g e w free) (nwD g e w) v xq sq) (λ_=>False):=by
 have hfl:=h.hfl;have hpo:=h.hpo;have e0:=h.hr;have ex:=h.hv;have cm:=h.hx;have bo:=A2q (Ap g) e (Ap w) (Ac _) (Ac _) h.hr (λr hr=>by rw[h.hc r hr];exact h.hv);have lv:=A0 g;have lr:=Ou e;have lf:=A0 w;have ay:=A0 free;have pv:=Ac g;have pr:=Gu e;have pf:=Ac w;have c1:=Ac free;have d6:=λ(k:Nat)(h:k<w.length)=>Dk h
 have b1:=λ(k:Nat)(h:k<e.length)=>Aco h
 have a4:=λ(k:Nat)(h:k<free.length)=>Dk h
 have ei:=λ(k:Nat)(h:k<g.length)=>Dk h
 have dr:(g.length:Int)<=9223372036854775807:=om;have da:8*(g.length:Int)<=281474976710656:=om;have bf:(e.length:Int)<=9223372036854775807:=om;have bi:8*(e.length:Int)<=281474976710656:=om;have a1:(Ap (xP w)).length=g.length:=by rw[A0,xP,Db];exact cm
 have ck:(xP w).length=g.length:=by rw[xP,Db];exact cm
 have de:∀k,k<w.length->(Ap (xP w))[k]?=some (.i (Tz (w.getD k 0))):=λk hk=>by rw[Cr hk];simp[Ap,xP,hk]
 have cc:=Ail g (xP w) om om;have d7:=λ(k:Nat)(hk:k<e.length)=>Ail (e.getD k default).coef (xP w) (by rw[Gy h.hc hk default];omega) (by rw[Gy h.hc hk default];omega)
 have dl:=λ(k:Nat)=>Ac (e.getD k default).coef
 have bk:=Ac (xP w);have cx:=Ac (xP w);have ef:(Ap (smP e (xP w))).length=e.length:=by rw[A0,smP,Db]
 have ca:(smP e (xP w)).length=e.length:=by rw[smP,Db]
 have dq:∀k,k<e.length->(Ap (smP e (xP w)))[k]?=some (.i (Zp (e.getD k default).coef (xP w))):=λk hk=>by rw[Cr hk];simp[Ap,smP,hk]
 have cq:IntKind.i64.wrap ((free.length:Int)+1)=(free.length:Int)+1:=Bm om om;have b3:(free.length:Int)+1<=9223372036854775807:=om;have bv:24*((free.length:Int)+1)<=281474976710656:=om;have bq:(0:Int)<=(free.length:Int)+1:=om;have df:∀m,(Ap (loT mn0 e free m)).all V.pureE=true:=λm=>Ac _
 have dh:∀m,(Ap (loT Tz e free m)).all V.pureE=true:=λm=>Ac _
 have ce:∀m,(Ap (loT mn0 e free m)).length=e.length:=λm=>by rw[A0,Acv]
 have bs:∀m,(Ap (loT Tz e free m)).length=e.length:=λm=>by rw[A0,Acv]
 have b4:=Ac (smP e (xP w));have dm:∀a,mn0 a=if 0<a then 0 else a:=λa=>rfl
 have co:∀a,Tz a=if a<0 then 0 else a:=λa=>rfl
 have ar:=Acx g free free.length;generalize al:R5 g free=ok at*;unfold Aeh srC nwS nwD;simp only[ck,ca,al];generalize A7w e=wd,bm:Ap g=vv,G9 e=rw,Ap w=fv,b6:Ap free=s at*;refine Ed func322 λw0 N0 j=>?_;refine Y [2,3] [2,3] sr (J (H0 [(0,[22]),(1,[22]),(2,[22]),(3,[]),(4,[]),(5,[]),(6,[])] Jt kr ?_));refine B8 3 sr (B1 (λhg=>bo) func342 ?_);refine C5 [2,3,5] [2,3,22] sr ?_;refine Y [2,3,5] [2,3,22,27] C1 (J (A5 [31,32,33] sr (Ad ?_)));generalize e4:Ap (xP w)=xv at*;refine H5 (λk=>[(33,V.i k)]) (λk=>[(27,⟨j+14,1,3,E4 xv (.i 0) k⟩)]) (λk=>True) g.length trivial (by rw[Ia,a1];exact Z) ?_;intro k nx hk hI;have bb:=Jc xv (.i 0) k om;refine Y [2,3,5,31,32,33,34] [2,3,22,27] sr (J ?_)
 refine Bk (λh1=>?_) λh1=>?_
 .have n:k<w.length:=by simp at h1;omega
  have aa:k<fv.length:=om;have a8:k<g.length:=om;have ga:=d6 k n;have Ec:=A4 (k:=k) om;have aw:=de k n;have eh:=co (w.getD k 0);generalize w.getD k 0=f at*;rw[eh]at aw;have ag:=Je xv (.i 0) k om aw;have ao:Gz (E4 xv (.i 0) k) k=some (.i 0):=Jd xv _ k om;have af:(E4 xv (.i 0) k).length=g.length:=om;generalize E4 xv (.i 0) k=row at ao ag bb af|-;refine J (Ad (Y [2,3,5,6,7,31,32,33] [2,3,22,27] (by simp[ga,aa]<;>rfl) (A6 [2,3,5,31,32,33] [2,3,22,27] (by simp[a8,ao,ag]<;>rfl) (Cs [] (by simp[Ec]<;>rfl) ?_))));exact⟨a8,trivial,_,Z⟩
 .refine A3 ?_;have aj:k=g.length:=sO h1
  rw[aj,Jz xv (.i 0) g.length oM];generalize Zp g (xP w)=ah at*;refine J (Ii [7] Jt ?_);refine Fk [0,2,3,3,2,1,6,1] sr sr ?_
  refine Hn (i:=7) (ks:=[]) kr rfl sm (Jj sm cc func343 rfl kr sr rfl rfl sr (by simp[a1,bk]<;>rfl) rfl sr) ?_;refine Fk [8,3] sr sr ?_
  refine Gl [2,3,5] [2,3,22,27] kr sr ?_;refine Y [2,3,5] [2,3,22,27,61] (by simp[bf,bi,lr]<;>rfl) (J (A5 [65,66,67] sr (Ad ?_)));generalize er:Ap (smP e (xP w))=z at*;refine H5 (λk2=>[(67,.i k2)]) (λk2=>[(61,⟨(nx+1+11+4),1,3,E4 z (.i 0) k2⟩)]) (λk=>True) e.length trivial (by rw[Ia,ef];exact Z) ?_;intro k2 t eu ew;have bb:=Jc z (.i 0) k2 om;refine Y [2,3,5,65,66,67,68] [2,3,22,27,61] sr (J ?_)
  refine Bk (λh2=>?_) λh2=>?_
  .have n:k2<e.length:=by simp at h2;omega
   have aa:k2<rw.length:=om;have ga:=b1 k2 n;have Ec:=A4 (k:=k2) om;have aw:=dq k2 n;have ai:=d7 k2 n;have bj:=dl k2;generalize e.getD k2 default=r at*;have⟨cf,eb,cz⟩:=r;simp only at ga aw ai bj;generalize Ap cf=cv,Zp cf (xP w)=e3 at*;have ag:=Je z (.i 0) k2 om aw;have ao:Gz (E4 z (.i 0) k2) k2=some (.i 0):=Jd z _ k2 om;have af:(E4 z (.i 0) k2).length=e.length:=om;refine J (Ad (Y [2,3,5,8,9,65,66,67] [2,3,9,22,27,61] (by simp[ga,aa]<;>rfl) ?_));refine Bii ⟨[(2,V.bp 2 j 3 0 0),(3,V.bp 3 (j+1) 1 0 0),(5,V.bp 22 (j+8) 17 0 0),(65,.ro 3 rw),(66,.i rw.length),(67,.i k2)],[(2,⟨j,3,326,[V.agg [V.ro 1 vv,V.ro 3 rw,V.ro 1 fv]]⟩),(3,⟨j+1,1,25,[V.ro 1 s]⟩),(22,⟨j+8,17,455,[V.agg [V.ro 1 vv,V.ro 3 rw,V.ro 1 fv,V.ro 1 s,V.bool false,V.bool false,V.sl 27 (j+14) 1 g.length,V.i ah,V.sl 61 (nx+1+11+4) 1 e.length,V.nils,V.nils,V.i wd,V.nils,V.i 0,V.nils,V.i 0,V.bool false]]⟩),(27,⟨j+14,1,3,xv⟩),(61,⟨(nx+1+11+4),1,3,E4 z (.i 0) (k2+1)⟩)],t+1+6+14,222⟩ ?g1 λT hT=>T1 hT ?g2
   case g1=>
    rw[<-ag];generalize E4 z (.i 0) k2=row at ao ag bb af|-;refine Ii [11] Jt ?_;refine Fk [0,3,4,2,7,3,6,1,10,1] sr sr ?_
    refine Km [3,11] kr ?_;intro i hi;simp only[Bu,Ck,or_false]at hi
    rcases hi with rfl|rfl
    .refine⟨_,_,rfl,Nc sr,?_⟩;refine Hn (i:=11) (ks:=[]) kr rfl sm (Jj sm ai func343 rfl kr sr rfl rfl sr (by simp[a1,bk]<;>rfl) rfl sr) ?_;refine Fk [12,2] sr (by simp[n,ao]<;>rfl) ?_
     refine Gl [2,3,5,65,66,67] [2,3,22,27,61] kr sr ?_;exact⟨rfl,Z⟩
    .refine⟨_,_,rfl,Jj sm ai func343 rfl kr sr rfl rfl sr (by simp[a1,bk]<;>rfl) rfl sr,?_⟩;refine Fk [3,1,12,2] sr (by simp[n,ao]<;>rfl) ?_
     refine Gl [2,3,5,65,66,67] [2,3,22,27,61] kr sr ?_;exact⟨rfl,Z⟩
   refine Cs [] (by simp[Ec]<;>rfl) ?_;exact⟨n,trivial,_,Z⟩
  .refine A3 ?_;have aj:k2=e.length:=sO h2
   rw[aj,Jz z (.i 0) e.length oM];refine Y [2,3,5,10] [2,3,22,27,61] (by simp[ay]<;>rfl) (Y [2,3,5,10] [2,3,22,27,61,91] (by simp[cq,b3,bv,bq]<;>rfl) (Y [2,3,5,10] [2,3,22,27,61,91,97] (by simp[cq,b3,bv,bq]<;>rfl) (J (A5 [11] sr (Ad ?_)))));have c6:((free.length+1:Nat):Int)-1=free.length:=om;refine Gn (λx:Nat×Nat=>[(11,.i ((x.1:Int)-1))]) (λx=>[(91,⟨(t+1+3+3),1,25,loE mn0 e free x.1⟩),(97,⟨(t+1+3+7+3),1,25,loE Tz e free x.1⟩)]) (λx=>x.2) (λx=>x.1<=free.length+1) (λx=>x.1) (free.length+1,_) (A2 _) (by simp only[Bdx,c6];exact Z) ?_;rintro⟨u,az⟩hu;simp only at hu|-;refine J (Y [2,3,5,10,11,102] [2,3,22,27,61,91,97] sr ?_)
   refine Bk (λh3=>?_) λh3=>?_
   .obtain⟨d,rfl⟩:∃d,u=d+1:=⟨u-1,by simp at h3;omega⟩;have ds:((d+1:Nat):Int)-1=(d:Int):=om;have cr:IntKind.i64.wrap ((d:Int)-1)=(d:Int)-1:=Bm om om;have cg:d<=free.length:=om;have bc:=Aza mn0 e free cg;have ba:=Aza Tz e free cg;have cu:=Apl mn0 e free hu;have cp:=Apl Tz e free hu;have d8:=Ay9 mn0 e free (show d<d+1 by omega);have dx:=Ay9 Tz e free (show d<d+1 by omega);have d0:=Fm (As7 mn0 e free (d+1));have du:=Fm (As7 Tz e free (d+1));have ed:=λ(h:d+1<=free.length)=>Apm mn0 e free h
    have d9:=λ(h:d+1<=free.length)=>Apm Tz e free h
    have a0:(d:Int)<(free.length:Int)+1:=om;have an:∀(a b:Nat)es y,((loE mn0 e free (d+1)).set d y).map (V.frz a b 1 es)=(loE mn0 e free (d+1)).set d (V.frz a b 1 es y):=λa b es y=>by rw[O6,d0]
    have am:∀(a b:Nat)es y,((loE Tz e free (d+1)).set d y).map (V.frz a b 1 es)=(loE Tz e free (d+1)).set d (V.frz a b 1 es y):=λa b es y=>by rw[O6,du]
    have ae:=Fm cx;have ad:=Fm b4;simp only[ds];generalize loE mn0 e free (d+1)=E1,loE Tz e free (d+1)=E2 at*;refine J (Ad (Om [(0,[]),(1,[]),(2,[]),(4,[]),(5,[]),(3,[113]),(6,[113]),(7,[]),(8,[]),(9,[]),(10,[])] [2,3,5,10,11] [2,3,22,27,61,91,97,113] Jt kr (by simp[lr,bf,bi,d8,a0]<;>rfl) ?_));refine Om [(0,[]),(1,[]),(2,[]),(4,[]),(5,[]),(3,[123]),(6,[123]),(7,[]),(8,[]),(9,[]),(10,[])] [2,3,5,10,11] [2,3,22,27,61,91,97,113,123] Jt kr (by simp[lr,bf,bi,dx,a0]<;>rfl) ?_;refine J (A5 [127] sr ?_)
    refine A1 (λh4=>?_) λh4=>?_
    .refine A3 ?_;have ab:d=free.length:=sO h4
     have d5:Ap (loT mn0 e free (free.length-d))=List.replicate e.length (.i 0):=by rw[ab,F4];simp[loT,Ap]
     have dd:Ap (loT Tz e free (free.length-d))=List.replicate e.length (.i 0):=by rw[ab,F4];simp[loT,Ap]
     rw[d5]at bc;rw[dd]at ba;refine Bq 113 [2,3,5,10,11] [2,3,22,27,61,91,97,123] (by simp[an,am,ae,ad]<;>rfl) (Bq 123 [2,3,5,10,11] [2,3,22,27,61,91,97] (by simp[an,am,ae,ad]<;>rfl) (Cs [] (by simp[cr]<;>rfl) ?_));exact⟨(d,_),by simp only;omega,by simp only;omega,by simp only[<-bc,<-ba];exact Z⟩
    have ab:d<free.length:=sO h4
    have b2:=λ(r:Nat)(hr:r<e.length)=>Azb mn0 e free ab hr
    have b5:=λ(r:Nat)(hr:r<e.length)=>Azb Tz e free ab hr
    have b8:=ed om;have b9:=d9 om;have bl:=df (free.length-d);have ct:=dh (free.length-d);have bu:=ce (free.length-d);have b7:=bs (free.length-d);have ek:=ce (free.length-(d+1));have ej:=bs (free.length-(d+1));have bx:=λ(r:Nat)(hr:r<e.length)=>Dk (l:=loT mn0 e free (free.length-(d+1))) (k:=r) (by rw[Acv];exact hr)
    have bt:=λ(r:Nat)(hr:r<e.length)=>Dk (l:=loT Tz e free (free.length-(d+1))) (k:=r) (by rw[Acv];exact hr)
    have dz:=a4 d ab;have⟨bh,d3⟩:=Gy h.hf ab 0;generalize loT mn0 e free (free.length-(d+1))=bd,loT Tz e free (free.length-(d+1))=ax,Ap (loT mn0 e free (free.length-d))=lo,Ap (loT Tz e free (free.length-d))=hi,free.getD d 0=dt at*;obtain⟨fi,rfl⟩:=Cn bh;simp only[C4]at b2 b5;have a9:IntKind.i64.wrap ((d:Int)+1)=(d:Int)+1:=Bm om om;have bg:(0:Int)<=(d:Int)+1/\d<free.length:=om;have dy:∀y,Gz (E1.set d y) d=some y:=λy=>by rw[C0,O2 oM]
    have dn:∀y,Gz (E2.set d y) d=some y:=λy=>by rw[C0,O2 oM]
    have dj:∀y,Gz (E1.set d y) (d+1)=some (.ro 1 (Ap bd)):=λy=>by rw[C0,Ip om,<-C0];exact b8
    have dw:∀y,Gz (E2.set d y) (d+1)=some (.ro 1 (Ap ax)):=λy=>by rw[C0,Ip om,<-C0];exact b9
    refine Y [2,3,5,10,11,129,130,131] [2,3,22,27,61,91,97,113,123] sr (Ad (H5 (λr=>[(131,.i r)]) (λr=>[(113,⟨(az+2+8),1,3,E4 lo (.i 0) r⟩),(123,⟨(az+2+11+8),1,3,E4 hi (.i 0) r⟩)]) (λk=>True) e.length trivial (by rw[Ia,Ia,bu,b7];exact Z) ?_));intro r ci hr ey;refine Y [2,3,5,10,11,129,130,131,132] [2,3,22,27,61,91,97,113,123] sr (J ?_)
    refine Bk (λh5=>?_) λh5=>?_
    .have n:r<e.length:=by simp at h5;omega
     have aa:r<rw.length:=om;have ga:=b1 r n;have Ec:=A4 (k:=r) om;have c5:=Gy h.hc n default;have aq:=b2 r n;have au:=b5 r n;have ee:=bx r n;have c0:=bt r n;generalize e.getD r default=rr at*;have⟨cf,eb,cz⟩:=rr;simp only at ga aq au c5;have a2:fi<cf.length:=om;have gc:=Dk a2;have ez:=A0 cf;have ep:=Ac cf;generalize Ap cf=cv at*;have cd:fi<cv.length:=om;generalize cf.getD fi 0=c,bd.getD r 0=l0,ax.getD r 0=h0,Ap bd=d1,Ap ax=c9 at*;rw[dm]at aq;rw[co]at au;have c8:=Je lo (.i 0) r om aq;have ec:=Je hi (.i 0) r om au;have db:Gz (E4 lo (.i 0) r) r=some (.i 0):=Jd lo _ r om;have dg:Gz (E4 hi (.i 0) r) r=some (.i 0):=Jd hi _ r om;have ea:(E4 lo (.i 0) r).length=e.length:=by rw[Jc lo _ r oM];omega
     have c4:(E4 hi (.i 0) r).length=e.length:=by rw[Jc hi _ r oM];omega
     generalize E4 lo (.i 0) r=em,E4 hi (.i 0) r=en at*;have c2:r<d1.length:=om;have dp:r<c9.length:=om;refine J (Ad (Y [2,3,5,10,11,12,13,129,130,131] [2,3,13,22,27,61,91,97,113,123] (by simp[ga,aa]<;>rfl) ?_));refine I3 [0,1,3,1,1,2,4,5] [2,3,5,10,11,12,14,129,130,131] [2,3,22,27,61,91,97,113,123] sr (by simp[dz,gc,cd,bg,ay]<;>rfl) ?_;refine I3 [0,3,4,1,7,4,12,2,16,1,19,2,3,1,5,2,11,1,14,2,17,2,21,3] [2,3,5,10,11,12,14,129,130,131] [2,3,22,27,61,91,97,113,123] sr (by simp[dy,dj,a0,bg,a9,ee,c2,n,db,c8]<;>rfl) ?_;refine Ahm [0,3,4,1,7,4,12,2,16,1,19,2,3,1,5,2,11,1,14,2,17,2,21,3] [2,3,5,10,11,129,130,131] [2,3,22,27,61,91,97,113,123] sr (by simp[dn,dw,a0,bg,a9,c0,dp,n,dg,ec]<;>rfl) ?_;refine Cs [] (by simp[Ec]<;>rfl) ?_;exact⟨n,trivial,_,Z⟩
    .refine A3 ?_;have aj:r=e.length:=sO h5
     rw[aj,Jz lo (.i 0) e.length om,Jz hi (.i 0) e.length oM];have c7:=Fm bl;have cb:=Fm ct;refine Bq 113 [2,3,5,10,11] [2,3,22,27,61,91,97,123] (by simp[an,am,ae,ad,cb,bl,bu]<;>rfl) (Bq 123 [2,3,5,10,11] [2,3,22,27,61,91,97] (by simp[an,am,ae,ad,ct,b7]<;>rfl) (Cs [] (by simp[cr]<;>rfl) ?_));exact⟨(d,_),by simp only;omega,by simp only;omega,by simp only[<-bc,<-ba];exact Z⟩
   .refine A3 ?_;have d4:u=0:=sO h3
    subst d4;simp only[A73];have a3:=D0 (loL mn0 e free);have a6:=D0 (loL Tz e free);have bz:(Eo (loL mn0 e free)).length=free.length+1:=by rw[Mj,Tb]
    have bw:(Eo (loL Tz e free)).length=free.length+1:=by rw[Mj,Tb]
    have cj:∀k,ok (k+1)=if 0<g.getD (free.getD k 0).toNat 0 then ok k++[(k:Int)]else ok k:=λk=>by rw[<-al];rfl
    have cn:ok 0=[]:=by rw[<-al];rfl
    have a5:∀k,(ok k).length<=k:=λk=>by rw[<-al];exact Acw g free k
    generalize di:Eo (loL mn0 e free)=cl,cy:Eo (loL Tz e free)=be at*;refine N3 22 12 100 1 3 [2,3,5] [2,3,22,27,61,91,97,100] sr ?_;refine J (A5 [191,192,193] (by simp[ay]<;>rfl) (Ad (Gn (λx:Nat×Nat×Nat=>[(193,.i (x.1:Nat))]) (λx=>[(22,⟨j+8,17,455,[V.agg [V.ro 1 vv,V.ro 3 rw,V.ro 1 fv,V.ro 1 s,V.bool false,V.bool false,V.sl 27 (j+14) 1 g.length,V.i ah,V.sl 61 (nx+1+11+4) 1 e.length,V.sl 91 (t+1+3+3) 1 (free.length+1),V.sl 97 (t+1+3+7+3) 1 (free.length+1),V.i wd,.sl 100 x.2.1 1 (ok x.1).length,V.i 0,V.nils,V.i 0,V.bool false]]⟩),(100,⟨x.2.1,1,3,Ap (ok x.1)⟩)]) (λx=>x.2.2) (λx=>x.1<=free.length) (λx=>free.length-x.1) (0,_,_) (B5 _) (by simp only[cn,ay];exact Z) ?_)));rintro⟨k,qv,et⟩eg;simp only at eg|-;refine Y [2,3,5,191,192,193,194] [2,3,22,27,61,91,97,100] sr (J ?_)
    refine Bk (λh6=>?_) λh6=>?_
    .have n:k<free.length:=by simp at h6;omega
     have aa:k<s.length:=om;have ga:=a4 k n;have Ec:=A4 (k:=k) om;have hs:=cj k;have e1:=a5 k;have⟨bh,d3⟩:=Gy h.hf n 0;generalize free.getD k 0=dt at*;obtain⟨fi,rfl⟩:=Cn bh;simp only[C4]at hs;have a2:fi<g.length:=om;have gv:=ei fi a2;have cw:fi<vv.length:=om;generalize ok k=Lk at*;have c3:Lk.length+1<=maxLen/\(Lk.length+1)*8<=140737488355328:=⟨Ae (show Lk.length+1<=25 by omega) dc,by omega⟩;refine J (Ad (Y [2,3,5,15,16,191,192,193] [2,3,22,27,61,91,97,100] (by simp[ga,aa]<;>rfl) (Y [2,3,5,15,191,192,193,203] [2,3,22,27,61,91,97,100] (by simp[gv,cw]<;>rfl) ?_)))
     refine A1 (λh7=>?_) λh7=>?_
     .rw[Ab (sG h7)]at hs;refine A6 [2,3,5,191,192,193] [2,3,22,27,61,91,97,100] (by simp[c3]<;>rfl) (Cs [] (by simp[Ec]<;>rfl) ?_);exact⟨(k+1,_,_),n,by simp only;omega,by simp only[hs,Yo,Aq,Ax,Bg];exact Z⟩
     rw[I (sG h7)]at hs;refine A6 [2,3,5,191,192,193] [2,3,22,27,61,91,97,100] (by simp[Ec]<;>rfl) ?_;exact⟨(k+1,_,_),n,by simp only;omega,by simp only[hs];exact Z⟩
    .refine A3 ?_;have aj:k=free.length:=sO h6
     subst aj;have av:=Fm a3;have ak:=Fm a6;have dk:=Ac (ok free.length);have b0:=Fm dk;have ae:=Fm cx;have ad:=Fm b4
     have bn:=Am4 100 qv (ok free.length) 344 [] [V.rp (V.agg [V.ro 1 vv,V.ro 3 rw,V.ro 1 fv]),V.rp (V.ro 1 s)] (Ak3 g free) (.inl hpo) (λa ha b hb=>Acj (args:=[.i a,.i b]) (us:=[]) (vs:=[V.rp (V.agg [V.ro 1 vv,V.ro 3 rw,V.ro 1 fv]),V.rp (V.ro 1 s)]) (r:=.i (Ak3 g free a b)) (by
      rw[<-bm,<-b6];exact Bdw g rw fv free pr pf h.hf a b (ar a ha) (ar b hb)) func344 kr rfl)
     have br:=Ac (Hk (Ak3 g free) (ok free.length));have dv:(Ap (Hk (Ak3 g free) (ok free.length))).length=(ok free.length).length:=by rw[A0,N9]
     refine Bq 2 [2,3,5] [3,22,27,61,91,97,100] (by simp[ae,ad,av,ak,b0]<;>rfl) (Bq 3 [2,3,5] [22,27,61,91,97,100] (by simp[ae,ad,av,ak,b0]<;>rfl) (Au 5 sr ?_));refine Dx bn func320 rfl kr rfl rfl rfl sr (λk o hk=>B2 gt hk) ?_ λch d2=>d2.elim;rintro r a7 e2⟨rfl,rfl⟩el;refine⟨λk hk=>J4 hk,_,by simp<;>rfl,?_⟩;refine Ak [5] [22,27,61,91,97,100] sr ?_;have eo:=Fm br;refine Bq 100 [5] [22,27,61,91,97] (by simp[ae,ad,av,ak,br,dv]<;>rfl) (Bq 91 [5] [22,27,61,97] (by simp[ae,ad,ak,a3,bz]<;>rfl) (Bq 97 [5] [22,27,61] (by simp[ae,ad,a6,bw]<;>rfl) (Y [4] [22,27,61] sr ?_)));exact Dc j (Ea (A7 _ _) sr ⟨j+8,j+14,nx+1+11+4,rfl,rfl⟩ (λk o hk=>Fs (by simp[Eng.get,bV]) gt gt hk))
def Vz(a:List Int):Prop:=∀k,0<=a.getD k 0/\a.getD k 0<=1000000/\(12<=k->a.getD k 0=0)
def A74(a:List Int)(i:Int):Bool:=decide (0<a.getD i.toNat 0)
def Aiw(a free:List Int):∀k,k<=free.length->(R5 a free k).length=((free.take k).filter (A74 a)).length
 |0,_=>rfl
 |k+1,h=>by
  have hk:=h
  rw[Av hk,La,Aq,<-Aiw a free k om,R5,Cr hk]
  by_cases e:0<a.getD (free[k]).toNat 0
  .rw[Ab e,Aq,Is (by simpa[A74]using e)];rfl
  .rw[I e,Iu (by simpa[A74]using e)];rfl
def Am7{a:List Int}(hz:Vz a)(d:List Int):∀k,((J6 d k).filter (A74 a)).length<=min k 12
 |0=>B5 _
 |k+1=>by
  have ih:=Am7 hz d k
  rw[J6]
  split
  .rw[La,Aq]
   by_cases e:A74 a (k:Int)=true
   .have h12:k<12:=by
     rcases Cz k 12 with h|h
     .exact h
     .exfalso;have e2:(0:Int)<a.getD k 0:=Kd e;rw[(hz k).2.2 h]at e2;exact absurd e2 dC
    rw[Is e];simp only[List.filter_nil,Ax,Bg];omega
   .rw[Iu e];simp only[List.filter_nil,Bg];omega
  .omega
def Aek(d:List Int):∀(k j:Nat)(h:j<(J6 d k).length),(j:Int)<=(J6 d k)[j]
 |0,j,h=>absurd h (Vx _)
 |k+1,j,h=>by
  by_cases e:d.getD k 0<0
  .have er:J6 d (k+1)=J6 d k++[(k:Int)]:=by rw[J6,Ab e]
   simp only[er]at h|-
   rw[List.getElem_append]
   split
   .exact Aek d k j _
   .have:=Un d k;simp only[Aq,Ax,Bg]at h;simp;omega
  .have er:J6 d (k+1)=J6 d k:=by rw[J6,I e]
   simp only[er]at h|-
   exact Aek d k j h
def A75{a:List Int}{c:List Rw}{d:List Int}(e:c.length<=1000)(hv:a.length<=24)(hz:Vz a)(f:d.length=a.length)(g:∀r∈c,r.coef.length=a.length):WfP a c d (E0 d):=
 ⟨e,by omega,f,g,λi h=>by have:=Acn d d.length i h;omega,by have:=Un d d.length;unfold E0;omega,by rw[Aiw a _ _ (A2 _),Bb];have:=Am7 hz d d.length;unfold E0;omega⟩
def A76{a:List Int}{c:List Rw}{e:List Int}(d:Int->Int->Int)(h:WfP a c e free):WfP a c e (Hk d free):=
 ⟨h.hr,h.hv,h.hx,h.hc,λi f=>h.hf i (Up f),by rw[N9];exact h.hfl,by have q:=h.hpo;rw[Aiw a _ _ (A2 _),Bb]at q|-;rw[((R4 d free).filter _).length_eq];exact q⟩
def A77{a d:List Int}(hz:Vz a)(hl:(E0 d).length<=24):(E0 d).length<20\/(E0 d).length<40/\∀x∈(E0 d).drop 20,∀y∈E0 d,0<=Ts a x y:=by
 refine .inr ⟨by omega,λx hx y _=>?_⟩
 have⟨j,hj,e⟩:=Sp.1 hx
 have q:=Aek d d.length (20+j) (by unfold E0 at hj;omega)
 have ex:(20+j:Int)<=x:=by rw[<-e];simpa[E0]using q
 have zy:=hz y.toNat
 unfold Ts;rw[((hz x.toNat).2.2 om),Bm om om];omega
def Aix(a:List Int)(c:List Rw)(d:List Int):Ss:={nwS a c d (E0 d)with one:=true,once:=true}
def A2v(a:List Int)(c:List Rw)(d:List Int)(least:Int):Sd:=Hi (Aix a c d) (E0 d).length 0 {nwD a c d with least:=least}
def Bdz{a:List Int}{c:List Rw}{d:List Int}(h:WfP a c d (E0 d)):WfS (Aix a c d):=
 have w:=A71 h
 ⟨w.hr,w.hv,w.hc,w.hf,w.hfl,w.hl,w.hh,w.hlr,w.hhr,w.hw,w.ho,w.hol⟩
def A78(a:List Int)(c:List Rw)(d:List Int)(least:Int)(h:WfP a c d (E0 d)):
  AE 283 [.agg [.ro 1 (Ap a),.ro 3 (G9 c),.ro 1 (Ap d)],.i least] (bV (A2v a c d least).best):=by
 have hfl:=h.hfl;have al:=h.hv;have ak:=h.hx;have pf:=Ac d;have f:=Bdr (Ap a) (G9 c) d (Ac a) (Gu c) om;have i:=(Zr a c d (E0 d) h).q G0;have s:=A72 h;have e:=λv y t=>Am1 (Aix a c d) (Bdz h) v y t {nwD a c d with least:=least} ⟨s.hx,s.hs⟩
 have aj:=Ac (E0 d);have j:(Aix a c d).free=E0 d:=rfl;rw[j]at e;unfold A2v;generalize am:Hi (Aix a c d) (E0 d).length 0 {nwD a c d with least:=least}=VR at*;have⟨vx,ah,ae,u,m,ad,w⟩:=VR;have ar:=Ac (nwD a c d).x;have ao:=Ac (nwD a c d).sums;unfold Aix at e;simp only[Aeh,srC]at i e;generalize nwD a c d=nd,nwS a c d (E0 d)=ns,Ap (E0 d)=ai,Ap a=vv,G9 c=rw,Ap d=fv at*;refine Ai func283 λw0 N0=>?_;refine Y [1,2] [2] sr (J (A5c Jt ?_));refine A5b 0 1 kr rfl rfl (Nc sr) (Nc sr) (Ahl 1 kr rfl (Nc sr) (Ahl 2 kr rfl (Aol (λ_=>f) func319 rfl kr sr rfl rfl sr sM sr) ?_)) (A5b 0 2 kr rfl rfl (Nc sr) (Aol (λ_=>f) func319 rfl kr sr rfl rfl sr sM sr) (Ahl 2 kr rfl (Aol (λ_=>f) func319 rfl kr sr rfl rfl sr sM sr) ?_) (Ahl 0 kr rfl (Nc sr) ?_))
 all_goals
  refine Bb2 3 kr rfl (A1c (Awb _) i func322 rfl kr sr rfl rfl sr (λk o n=>by cases n) (λr g nx hR af=>?_)) ?_
  .obtain⟨v,y,t,rfl,rfl⟩:=hR;exact⟨λk n=>rfl,_,by simp<;>rfl⟩
  rintro S'⟨r,g,an,⟨v,y,t,rfl,rfl⟩,af,hS⟩;simp at hS;subst hS;refine Ahl 4 kr rfl (Nc sr) (Bhk [1,5] [22,27,61] kr sr ?_);refine Y [5] [22,27,61] sr (Au 1 sr ?_);refine Dx (e v y t) func323 rfl kr rfl rfl rfl sr (λk o n=>Fs gt gt gt n) ?_ λch aa=>aa.elim;rintro r g aq⟨rfl,rfl⟩ag;refine⟨λk n=>Lj n,_,by simp<;>rfl,?_⟩;refine Ak [5] [22,27,61] sr ?_;cases m with
  |none=>
   exact Y [4] [] C1 (Bv sr rf)
  |some l=>
   have pl:=Ac l;exact Y [4] [] C1 (Bv C1 rfl)
def grS(a:List Int)(c:List Rw)(d:List Int):Ss:=nwS a c d (Hk (Ts a) (E0 d))
def grD(a:List Int)(c:List Rw)(d:List Int):Sd:=Hi (grS a c d) (Hk (Ts a) (E0 d)).length 0 {nwD a c d with least:= -24000000}
def As8(c:List Int)(d:List Rw)(e:List Int)(h:WfP c d e (E0 e))(hz:Vz c):
  AE 282 [.agg [.ro 1 (Ap c),.ro 3 (G9 d),.ro 1 (Ap e)]] (.tup [.i (grD c d e).most,.bool (grD c d e).found]):=by
 have hfl:=h.hfl;have au:=h.hv;have ar:=h.hx;have z:=Gu d;have w:=Asu (Ap c) (G9 d) e (Ac c) z om;have n:=A76 (Ts c) h;have l:=Zr c d e _ n;have u:=A72 n;have f:=λv xq sq=>Am1 (grS c d e) (A71 n) v xq sq {nwD c d e with least:= -24000000} ⟨u.hx,u.hs⟩
 have aj:=Uk (E0 e);have ag:=Ac (Hk (Ts c) (E0 e));have ai:(Ap (Hk (Ts c) (E0 e))).length=(E0 e).length:=by rw[A0,N9]
 have m:(grS c d e).free=Hk (Ts c) (E0 e):=rfl;rw[m]at f;have s:=λq=>Am4 100 q (E0 e) 321 [] [V.rp (V.agg [.ro 1 (Ap c),.ro 3 (G9 d),.ro 1 (Ap e)])] (Ts c) (A77 hz h.hfl) (λa ha b hb=>Acj (args:=[.i a,.i b]) (us:=[]) (vs:=[V.rp (V.agg [.ro 1 (Ap c),.ro 3 (G9 d),.ro 1 (Ap e)])]) (r:=.i (Ts c a b)) (Bdv c (G9 d) (Ap e) z (Ac e) a b (h.hf a ha) (h.hf b hb)) func321 kr rfl)
 unfold grD;generalize av:Hi (grS c d e) (Hk (Ts c) (E0 e)).length 0 {nwD c d e with least:= -24000000}=VR at*;have⟨vx,al,af,x,ah,ad,y⟩:=VR;unfold grS at f;simp only[Aeh,srC]at l f;generalize nwD c d e=nd,nwS c d e (Hk (Ts c) (E0 e))=ns,Ap (Hk (Ts c) (E0 e))=ao at*;have ay:=A0 (E0 e);generalize t:Ap (E0 e)=aa,Ap c=vv,G9 d=rw,Ap e=fv at*;refine Ai func282 λw0 N0=>?_;refine Y [1] [1] sr (Au 1 sr ?_);refine K5 100 w func319 rfl kr rfl rfl rfl sr C1 sr (Ak [1,4] [1,100] sr ?_);have ae:=Fm (show aa.all V.pureE=true by rw[<-t];exact Ac _);refine Bq 1 [1,4] [100] C1 (Au 2 sr ?_);refine Dx (s _) func320 rfl kr rfl rfl rfl sr (λk o i=>B2 gt i) ?_ λch g=>g.elim;rintro r j aw⟨rfl,rfl⟩am;refine⟨λk i=>J4 i,_,by simp<;>rfl,?_⟩;refine Ak [1,4] [1,100] sr (Bq 100 [1,4] [] C1 (Au 2 sr ?_));refine Dx l func322 rfl kr rfl rfl rfl sr (λk o i=>by cases i) ?_ λch g=>g.elim;rintro r j ax⟨v,xq,sq,rfl,rfl⟩ak;refine⟨λk i=>rfl,_,by simp<;>rfl,?_⟩;refine Ak [5] [22,27,61] sr (A5 [] sr (Au 1 sr ?_));refine Dx (f v xq sq) func323 rfl kr rfl rfl rfl sr (λk o i=>Fs gt gt gt i) ?_ λch g=>g.elim;rintro r j aq⟨rfl,rfl⟩an;refine⟨λk i=>Lj i,_,by simp<;>rfl,?_⟩;refine Ak [5] [22,27,61] sr (I3 [0,3,4,3,3,1,8,1,7,1,9,1] [2,3] [] sr sr ?_);exact Bv sr (rfl)
def A79(c:List Int)(a:List Rw)(d:List Int):V:=
 if Aeg c a d≠0 then .tup [.nils,.i 0,.i (Aeg c a d)]
 else if a.any (λr=>decide (r.mx<r.mn))=true then .tup [.nils,.i 0,.i 14]
 else if(grD c a d).found=false then .tup [.nils,.i 0,.i 14]
 else .tup [bV (A2v c a d (grD c a d).most).best,.i (grD c a d).most,.i 0]
def A8a{a:List Int}{c:List Rw}{d:List Int}(h:Aeg a c d=0)(f:Vz a):WfP a c d (E0 d):=by
 unfold Aeg at h
 split at h
 .omega
 .rename_i h1
  split at h
  .omega
  .rename_i h2
   split at h
   .omega
   .rename_i g
    exact A75 om om f om (λr i=>by
     by_cases e:r.coef.length=a.length
     .exact e
     .exact absurd (Es.2 ⟨r,i,by simpa using e⟩) g)
def A2w(c:List Int)(a:List Rw)(e:List Int)(hl:c.length<=1000)(hv:Vz c)(hz:a.length<=1000/\e.length<=1000):
  Jp gv prog 246 [.agg [.ro 1 (Ap c),.ro 3 (G9 a),.ro 1 (Ap e)]] (λr=>r=A79 c a e):=by
 have t:=Bdq c a e ⟨by omega,hz.1,hz.2⟩;have i:=λh=>As8 c a e (A8a h hv) hv
 have d:=λh=>A78 c a e (grD c a e).most (A8a h hv)
 have pv:=Ac c;have o:=Gu a;have n:=Ac e;have aa:=λ(k:Nat)(h:k<a.length)=>Aco h
 have ak:=Ou a;unfold A79;generalize Aeg c a e=ze at*;generalize(A2v c a e (grD c a e).most).best=fb at*;generalize grD c a e=gd at*;have pb:=Agi fb;have⟨gx,ag,ab,w,ad,ae,x⟩:=gd;simp only at i d|-;generalize Ap c=vv,G9 a=rw,Ap e=fv at*;refine Bp func246 λw0 N0 hG=>?_;refine Y [1] [1] sr (J (Au 1 sr ?_));refine Jf hG t func281 rfl kr sM rfl rfl rfl sr sM sr (Ak [1,5] [1] sr ?_);refine Y [1,5,13] [1] sr ?_
 refine A1 (λh1=>?_) λh1=>?_
 .exact Y [2,3,4] [] sr (Aj (Aa sr (by rw[Ab (sG h1)])))
 have j:=sG h1
 rw[I (sG j)];refine J (Y [1,16,17,18] [1] sr (Ad (Ho 18 (λk=>(a.take k).any (λr=>decide (r.mx<r.mn))=false) a.length rfl ?_)));intro k nx hk hI;refine Y [1,16,17,18,19] [1] sr (J ?_)
 refine Bk (λh2=>?_) λh2=>?_
 .have g:k<a.length:=by simp at h2;omega
  have u:k<rw.length:=om;have ga:=aa k g;have Ec:=A4 (k:=k) om;have s:=λh=>Ow (f:=λr:Rw=>decide (r.mx<r.mn)) g hI h
  have m:=λh=>S8 (f:=λr:Rw=>decide (r.mx<r.mn)) g h
  rw[Cr g]at ga;generalize a[k]=r at*;have⟨cf,aj,ai⟩:=r;simp only at ga s m;have ah:=Ac cf;generalize Ap cf=cv at*;refine J (Ad (Y [1,7,16,17,18] [1,7] (by simp[ga,u]<;>rfl) (Y [1,16,17,18,26] [1] sr ?_)))
  refine A1 (λz=>?_) λz=>?_
  .exact Y [2,3,4] [] sr (Aj (Aa sr (by rw[Ab (m (sG z))])))
  refine A6 [1,16,17,18] [1] (by simp[Ec]<;>rfl) ?_;exact⟨g,s (sG z),_,Z⟩
 .refine A3 ?_;have af:k=a.length:=sO h2
  rw[af,Bb]at hI;rw[I (by rw[hI];simp)];refine Au 1 sr ?_;refine Ge [1,8,9] [1] (i j) func282 ?_;refine J (Y [1,8,34] [1] sr ?_)
  refine A1 (λy=>?_) λy=>?_
  .exact Y [2,3,4] [] sr (Aj (Aa sr (by rw[Ab (sG y)])))
  rw[I (sG y)];replace d:=d j;cases fb with
  |none=>
   simp only[bV]at d|-;refine Au 2 sr ?_;refine Ge [2,3,4] [] d func283 ?_;exact Aj (Aa sr rfl)
  |some l=>
   have pl:=Ac l;simp only[bV]at d|-;refine Au 2 sr ?_;refine Ge [2,3,4] [] d func283 ?_;exact Aj (Aa C1 rfl)
def Im(n k:Nat)(f:Nat->Bool)(a:k<n)(c:((List.range n).take k).any f=false)(d:f k=false):((List.range n).take (k+1)).any f=false:=
 Ow (sG a) c (sG d)
def Oa{f:Nat->Bool}(a:k<n)(c:f k=true):(List.range n).any f=true:=Es.2 ⟨k,Kv.2 a,c⟩
def Ak4(pool:List Pit)(id:Int):Int:=Il (λp=>decide (p.id=id)) pool 0
def A2x(giv:List Int):Bool:=(List.range giv.length).any λi=>decide (giv.getD i 0∈giv.take i)
def Aiy(len:Int)(rs:List Ru)(pool:List Pit)(en:List (Int×Int))(giv:List Int):Int:=
 if Ass len rs pool en≠0 then Ass len rs pool en else if giv.any (λid=>decide (Ak4 pool id<0))=true then 6 else if A2x giv=true then 7 else 0
def Apn(len:Int)(rs:List Ru)(pool:List Pit)(en:List (Int×Int))(giv a:List Int)(n:Int)(hs:Uj len rs=0)(hp:Kh pool n=0)(aq:pool.length<=18)(he:en.length<=400)(hg:giv.length<=1000)
  (an:a.length=pool.length)(al:∀v∈a,-1000000<=v/\v<=1000000):
  U5 gv prog 184 [Ry len rs,.ro 9 (C7 pool),.ro 2 (A9 en),.ro 1 (Ap giv),.ro 1 (Ap a)] [] (Amv (Aiy len rs pool en giv) (Vg a rs) (V2 len rs pool en (pool.length+Gb rs)) (Q8 rs pool)):=by
 have e:=Apf len rs pool en a n hs hp aq he an al;have u:=Ach pool;have ak:=λk x=>S7 (giv.take k) x
 have pl:=Cw pool;have pr:=Dm rs;have pe:=A8 en;have pv:=Ac a;have pg:=Ac giv;have ai:=λ(k:Nat)(h:k<giv.length)=>Dk h
 have aw:=A0 giv;have ao:=λk=>(show Ap (giv.take k)=(Ap giv).take k by simp[Ap,Tx])
 have ah:=λk=>Ac (giv.take k)
 have pX:=Ac (Vg a rs);have pR:=Gu (V2 len rs pool en (pool.length+Gb rs));have pF:=Ac (Q8 rs pool);have lF:=A0 (Q8 rs pool);unfold Ry at e|-;unfold Amv Ast Ay0 Aiy;unfold Amv Ast Ay0 at e;simp only[ao]at ak ah;change∀id,AQ 245 [.ro 9 (C7 pool),.i id] (.i (Ak4 pool id))at u;generalize Ap (Vg a rs)=xv,G9 (V2 len rs pool en (pool.length+Gb rs))=cv,Ap (Q8 rs pool)=fv at*;generalize(Q8 rs pool).length=fl at*;generalize Ass len rs pool en=am,Ak4 pool=pX,Ap a=vv,az:Ap giv=c,A9 en=ev,C7 pool=ar,Hw rs=rv at*
 by_cases hE:am=0
 .subst hE;simp only[if_true,ne_eq,not_true_eq_false,if_false]at e|-;generalize l:(if(giv.any λid=>decide (pX id<0))=true then(6:Int)else if A2x giv=true then 7 else 0)=ee;refine Ij func184 λw0 N0 g hG=>?_;refine Y [1,2,3,4,5,10] [5,10] sr (Au 4 sr ?_);refine Np hG e func244 rfl kr rfl rfl rfl sr (λk o j=>by cases j) ?_;rintro r ae s⟨v,rfl,rfl⟩aj;refine⟨λk j=>rfl,_,by simp<;>rfl,?_⟩;refine Ak [1,3,10,12,13] [10,12,78] sr (J (A5 [27] sr ?_));refine Ce (J (Y [1,3,10,12,30,31,32] [10,12,78] sr (Ad (H4 (λk nx=>⟨[(1,V.ro 9 ar),(3,V.ro 1 c),(10,V.bp 10 (g+1) 3 0 0),(12,V.bp 12 (s+8) 3 0 0),(30,V.ro 1 c),(31,.i c.length),(32,.i k)],[(10,⟨g+1,3,326,[V.agg [.nils,.nils,.nils]]⟩),(12,⟨s+8,3,326,[V.agg [.ro 1 xv,.ro 3 cv,.sl 78 v 1 fl]]⟩),(78,⟨v,1,3,fv⟩)],nx,57⟩) (λk=>(giv.take k).any (λid=>decide (pX id<0))=false) giv.length _ rfl Z ?_))));intro k nx j hI;refine Y [1,3,10,12,30,31,32,33] [10,12,78] sr (J ?_)
  refine Bk (λh2=>?_) λh2=>?_
  .have d:k<giv.length:=by simp at h2;omega
   have t:k<c.length:=om;have ga:=ai k d;have Ec:=A4 (k:=k) om;have z:=λh=>Ow (f:=λid=>decide (pX id<0)) d hI h
   have y:=λh=>S8 (f:=λid=>decide (pX id<0)) d h
   rw[Cr d]at ga;generalize giv[k]=id at*;have aa:=u id;refine J (Ad (Y [1,3,10,12,15,30,31,32] [10,12,78] (by simp[ga,t]<;>rfl) (Au 2 sr ?_)));refine Dw hG aa func245 ?_;refine Ak [1,3,10,12,30,31,32,39] [10,12,78] sr ?_
   refine A1 (λh3=>?_) λh3=>?_
   .refine Y [10,11] [10] sr ?_;rw[Ab (y (sG h3))]at l;subst l;exact Dc g (Ea (A7 _ _) sr (outs0:=[]) (by rw[I dC];exact⟨rfl,rfl⟩) (λk o j=>by cases j))
   refine A6 [1,3,10,12,30,31,32] [10,12,78] (by simp[Ec]<;>rfl) ?_;exact⟨d,z (sG h3),_,Z⟩
  .refine A3 ?_;have ab:k=giv.length:=sO h2
   rw[ab,Bb]at hI;rw[I (by rw[hI];simp)]at l;refine J (Y [3,10,12,42,43,44] [10,12,78] sr (Ad (Ho 44 (λk=>((List.range giv.length).take k).any (λi=>decide (giv.getD i 0∈giv.take i))=false) giv.length rfl ?_)));intro m ay ax w;refine Y [3,10,12,42,43,44,45] [10,12,78] sr (J ?_)
   refine Bk (λh4=>?_) λh4=>?_
   .have d:m<giv.length:=by simp at h4;omega
    have t:m<c.length:=om;have ga:=ai m d;have Ec:=A4 (k:=m) om;have z:=λh=>Im giv.length m (λi=>decide (giv.getD i 0∈giv.take i)) d w h
    have y:=λh=>Oa (f:=λi=>decide (giv.getD i 0∈giv.take i)) d h
    have ad:=ak m (giv.getD m 0);have ag:=ah m;have af:m<=c.length:=om;generalize av:giv.getD m 0=id at*;have au:min m c.length=m:=om;refine J (Ad (Y [3,10,12,16,17,42,43,44] [10,12,78] (by simp[ga,t]<;>rfl) (Au 4 (by simp[af]<;>rfl) ?_)));refine Ge [3,10,12,42,43,44,53] [10,12,78] ad func63 ?_
    refine A1 (λh5=>?_) λh5=>?_
    .refine Y [10,11] [10] sr ?_;have hD:A2x giv=true:=by unfold A2x;exact y (sG h5)
     rw[Ab hD]at l;subst l;exact Dc g (Ea (A7 _ _) sr (outs0:=[]) (by rw[I dC];exact⟨rfl,rfl⟩) (λk o j=>by cases j))
    refine A6 [3,10,12,42,43,44] [10,12,78] (by simp[Ec]<;>rfl) ?_;exact⟨d,z (sG h5),_,Z⟩
   .refine A3 ?_;have ab:m=giv.length:=sO h4
    rw[ab,Ba (by simp)]at w;have hD:A2x giv=false:=by unfold A2x;exact w
    rw[I (by rw[hD];simp)]at l;subst l;refine Y [10,11] [10,78] sr ?_;exact Dc g (Ea (A7 _ _) sr (outs0:=[(78,⟨v,1,3,fv⟩)]) (by rw[Ab rfl];exact⟨v,rfl,rfl⟩) (λk o j=>B2 gt j))
 .simp only[I hE]at e;simp only[ne_eq,hE,not_false_eq_true,if_true,if_false];refine Ij func184 λw0 N0 g hG=>?_;refine Y [1,2,3,4,5,10] [5,10] sr (Au 4 sr ?_);refine Np hG e func244 rfl kr rfl rfl rfl sr (λk o j=>by cases j) ?_;rintro r ae s⟨rfl,rfl⟩aj;refine⟨λk j=>j,_,by simp<;>rfl,?_⟩;refine Ak [1,3,10,12,13] [10,12] sr ?_;refine J (A5 [27] sr ?_)
  refine Ek ?_
  .refine Y [10,11] [10] sr ?_;exact Dc g (Ea (A7 _ _) sr (outs0:=[]) ⟨rfl,rfl⟩ (λk o j=>by cases j))
instance:Inhabited Pit:=⟨⟨0,[],0,0,0,0,0,0,[]⟩⟩
def As9{l:List Pit}(h:k<l.length):Gz (C7 l) k=some (.agg (l.getD k default).cs):=by rw[Cr h];exact Jg h
def A8b(pool:List Pit)(id:Int):Nat:=(Ak4 pool id).toNat
def Aal(pool:List Pit)(a giv:List Int):Nat->List Int
 |0=>a
 |k+1=>(Aal pool a giv k).set (A8b pool (giv.getD k 0)) 1
def Aiz(pool:List Pit)(a giv:List Int):∀k,(Aal pool a giv k).length=a.length
 |0=>rfl
 |k+1=>by rw[Aal,Hy,Aiz pool a giv k]
def Bij(pool:List Pit)(a giv:List Int)(k:Nat):Bool:=decide ((Aal pool a giv k).getD (A8b pool (giv.getD k 0)) 0=0)
def Ael(x:List Int)(pool:List Pit):Nat->List Int
 |0=>[]
 |k+1=>if x.getD k 0=1 then Ael x pool k++[(pool.getD k default).id]else Ael x pool k
def Ai0(x:List Int)(pool:List Pit):∀k,(Ael x pool k).length<=k
 |0=>A2 _
 |k+1=>by have:=Ai0 x pool k;rw[Ael];split<;>simp<;>omega
def Am8{c:Code}(d sz:Nat)(ty:TypeId)(h:AW P w0 N0 c Q {S with objs:=(d,⟨S.nx,sz,ty,[]⟩)::S.objs,nx:=S.nx+1}):AW P w0 N0 c Q S:=
 T1 (λ_ _ _ _⟨_,hr⟩=>⟨_,hr.addRow d sz ty⟩) h
def A8c(c:List Int)(a:List Rw)(d:List Int):Int:=
 if Aeg c a d≠0 then Aeg c a d
 else if a.any (λr=>decide (r.mx<r.mn))=true then 14
 else if(grD c a d).found=false then 14 else 0
def Y7(a:List Int)(c:List Rw)(d:List Int):List Int:=((A2v a c d (grD a c d).most).best).getD []
def Azc(a:List Int)(c:List Rw)(d:List Int):Prop:=
 Aeg a c d=0->c.any (λr=>decide (r.mx<r.mn))=false->(grD a c d).found=true->∃b,(A2v a c d (grD a c d).most).best=some b/\b.length=a.length
def Awl(a:List Int)(c:List Rw)(d:List Int)(h:Azc a c d):
  (A8c a c d≠0/\A79 a c d=.tup [.nils,.i 0,.i (A8c a c d)])\/
  (A8c a c d=0/\(Y7 a c d).length=a.length/\A79 a c d=.tup [.ro 1 (Ap (Y7 a c d)),.i (grD a c d).most,.i 0]):=by
 unfold A8c A79
 by_cases h1:Aeg a c d≠0
 .left;simp only[Ab h1];exact⟨h1,trivial⟩
 .simp only[I h1]
  by_cases h2:c.any (λr=>decide (r.mx<r.mn))=true
  .left;simp only[Ab h2];exact⟨by decide,trivial⟩
  .simp only[I h2]
   by_cases e:(grD a c d).found=false
   .left;simp only[Ab e];exact⟨by decide,trivial⟩
   .right
    have⟨b,g,f⟩:=h (sG h1) (sG h2) (sG e);simp only[I e];unfold Y7;rw[g];exact⟨trivial,f,rfl⟩
def shE(a:List Int)(c:List Rw)(pool:List Pit)(d giv:List Int):Int:=
 if(List.range giv.length).any (Bij pool d giv)=true then 14 else A8c a c (Aal pool d giv giv.length)
def shT(a:List Int)(c:List Rw)(pool:List Pit)(d giv:List Int):List Int:=Ael (Y7 a c (Aal pool d giv giv.length)) pool pool.length
def Ai1(e:Int)(l:List Int):V:=if e=0 then .tup [.ro 1 (Ap l),.i 0]else .tup [.nils,.i e]
def Awm(a:List Int)(c:List Rw)(d:List Int)(pool:List Pit)(giv:List Int)(v:Nat)(hl:a.length<=1000)(hv:Vz a)(hr:c.length<=1000)(hx:d.length=a.length)(bh:pool.length<=a.length)(hg:giv.length<=1000)
  (af:∀id∈giv,0<=Ak4 pool id)(ao:Azc a c (Aal pool d giv giv.length)):
  U5 gv prog 185 [.agg [.ro 1 (Ap a),.ro 3 (G9 c),.sl 78 v 1 d.length],.ro 9 (C7 pool),.ro 1 (Ap giv)] [(78,⟨v,1,3,Ap d⟩)]
   (λr aj=>r=Ai1 (shE a c pool d giv) (shT a c pool d giv)/\∃q es,aj=[(78,⟨q,1,3,es⟩)]):=by
 have z:=Ach pool;change∀id,AQ 245 [.ro 9 (C7 pool),.i id] (.i (Ak4 pool id))at z;have y:=λid=>(Ayu (λp:Pit=>decide (p.id=id)) pool 0).2.1
 change∀id,Ak4 pool id<_ at y;have i:=A2w a c (Aal pool d giv giv.length) hl hv ⟨hr,by rw[Aiz];omega⟩;have an:=Awl a c _ ao;have al:=Aiz pool d giv;have a6:∀k,Aal pool d giv (k+1)=(Aal pool d giv k).set (A8b pool (giv.getD k 0)) 1:=λk=>rfl
 have ay:Aal pool d giv 0=d:=rfl;have a9:∀k,Bij pool d giv k=decide ((Aal pool d giv k).getD (A8b pool (giv.getD k 0)) 0=0):=λk=>rfl
 unfold Ai1 shE shT;generalize bd:Aal pool d giv=g,Bij pool d giv=bg at*;have pl:=Cw pool;have pv:=Ac a;have pr:=Gu c;have pg:=Ac giv;have a1:=λ(k:Nat)(h:k<giv.length)=>Dk h
 have bn:=A0 giv;have a2:=λ(k:Nat)(h:k<pool.length)=>As9 h
 have bi:=Er pool;generalize Ap a=vv,G9 c=rw,Ap giv=ab,bj:C7 pool=t at*;refine Ij func185 λw0 N0 s hG=>?_;refine Y [1,2,3] [3,78] sr (J (Y [1,3,17,18,19] [3,78] sr (Ad (H5 (λk=>[(19,V.i k)]) (λk=>[(78,⟨v,1,3,Ap (g k)⟩)]) (λk=>((List.range giv.length).take k).any bg=false) giv.length rfl (by simp only[ay];exact Z) ?_))));intro k nx hk hI;refine Y [1,3,17,18,19,20] [3,78] sr (J ?_)
 refine Bk (λh1=>?_) λh1=>?_
 .have e:k<giv.length:=by simp at h1;omega
  have n:k<ab.length:=om;have ga:=a1 k e;have Ec:=A4 (k:=k) om;have au:=λh=>Im giv.length k bg e hI h
  have az:=λh=>Oa (f:=bg) e h
  have a5:=Gy af e 0;have ad:=a6 k;have u:=a9 k;unfold A8b at ad u;have ae:=z (giv.getD k 0);have bf:=y (giv.getD k 0);generalize giv.getD k 0=id at*;generalize Ak4 pool id=px at*;obtain⟨pn,rfl⟩:=Cn a5;simp only[C4]at ad u;have bc:=al k;have a4:pn<(g k).length:=om;have am:pn<d.length:=om;have gp:=Dk a4;have ah:=A0 (g k);have aw:=Xc (g k) pn 1;generalize bb:Ap (g k)=ag at*;have ak:ag.length=d.length:=om;refine J (Ad (Y [1,3,9,17,18,19] [3,78] (by simp[ga,n]<;>rfl) (Au 2 sr ?_)));refine Dw hG ae func245 ?_;refine Ak [1,3,10,17,18,19] [3,78] sr ?_;refine J (A5 [31] (by simp[gp,am]<;>rfl) ?_)
  refine A1 (λh2=>?_) λh2=>?_
  .refine Y [6,7] [78] sr ?_;have hA:=az (by rw[u];simpa using h2);simp only[hA,if_true];exact Dc s (Ea (A7 _ _) sr ⟨by simp,v,ag,rfl⟩ (λk o hk=>B2 gt hk))
  refine A6 [1,3,17,18,19] [3,78] (by simp[gp,am]<;>rfl) (Cs [] (by simp[Ec]<;>rfl) ?_);exact⟨e,au (by rw[u];simpa using h2),_,by rw[ad,aw];exact Z⟩
 .refine A3 ?_;have w:k=giv.length:=sO h1
  rw[w,Ba (by simp)]at hI;simp only[hI,F3,if_false];rw[w];have l:=Ac (g giv.length);have ah:(Ap (g giv.length)).length=d.length:=by rw[A0];exact al _
  generalize a0:Ap (g giv.length)=bk at*;refine Bq 78 [1,3] [3] (by simp[l,ah]<;>rfl) ?_
  rcases an with⟨ai,aa⟩|⟨he,be,aa⟩
  .rw[aa]at i;refine Au 1 sr ?_;refine Dw hG i func246 ?_;refine Ak [1,11,13] [] sr ?_;refine J (A5 [44] sr ?_);refine Ek ?_;refine Y [6,7] [] sr ?_;refine Am8 78 1 3 ?_;exact Dc s (Ea (A7 _ _) sr ⟨by rw[I ai],_,[],rfl⟩ (λk o hk=>B2 (by simp[Eng.get];rfl) hk))
  rw[aa]at i;have a8:=λ(k:Nat)(h:k<(Y7 a c (g giv.length)).length)=>Dk h
  have bm:=A0 (Y7 a c (g giv.length));have bq:=Ac (Y7 a c (g giv.length));have ar:∀k,Ael (Y7 a c (g giv.length)) pool (k+1)=if(Y7 a c (g giv.length)).getD k 0=1 then Ael (Y7 a c (g giv.length)) pool k++[(pool.getD k default).id]else Ael (Y7 a c (g giv.length)) pool k:=λk=>rfl
  have a3:=Ai0 (Y7 a c (g giv.length)) pool;have av:Ael (Y7 a c (g giv.length)) pool 0=[]:=rfl;simp only[he,if_true];generalize Ael (Y7 a c (g giv.length)) pool=tk at*;generalize Y7 a c (g giv.length)=xb at*;generalize Ap xb=xv at*;refine Au 1 sr ?_;refine Dw hG i func246 ?_;refine Ak [1,11,13] [] sr ?_;refine J (A5 [44] sr ?_);refine Lq rfl (λh3=>absurd h3 sm) (λh3=>D9 (Y [1,11,14] [] sr (J (Y [11,14,46,47,48] [] sr ?_))));refine Fg 14 100 1 3 [11,14,46,47,48] [100] sr sr ?_;refine Ad ?_
  refine If (λx:Nat×Nat×Nat=>⟨[(11,.ro 1 xv),(14,.sl 100 x.2.1 1 (tk x.1).length),(46,.ro 9 t),(47,.i t.length),(48,V.i (x.1:Nat))],[(100,⟨x.2.1,1,3,Ap (tk x.1)⟩)],x.2.2,65⟩)
   (λx=>x.1<=pool.length) (λx=>pool.length-x.1) (0,_,_) (B5 _) (by simp only[av];exact Z) ?_
  rintro⟨j,qv,bl⟩ax;simp only at ax|-;refine Y [11,14,46,47,48,49] [100] sr (J ?_)
  refine Bk (λh4=>?_) λh4=>?_
  .have e:j<pool.length:=by simp at h4;omega
   have n:j<t.length:=om;have ga:=a2 j e;have Ec:=A4 (k:=j) om;have hs:=ar j;have bo:=a3 j;have a7:j<xb.length:=om;have gx:=a8 j a7;have ba:j<xv.length:=om;unfold Pit.cs at ga;generalize pool.getD j default=p at*;have pm:=D0 p.m;generalize tk j=Lk at*;have aq:Lk.length+1<=maxLen/\(Lk.length+1)*8<=140737488355328:=⟨Ae (show Lk.length+1<=1001 by omega) dc,by omega⟩;refine J (Ad (Y [11,14,15,16,46,47,48] [16,100] (by simp[ga,n]<;>rfl) (Y [11,14,16,46,47,48,57] [16,100] (by simp[gx,ba]<;>rfl) ?_)))
   refine A1 (λh5=>?_) λh5=>?_
   .rw[Ab (sG h5)]at hs;refine A6 [11,14,46,47,48] [100] (by simp[aq]<;>rfl) (Cs [] (by simp[Ec]<;>rfl) ?_);exact⟨(j+1,_,_),e,by simp only;omega,by simp only[hs,Yo,Aq,Ax,Bg];exact Z⟩
   rw[I (sG h5)]at hs;refine A6 [11,14,46,47,48] [100] (by simp[Ec]<;>rfl) ?_;exact⟨(j+1,_,_),e,by simp only;omega,by simp only[hs];exact Z⟩
  .refine A3 ?_;have w:j=pool.length:=sO h4
   subst w;have pL:=Ac (tk pool.length);have lL:=A0 (tk pool.length);refine Bq 100 [14] [] (by simp[pL,lL]<;>rfl) (Y [6,7] [] sr ?_);refine Am8 78 1 3 ?_;exact Dc s (Ea (A7 _ _) sr ⟨rfl,_,[],rfl⟩ (λk o hk=>B2 (by simp[Eng.get];rfl) hk))
def A8d(len:Int)(rs:List Ru)(pool:List Pit)(en:List (Int×Int))(giv a:List Int):Int:=
 if Aiy len rs pool en giv≠0 then Aiy len rs pool en giv else shE (Vg a rs) (V2 len rs pool en (pool.length+Gb rs)) pool (Q8 rs pool) giv
def Apo(len:Int)(rs:List Ru)(pool:List Pit)(en:List (Int×Int))(giv a:List Int):List Int:=
 shT (Vg a rs) (V2 len rs pool en (pool.length+Gb rs)) pool (Q8 rs pool) giv
def A8e{len:Int}{rs:List Ru}{pool:List Pit}{en:List (Int×Int)}{giv:List Int}(h:Aiy len rs pool en giv=0):∀id∈giv,0<=Ak4 pool id:=by
 unfold Aiy at h
 split at h
 .omega
 .split at h
  .omega
  .rename_i h2;intro id a
   by_cases e:Ak4 pool id<0
   .exact absurd (Es.2 ⟨id,a,by simpa using e⟩) h2
   .omega
def A8f(len:Int)(rs:List Ru)(pool:List Pit)(en:List (Int×Int))(giv a:List Int)(n:Int)(hs:Uj len rs=0)(hp:Kh pool n=0)(ae:pool.length+Gb rs<=1000)(hz:Vz (Vg a rs))(he:en.length<=400)(hg:giv.length<=1000)
  (i:a.length=pool.length)(u:∀v∈a,-1000000<=v/\v<=1000000)
  (x:Azc (Vg a rs) (V2 len rs pool en (pool.length+Gb rs)) (Aal pool (Q8 rs pool) giv giv.length))(e:pool.length<=18):
  Jp gv prog 124 [Ry len rs,.ro 9 (C7 pool),.ro 2 (A9 en),.ro 1 (Ap giv),.ro 1 (Ap a)] (λr=>r=Ai1 (A8d len rs pool en giv a) (Apo len rs pool en giv a)):=by
 have c:=Apn len rs pool en giv a n hs hp e he hg i u;have g:=λh=>A8e (len:=len) (rs:=rs) (pool:=pool) (en:=en) (giv:=giv) h
 have ad:=(Agh hs).2.2.1
 have z:(V2 len rs pool en (pool.length+Gb rs)).length<=1000:=by
  have h1:=Asq len rs pool (pool.length+Gb rs) (Ov en (pool.map Pit.id)) (Ov en (pool.map Pit.id)).length e;have h2:(Ov en (pool.map Pit.id)).length<=400:=by unfold Ov;exact Ae (H9 _ _) (Ae (Aed en) he)
  unfold V2;omega
 have af:(Vg a rs).length=pool.length+Gb rs:=by unfold Vg;simp[i]
 have m:=λv h=>Awm (Vg a rs) (V2 len rs pool en (pool.length+Gb rs)) (Q8 rs pool) pool giv v om hz z (by rw[Asr];omega) om hg (g h) x
 have pl:=Cw pool;have pr:=Dm rs;have pe:=A8 en;have pv:=Ac a;have pg:=Ac giv;unfold A8d Apo;unfold Amv Ast Ay0 at c;unfold Ry at c|-;generalize shE (Vg a rs) (V2 len rs pool en (pool.length+Gb rs)) pool (Q8 rs pool) giv=se,shT (Vg a rs) (V2 len rs pool en (pool.length+Gb rs)) pool (Q8 rs pool) giv=sT,Ap (Vg a rs)=xv,G9 (V2 len rs pool en (pool.length+Gb rs))=cv,Ap (Q8 rs pool)=fv,(Q8 rs pool).length=fl,Aiy len rs pool en giv=w,Ap a=vv,Ap giv=ab,A9 en=ev,C7 pool=ag,Hw rs=rv at*
 by_cases s:w=0
 .subst s;simp only[if_true,ne_eq,not_true_eq_false,if_false]at c|-;refine Bp func124 λw0 N0 t=>?_;refine Y [1,2,3,4,5] [5] sr (Au 5 sr ?_);refine Np t c func184 rfl kr rfl rfl rfl sr (λk o d=>by cases d) ?_;rintro r f y⟨v,rfl,rfl⟩j;refine⟨λk d=>rfl,_,by simp<;>rfl,?_⟩;refine Ak [1,3,12,13] [12,78] sr (J (Y [1,3,12,13,24] [12,78] sr ?_));refine Ce (J (Cb (C3 3 sr ?_)));refine Np t (m v rfl) func185 rfl kr rfl rfl rfl sr (λk o d=>B2 gt d) ?_;rintro r f ah⟨rfl,q,es,rfl⟩aa;unfold Ai1
  by_cases l:se=0
  .subst l;simp only[if_true];have pT:=Ac sT;refine⟨λk d=>J4 d,_,by simp<;>rfl,?_⟩;exact Ak [10,11] [] sr (Aj (Aa C1 rfl))
  .simp only[I l];refine⟨λk d=>J4 d,_,by simp<;>rfl,?_⟩;exact Ak [10,11] [] sr (Aj (Aa sr rfl))
 .simp only[I s]at c;unfold Ai1;simp only[ne_eq,s,not_false_eq_true,if_true,if_false];refine Bp func124 λw0 N0 t=>?_;refine Y [1,2,3,4,5] [5] sr (Au 5 sr ?_);refine Np t c func184 rfl kr rfl rfl rfl sr (λk o d=>by cases d) ?_;rintro r f y⟨rfl,rfl⟩j;refine⟨λk d=>rfl,_,by simp<;>rfl,?_⟩;refine Ak [1,3,12,13] [12] sr (J (Y [1,3,12,13,24] [12] sr ?_))
  refine Ek ?_
  .exact Y [10,11] [] sr (Aj (Aa sr rf))
structure Te where
 elig:List Int
 steps:List (Int×Int)
 pend:Int
 w:List Nat
 draw:Int
 stop:Int
def teV(t:Te)(a c:V):V:=.agg [.ro 1 (Ap t.elig),a,.i t.pend,c,.int .u64 t.draw,.i t.stop]
def Te.v(t:Te):V:=teV t (.ro 2 (A9 t.steps)) (.ro 1 (B9 t.w))
def vTe(t:Te):t.v=V.agg [.ro 1 (Ap t.elig),.ro 2 (A9 t.steps),.i t.pend,.ro 1 (B9 t.w),.int .u64 t.draw,.i t.stop]:=rfl
structure teOk(t:Te):Prop where
 el:t.elig.length<=1000
 sl:t.steps.length<=1000
 wl:t.w.length<=1000
 wd:Ks t.w 100000
def Am9(n:Nat):(Gx n).all Ih=true:=by
 rw[Ao];intro x a;simp only[Gx,Az,Bc]at a;obtain⟨k,_,rfl⟩:=a;rfl
def Azd{a:Nat}{x y:Ob}{l:List (Nat×Ob)}(h1:Eng.get l a=some x)(h2:Eng.get l b=some y)(c:Eng.get [(a,x),(b,y)] k=some o):Eng.get l k=some o:=by
 simp only[Eng.get]at c
 split at c
 .rename_i e;subst e;cases c;exact h1
 .split at c
  .rename_i e;subst e;cases c;exact h2
  .cases c
def Ana(t:Te)(h:teOk t):
  Q0 prog 196 [t.v] [] (λr f=>∃q1 q2,r=teV t (.sl 101 q1 2 t.steps.length) (.sl 18 q2 1 t.w.length)/\f=[(101,⟨q1,2,121,A9 t.steps⟩),(18,⟨q2,1,30,B9 t.w⟩)]) (λ_=>False):=by
 have he:=h.el;have ae:=h.sl;have af:=h.wl;have g:=Afk (Ap t.elig) (Ac _) (Uk _) (by rw[A0];omega);have m:=Acq (A9 t.steps) (A8 _) (flatP _) (by rw[Eh];omega);have j:=λ(n:Nat)(h:(Gx n).length<=100000)=>Afl (Gx n) (F7 n) (Am9 n) h
 have aa:=λ(k:Nat)(u:k<t.w.length)=>h.wd _ (As u)
 have pe:=Ac t.elig;have ps:=A8 t.steps;have pw:=Bx t.w;have ls:=Eh t.steps;have lw:=Ib t.w;have hq:=λ(k:Nat)(h:k<t.w.length)=>Li h
 have hg:=λ(k:Nat)(h:k<t.w.length)=>Rj h
 have y:(t.w.length:Int)<=9223372036854775807:=om;have z:24*(t.w.length:Int)<=281474976710656:=om;unfold Te.v teV;generalize Ap t.elig=ev,A9 t.steps=sv,B9 t.w=c at*;refine Ed func196 λw0 N0 a=>?_;refine Y [1,2] [1,2] sr (Y [1,2,3] [1,2,3] sr (Au 2 sr ?_));refine Ge [1,2,3] [1,2,3] g func135 ?_;refine Au 2 sr ?_;refine K5 101 m func136 rfl kr rfl rfl rfl sr C1 sr ?_;refine Ak [1,2,3] [1,2,3,101] sr ?_;refine Y [1,2,3] [1,2,3,18,101] (by simp[y,z,lw]<;>rfl) (J (Y [2,3,21,22,23] [2,3,18,101] sr (Ad (H5 (λk=>[(23,V.i k)]) (λk=>[(18,⟨(a+2+3+5+5+3),1,30,E4 c .nils k⟩)]) (λk=>True) t.w.length trivial (by rw[Ia,lw];exact Z) ?_))));intro k nx u hI;have ad:=Jc c .nils k om;refine Y [2,3,21,22,23,24] [2,3,18,101] sr (J ?_)
 refine Bk (λh1=>?_) λh1=>?_
 .have d:k<t.w.length:=by simp at h1;omega
  have l:k<c.length:=om;have ga:=hq k d;have gg:=hg k d;have Ec:=A4 (k:=k) om;have e:=j _ (show(Gx t.w[k]).length<=100000 by have:=aa k d;simpa[Gx]using this);have pn:=F7 t.w[k];change Gz c k=some (.ro 1 (Gx t.w[k]))at ga;generalize Gx t.w[k]=nv at*;have i:=Je c .nils k om gg;have x:Gz (E4 c .nils k) k=some .nils:=Jd c _ k om;have s:(E4 c .nils k).length=t.w.length:=om;generalize E4 c .nils k=row at*;refine J (Ad (Y [2,3,4,5,21,22,23] [2,3,18,101] (by simp[ga,l]<;>rfl) ?_));refine H6 [0,1,2,3,1,1,5,2] sr ?_;refine B8 3 sr ?_;refine B1 (λhg=>e) func138 ?_;refine C5 [2,3,21,22,23] [2,3,18,101] (by simp[d,x,i]<;>rfl) ?_;refine Cs [] (by simp[Ec]<;>rfl) ?_;exact⟨d,trivial,_,Z⟩
 .refine A3 ?_;have ab:k=t.w.length:=sO h1
  rw[ab,Jz c .nils t.w.length oM];refine Y [2] [2,18,101] sr ?_;exact Dc a (Ea (A7 _ _) sr ⟨(a+2+3+5+2),(a+2+3+5+5+3),by rw[ls],rfl⟩ (λk o u=>Azd gt gt u))
def Ai2{l:List V}{x:V}(h:l[k]?=some x):l.set k x=l:=by
 apply Lu;intro i;rw[Lv]
 by_cases e:k=i
 .subst e;rw[Ab rfl,Ab ((Al.1 h).1),h]
 .rw[I e]
def Anb(t:Te)(h:teOk t):AE 140 [t.v] t.v:=by
 have j:=Ana t h;have ae:=h.wl;have y:=λ(k:Nat)(f:k<t.w.length)=>h.wd _ (As f)
 have c:=λ(n:Nat)(hn:(B0 n).length<=100000)=>Ab5 (B0 n) (Ct n) om
 simp only[C6]at c;change∀n,_ ->AE 178 [.ro 1 (Gx n)] (.ro 1 (Gx n))at c;have pe:=Ac t.elig;have ps:=A8 t.steps;have m:=Bx t.w;have ls:=Eh t.steps;have s:=Ib t.w;have hq:=λ(k:Nat)(h:k<t.w.length)=>Li h
 have hg:=λ(k:Nat)(h:k<t.w.length)=>Rj h
 unfold Te.v teV at*;generalize Ap t.elig=ev,A9 t.steps=sv,B9 t.w=wv at*;refine Ai func140 λw0 N0=>?_;refine Y [1,2] [1,2] sr (Au 1 sr ?_);refine Dx j func196 rfl kr rfl rfl rfl sr (λk o f=>by cases f) ?_ λch l=>l.elim;rintro r aa i⟨q1,x,rfl,rfl⟩ab;refine⟨λk f=>rfl,_,by simp<;>rfl,?_⟩;refine Ak [2,3] [2,3,18,101] sr (J (A5 [9,10,11] sr (Ad (Ho 11 (λk=>True) t.w.length trivial ?_))));intro k nx f hI;refine Y [2,3,9,10,11,12] [2,3,18,101] sr (J ?_)
 refine Bk (λh1=>?_) λh1=>?_
 .have a:k<t.w.length:=by simp at h1;omega
  have d:k<wv.length:=om;have u:=hq k a;have gg:=hg k a;have Ec:=A4 (k:=k) om;have e:=c t.w[k] (y k a);have pn:=F7 t.w[k];change Gz wv k=some (.ro 1 (Gx t.w[k]))at u;generalize Gx t.w[k]=nv at*;have g:=Ai2 gg;refine J (Ad (Y [2,3,4,5,9,10,11] [2,3,18,101] (by simp[u,a]<;>rfl) ?_));refine H6 [0,1,2,3,1,1,5,2] sr (B8 3 sr ?_);refine B1 (λhg=>e) func178 ?_;refine C5 [2,3,9,10,11] [2,3,18,101] C1 ?_;refine Cs [] C1 ?_;exact⟨a,trivial,_,Z⟩
 .refine A3 ?_;refine Y [2] [2,18,101] sr ?_;have ad:=Fm ps;have z:=Fm m;refine Bq 101 [2] [2,18] C1 (Bq 18 [2] [2] C1 ?_);exact Bv C1 (rfl)
def Ata(a:Int):AE 248 [.i a] (.bool false):=by
 refine Ai func248 λw0 N0=>?_;exact Y [0] [] sr (Y [2] [] sr (Bv sr rf))
def cmpI(a b:Int):Int:=if a<b then -1 else if b<a then 1 else 0
def Ai3(a b:Int):AC prog 189 [.i a,.i b] (λr=>r=.i (cmpI a b)):=by
 unfold cmpI;refine Ai func189 λw0 N0=>?_;refine Y [0,1] [] sr (Au 1 sr ?_);refine Aw (Ata a) func248 ?_;refine Ak [0,1,5] [] sr (Au 1 sr ?_);refine Aw (Ata b) func248 ?_;refine Ak [0,1,5,6] [] sr (J (Y [0,1,6,11] [] sr ?_));refine Ce (J (Y [0,1,13] [] sr ?_));refine Ce (J (Y [0,1,16] [] sr ?_))
 refine A1 (λc=>?_) λc=>?_
 .exact Y [4] [] sr (Aj (Aa sr (by rw[Ab (sG c)])))
 refine J (Y [19] [] sr ?_)
 refine Co (λd=>?_) λd=>D9 ?_
 .exact Y [4] [] sr (Aj (Aa sr (by rw[I (sG c),Ab (sG d)])))
 exact Y [4] [] sr (Aj (Aa sr (by rw[I (sG c),I (sG d)])))
def orF:List Int->Int
 |[]=>0
 |a::r=>if a≠0 then a else orF r
def A8g{l:List Int}(h:k<l.length):orF (l.drop k)=if l[k]≠0 then l[k]else orF (l.drop (k+1)):=by rw[Bo h,orF]
def Bk4(l:List Int)(hl:l.length<=1000):AE 188 [.ro 1 (Ap l)] (.i (orF l)):=by
 have j:=λ(k:Nat)(h:k<l.length)=>Fr h
 have lq:=A0 l;have pl:=Ac l;have n:=λ(k:Nat)(h:k<l.length)=>A8g h
 generalize Ap l=g at*;refine Ai func188 λw0 N0=>?_;refine Y [0] [] sr (A5 [3] sr (J (Y [3,6,7,8] [] sr (Ad (Ho 8 (λk=>orF (l.drop k)=orF l) l.length rfl ?_)))));intro k nx hk i;refine Y [3,6,7,8,9] [] sr (J ?_)
 refine Bk (λh1=>?_) λh1=>?_
 .have c:k<l.length:=by simp at h1;omega
  have d:k<g.length:=om;have m:=j k c;have Ec:=A4 (k:=k) om;have e:=n k c;generalize l[k]=a at*;refine J (Ad (Y [3,5,6,7,8] [] (by simp[m,d]<;>rfl) (A5 [14] sr ?_)))
  refine A1 (λh2=>?_) λh2=>?_
  .exact Y [2] [] sr (Aj (Aa sr (by rw[<-i,e,Ab (sG h2)])))
  refine A6 [3,6,7,8] [] (by simp[Ec]<;>rfl) ?_;exact⟨c,by rw[<-i,e,I (sG h2)],_,Z⟩
 .refine A3 ?_;have f:k=l.length:=sO h1
  exact Y [2] [] sr (Aj (Aa sr (by rw[<-i,f,Cl];rfl)))
def Aem(c:List (Int×Int))(a b:Int):Int:=orF [cmpI (Fi c b) (Fi c a),cmpI a b]
def Bd1(bm:Nat)(m:List (Int×V))(c:List (Int×Int))(g:∀a,Of false (.i 0) (Hj a m)=.i (Fi c a))(a b:Int):
  AE 187 [.i a,.i b,.rm bm .i64 m] (.i (Aem c a b)):=by
 have j:=Ai3 (Fi c b) (Fi c a);have h:=Ai3 a b;have d:=Bk4 [cmpI (Fi c b) (Fi c a),cmpI a b] sm;have f:=g a;have e:=g b;unfold Aem;have i:Ap [cmpI (Fi c b) (Fi c a),cmpI a b]=[.i (cmpI (Fi c b) (Fi c a)),.i (cmpI a b)]:=rfl;rw[i]at d;generalize orF [cmpI (Fi c b) (Fi c a),cmpI a b]=oo,cmpI (Fi c b) (Fi c a)=x1,cmpI a b=x2,Fi c a=la,Fi c b=lb at*;refine Ai func187 λw0 N0=>?_;refine Y [0,1,2] [] sr (Au 6 (by simp[f,e,-Of]<;>rfl) ?_);refine Aw j func189 ?_;refine C3 2 sr ?_;refine Aw h func189 ?_;refine C3 1 sr ?_;refine L0 16 [16] [] sr ?_;refine Aw d func188 ?_;refine Ak [5] [] sr ?_;exact Bv sr (rfl)
def Awn(x:Int)(a:0<=x)(h1:x<=18446744073709551615):AE 177 [.int .u64 x] (.i (Lib.bitLen x.toNat)):=by
 intro w N xs hb c hp
 match xs,c with
 |[y],_=>
  have:=hp 0 y _ rfl rfl;cases this with
  |int=>
   refine(bits_Len x w a h1).mono ?_;rintro e w'⟨rfl,rfl⟩;exact⟨_,_,rfl,rfl,.int _ _,Go.RowKit.Below.refl _ _⟩
def Bd2(d v:Nat)(l:List Int)(g:Int)(f:FuncId)(us vs:List V)(e:Int->Int->Int)(hl:l.length<=12)
  (u:∀a∈l,∀b∈l,Z9 G0 prog (.fc f us vs) [.i a,.i b] (λr=>r=.i (e a b))):
  Q0 prog 247 [.sl d v 1 l.length,.i 0,.i l.length,.i g,.fc f us vs] [(d,⟨v,1,3,Ap l⟩)] (λr c=>r=.tup []/\c=[(d,⟨v,1,3,Ap (Hk e l)⟩)]) (λ_=>False):=by
 have i:=Aiq d v l f us vs e l.length (A2 _) om u;change Q0 _ _ _ _ (λr c=>r=.tup []/\c=[(d,⟨v,1,3,Ap (Hk e l)⟩)]) _ at i;have s:(l.length:Int)<=12:=om;have n:IntKind.i64.wrap (l.length:Int)=l.length:=Bm om om;refine Ed func247 λw0 N0 m=>?_;refine Y [0,1,2,3,4,10] [d] sr (Y [0,1,2,3,4,10,11] [d] sr (Ad (Gn (λnx:Nat=>[]) (λ_=>[]) (λnx=>nx) (λ_=>True) (λ_=>0) _ trivial Z ?_)));intro nx _;refine Ad (Y [0,1,2,3,4,10,11,12] [d] C1 (J (Y [0,1,2,3,4,10,11,12,25] [d] sr ?_)))
 refine Ek ?_
 .refine Au 4 sr (Dx i func284 rfl kr rfl rfl rfl sr (λk o h=>B2 gt h) ?_ (λch j=>j.elim));rintro r c w⟨rfl,rfl⟩t;refine⟨λk h=>J4 h,_,by simp<;>rfl,?_⟩;exact Ak [] [d] sr (Dc m (Ea (A7 _ _) sr ⟨rfl,rfl⟩ (λk o h=>B2 gt h)))
def A2z(d v:Nat)(l:List Int)(f:FuncId)(us vs:List V)(e:Int->Int->Int)(u:l.length<=12)
  (w:∀a∈l,∀b∈l,Z9 G0 prog (.fc f us vs) [.i a,.i b] (λr=>r=.i (e a b))):
  Q0 prog 186 [.sl d v 1 l.length,.fc f us vs] [(d,⟨v,1,3,Ap l⟩)] (λr c=>r=.tup []/\c=[(d,⟨v,1,3,Ap (Hk e l)⟩)]) (λ_=>False):=by
 have i:=λs=>Bd2 d v l s f us vs e u w
 have n:IntKind.u64.wrap (l.length:Int)=l.length:=wrap_u64 om;refine Ed func186 λw0 N0 t=>?_;refine Y [0,1,4] [d] sr (Ik 4 C1 ?_);refine Aw (Awn l.length om om) func177 ?_;refine C3 1 sr (Dx (i _) func247 rfl kr rfl rfl rfl sr (λk o h=>B2 gt h) ?_ (λch m=>m.elim));rintro r c x⟨rfl,rfl⟩g;refine⟨λk h=>J4 h,_,by simp<;>rfl,?_⟩;refine Ak [] [d] sr ?_;exact⟨by simp only;simp at g;omega,.tup [],_,by simp[results186],λk o h=>B2 gt h,rfl,rfl⟩
def Xe(c:List (Int×Int))(a:Int):Bool:=c.any λp=>decide (p.1=a)
def Aze(c:List (Int×Int))(a:Int):Of true (.i 0) (Hj a (mV c))=.tup [.i (Fi c a),.bool (Xe c a)]:=by
 induction c with
 |nil=>rfl
 |cons p r ih=>
  have⟨x,v⟩:=p;simp only[mV,Br,Hj,Xe,Zv]at ih|-;rw[Fi]
  by_cases h:x=a
  .rw[Ab h,Ab h];simp[Of,h]
  .rw[I h,I h,ih];simp[h]
def dlK(giv:List Int)(m:List (Int×V)):Nat->List (Int×V)
 |0=>m
 |k+1=>Zm (giv.getD k 0) (dlK giv m k)
def Anc(giv:List Int)(m:List (Int×V))(a:Int):∀k,k<=giv.length->Hj a (dlK giv m k)=if a∈giv.take k then none else Hj a m
 |0,_=>by simp[dlK]
 |k+1,h=>by
  have c:k<giv.length:=om;rw[dlK,Rt,Anc giv m a k om,Av c,Cr c]
  by_cases h1:a=giv[k]
  .rw[Ab h1,Ab (by rw[h1];exact Pl _ (Bz.2 rfl))]
  .rw[I h1]
   by_cases h2:a∈giv.take k
   .rw[Ab h2,Ab (L9 _ h2)]
   .rw[I h2,I (λe=>(Cc.1 e).elim h2 (λe=>h1 (Bz.1 e)))]
def Atb(a:Int):∀(l:List Int),(Hj a (mB l)).isSome=true↔a∈l
 |[]=>by simp[mB,Hj]
 |x::r=>by
  have ih:=Atb a r;simp only[mB,Br,Hj]at ih|-
  by_cases h:x=a
  .rw[Ab h];simp[h]
  .rw[I h,ih,Bu];exact⟨.inr,λe=>e.elim (λe=>absurd e.symm h) id⟩
def Ane:∀ {C T:List Int},C.Nodup->(∀a∈C,a∈T)->C.length<=T.length
 |[],_,_,_=>B5 _
 |c::r,T,d,hs=>by
  rw[I2]at d;have h1:=Ane (T:=T.erase c) d.2 (λa f=>(List.mem_erase_of_ne (λe=>d.1 (by rw[<-e];exact f))).2 (hs a (Dt _ f)));have h2:=hs c (Fc ..);have h3:=List.length_erase_of_mem h2;have h4:=List.length_pos_of_mem h2;simp only[Ax];omega
def Ak5(pool:List Pit)(a:List Int):Nat->List (Int×Int)
 |0=>[]
 |k+1=>if Xe (Ak5 pool a k) (pool.getD k default).id=true then Ak5 pool a k else((pool.getD k default).id,a.getD k 0)::Ak5 pool a k
def Atc(pool:List Pit)(a:List Int):List (Int×Int):=Ak5 pool a pool.length
def Bik(pool:List Pit)(c d giv:List Int)(r:V):Prop:=
 if d.any (λid=> !Xe (Atc pool c) id)=true\/giv.any (λid=> !Xe (Atc pool c) id)=true then r=.tup [.nils,.i 6]
 else∃C:List Int,C.Nodup/\(∀a,a∈C↔a∈d/\a∉giv)/\r=.tup [.ro 1 (Ap (Hk (Aem (Atc pool c)) C)),.i 0]
attribute [-simp] Zm in
def A8h(pool:List Pit)(g d giv:List Int)(bs:pool.length<=18)(bx:g.length=pool.length)(ay:∀v∈g,-1000000<=v/\v<=1000000)(bf:d.length<=12)(bz:giv.length<=1000):
  AC prog 125 [.ro 9 (C7 pool),.ro 1 (Ap g),.ro 1 (Ap d),.ro 1 (Ap giv)] (Bik pool g d giv):=by
 have pl:=Cw pool;have pv:=Ac g;have pt:=Ac d;have pg:=Ac giv;have be:=λ(k:Nat)(h:k<pool.length)=>As9 h
 have aw:=λ(k:Nat)(h:k<g.length)=>Dk h
 have bc:=λ(k:Nat)(h:k<d.length)=>Fr h
 have ba:=λ(k:Nat)(h:k<giv.length)=>Fr h
 have lp:=Er pool;have lv:=A0 g;have lt:=A0 d;have lg:=A0 giv;have bh:∀k,Ak5 pool g (k+1)=if Xe (Ak5 pool g k) (pool.getD k default).id=true then Ak5 pool g k else((pool.getD k default).id,g.getD k 0)::Ak5 pool g k:=λk=>rfl
 have hw0:Ak5 pool g 0=[]:=rfl;unfold Bik Atc;generalize Ak5 pool g=wk,C7 pool=ab,Ap g=vv,Ap d=tv,Ap giv=u at*;refine Ai func125 λw0 N0=>?_;refine Y [0,1,2,3] [] sr (J (A5 [32] sr ?_));refine Ce (J (Y [0,1,2,3,33,34,35] [] sr ?_));refine Ad (Ho 35 (λk=>True) g.length trivial ?_);intro k nx hk hI;refine Y [0,1,2,3,33,34,35,36] [] sr (J ?_)
 refine Bk (λh2=>?_) λh2=>?_
 .have i:k<g.length:=by simp at h2;omega
  have j:k<vv.length:=om;have ga:=aw k i;have Ec:=A4 (k:=k) om;have a6:=Gy ay i 0;generalize g.getD k 0=v at ga a6;refine J (Ad (Y [0,1,2,3,11,33,34,35] [] (by simp[ga,j]<;>rfl) ?_));refine Y [0,1,2,3,33,34,35,44] [] sr ?_;refine Ce (A6 [0,1,2,3,33,34,35] [] (by simp[Ec]<;>rfl) ?_);exact⟨i,trivial,_,Z⟩
 .refine A3 ?_;refine J (Cb (Sz .i64 rfl rfl (λb hb _=>⟨_,rfl,?_⟩)));refine Avi (b:=b) (k:=.i64) (m:=[]) rfl rfl rfl rfl rfl rfl kr sm sr dc sr ?_;refine Ak [0,1,2,3,12] [] sr ?_;refine J (Y [1,2,3,12,47,48,49] [] sr ?_);refine Ad (H5 (λk=>[(12,.rm b .i64 (mV (wk k))),(49,V.i k)]) (λ_=>[]) (λk=>True) pool.length trivial (by simp only[hw0];exact Z) ?_);intro n bt br bu;refine Y [1,2,3,12,47,48,49,50] [] sr ?_;refine J ?_
  refine Bk (λh4=>?_) λh4=>?_
  .have i:n<pool.length:=by simp at h4;omega
   have j:n<ab.length:=om;have ga:=be n i;have gv:=aw n om;have a3:n<vv.length:=om;have Ec:=A4 (k:=n) om;have aa:=bh n;have ad:=Aze (wk n) (pool.getD n default).id;unfold Pit.cs at ga;generalize pool.getD n default=p at*;have pm:=D0 p.m;generalize g.getD n 0=val,Xe (wk n) p.id=hs,an:mV (wk n)=l at*;refine J (Ad (Y [1,2,3,12,13,14,47,48,49] [14] (by simp[ga,j]<;>rfl) ?_));refine Y [1,2,3,12,13,14,16,47,48,49] [14] (by simp[ad,-Of]<;>rfl) ?_;refine Y [1,2,3,12,13,14,47,48,49,62] [14] sr ?_
   refine A1 (λh5=>?_) λh5=>?_
   .rw[I (sG h5)]at aa;have a0:mV (wk (n+1))=(p.id,.i val)::l:=by rw[aa,<-an];rfl
    refine H6 [1,1,3,3,0,1,2,1,6,2] sr ?_;refine B8 7 (by simp[gv,a3,-Of]<;>rfl) ?_;refine Zh (b:=b) hb rfl sm rfl rfl rfl sr sr sr rfl Av3 rfl sr ?_;refine C5 [1,2,3,12,47,48,49] [] sr ?_;refine Cs [] (by simp[Ec]<;>rfl) ?_;exact⟨i,trivial,_,by rw[a0];exact Z⟩
   rw[Ab (sG h5)]at aa;refine A6 [1,2,3,12,47,48,49] [] (by simp[Ec]<;>rfl) ?_;exact⟨i,trivial,_,by rw[aa,an];exact Z⟩
  .refine A3 ?_;have s:n=pool.length:=sO h4
   subst s;have ad:=λa=>Aze (wk pool.length) a
   have a9:=λa=>Agc (wk pool.length) a
   generalize wk pool.length=W at*;generalize mV W=l at*;refine J (Cb (Aom .i64 rfl rfl (λb2 ao bk=>⟨_,rfl,?_⟩)));have aq:b≠b2:=bk 12 b .i64 l (.inr sr);refine Ak [2,3,12,17] [] sr ?_;refine J (Y [3,12,17,72,73,74] [] sr ?_);refine Ad (H5 (λk=>[(17,.mp b2 .i64 (mB (d.take k).reverse)),(74,V.i k)]) (λ_=>[]) (λk=>(d.take k).any (λid=> !Xe W id)=false) d.length rfl Z ?_);intro k3 bq bo aj;refine Y [3,12,17,72,73,74,75] [] sr ?_;refine J ?_
   refine Bk (λh6=>?_) λh6=>?_
   .have i:k3<d.length:=by simp at h6;omega
    have j:k3<tv.length:=om;have ga:=bc k3 i;have Ec:=A4 (k:=k3) om;have ah:=λh=>Ow (f:=λid=> !Xe W id) i aj h
    have ai:=λh=>S8 (f:=λid=> !Xe W id) i h
    have a8:mB (d.take (k3+1)).reverse=(d[k3],.bool true)::mB (d.take k3).reverse:=by rw[Av i,List.reverse_append];rfl
    generalize d[k3]=id at*;have z:=ad id;generalize Xe W id=bd,mB (d.take k3).reverse=mb at*;refine J (Ad (Y [3,12,17,19,72,73,74] [] (by simp[ga,j]<;>rfl) ?_));refine J (Y [3,12,17,19,21,72,73,74] [] (by simp[z,-Of]<;>rfl) ?_);refine Y [3,12,17,19,72,73,74,85] [] sr ?_
    refine A1 (λh7=>?_) λh7=>?_
    .refine Y [8,9] [] sr ?_;exact Aj (Aa sr (by rw[Ab (.inl (ai (sG h7)))]))
    refine Ik 2 sr ?_;refine Tk (b:=b2) ao rfl rfl rfl sr sr sr rfl Apb rfl (by simp[aq]<;>rfl) ?_;refine Ak [3,12,17,72,73,74] [] sr ?_;refine Cs [] (by simp[Ec]<;>rfl) ?_;exact⟨i,ah (sG h7),_,by rw[a8];exact Z⟩
   .refine A3 ?_;have s:k3=d.length:=sO h6
    rw[s,Bb]at aj;rw[s,Bb];have az:∀k,dlK giv (mB d.reverse) (k+1)=Zm (giv.getD k 0) (dlK giv (mB d.reverse) k):=λk=>rfl
    have ax:dlK giv (mB d.reverse) 0=mB d.reverse:=rfl;have a5:=λa=>Anc giv (mB d.reverse) a giv.length (A2 _)
    have a7:=λa=>Atb a d.reverse
    generalize bv:dlK giv (mB d.reverse)=dl at*;refine J (Y [12,17,89,90,91] [] sr ?_);refine Ad (H5 (λk=>[(17,.mp b2 .i64 (dl k)),(91,V.i k)]) (λ_=>[]) (λk=>(giv.take k).any (λid=> !Xe W id)=false) giv.length rfl (by simp only[ax];exact Z) ?_);intro k4 b0 bw ak;refine Y [12,17,89,90,91,92] [] sr ?_;refine J ?_
    refine Bk (λh8=>?_) λh8=>?_
    .have i:k4<giv.length:=by simp at h8;omega
     have j:k4<u.length:=om;have ga:=ba k4 i;have Ec:=A4 (k:=k4) om;have ah:=λh=>Ow (f:=λid=> !Xe W id) i ak h
     have ai:=λh=>S8 (f:=λid=> !Xe W id) i h
     have av:=az k4;rw[Cr i]at av;generalize giv[k4]=id at*;have z:=ad id;generalize Xe W id=bd,dl k4=mb at*;refine J (Ad (Y [12,17,23,89,90,91] [] (by simp[ga,j]<;>rfl) ?_));refine J (Y [12,17,23,25,89,90,91] [] (by simp[z,-Of]<;>rfl) ?_);refine Y [12,17,23,89,90,91,102] [] sr ?_
     refine A1 (λh9=>?_) λh9=>?_
     .refine Y [8,9] [] sr ?_;exact Aj (Aa sr (by rw[Ab (.inr (ai (sG h9)))]))
     refine Ik 2 sr ?_;refine Akm (b:=b2) ao rfl rfl rfl sr sr Apb rfl (by simp[aq]<;>rfl) ?_;refine Ak [12,17,89,90,91] [] sr ?_;refine Cs [] (by simp[Ec]<;>rfl) ?_;exact⟨i,ah (sG h9),_,by rw[av];exact Z⟩
    .refine A3 ?_;have s:k4=giv.length:=sO h8
     rw[s,Bb]at ak;rw[s];simp only[aj,ak,F3,or_self,if_false]
     have hK:∀a,(Hj a (dl giv.length)).isSome=true↔a∈d/\a∉giv:=λa=>by
      rw[a5 a,Bb]
      by_cases h:a∈giv
      .rw[Ab h];simp[h]
      .rw[I h,a7 a];simp[h]
     generalize dl giv.length=dm at*;refine Y [12,17,26] [] sr ?_;refine Fg 26 100 1 3 [12,17,26] [100] sr sr ?_;refine J ?_;have ae:∀y:List Int×Nat×Nat,∀L:List Int,y.1.Nodup->(∀a,(a∈y.1\/a∈L)↔a∈d/\a∉giv)->y.1.length<=12:=λy L h1 h2=>Ae (Ane h1 (λa ha=>((h2 a).1 (.inl ha)).1)) bf
     refine Are (bm:=b2) (k:=.i64) (m:=dm) (e0:=4) 107 (λ(y:List Int×Nat×Nat)=>⟨[(107,.bp 107 _ 0 0 0),(106,.mp b2 .i64 dm),(12,.rm b .i64 l),(17,.mp b2 .i64 dm),(26,.sl 100 y.2.1 1 y.1.length)],[(100,⟨y.2.1,1,3,Ap y.1⟩)],y.2.2,120⟩) (λy L=>y.1.Nodup/\L.Nodup/\(∀a,(a∈y.1\/a∈L)↔a∈d/\a∉giv)/\(∀a,a∈y.1->a∉L)) ([],_,_) rfl rfl rfl rfl rfl rfl rfl rfl rfl rfl rfl rfl rfl rfl rfl rfl rfl rfl rfl rfl rfl sr Apb sm (λy=>by simp) dc (λy=>rfl) ?_ Z ?_ ?_
     .intro L hL bg;exact⟨List.nodup_nil,hL,λa=>by rw[<-hK a,<-bg a];simp,λa ha=>absurd ha (Ck)⟩
     .rintro B N⟨C,qv,nx⟩L a v⟨hC,hL,w,al⟩au;have t:=ae (C,qv,nx) L hC w;simp only at hC w al t|-;have a2:C.length+1<=maxLen/\(C.length+1)*8<=140737488355328:=⟨Ae (show C.length+1<=1001 by omega) dc,by omega⟩;refine A6 [107,106,12,17,26] [100] (by simp[a2]<;>rfl) ?_
      refine⟨(C++[a],_,_),λL' a4 af=>⟨?_,a4,?_,?_⟩,by simp only[R2,Ace,Aq,Ax,Bg];exact Z⟩
      .exact O1.2 ⟨hC,I2.2 ⟨Ck,List.nodup_nil⟩,λx hx y hy=>by rw[Bz.1 hy];exact λe=>al x hx (by rw[e];exact au)⟩
      .intro c;rw[<-w c,af c,Cc,Bz]
       by_cases am:c=a
       .subst am;simp[au]
       .simp[am]
      .intro c hc ag;rw[af c]at ag
       rcases Cc.1 hc with h|h
       .exact al c h ag.1
       .exact ag.2 (Bz.1 h)
     rintro⟨C,qv,nx⟩⟨hC,-,w,-⟩;have t:=ae (C,qv,nx) [] hC w;have bj:∀a,a∈C↔a∈d/\a∉giv:=λa=>by rw[<-w a];simp
     simp only at hC t|-;have pC:=Ac C;have lC:=A0 C;have ar:=A2z 100 qv C 187 [] [.rm b .i64 l] (Aem W) t (λx _ y _=>Acj (args:=[.i x,.i y]) (us:=[]) (vs:=[.rm b .i64 l]) (r:=.i (Aem W x y)) (Bd1 b l W a9 x y) func187 kr rfl);have a1:=Ac (Hk (Aem W) C)
     have bb:(Ap (Hk (Aem W) C)).length=C.length:=by rw[A0,N9]
     .skip
      refine Au 2 sr ?_;refine Dx ar func186 rfl kr rfl rfl rfl sr (λk o hk=>B2 gt hk) ?_ λch bi=>bi.elim;rintro r bn b1⟨rfl,rfl⟩bl;refine⟨λk hk=>J4 hk,_,by simp<;>rfl,?_⟩;refine Ak [26] [100] sr ?_;refine Bq 100 [26] [] (by simp[a1,bb]<;>rfl) ?_;refine Y [8,9] [] sr ?_;exact Aj (Aa sr (⟨C,hC,bj,rfl⟩))
def Bd3(l:List Nat):Bool:=decide (0<((bitLen (Bd l):Nat):Int))
def Bd4(l:List Nat)(h:Ei l)(hs:l.length<=1099511627776):AE 249 [.ro 1 (Az l)] (.bool (Bd3 l)):=by
 have a:=Ayj l h hs;have pl:=Af l;unfold Bd3;generalize Az l=lv at*;refine Ai func249 λw0 N0=>?_;refine Y [0] [] sr (Au 1 sr ?_);refine Ge [2] [] a func250 ?_;exact Bv sr (rfl)
variable {w:List Nat}
def Xf(h:Ks w m):∀k,k<=w.length->(B0 (Gj (w.take k))).length<=m+k
 |0,_=>by simp[Gj,Ep]
 |k+1,hk=>by
  rw[Yk om];have:=Af8 (Xf h k om) (h _ (As (show k<w.length by omega)));omega
def App(w:List Nat)(l:Ks w 1000000)(o:w.length<=1000000):AE 349 [.ro 1 (B9 w)] (.ro 1 (Gx (Gj w))):=by
 have n:∀(k:Nat)(h:k<w.length),Gz (B9 w) k=some (.ro 1 (Gx w[k])):=λk h=>Li h
 have lq:=Ib w;have pw:=Bx w;generalize B9 w=e at*;refine Ai func349 λw0 N0=>?_;refine Y [0] [] sr (A5 [3] sr ?_);refine Aq6 3 (.ro 1 (Gx (Gj (w.take 0)))) [0,3] [] rfl rfl (by rw[Kw,Gj,Gx,Ep];exact Bh.nils 1) sr (J (Y [3,6,7,8] [] sr (Ad (H5 (λk=>[(3,V.ro 1 (Gx (Gj (w.take k)))),(8,V.i k)]) (λ_=>[]) (λk=>True) w.length trivial (by simp only[Kw];exact Z) ?_))));intro k nx hk hI;refine Y [3,6,7,8,9] [] sr (J ?_)
 refine Bk (λh1=>?_) λh1=>?_
 .have c:k<w.length:=by simp at h1;omega
  have d:k<e.length:=om;have j:=n k c;have hs:=Yk c;have t:=l _ (As c);have m:=(Xf l) k om;generalize w[k]=x at j hs t;generalize Gj (w.take k)=g at hs m|-;have a:=Avt (B0 g) (B0 x) (Ct _) (Ct _) om om;rw[C6,C6,<-hs]at a;change AC _ _ [.ro 1 (Gx g),.ro 1 (Gx x)] (λr=>r=.ro 1 (Gx (Gj (w.take (k+1)))))at a;have u:=F7 g;have s:=F7 x;refine J (Ad (Y [3,5,6,7,8] [] (by simp[j,d]<;>rfl) (Ik 2 sr ?_)));refine Ge [3,6,7,8] [] a func302 ?_;refine Cs [] (by simp[(A4 (k:=k) om)]<;>rfl) ?_;exact⟨c,trivial,_,Z⟩
 .refine A3 ?_;have i:k=w.length:=sO h1
  subst i;rw[Bb];have pG:=F7 (Gj w);exact Y [2] [] sr (Bv sr rf)
def A20(w:List Nat):Int:=if 21<(w.length:Int)then 5 else if((bitLen (Gj w):Nat):Int)=0 then 20 else 0
def Bil(w:List Nat)(e:Ks w 1000000)(d:w.length<=1000000):AE 328 [.ro 1 (B9 w)] (.i (A20 w)):=by
 have c:=App w e d;have a:=Ayj (B0 (Gj w)) (Ct _) (by have:=Xf e w.length (A2 _);rw[Bb]at this;omega);rw[C6]at a;change AC _ _ [.ro 1 (Gx (Gj w))] _ at a;have h:=Bx w;have g:=F7 (Gj w);unfold A20;rw[<-(Ib w)];generalize B9 w=wv,Gx (Gj w)=sv,((bitLen (Gj w):Nat):Int)=bl at*;refine Ai func328 λw0 N0=>?_;refine Y [0] [] sr (J (A5 [5] sr ?_))
 refine A1 (λh1=>?_) λh1=>?_
 .exact Y [2] [] sr (Aj (Aa sr (by rw[Ab (sG h1)])))
 refine J (Au 1 sr ?_);refine Aw c func349 ?_;refine Ge [9] [] a func250 ?_
 refine Co (λh2=>?_) λh2=>D9 ?_
 .exact Y [2] [] sr (Aj (Aa sr (by rw[I (sG h1),Ab (sG h2)])))
 exact Y [2] [] sr (Aj (Aa sr (by rw[I (sG h1),I (sG h2)])))
def Afu(a b:Int):Rat:=mkRat (a*G8 b) b.natAbs
def Azf(a b:Int)(h1: -9223372036854775808<=a)(h2:a<9223372036854775808)(d: -9223372036854775808<=b)(e:b<9223372036854775808)(f:b≠0):
  AE 329 [.i a,.i b] ((nR (Afu a b)).v):=by
 have c:=Wu a b h1 h2 d e;rw[Pv,I f]at c;change AC _ _ _ (λr=>r=V.tup [(nR (Afu a b)).v,.bool true])at c;simp only[Y2]at c|-;have p1:=Jl;have p2:=Jm;refine Ai func329 λw0 N0=>?_;refine Y [0,1,4] [4] sr (Au 2 sr ?_);refine Aw c func103 ?_;exact Ak [4,5] [4,5] sr (Y [4] [4] sr (Bv sr rf))
end Go.Proofs.YtnoignhlamifmaaGreatDoor
