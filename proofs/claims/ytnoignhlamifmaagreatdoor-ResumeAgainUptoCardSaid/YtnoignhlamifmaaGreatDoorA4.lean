/- Resuming, part 4. No condition. -/
import Derived.Test.YtnoignhlamifmaaGreatDoorA3
import Derived.Shelf.SlicesG.Cmp
import Derived.WalkSpells
import Derived.Deep.RegionHeld3
import Derived.Shelf.SlSortCmp.NoneTotal
set_option maxHeartbeats 8000000
set_option linter.all false
set_option maxRecDepth 10000
open Go.Proofs.Tryz
namespace Go.Proofs.YtnoignhlamifmaaGreatDoor
open Go.Eng Go.Eng.Limb
variable {k:Nat}
def Anj{l:List Int}(h:l.Pairwise (·< ·)):Kt l=l:=
 List.mergeSort_of_pairwise (h.imp (λa=>by simp only[decide_eq_true_eq];exact Int.le_of_lt a))
def Agu{l:List Int}(h:l.Pairwise (·< ·)):Lib.compact l=l:=by
 refine Lib.compact_all l λj a=>?_;unfold Lib.keeps;rw[decide_eq_true_iff]
 by_cases c:j=0
 .exact .inl c
 .right
  have:=Hw.1 h (j-1) j om a om;have e:l.toArray[j]! =l[j]:=by simp[a]
  have d:l.toArray[j-1]! =l[j-1]'(by omega):=by simp[show j-1<l.length by omega]
  rw[e,d];omega
def Ae2:∀ {l:List Int}{p:Int},Tq p l=true->(∀x∈l,p<x/\1<=x/\x<=9999999)/\l.Pairwise (·< ·)
 | [],_,_ =>by simp
 |y::r,p,h=>by
  simp only[Tq,Bg,decide_eq_true_eq,Xu]at h;have⟨h1,h2⟩:=Ae2 h.2;refine⟨λx a=>?_,Nb.2 ⟨λx a=>(h1 x a).1,h2⟩⟩
  rcases B8.1 a with e|e
  .subst e;omega
  .have:=h1 x e;omega
def Rk(a b:List Int):Av (a++b)=Av a++Av b:=C0
def Aa0(x:Int):Av [x]= [.i x]:=rfl
def U2(f:Int->Bool)(l:List Pit):List Int:=(l.filter λp=>f p.id).map Pit.id
def Aui(f:Int->Bool){l:List Pit}(h:k<l.length):U2 f (l.take (k+1))=U2 f (l.take k)++(if f l[k].id=true then [l[k].id]else []):=by
 unfold U2;rw[Az h,Kq,C0]
 congr 1
 by_cases a:f l[k].id=true
 .rw[Ad a,Ii (by exact a)];rfl
 .rw[I a,Ij (by exact a)];rfl
def Ak0(f:Int->Bool)(l:List Pit):(U2 f l).length<=l.length:=by unfold U2;rw[D9];exact H1 _ _
def Ank(f:Int->Bool){l:List Pit}(h:(Qn l).Pairwise (·< ·)):(U2 f l).Pairwise (·< ·):=
 List.Pairwise.sublist ((Qd (l:=l)).map Pit.id) h
def Aa1(pool:List Pit)(c:List (Int × Int))(d:Int)(a:Rat)(sl:Int):List Int:=U2 (λid=>U1 (Fo (Aaz c []) id) d a sl) pool
def Gn(p:Pit):p.v=.agg [.i p.id,.str p.code,.i p.fam,.i p.st,.i p.wo,.i p.se,.i p.pt,.i p.ky,.ro 1 (Es p.m)]:=rfl
def Az9(pool:List Pit)(a:List (Int × Int))(i:Int)(r:RR)(sl:Int)(hr:r.ok 34359738368)(hp:(Qn pool).Pairwise (·< ·))(am:pool.length<=18):
  AC prog 65 [.ro 9 (C5 pool),.ro 2 (Bd a),.i i,r.v,.i sl] (λx=>x=.ro 1 (Av (Aa1 pool a i r.val sl))):=by
 have aj:=Az8 a;have hq:=λ(k:Nat)(h:k<pool.length)=>I8 h
 have lq:=E4 pool;have j:=λ(ct:Int)=>Bbx ct i r sl hr
 have g:=Ank (λid=>U1 (Fo (Aaz a []) id) i r.val sl) hp;have w:=Ak0 (λid=>U1 (Fo (Aaz a []) id) i r.val sl);have af:=λ(k:Nat)(h:k<pool.length)=>Aui (λid=>U1 (Fo (Aaz a []) id) i r.val sl) h
 have o:=Ae1 (Aaz a []);have pu:=Bc a;unfold Aa1;generalize Aaz a []=m,r.val=q at*;have er:=vRR r;rw[er]at j|-;have ad:=Aj r.num.mag;have ah:=Aj r.den;generalize r.num.neg=rb,A2 r.num.mag=rm,A2 r.den=rd,Bd a=uv,C5 pool=pv,mV m=mv at*;refine Aq func65 λw0 N0=>?_;refine Y [0,1,2,4,8] [8] sr (Bn 1 sr ?_);refine Ao8 rfl rfl rfl func115 kr rfl sr sM aj ?_;rintro _⟨b,rfl⟩;refine⟨_,rfl,?_⟩;refine Aa [0,2,4,8,11] [8] sr (A9 [12] sr (J (Y [2,4,8,11,12,17,18,19] [8] sr ?_)));refine Fz 12 100 1 3 [2,4,8,11,12,17,18,19] [8,100] sr sr (Ah ?_)
 refine C3 (λx:Nat × Nat × Nat=>⟨[(2,V.i i),(4,V.i sl),(8,V.bp 8 (0) 3 0 0),(11,.mp b .i64 mv),(12,.sl 100 x.2.1 1 (U2 (λid=>U1 (Fo m id) i q sl) (pool.take x.1)).length),(17,V.ro 9 pv),(18,V.i pv.length),(19,V.i (x.1:Nat))],[(8,{ v:=0,sz:=3,ty:=34,es:=[V.agg [V.bool rb,V.ro 1 rm,V.ro 1 rd]]}),(100,⟨x.2.1,1,3,Av (U2 (λid=>U1 (Fo m id) i q sl) (pool.take x.1))⟩)],x.2.2,41⟩)
  (λx=>x.1<=pool.length) (λx=>pool.length-x.1) (0,_,_) (Cg _) Z ?_
 rintro⟨k,qv,nx⟩hk;simp only at hk|-;refine Y [2,4,8,11,12,17,18,19,20] [8,100] sr (J ?_)
 refine Cu (λh1=>?_) λh1=>?_
 .have l:k<pool.length:=by simp at h1;omega
  have z:k<pv.length:=om;have ga:=hq k l;have Ee:=A5 (k:=k) om;have c:=af k l;have ab:=w (pool.take k);rw[Gn]at ga;generalize pool[k]=p at ga c;have⟨id,ak,al,st,wo,se,pt,ky,mo⟩:=p;simp only at ga c;have y:=o id;generalize Fo m id=ct at y c;have n:=j ct;have aa:(U2 (λid=>U1 (Fo m id) i q sl) (pool.take k)).length<=18:=by simp only[Da]at ab;omega
  generalize U2 (λid=>U1 (Fo m id) i q sl) (pool.take k)=Lk at c aa|-;have ae:Lk.length+1<=maxLen/\(Lk.length+1)*8<=140737488355328:=⟨Ag (show Lk.length+1<=19 by omega) dc,by omega⟩;generalize U1 ct i q sl=e at n c;refine J (Ah (Y [2,4,8,11,12,14,17,18,19] [8,14,100] (by simp[ga,z]<;>rfl) (Bn 7 (by simp[y,-Nu]<;>rfl) ?_)));refine Ac n func116 ?_;refine Aa [2,4,8,11,12,14,17,18,19,30] [8,14,100] sr ?_
  refine C1 (λh2=>?_) λh2=>?_
  .refine Ba [2,4,8,11,12,17,18,19] [8,100] (by simp[ae]<;>rfl) (Cw [] (by simp[Ee]<;>rfl) ?_);rw[Ad h2]at c;exact⟨(k+1,_,_),l,by simp only;omega,by simp only[c,Rk,Aa0,A1,A3,Bo];exact Z⟩
  refine Ba [2,4,8,11,12,17,18,19] [8,100] (by simp[Ee]<;>rfl) ?_;rw[I (by rw[h2];simp),Ex]at c;exact⟨(k+1,_,_),l,by simp only;omega,by simp only[c];exact Z⟩
 .refine A6 ?_;have ai:k=pool.length:=sO h1
  subst ai;have ag:=w pool;simp only[Be];generalize U2 (λid=>U1 (Fo m id) i q sl) pool=L at g ag|-;have t:=Agt L om;rw[Anj g]at t;have s:=Aqk L om;rw[Agu g]at s;have hf:=Tu L;have u:=Af L;have f:=A4 L;generalize Av L=r1 at t s hf u f|-;refine Bn 1 sr ?_;refine W6 (d:=100) (v:=qv) t hf hf func117 rfl kr rfl rfl rfl (by simp[f]<;>rfl) sR sR ?_;refine Aa [12] [100] sr ?_;refine Bn 1 sr ?_;refine W6 (d:=100) (v:=qv) s hf hf func118 rfl kr rfl rfl rfl (by simp[f]<;>rfl) sR sR ?_;refine Aa [10] [100] sr ?_;exact By (by simp[results65,u,f]<;>rfl) (rfl)
variable {n:Nat}{x:Int}
def O3(d:Int):List Int->List Int->List Int->Rat->Rat
 |a::l,b::e,w::c,t=>O3 d l e c (t+mkRat ((b-a)*(b-a)) (1000*d*d*w).natAbs)
 |_,_,_,t=>t
def P7(a:List Int)(m:Mo)(q:Nat):Rat:=
 if q-1=min (q+1) (a.length-1)then 0
 else O3 (a.getD (min (q+1) (a.length-1)) 0-a.getD (q-1) 0) (m.getD (q-1) []) (m.getD (min (q+1) (a.length-1)) []) (m.getD q []) 0
def Auj(d:Int){a b w:List Int}(h1:k<a.length)(h2:k<b.length)(c:k<w.length)(t:Rat):
  O3 d (a.drop k) (b.drop k) (w.drop k) t=O3 d (a.drop (k+1)) (b.drop (k+1)) (w.drop (k+1)) (t+mkRat ((b[k]-a[k])*(b[k]-a[k])) (1000*d*d*w[k]).natAbs):=by
 rw[Bt h1,Bt h2,Bt c,O3]
def Agv:∀ {l:List Int},Vr l=true->l.Pairwise (·< ·)
 | [],_ =>.nil
 | [_],_ =>by simp
 |a::b::r,h=>by
  simp only[Vr,Bg,decide_eq_true_eq]at h;have ih:=Agv h.2;refine Nb.2 ⟨λx c=>?_,ih⟩
  rcases B8.1 c with e|e
  .subst e;exact h.1
  .have:=(Nb.1 ih).1 x e;omega
def Aql(h1: -(n:Int)<=x)(h2:x<=n):0<=x*x/\x*x<=(n*n:Nat):=by
 rw[<- Int.natAbs_mul_self (a:=x)];have:=If (show x.natAbs<=n by omega) (show x.natAbs<=n by omega);omega
def Ak1{d w:Int}(h1:0<d)(h2:d<=2000)(h3:1<=w)(h4:w<=1000):∃n:Nat,1000*d*d*w=n/\n≠0/\n<=4000000000000/\0<=1000*d/\1000*d<=2000000/\0<=1000*d*d/\1000*d*d<=4000000000:=by
 obtain⟨a,rfl⟩:∃a:Nat,d=a:=⟨d.toNat,by omega⟩;obtain⟨b,rfl⟩:∃b:Nat,w=b:=⟨w.toNat,by omega⟩;have e:a*a<=2000*2000:=If om om;have g:0<a*a:=Nat.mul_pos om om;have k3:a*a*b<=2000*2000*1000:=If e om;have k4:0<a*a*b:=Nat.mul_pos g om;have c:1000*(a:Int)*a=1000*(a*a:Nat):=by rw[Ft,Int.mul_assoc]
 have f:1000*(a:Int)*a*b=(1000*(a*a*b):Nat):=by rw[c,Int.mul_assoc,<- Ft];rfl
 refine⟨1000*(a*a*b),f,by omega,by omega,by omega,by omega,?_,?_⟩
 .rw[c];omega
 .rw[c];omega
def Bby(g:Gr)(m:Mo)(q:Nat)(hg:Li g=0)(hm:Lj m g.pts.length=0)(hq:q<g.pts.length):
  AE 306 [g.v,moV m,.i q] ((nR (P7 g.pts m q)).v):=by
 have l:=Vu 0 1 dc dc dc dc;rw[Rg]at l;obtain⟨bk,bh,bc,ad,-,hri⟩:=Kc hg;obtain⟨ml,mp,a6,-,m6,mrow⟩:=Aar hm;have c:=Agv hri;have⟨pts,ae⟩:=g;simp only at bk bh bc ad hq ml a6 c|-;have ev:(Gr.mk pts ae).v=.agg [.ro 1 (Av pts),.ro 1 (Av ae)]:=rfl;have em:moV m=.agg [.ro 1 (Es m)]:=rfl;rw[ev,em];unfold P7;have hr:∀(k:Nat)(h:k<m.length),Hj (Es m) k=some (.ro 1 (Av m[k])):=λk h=>Tj h
 have lr:=Lz m;have gp:∀(k:Nat)(h:k<pts.length),Hj (Av pts) k=some (.i pts[k]):=λk h=>Fu h
 have lp:=A4 pts;obtain⟨A,hA⟩:∃A,A=q-1:=⟨_,rfl⟩;obtain⟨B,hB⟩:∃B,B=min (q+1) (pts.length-1):=⟨_,rfl⟩;rw[<- hA,<- hB];have o:A<pts.length:=om;have s:B<pts.length:=om;have gA:=gp A o;have gB:=gp B s;have rA:=hr A om;have rB:=hr B om;have rQ:=hr q om;have eA:pts.getD A 0=pts[A]:=by simp[List.getD,o]
 have eB:pts.getD B 0=pts[B]:=by simp[List.getD,s]
 have a3:m.getD A []=m[A]'(by omega):=by simp[List.getD,show A<m.length by omega]
 have bi:m.getD B []=m[B]'(by omega):=by simp[List.getD,show B<m.length by omega]
 have a1:m.getD q []=m[q]'(by omega):=by simp[List.getD,show q<m.length by omega]
 rw[eA,eB,a3,bi,a1];have xA:=mrow _ (Aw (show A<m.length by omega));have xB:=mrow _ (Aw (show B<m.length by omega));have xQ:=mrow _ (Aw (show q<m.length by omega));have pA:=ad _ (Aw o);have pB:=ad _ (Aw s);have ar:A≠B->pts[A] <pts[B]:=λh=>Hw.1 c A B o s om
 generalize m[A]'(by omega)=y,m[B]'(by omega)=z,m[q]'(by omega)=e,pts[A]=pa,pts[B]=pb at*;simp only[Xt]at l|-;have au:nRb ((0:Int):Rat)=nRb 0:=rfl;have a2:nRl ((0:Int):Rat)=nRl 0:=rfl;have ao:nRd ((0:Int):Rat)=nRd 0:=rfl;rw[au,a2,ao]at l;have p1:=Jb;have p2:=Jc;generalize Av pts=pv,Av ae=qv,Es m=mv at*
 have bg:(if IntKind.i64.wrap ((q:Int)-1)<0 then 0 else IntKind.i64.wrap ((q:Int)-1))=(A:Int):=by
  rw[Bp om oM];split<;>omega
 have be:(if IntKind.i64.wrap ((pv.length:Int)-1)<IntKind.i64.wrap ((q:Int)+1)then IntKind.i64.wrap ((pv.length:Int)-1)else IntKind.i64.wrap ((q:Int)+1))=(B:Int):=by
  rw[Bp om om,Bp om oM];split<;>omega
 have a4:A<pv.length:=om;have a7:B<pv.length:=om;have aw:A<mv.length:=om;have a0:B<mv.length:=om;have bf:q<mv.length:=om;have ax:=A4 y;have a8:=A4 z;have bd:=A4 e;obtain⟨wa,al⟩:∃wa,Av y=wa:=⟨_,rfl⟩;obtain⟨wb,ai⟩:∃wb,Av z=wb:=⟨_,rfl⟩;obtain⟨wq,af⟩:∃wq,Av e=wq:=⟨_,rfl⟩;rw[al]at rA ax;rw[ai]at rB a8;rw[af]at rQ bd;refine Aq func306 λw0 N0=>?_;refine Y [2,3,4,6] [3,4,6] sr (Do [(0,[]),(1,[]),(2,[]),(3,[]),(4,[]),(5,[]),(10,[]),(6,[]),(7,[]),(8,[]),(9,[]),(11,[])] [2,3,4,6,7,8] [3,4,6] Eb kr (by simp[bg,be]<;>rfl) ?_);refine J (Ak (Ac l func103 ?_));refine Aa [2,3,4,6,7,8,9] [3,4,6,9] sr ?_;refine J (A9 [33] sr ?_)
 refine Au (λh1=>?_) λh1=>Ae ?_
 .have bo:(A:Int)=B:=sG h1
  have a:A=B:=om;exact Y [6] [6] sr (Ao (Ab sr (by rw[Ad a])))
 have a:A≠B:=λh=>by rw[h]at h1;simp at h1
 rw[I a];have bm:=ar a;obtain⟨d,hd⟩:∃d,d=pb-pa:=⟨_,rfl⟩;rw[<- hd];have bj:IntKind.i64.wrap (pb-pa)=d:=by rw[hd];exact Bp om om
 refine Do [(0,[]),(2,[]),(5,[]),(7,[]),(1,[]),(3,[]),(4,[]),(6,[]),(8,[]),(9,[]),(10,[]),(11,[])] [2,4,6,7,8,9,11] [4,6,9] Eb kr (by simp[gA,gB,a4,a7,bj]<;>rfl) ?_;refine J (Y [4,6,7,8,9,11,50,51,52] [4,6,9] (by simp[rQ,bf]<;>rfl) (Ah ?_))
 refine C3 (λx:Nat × Nat × Rat=>⟨[(4,V.bp 4 (1) 1 0 0),(6,V.bp 6 (2) 3 0 0),(7,.i A),(8,.i B),(9,V.bp 9 (19) 3 0 0),(11,.i d),(50,.ro 1 wq),(51,.i wq.length),(52,V.i (x.1:Nat))],[(4,{ v:=1,sz:=1,ty:=109,es:=[V.agg [V.ro 1 mv]]}),(6,{ v:=2,sz:=3,ty:=34,es:=[V.agg [V.bool false,V.nils,V.nils]]}),(9,{ v:=19,sz:=3,ty:=34,es:=[V.agg [V.bool (nRb x.2.2),V.ro 1 (nRl x.2.2),V.ro 1 (nRd x.2.2)]]})],x.2.1,92⟩)
  (λx=>x.1<=e.length/\Qk x.2.2<=3+4*x.1/\O3 d (y.drop x.1) (z.drop x.1) (e.drop x.1) x.2.2=O3 d y z e 0) (λx=>e.length-x.1) (0,_,0) ⟨Cg _,Qm (x:=0) dc dc,rfl⟩ Z ?_
 rintro⟨k,nx,t⟩⟨hk,ag,j⟩;simp only at hk ag j|-;refine Y [4,6,7,8,9,11,50,51,52,53] [4,6,9] sr (J ?_)
 refine Au (λh2=>Ae ?_) λh2=>?_
 .have c:k<e.length:=by simp at h2;omega
  have ab:k<y.length:=om;have aa:k<z.length:=om;have ah:k<wa.length:=om;have aj:k<wb.length:=om;have am:k<wq.length:=om;have ga:=Fu ab;have gb:=Fu aa;have gq:=Fu c;rw[al]at ga;rw[ai]at gb;rw[af]at gq;have Ee:=A5 (k:=k) om;have ba:=xA.2.1 _ (Aw ab);have bb:=xB.2.1 _ (Aw aa);have bq:=xQ.2.1 _ (Aw c);rw[Auj d ab aa c]at j;generalize y[k]=ka at ga ba j;generalize z[k]=kb at gb bb j;generalize e[k]=kq at gq bq j;obtain⟨ch,ak⟩:∃ch,ch=kb-ka:=⟨_,rfl⟩;have a9:IntKind.i64.wrap (kb-ka)=ch:=by rw[ak];exact Bp om om
  rw[<- ak]at j;have aq:=Aql (x:=ch) (n:=1000) om om;have⟨E,hE,an,br,e1,e2,e3,e4⟩:=Ak1 (d:=d) (w:=kq) om om om om;rw[hE,Ez]at j;have av:IntKind.i64.wrap (1000*d)=1000*d:=Bp om om;have az:IntKind.i64.wrap (1000*d*d)=1000*d*d:=Bp om om;have a5:IntKind.i64.wrap (1000*d*d*kq)=(E:Nat):=by rw[hE];exact Bp om om
  clear e1 e2 e3 e4 hE;obtain⟨sq,hs⟩:∃sq,sq=ch*ch:=⟨_,rfl⟩;have ay:IntKind.i64.wrap (ch*ch)=sq:=by rw[hs];exact Bp om om
  rw[<- hs]at aq j;have i:=Vu sq E om om om om;rw[Ul _ an]at i;have z1:Qk (mkRat sq E)<=3:=Uk an (L0 om om) (Acw (L0 om om));have bn:k<6:=om;have f:=Aws (nR t) (nR (mkRat sq E)) (Nn om) (Nn om);rw[Mj,Mj]at f;have z2:=Ane ag z1;generalize mkRat sq E=u at*;simp only[Xt]at i f;refine J (Ah (Y [4,6,7,8,9,11,12,13,50,51,52] [4,6,9] (by simp[gq,am]<;>rfl) ?_));refine Do [(0,[]),(2,[]),(5,[]),(8,[]),(10,[]),(13,[]),(1,[]),(3,[]),(4,[]),(6,[]),(7,[]),(9,[]),(11,[]),(12,[]),(14,[]),(15,[]),(16,[]),(17,[])] [4,6,7,8,9,11,13,14,50,51,52] [4,6,9] Eb kr (by simp[rA,rB,aw,a0,ga,gb,ah,aj,a9]<;>rfl) ?_;refine J (Ak (Ay 9 (by simp[ay,av,az,a5]<;>rfl) ?_));refine Ac i func103 ?_;refine Aa [4,6,7,8,9,11,15,50,51,52] [4,6,9,15] sr ?_;refine Ak (Ay 2 sr ?_);refine Ac f func304 ?_;refine Aa [4,6,7,8,9,11,50,51,52] [4,6,9] sr ?_;refine Cw [] (by simp[Ee]<;>rfl) ?_;exact⟨(k+1,_,t+u),⟨by simp only;omega,by simp only;omega,j⟩,by simp only;omega,Z⟩
 .refine A6 ?_;have bl:k=e.length:=sO h2
  have hn:∀t,O3 d (y.drop k) (z.drop k) (e.drop k) t=t:=λt=>by rw[bl,Ck];cases y.drop e.length<;>cases z.drop e.length<;>rfl
  rw[hn]at j;exact Y [6] [6] sr (Ao (Ab sr (by rw[j])))
variable {α:Type}{i q:Nat}
def Aqm{d:Int}(h1:0<d)(h2:d<=2000):∀ {a b w:List Int}{t:Rat}{s:Nat},(∀x∈a,1<=x/\x<=1000)->(∀x∈b,1<=x/\x<=1000)->(∀x∈w,1<=x/\x<=1000)->Qk t<=s->Qk (O3 d a b w t)<=s+4*w.length
 | [],b,w,t,s,_,_,_,e=>by cases b<;>cases w<;>simp only[O3]<;>omega
 |_ ::_,[],w,t,s,_,_,_,e=>by cases w<;>simp only[O3]<;>omega
 |_ ::_,_ ::_,[],t,s,_,_,_,e=>by simp only[O3];omega
 |x::a,y::b,z::w,t,s,j,l,k,e=>by
  have c:=j x (Fk ..);have hy:=l y (Fk ..);have i:=k z (Fk ..);obtain⟨E,m,g,u,-⟩:=Ak1 h1 h2 i.1 i.2;have f:=Aql (x:=y-x) (n:=1000) om om;obtain⟨q,h⟩:∃q,q=(y-x)*(y-x):=⟨_,rfl⟩;rw[O3,m,Ez,<- h];rw[<- h]at f;have o:Qk (mkRat q E)<=3:=Uk g (L0 om om) (Acw (L0 om om));have:=Aqm h1 h2 (λx c=>j x (Dx _ c)) (λx c=>l x (Dx _ c)) (λx c=>k x (Dx _ c)) (Ane e o);simp only[A3];omega
def V0{l:List α}{d:α}(h:i<l.length):l.getD i d∈l:=by
 rw[show l.getD i d=l[i]by simp[List.getD,h]];exact Aw h
def Bbz{g:Gr}{m:Mo}(h:Li g=0)(o:Lj m g.pts.length=0)(hq:q<g.pts.length):Qk (P7 g.pts m q)<=27:=by
 obtain⟨k,r,n,a,-,hri⟩:=Kc h;obtain⟨ml,mp,i,-,m6,mrow⟩:=Aar o;unfold P7
 split
 .exact Ag (Qm (x:=0) dc dc) dc
 .rename_i l;have c:min (q+1) (g.pts.length-1)<g.pts.length:=om;have e:q-1<g.pts.length:=om;have pA:=a _ (V0 (d:=0) e);have pB:=a _ (V0 (d:=0) c)
  have hd:g.pts.getD (q-1) 0<g.pts.getD (min (q+1) (g.pts.length-1)) 0:=by
   have:=Hw.1 (Agv hri) (q-1) _ e c om;simpa[List.getD,e,c]using this
  have j:=mrow _ (V0 (d:=[]) (show q<m.length by omega))
  have:=Aqm (t:=0) (s:=3) (show 0<g.pts.getD (min (q+1) (g.pts.length-1)) 0-g.pts.getD (q-1) 0 by omega) om (mrow _ (V0 (d:=[]) (show q-1<m.length by omega))).2.1
   (mrow _ (V0 (d:=[]) (show min (q+1) (g.pts.length-1)<m.length by omega))).2.1 j.2.1 (Qm (x:=0) dc dc)
  omega
def Bb0(g:Gr)(m:Mo)(q:Nat)(f:Li g=0)(k:Lj m g.pts.length=0)(i:q<g.pts.length):
  AE 273 [g.v,moV m,.i q] (.tup [(nR (P7 g.pts m q)).v,.i 0]):=by
 have a:=Bby g m q f k i;have e:=L1 g;rw[f]at e;have c:=Sw m g.pts.length;rw[k]at c;have⟨pts,d⟩:=g;simp only at i c a|-;generalize P7 pts m q=u at*;have ev:(Gr.mk pts d).v=.agg [.ro 1 (Av pts),.ro 1 (Av d)]:=rfl;have j:moV m=.agg [.ro 1 (Es m)]:=rfl;rw[ev,j]at a|-;rw[ev]at e;have t:=A4 pts;have n:=Af pts;have o:=Af d;have l:=D7 m;rw[j]at c;rw[<- t]at c;simp only[Xt]at a|-;have w:=Jb;have s:=Jc;generalize Av pts=pv,Av d=qv,Es m=mv at*;refine Aq func273 λw0 N0=>?_;refine Y [2,3,4,6] [3,4,6] sr (J (Bn 1 sr ?_));refine Ac e func55 ?_;refine Aa [2,3,4,6,8] [3,4,6] sr (A9 [13] sr ?_);refine A0 rfl sA (λh1=>Ae (J (Bn 4 sr ?_)));refine Ac c func106 ?_;refine Aa [2,3,4,6,9] [3,4,6] sr (A9 [22] sr ?_);refine A0 rfl sA (λh2=>Ae (J (Y [2,3,4,6,33] [3,4,6] sr ?_)));refine A0 rfl (λh=>by simp at h;omega) λh=>Ae (Bn 3 sr ?_);refine Ac a func306 ?_;exact Aa [6,7] [6] sr (By Du (rfl))
def V1(q:Rat):Int:=if(q*(100000000:Int)).floor< -9223372036854775808\/1000000<(q*(100000000:Int)).floor then 1000000 else(q*(100000000:Int)).floor
def A5a(g:Gr)(m:Mo)(q:Nat)(x:Li g=0)(z:Lj m g.pts.length=0)(y:q<g.pts.length):
  AC prog 243 [g.v,moV m,.i q] (λr=>r=.tup [.i (V1 (P7 g.pts m q)),.i 0]):=by
 have f:=Bb0 g m q x z y;have hz:=Bbz x z y;have l:=Vu 100000000 1 dc dc dc dc;rw[Rg]at l;unfold V1;generalize P7 g.pts m q=u at*;have z1:Qk ((100000000:Int):Rat)<=3:=Qm dc dc;have c:=Awr (nR u) (nR ((100000000:Int):Rat)) (Nn om) (Nn om);rw[Mj,Mj]at c;have z2:=Awu hz z1;have d:=Az2 (nR (u*((100000000:Int):Rat))) (Nn om);rw[Mj]at d;have a:=A4u (nI (u*((100000000:Int):Rat)).floor) (Cp _);rw[Iz]at a;generalize(u*((100000000:Int):Rat)).floor=F at*;generalize u*((100000000:Int):Rat)=U at*;generalize((100000000:Int):Rat)=M at*
 obtain⟨s,n,hr,k,o⟩:∃s n,Vv F=.tup [.i s,.bool n]/\(n=decide (-9223372036854775808<=F/\F<=9223372036854775807))/\(n=true->s=F):=by
  unfold Vv;split
  .rename_i h;exact⟨_,_,rfl,by simp[h],λ_ =>rfl⟩
  .rename_i h;exact⟨_,_,rfl,by simp only[h,decide_false],λh=>by cases h⟩
 rw[hr]at a;have em:moV m=.agg [.ro 1 (Es m)]:=rfl;have pm:=D7 m;have eg:g.v=.agg [.ro 1 (Av g.pts),.ro 1 (Av g.pri)]:=rfl;have pp:=Af g.pts;have pq:=Af g.pri;rw[em,eg]at f|-;simp only[Xt,At5]at f l c d a;have p1:=Jb;have p2:=Jc;have p3:=Vs;generalize Av g.pts=pv at*;generalize Av g.pri=qv at*;generalize Es m=mv at*;refine Aq func243 λw0 N0=>?_;refine Y [2,3,4] [3,4] sr (J (Ak (Ay 3 sr ?_)));refine Ac f func273 ?_;refine Aa [8,9] [8] sr (J (Y [8,9,22] [8] sr ?_));refine A0 rfl sA (λh1=>Ae (J (Ak (Ac l func103 ?_))));refine Aa [8,10] [8,10] sr (J (Ak (Ay 2 sr ?_)));refine Ac c func174 ?_;refine Ac d func275 ?_;refine Ac a func274 ?_;refine Aa [12,13] [] sr (J (Y [12,41] [] sr ?_))
 refine Au (λh2=>?_) λh2=>Ae ?_
 .have t:F< -9223372036854775808\/1000000<F:=by
   by_cases i:n=true
   .rw[i]at h2;have:=o i;simp at h2;omega
   .rw[k]at i;simp at i;omega
  exact Y [6,7] [] sr (Ao (Ab sr (by rw[Ad t])))
 have j:¬(F< -9223372036854775808\/1000000<F)/\s=F:=by
  by_cases i:n=true
  .rw[i]at h2;have e:=o i;simp at h2;rw[i]at k;have:=Jz k.symm;exact⟨by omega,e⟩
  .simp[i]at h2
 rw[j.2];have w:IntKind.i64.wrap F=F:=Bp om om;exact Y [6,7] [] sR (Ao (Ab sr (by rw[I j.1])))
def Ia(p:α->Bool):List α->Nat->Int
 | [],_ => -1
 |x::r,i=>if p x=true then(i:Int)else Ia p r (i+1)
def Pf(p:α->Bool){l:List α}(h:k<l.length):Ia p (l.drop k) k=if p l[k]=true then(k:Int)else Ia p (l.drop (k+1)) (k+1):=by
 rw[Bt h,Ia]
def Pu(p:α->Bool):∀(l:List α)(i:Nat),decide (0<=Ia p l i)=l.any p
 | [],_ =>rfl
 |x::r,i=>by
  rw[Ia,Yn]
  split
  .rename_i h;rw[h];simp
  .rename_i h;rw[Pu p r (i+1),Bool.eq_false_iff.2 h];rfl
def Aw0(p:α->Bool):∀(l:List α)(i:Nat),-1<=Ia p l i/\Ia p l i<i+l.length/\(0<=Ia p l i->(i:Int)<=Ia p l i)
 | [],i=>by simp only[Ia,Bo];omega
 |x::r,i=>by
  rw[Ia];have:=Aw0 p r (i+1)
  split
  .simp only[A3];omega
  .simp only[A3];omega
def Rl(g:FuncId):Bj (.fn g) (.fc g [] []):=by
 refine⟨λw N x a=>?_,λ_ =>rfl⟩;cases a with
 |fn=>exact .fc g [] [] [] [] rfl rfl sm sm
def Ak2(l:List Int)(x:Int):AE 113 [.ro 1 (Av l),.i x] (.i (Ia (λy=>decide (x=y)) l 0)):=by
 refine K8 0 rfl λg=>?_;have m:=λ(k:Nat)(h:k<l.length)=>Fu h
 have n:=A4 l;rw[n]at g
 have j:(l.length:Int)<=9223372036854775807:=by
  have:maxLen<=9223372036854775807:=dc;omega
 generalize Av l=f at*;refine Aq func113 λw0 N0=>?_;refine Y [0,1] [] sr (J (A9 [7,8] sr (Ah (Bu (λk nx=>⟨[(0,V.ro 1 f),(1,V.i x),(7,V.i f.length),(8,V.i k)],[],nx,19⟩) (λk=>Ia (λy=>decide (x=y)) (l.drop k) k=Ia (λy=>decide (x=y)) l 0) l.length _ rfl Z ?_))));intro k nx hk c;refine Y [0,1,7,8,9] [] sr (J ?_)
 refine Au (λh1=>Ae ?_) λh1=>?_
 .have a:k<l.length:=by simp at h1;omega
  have d:k<f.length:=om;have i:=m k a;rw[Pf _ a]at c;generalize l[k]=y at i c;refine J (Ah (Y [0,1,5,7,8] [] sr (A9 [16] (by simp[i,d]<;>rfl) ?_)))
  refine Au (λh2=>?_) λh2=>Ae ?_
  .exact Y [4] [] sr (Ao (Ab sr (by rw[<- c,Ad h2])))
  refine Ba [0,1,7,8] [] (by simp[(A5 (k:=k) om)]<;>rfl) ?_;exact⟨a,by rw[<- c,I (by rw[h2];decide)],_,Z⟩
 .refine A6 ?_;have e:k=l.length:=sO h1
  rw[e,Ck,Ia]at c;exact Y [4] [] sr (Ao (Ab sr (by rw[<- c])))
def Sc(l:List Int)(x:Int):AE 63 [.ro 1 (Av l),.i x] (.bool (decide (x∈l))):=by
 have a:=Ak2 l x
 have d:decide (x∈l)=decide (0<=Ia (λy=>decide (x=y)) l 0):=by
  rw[Pu]
  by_cases h:x∈l
  .rw[Wv h];symm;rw[Ew];exact⟨x,h,by simp⟩
  .rw[decide_eq_false h];symm;rw[Sp];intro y c;simp;exact λe=>h (e▸c)
 rw[d];have pl:=Af l;generalize Av l=lv,Ia (λy=>decide (x=y)) l 0=z at*;refine Aq func63 λw0 N0=>?_;refine Y [0,1] [] sr (Bn 2 sr ?_);refine Ac a func113 ?_;exact Aa [4] [] sr (By sr (rfl))
def Aqn(l:List Pit)(g:FuncId)(us vs:List V)(f:Pit->Bool)(w:∀p∈l,Yz gv prog (.fc g us vs) [Pit.v p] (λr=>r=.bool (f p))):Kb gv prog 279 [.ro 9 (C5 l),.fc g us vs] (λr=>r=.i (Ia f l 0)):=by
 have s:=λ(k:Nat)(h:k<l.length)=>I8 h
 have u:=E4 l;refine Q9 0 rfl λn=>?_;rw[u]at n
 have o:(l.length:Int)<=9223372036854775807:=by
  have:maxLen<=9223372036854775807:=dc;omega
 generalize C5 l=m at*;refine B0 func279 λw0 N0 t=>?_;refine Y [0,1] [] sr (J (Y [0,1,7,8] [] sr (Ah (Bu (λk nx=>⟨[(0,V.ro 9 m),(1,V.fc g us vs),(7,V.i m.length),(8,V.i k)],[],nx,19⟩) (λk=>Ia f (l.drop k) k=Ia f l 0) l.length _ rfl Z ?_))));intro k nx hk c;refine Y [0,1,7,8,9] [] sr (J ?_)
 refine Au (λh1=>Ae ?_) λh1=>?_
 .have a:k<l.length:=by simp at h1;omega
  have d:k<m.length:=om;have i:=s k a;have e:=w _ (Aw a);rw[Pf _ a]at c;generalize l[k]=y at i c e;rw[Gn]at i e;generalize f _ =fb at c e;refine J (Ah (Y [0,1,5,7,8] [] sr (J (Ak (Ay 5 (by simp[i,d]<;>rfl) ?_)))));refine Nk t e sm rfl rfl sr sr sM sr (Aa [0,1,5,7,8,16] [] sr ?_)
  refine Au (λh2=>?_) λh2=>Ae ?_
  .exact Y [4] [] sr (Ao (Ab sr (by rw[<- c,Ad h2])))
  refine Ba [0,1,7,8] [] (by simp[(A5 (k:=k) om)]<;>rfl) ?_;exact⟨a,by rw[<- c,I (by rw[h2];decide)],_,Z⟩
 .refine A6 ?_;have j:k=l.length:=sO h1
  rw[j,Ck,Ia]at c;exact Y [4] [] sr (Ao (Ab sr (by rw[<- c])))
def A5b(l:List Pit)(g:FuncId)(us vs:List V)(f:Pit->Bool)(d:∀p∈l,Yz gv prog (.fc g us vs) [Pit.v p] (λr=>r=.bool (f p))):AQ 430 [.ro 9 (C5 l),.fc g us vs] (.bool (l.any f)):=by
 have a:=Aqn l g us vs f d;rw[<- Pu f l 0];have pl:=Cx l;generalize C5 l=lv,Ia f l 0=z at*;refine B0 func430 λw0 N0 c=>?_;refine Y [0,1] [] sr (Bn 2 sr ?_);refine Bq c a func279 ?_;exact Aa [4] [] sr (By sr (rfl))
def A5c(l:List Ru)(g:FuncId)(us vs:List V)(f:Ru->Bool)(x:∀p∈l,Yz gv prog (.fc g us vs) [Ru.v p] (λr=>r=.bool (f p))):Kb gv prog 339 [.ro 5 (Hu l),.fc g us vs] (λr=>r=.i (Ia f l 0)):=by
 have t:=λ(k:Nat)(h:k<l.length)=>Vx h
 have w:=Ts l;refine Q9 0 rfl λo=>?_;rw[w]at o
 have s:(l.length:Int)<=9223372036854775807:=by
  have:maxLen<=9223372036854775807:=dc;omega
 generalize Hu l=m at*;refine B0 func339 λw0 N0 u=>?_;refine Y [0,1] [] sr (J (Y [0,1,7,8] [] sr (Ah (Bu (λk nx=>⟨[(0,V.ro 5 m),(1,V.fc g us vs),(7,V.i m.length),(8,V.i k)],[],nx,19⟩) (λk=>Ia f (l.drop k) k=Ia f l 0) l.length _ rfl Z ?_))));intro k nx hk c;refine Y [0,1,7,8,9] [] sr (J ?_)
 refine Au (λh1=>Ae ?_) λh1=>?_
 .have a:k<l.length:=by simp at h1;omega
  have d:k<m.length:=om;have i:=t k a;have e:=x _ (Aw a);rw[Pf _ a]at c;generalize l[k]=y at i c e;rw[show y.v=.agg [.i y.kind,.i y.n,.i y.mn,.i y.mx,.str y.code]from rfl]at i e;generalize f _ =fb at c e;refine J (Ah (Y [0,1,5,7,8] [] sr (J (Ak (Ay 5 (by simp[i,d]<;>rfl) ?_)))));refine Nk u e sm rfl rfl sr sr sm sr (Aa [0,1,5,7,8,16] [] sr ?_)
  refine Au (λh2=>?_) λh2=>Ae ?_
  .exact Y [4] [] sr (Ao (Ab sr (by rw[<- c,Ad h2])))
  refine Ba [0,1,7,8] [] (by simp[(A5 (k:=k) om)]<;>rfl) ?_;exact⟨a,by rw[<- c,I (by rw[h2];decide)],_,Z⟩
 .refine A6 ?_;have j:k=l.length:=sO h1
  rw[j,Ck,Ia]at c;exact Y [4] [] sr (Ao (Ab sr (by rw[<- c])))
def A5d(l:List Ru)(g:FuncId)(us vs:List V)(f:Ru->Bool)(d:∀p∈l,Yz gv prog (.fc g us vs) [Ru.v p] (λr=>r=.bool (f p))):AQ 314 [.ro 5 (Hu l),.fc g us vs] (.bool (l.any f)):=by
 have a:=A5c l g us vs f d;rw[<- Pu f l 0];have pl:=Dr l;generalize Hu l=lv,Ia f l 0=z at*;refine B0 func314 λw0 N0 c=>?_;refine Y [0,1] [] sr (Bn 2 sr ?_);refine Bq c a func339 ?_;exact Aa [4] [] sr (By sr (rfl))
def A5e(l:List Int)(g:FuncId)(us vs:List V)(f:Int->Bool)(w:∀p∈l,Yz gv prog (.fc g us vs) [V.i p] (λr=>r=.bool (f p))):Kb gv prog 340 [.ro 1 (Av l),.fc g us vs] (λr=>r=.i (Ia f l 0)):=by
 have s:=λ(k:Nat)(h:k<l.length)=>Fu h
 have u:=A4 l;refine Q9 0 rfl λm=>?_;rw[u]at m
 have o:(l.length:Int)<=9223372036854775807:=by
  have:maxLen<=9223372036854775807:=dc;omega
 generalize Av l=j at*;refine B0 func340 λw0 N0 t=>?_;refine Y [0,1] [] sr (J (Y [0,1,7,8] [] sr (Ah (Bu (λk nx=>⟨[(0,V.ro 1 j),(1,V.fc g us vs),(7,V.i j.length),(8,V.i k)],[],nx,19⟩) (λk=>Ia f (l.drop k) k=Ia f l 0) l.length _ rfl Z ?_))));intro k nx hk c;refine Y [0,1,7,8,9] [] sr (J ?_)
 refine Au (λh1=>Ae ?_) λh1=>?_
 .have a:k<l.length:=by simp at h1;omega
  have d:k<j.length:=om;have n:=s k a;have i:=w _ (Aw a);rw[Pf _ a]at c;generalize l[k]=y at n c i;generalize f _ =fb at c i;refine J (Ah (Y [0,1,5,7,8] [] sr (J (Ak (Ay 5 (by simp[n,d]<;>rfl) ?_)))));refine Nk t i sm rfl rfl sr sr sm sr (Aa [0,1,5,7,8,16] [] sr ?_)
  refine Au (λh2=>?_) λh2=>Ae ?_
  .exact Y [4] [] sr (Ao (Ab sr (by rw[<- c,Ad h2])))
  refine Ba [0,1,7,8] [] (by simp[(A5 (k:=k) om)]<;>rfl) ?_;exact⟨a,by rw[<- c,I (by rw[h2];decide)],_,Z⟩
 .refine A6 ?_;have e:k=l.length:=sO h1
  rw[e,Ck,Ia]at c;exact Y [4] [] sr (Ao (Ab sr (by rw[<- c])))
def A5f(l:List Int)(g:FuncId)(us vs:List V)(f:Int->Bool)(d:∀p∈l,Yz gv prog (.fc g us vs) [V.i p] (λr=>r=.bool (f p))):AQ 318 [.ro 1 (Av l),.fc g us vs] (.bool (l.any f)):=by
 have a:=A5e l g us vs f d;rw[<- Pu f l 0];have pl:=Af l;generalize Av l=lv,Ia f l 0=z at*;refine B0 func318 λw0 N0 c=>?_;refine Y [0,1] [] sr (Bn 2 sr ?_);refine Bq c a func340 ?_;exact Aa [4] [] sr (By sr (rfl))
def Bf3(n:Nat):V:=.ro 1 (Gv n)
def A5g(l:List Nat)(g:FuncId)(us vs:List V)(f:Nat->Bool)(x:∀p∈l,Yz gv prog (.fc g us vs) [Bf3 p] (λr=>r=.bool (f p))):Kb gv prog 292 [.ro 1 (Cb l),.fc g us vs] (λr=>r=.i (Ia f l 0)):=by
 have s:=λ(k:Nat)(h:k<l.length)=>Ky h
 have u:=H5 l;refine Q9 0 rfl λn=>?_;rw[u]at n
 have o:(l.length:Int)<=9223372036854775807:=by
  have:maxLen<=9223372036854775807:=dc;omega
 generalize Cb l=m at*;refine B0 func292 λw0 N0 t=>?_;refine Y [0,1] [] sr (J (Y [0,1,7,8] [] sr (Ah (Bu (λk nx=>⟨[(0,V.ro 1 m),(1,V.fc g us vs),(7,V.i m.length),(8,V.i k)],[],nx,19⟩) (λk=>Ia f (l.drop k) k=Ia f l 0) l.length _ rfl Z ?_))));intro k nx hk c;refine Y [0,1,7,8,9] [] sr (J ?_)
 refine Au (λh1=>Ae ?_) λh1=>?_
 .have a:k<l.length:=by simp at h1;omega
  have d:k<m.length:=om;have i:=s k a;have e:=x _ (Aw a);rw[Pf _ a]at c;generalize l[k]=y at i c e;have w:=F9 y;rw[show Bf3 y=.ro 1 (Gv y)from rfl]at e;rw[show A2 (B2 y)=Gv y from rfl]at i;generalize f _ =fb at c e;refine J (Ah (Y [0,1,5,7,8] [] sr (J (Ak (Ay 5 (by simp[i,d]<;>rfl) ?_)))));refine Nk t e sm rfl rfl sr sr sM sr (Aa [0,1,5,7,8,16] [] sr ?_)
  refine Au (λh2=>?_) λh2=>Ae ?_
  .exact Y [4] [] sr (Ao (Ab sr (by rw[<- c,Ad h2])))
  refine Ba [0,1,7,8] [] (by simp[(A5 (k:=k) om)]<;>rfl) ?_;exact⟨a,by rw[<- c,I (by rw[h2];decide)],_,Z⟩
 .refine A6 ?_;have j:k=l.length:=sO h1
  rw[j,Ck,Ia]at c;exact Y [4] [] sr (Ao (Ab sr (by rw[<- c])))
def A5h(l:List Nat)(g:FuncId)(us vs:List V)(f:Nat->Bool)(d:∀p∈l,Yz gv prog (.fc g us vs) [Bf3 p] (λr=>r=.bool (f p))):AQ 251 [.ro 1 (Cb l),.fc g us vs] (.bool (l.any f)):=by
 have a:=A5g l g us vs f d;rw[<- Pu f l 0];have pl:=B1 l;generalize Cb l=lv,Ia f l 0=z at*;refine B0 func251 λw0 N0 c=>?_;refine Y [0,1] [] sr (Bn 2 sr ?_);refine Bq c a func292 ?_;exact Aa [4] [] sr (By sr (rfl))
def V2(f:α->Bool){l:List α}(h:k<l.length):(l.take (k+1)).filter f=(l.take k).filter f++(if f l[k]=true then [l[k]]else []):=by
 rw[Az h,Kq]
 congr 1
 by_cases a:f l[k]=true
 .rw[Ad a,Ii a];rfl
 .rw[I a,Ij a];rfl
def V3{β:Type}(f:α->β){l:List α}(h:k<l.length):(l.take (k+1)).map f=(l.take k).map f++[f l[k]]:=by
 rw[Az h,C0];rfl
def A0a(a b:List Pit):C5 (a++b)=C5 a++C5 b:=C0
def A0b(p:Pit):C5 [p]= [.agg [.i p.id,.str p.code,.i p.fam,.i p.st,.i p.wo,.i p.se,.i p.pt,.i p.ky,.ro 1 (Es p.m)]]:=rfl
def Aw1(pool:List Pit)(ids:List Int):List Pit:=pool.filter λp=>decide (p.id∈ids)
def Aqo(pool:List Pit)(ids:List Int)(z:pool.length<=18):AC prog 121 [.ro 9 (C5 pool),.ro 1 (Av ids)] (λx=>x=.ro 9 (C5 (Aw1 pool ids))):=by
 have s:=λ(k:Nat)(h:k<pool.length)=>I8 h
 have lq:=E4 pool;have t:=Sc ids;have y:=Af ids;have i:∀k,((pool.take k).filter λp=>decide (p.id∈ids)).length<=18:=λk=>Ag (H1 _ _) so
 have o:=λ(k:Nat)(h:k<pool.length)=>V2 (λp:Pit=>decide (p.id∈ids)) h
 unfold Aw1;generalize Av ids=iv,C5 pool=pv at*;refine Aq func121 λw0 N0=>?_;refine Y [0,1] [] sr (A9 [5] sr (J (Y [1,5,8,9,10] [] sr ?_)));refine Fz 5 100 9 111 [1,5,8,9,10] [100] sr sr (Ah ?_)
 refine C3 (λx:Nat × Nat × Nat=>⟨[(1,V.ro 1 iv),(5,.sl 100 x.2.1 9 ((pool.take x.1).filter λp=>decide (p.id∈ids)).length),(8,V.ro 9 pv),(9,V.i pv.length),(10,V.i (x.1:Nat))],[(100,⟨x.2.1,9,111,C5 ((pool.take x.1).filter λp=>decide (p.id∈ids))⟩)],x.2.2,24⟩)
  (λx=>x.1<=pool.length) (λx=>pool.length-x.1) (0,_,_) (Cg _) Z ?_
 rintro⟨k,qv,nx⟩u;simp only at u|-;refine Y [1,5,8,9,10,11] [100] sr (J ?_)
 refine Cu (λh1=>?_) λh1=>?_
 .have c:k<pool.length:=by simp at h1;omega
  have d:k<pv.length:=om;have l:=s k c;have Ee:=A5 (k:=k) om;have a:=o k c;have j:=i k;rw[Gn]at l;generalize pool[k]=p at l a;have f:=t p.id;have w:=D7 p.m;generalize(pool.take k).filter (λp=>decide (p.id∈ids))=Lk at a j|-;have n:Lk.length+1<=maxLen/\(Lk.length+1)*96<=140737488355328:=⟨Ag (show Lk.length+1<=19 by omega) dc,by omega⟩;generalize aa:decide (p.id∈ids)=e at f a;refine J (Ah (Y [1,5,7,8,9,10] [7,100] (by simp[l,d]<;>rfl) (Bn 3 sr ?_)));refine Ac f func63 ?_;refine Aa [1,5,7,8,9,10,17] [7,100] sr ?_
  refine C1 (λh2=>?_) λh2=>?_
  .refine Ba [1,5,8,9,10] [100] (by simp[n]<;>rfl) (Cw [] (by simp[Ee]<;>rfl) ?_);rw[Ad h2]at a;exact⟨(k+1,_,_),c,by simp only;omega,by simp only[a,A0a,A0b,A1,A3,Bo];exact Z⟩
  refine Ba [1,5,8,9,10] [100] (by simp[Ee]<;>rfl) ?_;rw[I (by rw[h2];simp),Ex]at a;exact⟨(k+1,_,_),c,by simp only;omega,by simp only[a];exact Z⟩
 .refine A6 ?_;have r:k=pool.length:=sO h1
  subst r;simp only[Be];have g:=Cx (pool.filter λp=>decide (p.id∈ids));refine Y [4] [100] sr ?_;exact By (by simp[results121,g]<;>rfl) (rfl)
def Jj(a:List (Int × Int)):List Int:=a.map Prod.fst
def A0c{l:List (Int × Int)}(h:k<l.length):Jj (l.take (k+1))=Jj (l.take k)++[l[k].1]:=V3 Prod.fst h
def Agw(l:List (Int × Int)):(Jj l).length=l.length:=by simp[Jj]
def Aqp(a:List (Int × Int))(hl:a.length<=1000):AC prog 122 [.ro 2 (Bd a)] (λx=>x=.ro 1 (Av (Jj a))):=by
 have o:=λ(k:Nat)(h:k<a.length)=>Im h
 have lq:=Ei a;have g:=λ(k:Nat)(h:k<a.length)=>A0c h
 generalize Bd a=pv at*;refine Aq func122 λw0 N0=>?_;refine Y [0] [] sr (A9 [3] sr (J (Y [3,6,7,8] [] sr ?_)));refine Fz 3 100 1 3 [3,6,7,8] [100] sr sr (Ah ?_)
 refine C3 (λx:Nat × Nat × Nat=>⟨[(3,.sl 100 x.2.1 1 (Jj (a.take x.1)).length),(6,V.ro 2 pv),(7,V.i pv.length),(8,V.i (x.1:Nat))],[(100,⟨x.2.1,1,3,Av (Jj (a.take x.1))⟩)],x.2.2,19⟩)
  (λx=>x.1<=a.length) (λx=>a.length-x.1) (0,_,_) (Cg _) Z ?_
 rintro⟨k,qv,nx⟩r;simp only at r|-;refine Y [3,6,7,8,9] [100] sr (J ?_)
 refine Cu (λh1=>?_) λh1=>?_
 .have d:k<a.length:=by simp at h1;omega
  have e:k<pv.length:=om;have n:=o k d;have Ee:=A5 (k:=k) om;have c:=g k d;have i:(Jj (a.take k)).length<=1000:=by rw[Agw];simp;omega
  generalize a[k]=p at n c;generalize Jj (a.take k)=l at c i|-;have j:l.length+1<=maxLen/\(l.length+1)*8<=140737488355328:=⟨Ag (show l.length+1<=1001 by omega) dc,by omega⟩;refine J (Ah (Y [3,5,6,7,8] [5,100] (by simp[n,e]<;>rfl) (Ba [3,6,7,8] [100] (by simp[j]<;>rfl) (Cw [] (by simp[Ee]<;>rfl) ?_))));exact⟨(k+1,_,_),d,by simp only;omega,by simp only[c,Rk,Aa0,A1,A3,Bo];exact Z⟩
 .refine A6 ?_;have m:k=a.length:=sO h1
  subst m;simp only[Be];have f:=Af (Jj a);refine Y [2] [100] sr ?_;exact By (by simp[results122,f]<;>rfl) (rfl)
def Aja(m:Mo)(c:Int):Bool:=decide (0<=c)&&decide (c<Xs m)
def Aw2(m:Mo)(c:Int):AE 205 [moV m,.i c] (.bool (Aja m c)):=by
 have a:=Anf m;unfold Aja;have e:moV m=.agg [.ro 1 (Es m)]:=rfl;have d:=D7 m;rw[e]at a|-;generalize Es m=mv at*;refine Aq func205 λw0 N0=>?_;refine Y [1,2] [2] sr (Bn 5 sr ?_);refine Ep (c:=decide (0<=c)) (λhg=>a) func62 rfl kr sr rfl rfl sr sM sr (Aa [4] [] sr ?_);exact By sr sm
def Bj0:Pit:=⟨0,[],0,0,0,0,0,0,[]⟩
def Md(pool:List Pit)(id:Int):Option Pit:=pool.find? λp=>decide (p.id=id)
def Ajb(o:Option Pit):Pit:=match o with|some p=>p|none=>Bj0
def Acx(f:α->Bool){l:List α}(h:k<l.length):(l.drop k).find? f=if f l[k]=true then some l[k]else(l.drop (k+1)).find? f:=by
 rw[Bt h,List.find?_cons]
 by_cases a:f l[k]=true
 .rw[Ad a,a]
 .rw[I a,Bool.eq_false_iff.2 a]
def Aw3(pool:List Pit)(id:Int):AC prog 204 [.ro 9 (C5 pool),.i id] (λr=>r=.tup [(Ajb (Md pool id)).v,.bool (Md pool id).isSome]):=by
 refine AC.relaxP (K8 0 rfl (λg=>?_));have j:=λ(k:Nat)(h:k<pool.length)=>I8 h
 have l:=E4 pool;rw[l]at g
 have i:(pool.length:Int)<=9223372036854775807:=by
  have:maxLen<=9223372036854775807:=dc;omega
 unfold Md;generalize C5 pool=pv at*;refine Aq func204 λw0 N0=>?_;refine Y [0,1,4] [4] sr (J (Y [1,4,8,9,10] [4] sr (Ah (Bu (λk nx=>⟨[(1,V.i id),(4,V.bp 4 (0) 9 0 0),(8,V.ro 9 pv),(9,V.i pv.length),(10,V.i k)],[(4,{ v:=0,sz:=9,ty:=111,es:=[.agg [.i 0,.str [],.i 0,.i 0,.i 0,.i 0,.i 0,.i 0,.nils]]})],nx,21⟩) (λk=>(pool.drop k).find? (λp=>decide (p.id=id))=pool.find? (λp=>decide (p.id=id))) pool.length _ rfl Z ?_))));intro k nx hk c;refine Y [1,4,8,9,10,11] [4] sr (J ?_)
 refine Au (λh1=>Ae ?_) λh1=>?_
 .have a:k<pool.length:=by simp at h1;omega
  have d:k<pv.length:=om;have e:=j k a;rw[Acx _ a]at c;rw[Gn]at e;generalize pool[k]=p at e c;have n:=D7 p.m;refine J (Ah (Y [1,4,7,8,9,10] [4,7] (by simp[e,d]<;>rfl) (Y [1,4,7,8,9,10,17] [4,7] sr ?_)))
  refine Au (λh2=>?_) λh2=>Ae ?_
  .refine Y [4,5] [4] sr (Ao (Ab Du ?_));rw[<- c,Ad (sG h2)];exact Bj.refl _
  refine Ba [1,4,8,9,10] [4] (by simp[(A5 (k:=k) om)]<;>rfl) ?_;exact⟨a,by rw[<- c,I (by rw[show decide (p.id=id)=false from by simpa using h2];decide)],_,Z⟩
 .refine A6 ?_;have f:k=pool.length:=sO h1
  rw[f,Ck,List.find?_nil]at c;refine Y [4,5] [4] sr (Ao (Ab sr ?_));rw[<- c];refine Bj.tup (.cons (Bj.agg (.cons (Bj.refl _) (.cons (Bj.refl _) (.cons (Bj.refl _) (.cons (Bj.refl _) (.cons (Bj.refl _) (.cons (Bj.refl _) (.cons (Bj.refl _) (.cons (Bj.refl _) (.cons (Bj.nils 1) .nil)))))))))) (.cons (Bj.refl _) .nil))
def U3(a:List Int)(q:Nat)(l:List Pit):List Int:=l.map λp=>V1 (P7 a p.m q)
def Xg{l:List Pit}{n:Int}(h:J5 l n=0):l.length<=18/\Tq 0 (Qn l)=true/\∀p∈l,Lj p.m n=0:=by
 unfold J5 at h
 (repeat' split at h)<;>try omega
 rename_i h1 h2;refine⟨by omega,by simpa using h2,λp hp=>?_⟩;have:=Ti h p hp;unfold Aue at this
 (repeat' split at this)<;>omega
def Auk(l:List Pit)(g:Gr)(q:Nat)(hg:Li g=0)(hq:q<g.pts.length)(hp:J5 l g.pts.length=0):
  AQ 183 [.ro 9 (C5 l),g.v,.i q] (.tup [.ro 1 (Av (U3 g.pts q l)),.i 0]):=by
 have j:=L1 g;rw[hg]at j;have n:=Mt l g.pts.length;rw[hp]at n;obtain⟨ad,-,hmod⟩:=Xg hp;have s:=λp(h:p∈l)=>A5a g p.m q hg (hmod p h) hq
 have aa:=λ(k:Nat)(h:k<l.length)=>I8 h
 have lq:=E4 l;have pl:=Cx l;have hn:∀(k:Nat)(h:k<l.length),(Av (U3 g.pts q l))[k]? =some (.i (V1 (P7 g.pts l[k].m q))):=λk h=>by simp[Av,U3,h]
 have t:(Av (U3 g.pts q l)).length=l.length:=by simp[U3]
 have ab:=Af (U3 g.pts q l);have eg:g.v=.agg [.ro 1 (Av g.pts),.ro 1 (Av g.pri)]:=rfl;have pp:=Af g.pts;have pq:=Af g.pri;have lp:=A4 g.pts;rw[eg]at j s|-;rw[<- lp]at n;generalize Av (U3 g.pts q l)=e,Av g.pts=pt,Av g.pri=pr,C5 l=pv at*;refine B0 func183 λw0 N0 hG=>?_;refine Y [0,2,4] [4] sr (J (Bn 1 sr ?_));refine Ac j func55 ?_;refine Aa [0,2,4,8] [4] sr (A9 [18] sr ?_);refine A0 rfl sA (λh1=>Ae (J (Bn 4 sr ?_)));refine Bq hG n func29 ?_;refine Aa [0,2,4,9] [4] sr ?_;refine A9 [26] sr ?_;refine A0 rfl sA (λh2=>Ae (J (Y [0,2,4,36] [4] sr ?_)));refine A0 rfl (λh3=>by simp at h3;omega) λh3=>Ae ?_;have y:(pv.length:Int)<=9223372036854775807:=om;have z:8*(pv.length:Int)<=281474976710656:=om;refine Y [0,2,4,10] [4,39] (by simp[y,z]<;>rfl) (J (Y [2,4,10,40,41,42] [4,39] sr (Ah (Bu (λk nx=>⟨[(2,V.i (q:Nat)),(4,V.bp 4 (0) 2 0 0),(10,V.sl 39 (27) 1 pv.length),(40,V.ro 9 pv),(41,V.i pv.length),(42,V.i k)],[(4,{ v:=0,sz:=2,ty:=27,es:=[V.agg [V.ro 1 pt,V.ro 1 pr]]}),(39,{ v:=27,sz:=1,ty:=3,es:=E9 e (.i 0) k})],nx,64⟩) (λk=>True) l.length _ trivial (by rw[H3,t,<- lq];exact Z) ?_))));intro k nx hk hI;have x:=I3 e (.i 0) k om;refine Y [2,4,10,40,41,42,43] [4,39] sr (J ?_)
 refine Cu (λw=>?_) λw=>?_
 .have d:k<l.length:=by simp at w;omega
  have f:k<pv.length:=om;have i:k<e.length:=om;have ga:=aa k d;have a:=I5 e (.i 0) k i (hn k d);have o:Hj (E9 e (.i 0) k) k=some (.i 0):=I4 e _ k i;have Ee:=A5 (k:=k) om;have c:=s _ (Aw d);rw[Gn]at ga;generalize l[k]=p at ga a c;have em:moV p.m=.agg [.ro 1 (Es p.m)]:=rfl;have pm:=D7 p.m;rw[em]at c;generalize V1 (P7 g.pts p.m q)=u,Es p.m=mv at*;generalize E9 e (.i 0) k=row at o a x|-;refine J (Ah (Y [2,4,10,11,12,40,41,42] [4,39,12] (by simp[ga,f]<;>rfl) (Bn 4 sr ?_)));refine Ac c func243 ?_;refine Aa [2,4,10,11,13,14,40,41,42] [4,39] sr ?_;refine J (A9 [56] sr ?_);refine A0 rfl sA (λh5=>Ae (Ba [2,4,10,40,41,42] [4,39] (by simp[f,o,a]<;>rfl) (Cw [] (by simp[Ee]<;>rfl) ?_)));exact⟨d,trivial,_,Z⟩
 .refine A6 ?_;have ae:k=l.length:=sO w
  rw[Jm e (.i 0) k om];refine Bw 39 [10] [] (by simp[ab,t,lq]<;>rfl) ?_;exact Y [6,7] [] sr (By sr rf)
def Aqq{f:α->Int}:∀ {l:List α},(∀x∈l,f x=0)->Mk f l=0
 | [],_ =>rfl
 |x::r,h=>by rw[Mk,I (by rw[h x (Fk ..)];simp),Aqq λy a=>h y (Dx _ a)]
def Agx:∀ {l m:List Int}{p:Int},l.Sublist m->Tq p m=true->Tq p l=true
 |_,_,_,.slnil,_ =>rfl
 |_,_,p,.cons a h,c=>by
  simp only[Tq,Bg,decide_eq_true_eq]at c;refine Agx h ?_;have⟨h1,h2⟩:=Ae2 c.2
  have d:∀(r:List Int)(a p:Int),p<a->Tq a r=true->Tq p r=true:=by
   intro r a p f e;cases r with
   |nil=>rfl
   |cons x r=>
    simp only[Tq,Bg,decide_eq_true_eq]at e|-;exact⟨⟨e.1.1,by omega⟩,e.2⟩
  exact d _ _ _ c.1.2 c.2
 |_,_,p,.cons_cons a h,c=>by
  simp only[Tq,Bg,decide_eq_true_eq]at c|-;exact⟨c.1,Agx h c.2⟩
def A0d{l m:List Pit}{n:Int}(h:l.Sublist m)(a:J5 m n=0):J5 l n=0:=by
 unfold J5 at a|-
 (repeat' split at a)<;>try omega
 rename_i h1 h2;have hl:=h.length_le;have d:Tq 0 (Qn l)=true:=Agx (h.map Pit.id) (by simpa[Qn]using h2);rw[I om,I (by rw[d];decide)];exact Aqq λx c=>Ti a x (h.subset c)
def A0e(pool:List Pit)(ids:List Int):(Aw1 pool ids).Sublist pool:=Qd
def Ho(g:Gr)(w:List Nat)(l:List Pit):List Int:=U3 g.pts (Agj g.pts (P6 g w)) l
def Aqr(g:Gr)(w:List Nat)(l:List Pit)(h:sumsOk g w)(hp:J5 l g.pts.length=0):
  AQ 123 [g.v,.ro 1 (Cb w),.ro 9 (C5 l)] (.tup [.ro 1 (Av (Ho g w l)),.i 0]):=by
 have a:=Bbs g w h;have c:=Bbt g h.grid (P6 g w) (Ag (A41 h) dc);have d:=Auk l g (Agj g.pts (P6 g w)) h.grid (Bay _ ((Kc h.grid).pos)) hp;unfold Ho;have k:=Af (U3 g.pts (Agj g.pts (P6 g w)) l);generalize U3 g.pts (Agj g.pts (P6 g w)) l=L,Agj g.pts (P6 g w)=q,P6 g w=mn at*;have n:g.v=.agg [.ro 1 (Av g.pts),.ro 1 (Av g.pri)]:=rfl;have f:=Af g.pts;have i:=Af g.pri;have s:=B1 w;have pl:=Cx l;rw[n]at a c d|-;simp only[Xt]at a c;have o:=Jb;have j:=Jc;generalize Av g.pts=pt,Av g.pri=pr,Cb w=wv,C5 l=pv at*;refine B0 func123 λw0 N0 m=>?_;refine Y [1,2,3] [3] sr (Bn 2 sr ?_);refine Ac a func181 ?_;refine Aa [2,3,8,9] [3,8] sr (J (A9 [18] sr ?_));refine A0 rfl sA λh1=>Ae (Bn 2 sr ?_);refine Ac c func182 ?_;refine Aa [2,3,9,10] [3] sr (J (A9 [27] sr ?_));refine A0 rfl sA λh2=>Ae (Bn 3 sr ?_);refine Bq m d func183 ?_;exact Aa [6,7] [] sr (By Du (rfl))
def Tv(l:List Ru):List V:=l.map Y2
@[simp]def Ak3(l:List Ru):(Tv l).length=l.length:=by simp[Tv]
def A0f{l:List Ru}(h:k<l.length):Hj (Tv l) k=some (Y2 l[k]):=by rw[C2];simp[Tv,h]
def A0g(r:Ru):∀c∈Ago r,c.isCell=true:=by
 unfold Ago;(repeat' split)<;>simp[V.isCell,V.still]
def Agy(r:Ru):(Y2 r).pureE=true:=by
 unfold Y2 Ago;(repeat' split)<;>simp[V.pureE,V.pureC,V.cells]<;>rfl
def Aul(l:List Ru):(Tv l).all V.pureE=true:=by
 rw[Ar];intro x a;simp only[Tv,Bl]at a;obtain⟨n,_,rfl⟩:=a;exact Agy n
def Aum{l:List Ru}(h:k<l.length):Tv (l.take (k+1))=Tv (l.take k)++[Y2 l[k]]:=V3 Y2 h
set_option maxHeartbeats 4000000 in
def Aun(len:Int)(rs:List Ru)(hl:rs.length<=20)(hf:∀r∈rs,r.fits=true):AE 311 [Rh len rs] (.ro 1 (Tv rs)):=by
 have y:=λ(k:Nat)(h:k<rs.length)=>Vx h
 have lq:=Ts rs
 have u:=λ(k:Nat)(h:k<rs.length)=>Aum h
 unfold Rh
 generalize Hu rs=f at*
 refine Apa func311 rfl (by show(1:Nat)<=31;omega) (λw0 N0=>?_)
 refine Y [1] [1] Du ?_
 have m:(f.length:Int)<=9223372036854775807:=by omega
 have o:16*(f.length:Int)<=281474976710656:=by omega
 refine Y [1,3] [1,11] (by simp[m,o]<;>rfl) ?_
 refine J ?_
 refine Y [3,13,14,15] [11] sR ?_
 refine Ah ?_
 refine C3 (λx:Nat × Nat × Nat=>⟨[(3,.sl 11 x.2.1 1 x.1),(13,V.ro 5 f),(14,V.i f.length),(15,V.i (x.1:Nat))],[(11,⟨x.2.1,1,205,Tv (rs.take x.1)⟩)],x.2.2,31⟩)
  (λx=>x.1<=rs.length) (λx=>rs.length-x.1) (0,_,_) (Cg _) Z ?_
 rintro⟨k,qv,nx⟩z
 simp only at z|-
 refine Y [3,13,14,15,16] [11] sR ?_
 refine J ?_
 refine A0 rfl (λh1=>Ae ?_) (λh1=>?_)
 .have c:k<rs.length:=by simp at h1;omega
  have j:k<f.length:=by omega
  have s:=y k c
  have Ee:=A5 (k:=k) om
  have a:=u k c
  have d:=hf _ (Aw c)
  generalize rs[k]=r at s a d
  have e:=Ad9 (Y3 d)
  rw[d]at e
  have aa:=A0g r
  have g:=Agy r
  rw[show r.v=.agg [.i r.kind,.i r.n,.i r.mn,.i r.mx,.str r.code]from rfl]at s e
  unfold Y2 at a g
  generalize Aqc r=dt at*
  generalize Ago r=dc at*
  have i:(Tv (rs.take k)).length=k:=by rw[Ak3,Da];omega
  generalize Tv (rs.take k)=Lk at a i|-
  have t:k+1<=maxLen/\(k+1)*16<=140737488355328:=⟨Ag (show k+1<=21 by omega) dC,by omega⟩
  refine J ?_
  refine Ah ?_
  refine Y [3,5,13,14,15] [11,5] (by simp[s,j]<;>rfl) ?_
  refine J (Ak ?_)
  refine Ay 1 sR ?_
  refine Fe e func100 rfl (by kernel_rfl) rfl rfl rfl sR sM sR ?_
  refine Aa [3,6,7,13,14,15] [11] sR ?_
  refine Y [3,6,13,14,15,24] [11] sR ?_
  refine A0 rfl (λh2=>?_) sA
  .refine Ba [3,13,14,15] [11] (by simp[t,i]<;>rfl) ?_
   refine Cw [] (by simp[Ee]<;>rfl) ?_
   exact⟨(k+1,_,_),c,by simp only;omega,by simp only[a];exact Z⟩
 .refine A6 ?_
  have w:k=rs.length:=sO h1
  subst w
  simp only[Be]
  have l:=Aul rs
  refine Y [2] [11] sR ?_
  exact By (by simp[results311,l]<;>rfl) (rfl)
variable {args us vs:List V}{fn:Func}{r:V}
def A0h(s t:List UInt8):Bool:=decide (t.length<=s.length)&&decide (s.take t.length=t)
def Ajc(s t:List UInt8):AE 255 [.str s,.str t] (.bool (A0h s t)):=by
 unfold A0h;refine Aq func255 λw0 N0=>?_;refine Y [0,1] [] sr ?_
 by_cases h:t.length<=s.length
 .have a:(t.length:Int)<=s.length:=om;exact Y [4] [] Du (By sr G8)
 .have a:¬(t.length:Int)<=s.length:=om;exact Y [4] [] Du (By sr G8)
def Aa2(s t:List UInt8):AE 212 [.str s,.str t] (.bool (A0h s t)):=by
 refine Aq func212 λw0 N0=>?_;refine Y [0,1] [] sr (Bn 2 sr ?_);refine Ac (Ajc s t) func255 ?_;refine Aa [4] [] sr (By sr ?_);rfl
def Un(a c:List UInt8):Bool:=decide (c= [])||(decide (a=c)||A0h a (c++[46]))
def A5i(a c:List UInt8)(h:c.length<9223372036854775807):AE 155 [.str a,.str c] (.bool (Un a c)):=by
 have d:c.length<=9223372036854775806:=om;refine Aq func155 λw0 N0=>?_;refine Y [0,1] [] sr (Bn 11 Du ?_);refine Ep (λhg=>(Aa2 a (c++[46]))) func212 rfl kr sr rfl rfl sr sm sr (Aa [4] [] sr ?_);refine By sr ?_;simp[Un,Bool.or_assoc]
def A5j(a b:Int):Int × Int:=(if b<a then b else a,if a<b then b else a)
def Auo(a b:Int):AE 352 [.i a,.i b] (.agg [.i (A5j a b).1,.i (A5j a b).2]):=by
 refine Aq func352 λw0 N0=>?_;refine Y [0,1,4] [4] sr (Y [4] [4] sr ?_);refine By sr ?_;rfl
def Agz{a:FuncId}(h:Kb gv prog a (us++args++vs) (λx=>x=r))(c:prog.funcs[a]? =some fn)(e:fn.body.isSome=true)(d:(fn.name== "runtime.NumGoroutine")=false):Yz gv prog (.fc a us vs) args (λx=>x=r):=Att h c e d
def Ag0(r:Ru)(p:Pit):Int:=
 if r.kind=1 then J6 (Un p.code r.code)else if r.kind=2 then p.wo else if r.kind=3 then p.se else if r.kind=4 then p.pt else J6 (decide (p.ky=r.n))
def Bf4(r:Ru)(p:Pit)(h:r.code.length<9223372036854775807):AC prog 153 [p.v,.rp r.v] (λx=>x=.i (J6 (Un p.code r.code))):=by
 have a:=A5i p.code r.code h;have c:=Vw (Un p.code r.code);generalize Un p.code r.code=u at*;generalize J6 u=o at*;rw[Gn,show r.v=.agg [.i r.kind,.i r.n,.i r.mn,.i r.mx,.str r.code]from rfl];have pm:=D7 p.m;refine Aq func153 λw0 N0=>?_;refine Y [1,2] [2] sr (Bn 4 sr ?_);refine Ac a func155 ?_;refine Ac c func154 ?_;exact Aa [3] [] sr (By sr (rfl))
def Bf5(p:Pit):AC prog 156 [p.v] (λx=>x=.i p.wo):=by
 rw[Gn];refine Aq func156 λw0 N0=>?_;exact Y [1] [1] sr (Y [2] [] sr (By sr rf))
def Bf6(p:Pit):AC prog 157 [p.v] (λx=>x=.i p.se):=by
 rw[Gn];refine Aq func157 λw0 N0=>?_;exact Y [1] [1] sr (Y [2] [] sr (By sr rf))
def Bf7(p:Pit):AC prog 158 [p.v] (λx=>x=.i p.pt):=by
 rw[Gn];refine Aq func158 λw0 N0=>?_;exact Y [1] [1] sr (Y [2] [] sr (By sr rf))
def Bf8(r:Ru)(p:Pit):AC prog 159 [p.v,.rp r.v] (λx=>x=.i (J6 (decide (p.ky=r.n)))):=by
 have a:=Vw (decide (p.ky=r.n));generalize hu:J6 (decide (p.ky=r.n))=o at*;rw[Gn,show r.v=.agg [.i r.kind,.i r.n,.i r.mn,.i r.mx,.str r.code]from rfl];refine Aq func159 λw0 N0=>?_;refine Y [1,2] [2] sr (Bn 5 sr ?_);refine Ac a func154 ?_;exact Aa [3] [] sr (By sr (rfl))
def Bf9(a b n:Int)(p:Pit):AC prog 421 [.agg [.i a,.i b,.i n],p.v] (λx=>x=.i (J6 (decide (p.st=n)))):=by
 have c:=Vw (decide (p.st=n));generalize hu:J6 (decide (p.st=n))=o at*;rw[Gn];refine Aq func421 λw0 N0=>?_;refine Y [2,3] [2,3] sr (Bn 5 sr ?_);refine Ac c func154 ?_;exact Aa [4] [] sr (By sr (rfl))
def Bga(p:Pit):AC prog 428 [p.v] (λx=>x=.i 0):=by
 rw[Gn];refine Aq func428 λw0 N0=>?_;exact Y [] [] sr (A9 [2] sr (By sr rf))
def Bgb(p:Pit):AC prog 309 [p.v] (λx=>x=.i 1):=by
 rw[Gn];refine Aq func309 λw0 N0=>?_;exact Y [] [] sr (A9 [2] sr (By sr rf))
def Bgc(n:Int)(p:Pit):AC prog 437 [p.v,.rp (.agg [.i n])] (λx=>x=.i (J6 (decide (p.id=n)))):=by
 have a:=Vw (decide (p.id=n));generalize hu:J6 (decide (p.id=n))=o at*;rw[Gn];refine Aq func437 λw0 N0=>?_;refine Y [1,2] [2] sr (Bn 5 sr ?_);refine Ac a func154 ?_;exact Aa [3] [] sr (By sr (rfl))
def Bgd(n:Int)(p:Pit):AC prog 444 [p.v,.rp (.i n)] (λx=>x=.i (J6 (decide (p.fam=n)))):=by
 have a:=Vw (decide (p.fam=n));generalize hu:J6 (decide (p.fam=n))=o at*;rw[Gn];refine Aq func444 λw0 N0=>?_;refine Y [1,2] [2] sr (Bn 4 sr ?_);refine Ac a func154 ?_;exact Aa [3] [] sr (By sr (rfl))
def Bge(a b:Int)(p:Pit):AC prog 313 [p.v,.rp (.agg [.i a,.i b])] (λx=>x=.i (J6 (decide (p.id=a)||decide (p.id=b)))):=by
 have c:=Vw (decide (p.id=a)||decide (p.id=b));generalize hu:J6 (decide (p.id=a)||decide (p.id=b))=o at*;rw[Gn];refine Aq func313 λw0 N0=>?_;refine Y [1,2] [2] sr (Bn 12 sr ?_);refine Ac c func154 ?_;exact Aa [3] [] sr (By sr (rfl))
def A5k(n:Int)(p:Pit):AC prog 280 [p.v,.rp (.i n)] (λx=>x=.bool (decide (p.id=n))):=by
 rw[Gn];refine Aq func280 λw0 N0=>?_;exact Y [1,2] [2] sr (Y [3] [] sr (By sr rf))
def A5l(n:Int)(p:Pit):AC prog 431 [p.v,.rp (.i n)] (λx=>x=.bool (decide (p.id=n))):=by
 rw[Gn];refine Aq func431 λw0 N0=>?_;exact Y [1,2] [2] sr (Y [3] [] sr (By sr rf))
def A0i(a n:Int)(r:Ru):AC prog 315 [r.v,.rp (.i a),.rp (.i n)] (λx=>x=.bool (decide (r.kind=a)&&decide (r.n=n))):=by
 rw[show r.v=.agg [.i r.kind,.i r.n,.i r.mn,.i r.mx,.str r.code]from rfl];refine Aq func315 λw0 N0=>?_;exact Y [1,2,3] [3] sr (Y [4] [] sr (By sr rf))
variable {vars:Nat}
def frV(len:Int)(rs:List Ru)(pool:List Pit)(vars a:Int):V:=.agg [.i len,.ro 5 (Hu rs),.ro 9 (C5 pool),.i vars,.i a]
def G0:Gp where
 P:=λ_ =>True
 bl:=λ_ =>False
 stable:=λ_ _ _ _ =>trivial
 low:=λ_ _ _ h=>h.elim
def Aup(B:Bs):Gon G0 B:=⟨trivial,λ_ h=>h.elim⟩
def Aa3(pool:List Pit)(id:Int):AQ 245 [.ro 9 (C5 pool),.i id] (.i (Ia (λp=>decide (p.id=id)) pool 0)):=by
 have a:=Aqn pool 280 [] [.rp (.i id)] (λp=>decide (p.id=id)) (λp _ =>Agz ((A5k id p).q gv) func280 kr rfl);have pl:=Cx pool;generalize C5 pool=pv,Ia (λp=>decide (p.id=id)) pool 0=z at*;refine B0 func245 λw0 N0 c=>?_;refine Y [0,3] [3] sr (Bw 3 [0,3] [] sr (Bn 2 sr ?_));refine Bq c a func279 ?_;exact Aa [4] [] sr (By sr (rfl))
def Anl(pool:List Pit)(id:Int):AQ 429 [.ro 9 (C5 pool),.i id] (.bool (pool.any λp=>decide (p.id=id))):=by
 have a:=A5b pool 431 [] [.rp (.i id)] (λp=>decide (p.id=id)) (λp _ =>Agz ((A5l id p).q gv) func431 kr rfl);have pl:=Cx pool;generalize C5 pool=pv,(pool.any λp=>decide (p.id=id))=z at*;refine B0 func429 λw0 N0 c=>?_;refine Y [0,3] [3] sr (Bw 3 [0,3] [] sr (Bn 2 sr ?_));refine Bq c a func430 ?_;exact Aa [4] [] sr (By sr (rfl))
def Aw4(len:Int)(rs:List Ru)(pool:List Pit)(vars c:Int)(id:Int):AQ 427 [frV len rs pool vars c,.i id] (.bool (pool.any λp=>decide (p.id=id))):=by
 have a:=Anl pool id;have pl:=Cx pool;unfold frV;generalize C5 pool=pv,Hu rs=rv,(pool.any λp=>decide (p.id=id))=z at*;refine B0 func427 λw0 N0 d=>?_;refine Y [1,2] [2] sr (Bn 3 sr ?_);refine Bq d a func429 ?_;exact Aa [4] [] sr (By sr (rfl))
def V4(rs:List Ru)(a n:Int):Bool:=rs.any λr=>decide (r.kind=a)&&decide (r.n=n)
def Ak4(len:Int)(rs:List Ru)(pool:List Pit)(vars d:Int)(a n:Int):AQ 278 [frV len rs pool vars d,.i a,.i n] (.bool (V4 rs a n)):=by
 have c:=A5d rs 315 [] [.rp (.i a),.rp (.i n)] (λr=>decide (r.kind=a)&&decide (r.n=n)) (λp _ =>Agz ((A0i a n p).q gv) func315 kr rfl);have pl:=Dr rs;unfold frV V4;generalize C5 pool=pv,Hu rs=rv,(rs.any λr=>decide (r.kind=a)&&decide (r.n=n))=z at*;refine B0 func278 λw0 N0 e=>?_;refine Y [3,4,5] [3,4,5] sr (Bw 4 [3,4,5] [3,5] sr (Bw 5 [3,4,5] [3] sr (Bn 4 sr ?_)));refine Bq e c func314 ?_;exact Aa [6] [] sr (By sr (rfl))
def J7(pool:List Pit)(vars:Nat)(a:Pit->Int):List Int:=pool.map a++List.replicate (vars-pool.length) 0
def Aa4{pool:List Pit}(a:Pit->Int)(h:pool.length<=vars):(J7 pool vars a).length=vars:=by simp[J7];omega
def A5m{pool:List Pit}(a:Pit->Int)(h:k<pool.length):(Av (J7 pool vars a))[k]? =some (.i (a pool[k])):=by
 simp only[Av,J7,C0,Mb];rw[Bv (sG h)];simp[h]
def A0j{pool:List Pit}(a:Pit->Int):E9 (Av (J7 pool vars a)) (.i 0) pool.length=Av (J7 pool vars a):=by
 have e:Av (J7 pool vars a)=Av (pool.map a)++List.replicate (vars-pool.length) (.i 0):=by
  unfold J7;rw[Rk];congr 1;simp[Av]
 rw[e,E9,U6 (by simp)]
 congr 1
 simp
structure Rw where
 coef:List Int
 mn:Int
 mx:Int
def Rw.v(r:Rw):V:=.agg [.ro 1 (Av r.coef),.i r.mn,.i r.mx]
def Ha(l:List Rw):List V:=l.map Rw.v
@[simp]def N9(l:List Rw):(Ha l).length=l.length:=by simp[Ha]
def Ag1{l:List Rw}(h:k<l.length):Hj (Ha l) k=some l[k].v:=by rw[C2];simp[Ha,h]
def Gx(l:List Rw):(Ha l).all V.pureE=true:=by
 rw[Ar];intro x a;simp only[Ha,Bl]at a;obtain⟨n,_,rfl⟩:=a;have:=Af n.coef;simp[Rw.v,V.pureE,V.pureC,V.cells]
def Ag2(a b:List Rw):Ha (a++b)=Ha a++Ha b:=C0
def Aa5{a:FuncId}(h:AC prog a (us++args++vs) (λx=>x=r))(c:prog.funcs[a]? =some fn)(e:fn.body.isSome=true)(d:(fn.name== "runtime.NumGoroutine")=false):Yz G0 prog (.fc a us vs) args (λx=>x=r):=Att (h.q G0) c e d
def Anm(len:Int)(rs:List Ru)(pool:List Pit)(vars:Nat)(st:Int)(g:FuncId)(us vs:List V)(f:Pit->Int)(a b:Int)(hp:pool.length<=vars)(hv:vars<=1000)
  (hf:∀p∈pool,Yz G0 prog (.fc g us vs) [p.v] (λr=>r=.i (f p))):
  ACO prog 310 [frV len rs pool vars st,.fc g us vs,.i a,.i b] 1 3 (λF es=>F=(λd q=>.agg [.sl d q 1 vars,.i a,.i b])/\es=Av (J7 pool vars f)):=by
 have hq:=λ(k:Nat)(h:k<pool.length)=>I8 h
 have lq:=E4 pool;have hn:=λ(k:Nat)(h:k<pool.length)=>A5m (vars:=vars) f h
 have ab:(Av (J7 pool vars f)).length=vars:=by rw[A4,Aa4 f hp]
 have z:=A0j (pool:=pool) (vars:=vars) f;have t:=Tu (J7 pool vars f);unfold frV;generalize Av (J7 pool vars f)=j,C5 pool=pv,Hu rs=rv at*;refine Kn func310 λw0 N0=>?_;refine Y [1,2,3,4,8] [4,8] sr ?_;have w:(vars:Int)<=9223372036854775807:=om;have x:8*(vars:Int)<=281474976710656:=om;refine Y [1,2,3,4,8,9] [4,8,14] Du (J (Y [1,2,3,8,9,16,17,18] [8,14] sr (Ah (Bu (λk nx=>⟨[(1,V.fc g us vs),(2,V.i a),(3,V.i b),(8,V.bp 8 (1) 3 0 0),(9,V.sl 14 (4) 1 vars),(16,V.ro 9 pv),(17,V.i pv.length),(18,V.i k)],[(8,{ v:=1,sz:=3,ty:=418,es:=[V.agg [.nils,.i 0,.i 0]]}),(14,{ v:=4,sz:=1,ty:=3,es:=E9 j (.i 0) k})],nx,34⟩) (λk=>True) pool.length _ trivial (by rw[H3,ab];exact Z) ?_))));intro k nx hk hI;have u:=I3 j (.i 0) k om;refine Y [1,2,3,8,9,16,17,18,19] [8,14] sr (J ?_)
 refine Cu (λh1=>?_) λh1=>?_
 .have e:k<pool.length:=by simp at h1;omega
  have o:k<pv.length:=om;have i:k<j.length:=om;have l:k<vars:=om;have y:=hq k e;have c:=I5 j (.i 0) k i (hn k e);have n:Hj (E9 j (.i 0) k) k=some (.i 0):=I4 j _ k i;have Ee:=A5 (k:=k) om;have s:=hf _ (Aw e);rw[Gn]at y s;generalize pool[k]=p at y c s;have pm:=D7 p.m;generalize E9 j (.i 0) k=row at n c u|-;refine J (Ah (Y [1,2,3,8,9,10,11,16,17,18] [8,14,11] (by simp[y,o]<;>rfl) (Mr 4 sr ?_)));refine Nk (Aup _) s sm rfl rfl sr sr sM sr (Aa [1,2,3,8,9,16,17,18] [8,14] (by simp[l,n,c]<;>rfl) ?_);refine Cw [] (by simp[Ee]<;>rfl) ?_;exact⟨e,trivial,_,Z⟩
 .refine A6 ?_;have aa:k=pool.length:=sO h1
  rw[aa,z];refine Y [8] [8,14] sr ?_;exact Ao (H2 14 rfl rfl rfl t sr ⟨rfl,rfl⟩)
def Y5(len:Int)(rs:List Ru)(pool:List Pit)(vars:Nat)(d:Int)(g:FuncId)(us vs:List V)(c:Pit->Int)(a b:Int)(hp:pool.length<=vars)(e:vars<=1000)
  (f:∀p∈pool,Yz G0 prog (.fc g us vs) [p.v] (λr=>r=.i (c p))):
  AE 310 [frV len rs pool vars d,.fc g us vs,.i a,.i b] (Rw.v ⟨J7 pool vars c,a,b⟩):=by
 refine(Anm len rs pool vars d g us vs c a b hp e f).ac ?_;rintro F es⟨rfl,rfl⟩;have h2:(Av (J7 pool vars c)).length=vars:=by rw[A4,Aa4 c hp]
 exact⟨_,by simp[AS.viewT,AS.view,AS.viewL,AS.viewC,AS.elems,Eng.get,(Af (J7 pool vars c)),h2,Aa4 c hp,V.pureC,Rw.v],rfl⟩
structure frOk(pool:List Pit)(vars st:Nat):Prop where
 le:pool.length<=vars
 small:vars<=1000
 lt:st<=vars
def Sx(len:Int)(rs:List Ru)(pool:List Pit)(vars a:Int):frV len rs pool vars a=.agg [.i len,.ro 5 (Hu rs),.ro 9 (C5 pool),.i vars,.i a]:=rfl
def A5n(c:List Int)(a b:Int):Rw.v ⟨c,a,b⟩=.agg [.ro 1 (Av c),.i a,.i b]:=rfl
def Acy(len:Int)(rs:List Ru)(pool:List Pit)(vars e:Nat)(g:FuncId)(d:Pit->Int)(a b:Int)(h:frOk pool vars e)
  (j:∀p∈pool,Yz G0 prog (.fc g [] []) [p.v] (λr=>r=.i (d p))):
  AE 408 [.agg [.i a,.i b,.fc g [] []],frV len rs pool vars e] (.ro 3 (Ha [⟨J7 pool vars d,a,b⟩])):=by
 have c:=Y5 len rs pool vars e g [] [] d a b h.le h.small j;have pl:=Cx pool;have i:=Dr rs;have f:=Af (J7 pool vars d);rw[Sx]at c|-;rw[A5n]at c;rw[show Ha [⟨J7 pool vars d,a,b⟩]= [.agg [.ro 1 (Av (J7 pool vars d)),.i a,.i b]]from rfl];generalize Av (J7 pool vars d)=cv,C5 pool=pv,Hu rs=rv at*;refine Aq func408 λw0 N0=>?_;refine Y [2,3] [2,3] sr (Bn 9 sr ?_);refine Ac c func310 ?_;exact Aa [4] [15] sr (By Du (rfl))
def Ak5(len:Int)(rs:List Ru)(pool:List Pit)(vars f:Nat)(g:FuncId)(e:V)(d:Pit->Int)(a b:Int)(h:frOk pool vars f)
  (k:∀p∈pool,Yz G0 prog (.fc g [] [.rp e]) [p.v] (λr=>r=.i (d p))):
  AE 408 [.agg [.i a,.i b,.fc g [] [.rp e]],frV len rs pool vars f] (.ro 3 (Ha [⟨J7 pool vars d,a,b⟩])):=by
 have c:=Y5 len rs pool vars f g [] [.rp e] d a b h.le h.small k;have pl:=Cx pool;have j:=Dr rs;have i:=Af (J7 pool vars d);rw[Sx]at c|-;rw[A5n]at c;rw[show Ha [⟨J7 pool vars d,a,b⟩]= [.agg [.ro 1 (Av (J7 pool vars d)),.i a,.i b]]from rfl];generalize Av (J7 pool vars d)=cv,C5 pool=pv,Hu rs=rv at*;refine Aq func408 λw0 N0=>?_;refine Y [2,3] [2,3] sr (Bn 9 sr ?_);refine Ac c func310 ?_;exact Aa [4] [15] sr (By Du (rfl))
def Ak6(l:List Int)(i:Nat)(x:Int):(Av l).set i (.i x)=Av (l.set i x):=by simp[Av,Oo]
def P3(a b:Int):Int:=if b<a then b else a
def Ae3(pool:List Pit)(vars st:Nat)(a b n:Int):List Rw:=
 [⟨(J7 pool vars λp=>J6 (decide (p.st=n))).set st (-(P3 b 1000000)),-1000000,0⟩,⟨(J7 pool vars λp=>J6 (decide (p.st=n))).set st (-(P3 a 1000000)),0,1000000⟩]
def A5o(len:Int)(rs:List Ru)(pool:List Pit)(vars st:Nat)(a b n:Int)(h:frOk pool vars st)(c:st<vars)(ha:0<=a)(hb:0<=b):
  AE 420 [.agg [.i a,.i b,.i n],frV len rs pool vars st] (.ro 3 (Ha (Ae3 pool vars st a b n))):=by
 have f:=λ(p:Pit)=>Aa5 (us:=[.agg [.i a,.i b,.i n]]) (args:=[p.v]) (vs:=[]) (r:=.i (J6 (decide (p.st=n)))) (Bf9 a b n p) func421 kr rfl
 have o:=Anm len rs pool vars st 421 [.agg [.i a,.i b,.i n]] [] (λp=>J6 (decide (p.st=n))) (-1000000) 0 h.le h.small (λp _ =>f p);have i:=Anm len rs pool vars st 421 [.agg [.i a,.i b,.i n]] [] (λp=>J6 (decide (p.st=n))) 0 1000000 h.le h.small (λp _ =>f p);have d:=Aa4 (λp=>J6 (decide (p.st=n))) h.le;unfold Ae3;generalize J7 pool vars (λp=>J6 (decide (p.st=n)))=C at*;have pl:=Cx pool;have j:=Dr rs;have m:=A4 C;have s:=Af (C.set st (-(P3 b 1000000)));have g:=Af (C.set st (-(P3 a 1000000)));have w:(C.set st (-(P3 b 1000000))).length=vars:=by simp[d]
 have l2:(C.set st (-(P3 a 1000000))).length=vars:=by simp[d]
 rw[show∀x y,Ha [⟨C.set st x,-1000000,0⟩,⟨C.set st y,0,1000000⟩]= [.agg [.ro 1 (Av (C.set st x)),.i (-1000000),.i 0],.agg [.ro 1 (Av (C.set st y)),.i 0,.i 1000000]]from λ_ _ =>rfl];rw[Sx]at o i|-;have u:IntKind.i64.wrap (-(P3 b 1000000))= -(P3 b 1000000):=Bp (by unfold P3;split<;>omega) (by unfold P3;split<;>omega);have z:IntKind.i64.wrap (-(P3 a 1000000))= -(P3 a 1000000):=Bp (by unfold P3;split<;>omega) (by unfold P3;split<;>omega);have s1:=Ak6 C st (-(P3 b 1000000));have t:=Ak6 C st (-(P3 a 1000000));have m1:(if(1000000:Int)<b then(1000000:Int)else b)=P3 b 1000000:=rfl;have m2:(if(1000000:Int)<a then(1000000:Int)else a)=P3 a 1000000:=rfl;generalize P3 b 1000000=x,P3 a 1000000=y at*;have d1:=A4 (C.set st (-x));have d2:=A4 (C.set st (-y));generalize Av (C.set st (-x))=D1,Av (C.set st (-y))=D2 at*;have e:=Fu (l:=C) (k:=st) om;generalize C[st]'(by omega)=c0 at e;generalize C5 pool=pv,Hu rs=rv at*;refine Aq func420 λw0 N0=>?_;refine Y [2,3] [2,3] sr (Bn 3 sr ?_);refine M5 100 o func310 rfl kr rfl rfl rfl sr Du sr (Aa [2,3,5] [2,3,5,100] sr ?_);refine A9 [] Du (Bw 100 [2,3,5] [2,3,5] Du (Bn 3 sr ?_));refine M5 101 i func310 rfl kr rfl rfl rfl sr Du sr ?_;refine Aa [2,3,5,6] [2,3,5,6,101] sr ?_;refine Y [5,6] [5,6,101] Du (Bw 101 [5,6] [5,6] Du (Y [4] [37] sr ?_));exact By Du (rfl)
def Ak7(pool:List Pit)(n:Int):Bool:=pool.any λp=>decide (p.id=n)
def Ae4(pool:List Pit)(vars:Nat)(n:Int):List Rw:=if Ak7 pool n=true then []else [⟨J7 pool vars λ_ =>0,1,1⟩]
def A0k(len:Int)(rs:List Ru)(pool:List Pit)(vars d:Nat)(n:Int)(h:frOk pool vars d):Kb gv prog 426 [.agg [.i n],frV len rs pool vars d] (λr=>r=.ro 3 (Ha (Ae4 pool vars n))):=by
 refine Kb.relaxP ?_;have c:=Aw4 len rs pool vars d n;have a:=Y5 len rs pool vars d 428 [] [] (λ_ =>0) 1 1 h.le h.small (λp _ =>Aa5 (args:=[p.v]) (us:=[]) (vs:=[]) (r:=.i 0) (Bga p) func428 kr rfl);have a:=a.argsR (args:=[frV len rs pool vars d,.fn 428,.i 1,.i 1]) (.cons (Bj.refl _) (.cons (Rl 428) (.cons (Bj.refl _) (.cons (Bj.refl _) .nil))));unfold Ae4;change Kb _ _ _ _ (λr=>r=.bool (Ak7 pool n))at c;generalize Ak7 pool n=q at*;have pl:=Cx pool;have e:=Dr rs;have f:=Af (J7 pool vars λ_ =>0);rw[Sx]at a c|-;rw[A5n]at a;generalize hC:J7 pool vars (λ_ =>0)=C at*;generalize C5 pool=pv,Hu rs=rv at*;refine B0 func426 λw0 N0 g=>?_;refine Y [2,3] [2,3] sr (J (J (Ak (Ay 3 sr ?_))));refine Bq g c func427 ?_;refine Aa [3,9] [3] sr ?_
 refine Au (λh1=>?_) λh1=>Ae ?_
 .refine Y [4] [] sr (Ao (Ab sr ?_));rw[Ad h1];exact Bj.nils 3
 refine Y [3,5] [3] sr (J (Ak (Ay 2 sr ?_)));refine Ac a func310 ?_;refine Aa [4] [13] sr (Ao (Ab Du ?_));rw[I (by rw[h1];decide)];exact Bj.refl _
def Ae5(rs:List Ru)(pool:List Pit)(vars:Nat)(n:Int):List Rw:=if(!Ak7 pool n|| !V4 rs 7 n)=true then []else [⟨J7 pool vars λp=>J6 (decide (p.id=n)),0,0⟩]
def A0l(len:Int)(rs:List Ru)(pool:List Pit)(vars f:Nat)(n:Int)(h:frOk pool vars f):Kb gv prog 436 [.agg [.i n],frV len rs pool vars f] (λr=>r=.ro 3 (Ha (Ae5 rs pool vars n))):=by
 refine Kb.relaxP ?_;have d:=Aw4 len rs pool vars f n;have e:=Ak4 len rs pool vars f 7 n;have a:=Y5 len rs pool vars f 437 [] [.rp (.agg [.i n])] (λp=>J6 (decide (p.id=n))) 0 0 h.le h.small (λp _ =>Aa5 (args:=[p.v]) (us:=[]) (vs:=[.rp (.agg [.i n])]) (r:=.i (J6 (decide (p.id=n)))) (Bgc n p) func437 kr rfl);unfold Ae5;change Kb _ _ _ _ (λr=>r=.bool (Ak7 pool n))at d;generalize Ak7 pool n=q,V4 rs 7 n=k at*;have pl:=Cx pool;have g:=Dr rs;have j:=Af (J7 pool vars λp=>J6 (decide (p.id=n)));rw[Sx]at a d e|-;rw[A5n]at a;generalize hC:J7 pool vars (λp=>J6 (decide (p.id=n)))=C at*;generalize C5 pool=pv,Hu rs=rv at*;refine B0 func436 λw0 N0 i=>?_;refine Y [2,3] [2,3] sr (J (J (Ak (Ay 3 sr ?_))));refine Bq i d func427 ?_;refine Ay 5 sr (Rb i (c:=q) (λhg=>e) func278 rfl kr sm rfl rfl sr sM sr ?_);refine Aa [2,3,17] [2,3] sr ?_
 refine Au (λh1=>?_) λh1=>Ae ?_
 .refine Y [4] [] sr (Ao (Ab sr ?_));rw[Ad (sG h1)];exact Bj.nils 3
 refine Bw 2 [2,3] [3] sr (Y [3,5] [3] sr (J (Ak (Ay 2 sr ?_))));refine Ac a func310 ?_;refine Aa [4] [22] sr (Ao (Ab Du ?_));rw[I (by rw[show(!q|| !k)=false from by simpa using h1];decide)];exact Bj.refl _
def Aa6:List Pit->List (Int × Int)->List Int->List Int
 | [],_,l=>l
 |p::r,m,l=>if p.fam<=0 then Aa6 r m l else Aa6 r ((p.fam,Fo m p.fam+1)::m) (if Fo m p.fam+1=2 then l++[p.fam]else l)
def A0m{pool:List Pit}(h:k<pool.length)(m:List (Int × Int))(l:List Int):
  Aa6 (pool.drop k) m l=if pool[k].fam<=0 then Aa6 (pool.drop (k+1)) m l else Aa6 (pool.drop (k+1)) ((pool[k].fam,Fo m pool[k].fam+1)::m) (if Fo m pool[k].fam+1=2 then l++[pool[k].fam]else l):=by
 rw[Bt h,Aa6]
def Aje(pool:List Pit):List Int:=Kt (Aa6 pool [] [])
def V5:∀(pool:List Pit)(m:List (Int × Int))(l:List Int),(Aa6 pool m l).length<=l.length+pool.length
 | [],_,l=>by simp[Aa6]
 |p::r,m,l=>by
  rw[Aa6]
  split
  .have:=V5 r m l;simp only[A3];omega
  .have:=V5 r ((p.fam,Fo m p.fam+1)::m) (if Fo m p.fam+1=2 then l++[p.fam]else l);have h2:(if Fo m p.fam+1=2 then l++[p.fam]else l).length<=l.length+1:=by split<;>simp
   simp only[A3];omega
def Pg(l:List Int):(Kt l).length=l.length:=by simp[Kt]
def A5p{m:List (Int × Int)}{n:Int}(h:∀p∈m,0<=p.2/\p.2<=n)(hn:0<=n)(a:Int):0<=Fo m a/\Fo m a<=n:=by
 induction m with
 |nil=>simp[Fo];omega
 |cons p r ih=>
  rw[Fo]
  split
  .exact h _ (Fk ..)
  .exact ih λq c=>h q (Dx _ c)
def Aqs(pool:List Pit)(aa:pool.length<=18):AE 443 [.agg [],.ro 9 (C5 pool)] (.ro 1 (Av (Aje pool))):=by
 have f:=λ(k:Nat)(h:k<pool.length)=>I8 h
 have lq:=E4 pool;have l:=V5 pool [] [];unfold Aje;generalize C5 pool=pv at*;refine Aq func443 λw0 N0=>?_;refine Y [1] [] sr (J (Ak (R9 .i64 rfl rfl (λb hb _ =>⟨_,rfl,?_⟩))));refine Aa [1,5] [] sr (A9 [6] sr (J (Y [5,6,10,11,12] [] sr ?_)));refine Fz 6 100 1 3 [5,6,10,11,12] [100] sr sr (Ah ?_)
 refine C3 (λx:Nat × Nat × Nat × List (Int × Int)× List Int=>⟨[(5,.mp b .i64 (mV x.2.2.2.1)),(6,.sl 100 x.2.1 1 x.2.2.2.2.length),(10,V.ro 9 pv),(11,V.i pv.length),(12,V.i (x.1:Nat))],[(100,⟨x.2.1,1,3,Av x.2.2.2.2⟩)],x.2.2.1,38⟩)
  (λx=>x.1<=pool.length/\x.2.2.2.2.length<=x.1/\(∀p∈x.2.2.2.1,0<=p.2/\p.2<=(x.1:Int))/\Aa6 (pool.drop x.1) x.2.2.2.1 x.2.2.2.2=Aa6 pool [] []) (λx=>pool.length-x.1) (0,_,_,[],[]) ⟨Cg _,A7 _,by simp,rfl⟩ Z ?_
 rintro⟨k,qv,nx,m,L⟩⟨hk,hL,g,a⟩;simp only at hk hL g a|-;refine Y [5,6,10,11,12,13] [100] sr (J ?_)
 refine Cu (λh1=>?_) λh1=>?_
 .have c:k<pool.length:=by simp at h1;omega
  have j:k<pv.length:=om;have s:=f k c;have Ee:=A5 (k:=k) om;rw[A0m c]at a;rw[Gn]at s;generalize pool[k]=p at s a;have pm:=D7 p.m;have i:=Ae1 m p.fam;have u:=A5p g om p.fam;generalize Fo m p.fam=la at i u a;have Tn:IntKind.i64.wrap (la+1)=la+1:=Bp om om;have t:L.length+1<=maxLen/\(L.length+1)*8<=140737488355328:=⟨Ag (show L.length+1<=19 by omega) dc,by omega⟩;refine J (Ah (Y [5,6,8,10,11,12] [8,100] (by simp[s,j]<;>rfl) (J (A9 [18] sr ?_))))
  refine C1 (λh2=>?_) λh2=>?_
  .refine A6 ?_;refine Ba [5,6,10,11,12] [100] (by simp[Ee]<;>rfl) ?_;rw[Ad (sG h2)]at a;exact⟨(k+1,_,_,m,L),⟨c,by simp only;omega,λq f=>by have:=g q f;simp only;omega,a⟩,by simp only;omega,Z⟩
  rw[I (sO h2)]at a;refine Bn 5 (by simp[i,-Nu,Tn]<;>rfl) ?_;refine St (b:=b) hb rfl rfl rfl sr sr sr rfl Auh rfl sr ?_;refine Aa [5,6,8,10,11,12] [8,100] sr ?_;refine A9 [28] sr ?_
  refine C1 (λo=>?_) λo=>?_
  .refine Ba [5,6,10,11,12] [100] (by simp[t]<;>rfl) (Cw [] (by simp[Ee]<;>rfl) ?_);rw[Ad (sG o)]at a;exact⟨(k+1,_,_,(p.fam,la+1)::m,L++[p.fam]),⟨c,by simp;omega,λq f=>(B8.1 f).elim (λe=>by subst e;simp only;omega) (λe=>by have:=g q e;simp only;omega),a⟩,by simp only;omega,by simp only[Rk,Aa0,A1,A3,Bo];exact Z⟩
  refine Ba [5,6,10,11,12] [100] (by simp[Ee]<;>rfl) ?_;rw[I (sG o)]at a;exact⟨(k+1,_,_,(p.fam,la+1)::m,L),⟨c,by simp only;omega,λq f=>(B8.1 f).elim (λe=>by subst e;simp only;omega) (λe=>by have:=g q e;simp only;omega),a⟩,by simp only;omega,Z⟩
 .refine A6 ?_;have y:k=pool.length:=sO h1
  rw[y,Ck,Aa6]at a;subst a;simp only[Bo]at l;generalize Aa6 pool [] []=L at*;have w:=Agt L om;have f1:=Tu L;have z:=Tu (Kt L);have n:=Af (Kt L);have l1:=A4 L;have l2:=A4 (Kt L);have l3:=Pg L;refine Bn 1 sr ?_;refine W6 (d:=100) (v:=qv) w f1 z func117 rfl kr rfl rfl rfl sr sr sr ?_;refine Aa [6] [100] sr ?_;refine Y [4] [100] sr ?_;exact By (by simp[results443,n,l3]<;>rfl) (rfl)
variable {d sz:Nat}{es:List V}
def A0n{v:Nat}{c:V}(h:c.pureC=true):c.frzC d v sz es=c:=by
 cases c<;>first|rfl|simp[V.pureC]at h
def Aqt{l:List V}{f:V->V}(h:∀c∈l,f c=c):l.map f=l:=by
 induction l with
 |nil=>rfl
 |cons x r ih=>rw[B6,h x (Fk ..),ih λc a=>h c (Dx _ a)]
def Ak8(d v sz:Nat)(es:List V){e:V}(h:e.pureE=true):e.frz d v sz es=e:=by
 have a:=Ar.1 h;cases e with
 |agg cs=>
  have h2:cs.map (V.frzC d v sz es)=cs:=Aqt λc h1=>A0n (a c h1)
  simp only[V.frz,h2]
 |_ =>first|rfl|(have f:=a _ (B3.2 rfl);simp[V.pureC]at f)
def F8{l:List V}(h:l.all V.pureE=true)(d v sz:Nat)(es:List V):l.map (V.frz d v sz es)=l:=Aqt λc a=>Ak8 d v sz es (Ar.1 h c a)
def V6(pool:List Pit)(vars:Nat)(f:Int):Rw:=⟨J7 pool vars λp=>J6 (decide (p.fam=f)),0,1⟩
def L4(pool:List Pit)(vars:Nat)(a:List Int):List Rw:=a.map (V6 pool vars)
def Ann{pool:List Pit}{a:List Int}(h:k<a.length):L4 pool vars (a.take (k+1))=L4 pool vars (a.take k)++[V6 pool vars a[k]]:=V3 _ h
def Aea(pool:List Pit)(vars:Nat)(a:List Int):(L4 pool vars a).length=a.length:=by simp[L4]
def A5q(len:Int)(rs:List Ru)(pool:List Pit)(vars m:Nat)(h:frOk pool vars m)(z:pool.length<=18):AE 442 [.agg [],frV len rs pool vars m] (.ro 3 (Ha (L4 pool vars (Aje pool)))):=by
 have j:=Aqs pool z
 have af:(Aje pool).length<=18:=by
  have:=V5 pool [] [];rw[Aje,Pg];simp only[Bo]at this;omega
 have c:=λ(f:Int)=>Y5 len rs pool vars m 444 [] [.rp (.i f)] (λp=>J6 (decide (p.fam=f))) 0 1 h.le h.small (λp _ =>Aa5 (args:=[p.v]) (us:=[]) (vs:=[.rp (.i f)]) (r:=.i (J6 (decide (p.fam=f)))) (Bgd f p) func444 kr rfl)
 change∀f,AC _ _ _ (λr=>r=(V6 pool vars f).v)at c;have s:=λ(f:Int)=>Af (V6 pool vars f).coef
 have ab:=λ(k:Nat)(o:k<(Aje pool).length)=>Ann (pool:=pool) (vars:=vars) o
 generalize Aje pool=a at*;have hq:=λ(k:Nat)(h:k<a.length)=>Fu h
 have lq:=A4 a;have pl:=Cx pool;have pr:=Dr rs;simp only[Sx]at c;rw[Sx];generalize ae:C5 pool=pv at*;generalize Hu rs=rv,Av a=fv at*;refine Aq func442 λw0 N0=>?_;refine Y [2,3] [2,3] sr (A9 [5] sr (J (Bn 3 sr ?_)));refine Ac j func443 ?_;refine Aa [3,5,12,13,14] [3] sr (Fz 5 100 3 418 [3,5,12,13,14] [3,100] sr sr ?_);refine Ah ?_
 refine C3 (λx:Nat × Nat × Nat=>⟨[(3,V.bp 3 (1) 5 0 0),(5,.sl 100 x.2.1 3 (L4 pool vars (a.take x.1)).length),(12,.ro 1 fv),(13,.i fv.length),(14,V.i (x.1:Nat))],[(3,{ v:=1,sz:=5,ty:=412,es:=[V.agg [V.i len,V.ro 5 rv,V.ro 9 pv,V.i vars,V.i m]]}),(100,⟨x.2.1,3,418,Ha (L4 pool vars (a.take x.1))⟩)],x.2.2,27⟩)
  (λx=>x.1<=a.length) (λx=>a.length-x.1) (0,_,_) (Cg _) Z ?_
 rintro⟨k,qv,nx⟩o;simp only at o|-;refine Y [3,5,12,13,14,15] [3,100] sr (J ?_)
 refine Cu (λh1=>?_) λh1=>?_
 .have g:k<a.length:=by simp at h1;omega
  have l:k<fv.length:=om;have ga:=hq k g;have Ee:=A5 (k:=k) om;have d:=ab k g;have y:(L4 pool vars (a.take k)).length<=18:=by rw[Aea];simp;omega
  generalize a[k]=f at ga d;have e:=c f;have pc:=s f;rw[show(V6 pool vars f).v=.agg [.ro 1 (Av (V6 pool vars f).coef),.i 0,.i 1]from rfl]at e;generalize L4 pool vars (a.take k)=i at d y|-;have aa:i.length+1<=maxLen/\(i.length+1)*40<=140737488355328:=⟨Ag (show i.length+1<=19 by omega) dc,by omega⟩;have w:Ha (L4 pool vars (a.take (k+1)))=Ha i++[.agg [.ro 1 (Av (V6 pool vars f).coef),.i 0,.i 1]]:=by rw[d,Ag2];rfl
  have u:(L4 pool vars (a.take (k+1))).length=i.length+1:=by rw[d,A1];rfl
  generalize Av (V6 pool vars f).coef=cv at*;refine J (Ah (Y [3,5,7,12,13,14] [3,7,100] (by simp[ga,l]<;>rfl) ?_));have t:=F8 (Gx i);refine Bw 7 [3,5,7,12,13,14] [3,100] (by simp[t]<;>rfl) (Y [3,5,8,12,13,14] [3,100] sr (Mr 3 sr ?_));refine Ac e func310 ?_;refine Aa [3,5,12,13,14] [3,100] (by simp[aa]<;>rfl) ?_;refine Cw [] (by simp[Ee]<;>rfl) ?_;exact⟨(k+1,_,_),g,by simp only;omega,by simp only[w,u];exact Z⟩
 .refine A6 ?_;have ad:k=a.length:=sO h1
  subst ad;simp only[Be];have n:=Gx (L4 pool vars a);refine Y [4] [100] sr ?_;exact By (by simp[results442,n]<;>rfl) (rfl)
end Go.Proofs.YtnoignhlamifmaaGreatDoor
namespace Go.Proofs
open Go.Shelf
def Tryz.sortPairs_ren:Go.Shelf.Ren:=⟨λ|6=>353|15=>177|14=>357|28=>232|29=>233|20=>359|21=>360|22=>361|23=>362|24=>363|25=>364|26=>365|27=>366|46=>368|47=>266|48=>267|49=>369|50=>370|57=>371|n=>n,λ|22=>28|24=>447|25=>480|3=>3|39=>102|0=>0|53=>164|55=>42|4=>4|46=>364|45=>363|50=>269|5=>5|9=>9|66=>400|70=>403|76=>431|77=>432|n=>n,λ|n=>n⟩
def Tryz.sortPairs:Go.Proofs.SlLaysF0.n6 prog sortPairs_ren:={
 mixed:=by kernel_rfl
 f6:=⟨Tryz.f353.name,by decide,func353.trans (congrArg some kr)⟩
 f14:=⟨Tryz.f357.name,by decide,func357.trans (congrArg some kr)⟩
 f15:=func177.trans (congrArg some kr)
 f20:=⟨Tryz.f359.name,by decide,func359.trans (congrArg some kr)⟩
 f21:=⟨Tryz.f360.name,by decide,func360.trans (congrArg some kr)⟩
 f22:=⟨Tryz.f361.name,by decide,func361.trans (congrArg some kr)⟩
 f23:=⟨Tryz.f362.name,by decide,func362.trans (congrArg some kr)⟩
 f24:=⟨Tryz.f363.name,by decide,func363.trans (congrArg some kr)⟩
 f25:=⟨Tryz.f364.name,by decide,func364.trans (congrArg some kr)⟩
 f26:=⟨Tryz.f365.name,by decide,func365.trans (congrArg some kr)⟩
 f27:=⟨Tryz.f366.name,by decide,func366.trans (congrArg some kr)⟩
 f28:=func232.trans (congrArg some kr)
 f29:=func233.trans (congrArg some kr)
 f46:=⟨Tryz.f368.name,by decide,func368.trans (congrArg some kr)⟩
 f47:=func266.trans (congrArg some kr)
 f48:=func267.trans (congrArg some kr)
 f49:=⟨Tryz.f369.name,by decide,func369.trans (congrArg some kr)⟩
 f50:=⟨Tryz.f370.name,by decide,func370.trans (congrArg some kr)⟩
 f57:=⟨Tryz.f371.name,by decide,func371.trans (congrArg some kr)⟩
 t0:=underlying0
 a0:=isAgg0
 z0:=sizeOf0
 v0:=zeroValue0
 t3:=underlying3
 a3:=isAgg3
 z3:=sizeOf3
 v3:=zeroValue3
 t4:=underlying4
 a4:=isAgg4
 z4:=sizeOf4
 v4:=zeroValue4
 t5:=underlying5
 a5:=isAgg5
 z5:=sizeOf5
 v5:=zeroValue5
 t9:=underlying9
 a9:=isAgg9
 z9:=sizeOf9
 v9:=zeroValue9
 t22:=underlying28
 a22:=isAgg28
 z22:=sizeOf28
 v22:=zeroValue28
 t25:=underlying480
 a25:=isAgg480
 z25:=sizeOf480
 v25:=zeroValue480
 t39:=underlying102
 a39:=isAgg102
 z39:=sizeOf102
 v39:=zeroValue102
 t45:=underlying363
 a45:=isAgg363
 z45:=sizeOf363
 v45:=zeroValue363
 t46:=underlying364
 a46:=isAgg364
 z46:=sizeOf364
 v46:=zeroValue364
 t50:=underlying269
 a50:=isAgg269
 z50:=sizeOf269
 v50:=zeroValue269
 t53:=underlying164
 a53:=isAgg164
 z53:=sizeOf164
 v53:=zeroValue164
 t55:=underlying42
 a55:=isAgg42
 z55:=sizeOf42
 v55:=zeroValue42
 t66:=underlying400
 a66:=isAgg400
 z66:=sizeOf400
 v66:=zeroValue400
 t70:=underlying403
 a70:=isAgg403
 z70:=sizeOf403
 v70:=zeroValue403
 t76:=underlying431
 a76:=isAgg431
 z76:=sizeOf431
 v76:=zeroValue431
 t77:=underlying432
 a77:=isAgg432
 z77:=sizeOf432
 v77:=zeroValue432}
def Tryz.cmpInt_ren:Go.Shelf.Ren:=⟨λ|5=>189|7=>248|n=>n,λ|22=>3|3=>3|4=>4|n=>n,λ|n=>n⟩
def Tryz.cmpInt:Go.Proofs.SlLaysC2.n5 prog cmpInt_ren:={
 mixed:=by kernel_rfl
 f5:=⟨Tryz.f189.name,by decide,func189.trans (congrArg some kr)⟩
 f7:=⟨Tryz.f248.name,by decide,func248.trans (congrArg some kr)⟩
 t3:=underlying3
 a3:=isAgg3
 z3:=sizeOf3
 v3:=zeroValue3
 t4:=underlying4
 a4:=isAgg4
 z4:=sizeOf4
 v4:=zeroValue4
 t22:=underlying3
 a22:=isAgg3
 z22:=sizeOf3
 v22:=zeroValue3}
open Go.RowKit
def Tryz.or2(b off:Nat)(A C r:Int)(m:A=0->r=C)(l:A≠0->r=A)(w:World)(j:w.cell? ⟨b,off,none⟩=some (.int .i64 A))(h1:w.cell? ⟨b,off+1,none⟩=some (.int .i64 C)):
  Calls prog 188 #[.slice (some ⟨b,off,none⟩) 2 2] w λe w'=>e=.returned (.int .i64 r)/\w'=w:=by
 go_enter func188,ntmps188
 go_wp2
 go_loop [8] (λi=>∃k:Nat,k<=2/\i=.int .i64 k/\(0<k->A=0)/\(1<k->C=0)) (λi=>2-(intOf i).toNat)
 case atStart=>exact⟨0,by omega,rfl,by omega,by omega⟩
 case round=>
  obtain⟨k,hk,rfl,hA,hC⟩:=hrel;obtain⟨z,d,c⟩:∃z,(k=0->z=A)/\(k=1->z=C):=⟨if k=0 then A else C,by intro h;simp[h],by intro h;simp[h]⟩
  have g:(k:Int)<2->w.cell? ⟨b,off+k,none⟩=some (.int .i64 z):=by
   intro h
   rcases Cl k 1 with h2|h2
   .have:k=0:=om;subst this;rw[d rfl];simpa using j
   .have:k=1:=om;subst this;rw[c rfl];simpa using h1
  clear j h1
  go_wp2
  .have f:=sG (‹(z != 0)=true›)
   have a:(k:Int)<2:=by assumption
   have:z=r:=om
   go_ret
   exact⟨by rw[this];rfl,rfl⟩
  .have f:=sG (‹(z != 0)=false›)
   have a:(k:Int)<2:=by assumption
   refine⟨⟨k+1,by omega,?_,by omega,by omega⟩,?_⟩
   .simp
   .simp[intOf];omega
  .have a:¬(k:Int)<2:=om;have:r=0:=om
   go_ret
   exact⟨by rw[this];rfl,rfl⟩
def Tryz.cmp159(x y:Int)(w:World):Calls prog 189 #[.int .i64 x,.int .i64 y] w λe w'=>e=.returned (.int .i64 (Lib.compareInt x y))/\w'=w:=AnyG.cmp_Compare_int cmpInt x y w
def Aqu(V:World)(a:Array Value)(T n:Nat)(c:n=V.heap.size)(k:Nat)(v:Value)(h:a[k]? =some v):((V.alloc (.cells a T)).drew).cell? ⟨n,k,none⟩=some v:=by
 show(V.alloc (.cells a T)).cell? ⟨n,k,none⟩=some v
 subst c;have d:(V.alloc (.cells a T)).heap[V.heap.size]? =some (.cells a T):=heap_alloc_new V _;simp only[World.cell?,d,h];rfl
open Go.Sort in
def GR(W w':World):Prop:=∃q os',w'=grow (W.drewN q) os'
open Go.Sort in
theorem GR.refl(W:World):GR W W:=⟨0,#[],by rw [grow_empty];rfl⟩
open Go.Sort in
theorem GR.alloc{W w:World}(h:GR W w)(o:Obj):GR W (w.alloc o):=by
 obtain⟨q,os,rfl⟩:=h;exact⟨q,os++ #[o],by rw [alloc_eq_grow,grow_grow]⟩
open Go.Sort in
theorem GR.drew{W w:World}(h:GR W w):GR W w.drew:=by
 obtain⟨q,os,rfl⟩:=h;exact⟨q+1,os,rfl⟩
open Go.Sort in
set_option maxRecDepth 8000 in
theorem Tryz.closure309(x1 x2 y1 y2 a b r:Int)(ha:Lib.compareInt x1 y1=a)(hb:Lib.compareInt x2 y2=b)(hr1:a=0->r=b)(hr2:a≠0->r=a)(W:World):Calls prog 354 #[.agg #[.int .i64 x1,.int .i64 x2],.agg #[.int .i64 y1,.int .i64 y2]] W fun e w'=>e=.returned (.int .i64 r)/\∃q os',w'=grow (W.drewN q) os':=by
 have h1:=fun W'=>cmp159 x1 y1 W'
 have h2:=fun W'=>cmp159 x2 y2 W'
 rw [ha]at h1;rw [hb]at h2
 go_enter func354,ntmps354
 go_wp
 go_region_held3 (fun w'=>w'.cell? ⟨W.heap.size,0,none⟩=some (.int .i64 x1)/\w'.cell? ⟨W.heap.size,1,none⟩=some (.int .i64 x2)/\w'.cell? ⟨W.heap.size+1,0,none⟩=some (.int .i64 y1)/\w'.cell? ⟨W.heap.size+1,1,none⟩=some (.int .i64 y2)) (go_keep)
  (first
   |(go_at_call_of 189 (Value.int .i64 x1);refine(h1 _).mono ?_;rintro e w'⟨rfl,rfl⟩)
   |(go_at_call_of 189 (Value.int .i64 x2);refine(h2 _).mono ?_;rintro e w'⟨rfl,rfl⟩)
   |(go_at_call 188;refine(or2 _ _ a b r hr1 hr2 _ ?_ ?_).mono ?_;(exact Aqu _ _ _ _ sm _ _ rfl);(exact Aqu _ _ _ _ sm _ _ rfl);rintro e w'⟨rfl,rfl⟩))
 all_goals go_wp2
 all_goals go_ret
 all_goals refine⟨rfl,?_⟩
 all_goals(repeat(first|exact GR.refl _ |apply GR.drew|apply GR.alloc))
end Go.Proofs
namespace Go.Proofs.YtnoignhlamifmaaGreatDoor
open Go.Eng Go.Eng.Limb Go.RowKit Go.Sort
variable {d g k n:Nat}{ty:TypeId}
def Auq(x y:Int × Int):Int:=if Lib.compareInt x.1 y.1=0 then Lib.compareInt x.2 y.2 else Lib.compareInt x.1 y.1
def ltP(x y:Int × Int):Bool:=decide (x.1<y.1\/(x.1=y.1/\x.2<y.2))
def leP(x y:Int × Int):Bool:=decide (x.1<y.1\/(x.1=y.1/\x.2<=y.2))
def Ak9:ltOf Auq=ltP:=by
 funext x y
 have c:∀a b:Int,(Lib.compareInt a b=0↔a=b)/\(Lib.compareInt a b<0↔a<b):=by
  intro a b;unfold Lib.compareInt
  by_cases h1:a<b
  .simp[h1];omega
  .by_cases h2:b<a
   .simp[h1,h2];omega
   .simp[h1,h2];omega
 unfold ltOf Auq ltP;have h1:=c x.1 y.1;have h2:=c x.2 y.2
 by_cases h:x.1=y.1
 .rw[Ad (h1.1.2 h)];simp only[h2.2];congr 1;simp[h]
 .rw[I (λe=>h (h1.1.1 e))];simp only[h1.2];congr 1;simp[h]
def Bj1:SWO ltP where
 irrefl x:=by simp[ltP]
 trans x y z h1 h2:=by simp only[ltP,decide_eq_true_eq]at*;omega
 ntrans x y z h1 h2:=by simp only[ltP,decide_eq_false_iff_not]at*;omega
def Y6(x:Int × Int):List Value:=[.int .i64 x.1,.int .i64 x.2]
def A5r(blk off a:Nat)(w:World):CmpLays prog 354 #[] Y6 2 Auq blk off a w:=by
 intro m os dk _ x y;exact closure309 x.1 x.2 y.1 y.2 _ _ (Auq x y) rfl rfl (λh=>by unfold Auq;rw[Ad h]) (λh=>by unfold Auq;rw[I h]) _
def Aqv{w:World}{f:Array Obj}(d:Array Value):w.grownBy (grow (putRow id (Sort.ahead w n) g 0 d) f) (some g):=by
 refine⟨rfl,rfl,rfl,by simp,λk c a=>?_⟩;rw[heap_grow_old _ _ (sG c)];have:g≠k:=λe=>a (by rw[e])
 simp[putRow,mapBlock,Sort.ahead,K6,this]
def A5s{w:World}{i:Array Obj}{a:Array Value}{e:TypeId}{c:Nat × Nat}(d:Array Value)(f:w.heap[g]? =some (.cells a e c)):
  (grow (putRow id (Sort.ahead w n) g 0 d) i).heap[g]? =some (.cells (putCells id 0 d a) e c):=by
 rw[heap_grow_old _ _ (sG ((B7.1 f).1))];simp[putRow,mapBlock,Sort.ahead,K6,f,onCells]
def Aur(l:List (Int × Int)):∀e∈Bd l,e.fits 2:=by
 intro x a;simp only[Bd,Bl]at a;obtain⟨h,_,rfl⟩:=a;exact⟨rfl,by simp[V.cells,V.isCell]⟩
def Acz{l:List (Int × Int)}(h:k<l.length):(Bd l)[k]? =some (.agg [.i l[k].1,.i l[k].2]):=by simp[Bd,h]
def Aus{w:World}{e:Nat}{l:List (Int × Int)}(h:Ad1 w g ty 2 e (Bd l)):HoldsK Y6 2 w g 0 l.toArray/\g<w.heap.size/\∃a,w.heap[g]? =some (.cells a ty (0,0))/\a.size=e*2:=by
 have⟨h1,h2,a,c,r,o⟩:=h;refine⟨λj k=>?_,(B7.1 c).1,a,c,r⟩;rw[size_flatK,C8]at k;have i:j/2<l.length:=om
 have n:(flatK Y6 2 l.toArray)[j]! =(Y6 l[j/2])[j%2]! :=by
  rw[get_flatK Y6 2 l.toArray j (sG k)];simp[i]
 have m:j/2*2+j%2=j:=om
 rcases(by omega:j%2=0\/j%2=1)with f|f
 .have⟨x,d,hp⟩:=o (j/2) _ (j%2) (.int .i64 l[j/2].1) (Acz i) (by rw[f];rfl);rw[m]at d;cases hp
  rw[n,f];exact⟨by simp[World.cell?,c,d,Y6],by simp[World.frozen?,c]⟩
 .have⟨x,d,hp⟩:=o (j/2) _ (j%2) (.int .i64 l[j/2].2) (Acz i) (by rw[f];rfl);rw[m]at d;cases hp
  rw[n,f];exact⟨by simp[World.cell?,c,d,Y6],by simp[World.frozen?,c]⟩
def A5t{w:World}{r:Array Obj}{a:Array Value}{l:List (Int × Int)}(u:w.heap[g]? =some (.cells a ty (0,0)))(hs:a.size=d*2)(s:l.length<=d):
  Ad1 (grow (putRow id (Sort.ahead w n) g 0 (flatK Y6 2 l.toArray)) r) g ty 2 d (Bd l):=by
 refine⟨by rw[Ei];exact s,Aur l,_,A5s _ u,by simp[putCells,hs],λk e j c f h=>?_⟩;have i:k<l.length:=by have:=(Al.1 f).1;simpa using this
 rw[Acz i]at f;cases f;have m:j<2:=by have:=(Al.1 h).1;simpa[V.cells]using this
 have t:(flatK Y6 2 l.toArray)[k*2+j]! =(Y6 l[k])[j]! :=by
  rw[get_flatK Y6 2 l.toArray (k*2+j) so,show(k*2+j)/2=k by omega,show(k*2+j)%2=j by omega];simp[i]
 have o:(putCells id 0 (flatK Y6 2 l.toArray) a)[k*2+j]? =some ((Y6 l[k])[j]!):=by
  rw[putCells,Array.getElem?_mapIdx,Me (show k*2+j<a.size by omega)];simp only[Ip,size_flatK,C8,Dq,Hp,id];rw[Ad om,t]
 refine⟨_,o,?_⟩
 rcases(by omega:j=0\/j=1)with rfl|rfl
 .simp only[V.cells,D6,Ap]at h;subst h;exact .int _ _
 .simp only[V.cells,He,D6,Ap]at h;subst h;exact .int _ _
def Tw(l:List (Int × Int)):List (Int × Int):=l.mergeSort leP
def A5u{l m:List (Int × Int)}(hp:m.Perm l)(hs:m.Pairwise λx y=>leP x y=true):m=Tw l:=by
 refine S8 (le:=λx y=>leP x y=true) (λa b _ _ h1 h2=>?_) hs (List.pairwise_mergeSort (λa b c h1 h2=>?_) (λa b=>?_) l) (hp.trans (List.mergeSort_perm l leP).symm)
 .simp only[leP,decide_eq_true_eq]at h1 h2;exact Prod.ext om om
 .simp only[leP,decide_eq_true_eq]at*;omega
 .simp only[leP,G6,decide_eq_true_eq];omega
def Ajf{d:Array (Int × Int)}(h:SortedIn ltP 0 d.size d):d.toList.Pairwise λx y=>leP x y=true:=by
 rw[Hw];intro i j e c a;have:=h i j (Cg _) a (sG c);have g:d[j]! =d.toList[j]:=by rw[getElem!_pos d j (sG c)];simp
 have f:d[i]! =d.toList[i]:=by rw[getElem!_pos d i (sG e)];simp
 rw[g,f]at this;simp only[ltP,decide_eq_false_iff_not]at this;simp only[leP,decide_eq_true_eq];omega
def Aut(l:List (Int × Int))(hz:l.length<=17592186044416):Bin prog 353 354 2 447 (Bd l) (Bd (Tw l)) (λ_ _ =>.tup []):=by
 have eg:=enters_of func354 kr rfl
 refine⟨λw g j r c=>?_,λhe=>?_⟩
 .have⟨t,u,z,hb,hs⟩:=Aus c;have i:=c.1;rw[Ei]at i|-;have a:=AnyQ.slices_SortFunc sortPairs 2 isAgg447 sizeOf447 Y6 (λ_ =>rfl) (λx v s=>by simp[Y6]at s;rcases s with rfl|rfl<;>rfl) Auq (by rw[Ak9];exact Bj1) 354 #[] g 0 j l.toArray w eg (A5r g 0 _ w) t u so;rw[Ak9]at a;refine a.mono ?_;rintro e w'⟨rfl,h,n,os,hp,o,rfl⟩;have hd:=sG hp.1
  have f:h.toList.Perm l:=by
   have h3:=hp.2.2;have y:(h.extract 0 l.toArray.size).toList=h.toList:=by simp;rw[Bi (by simp;omega)]
   have a2:(l.toArray.extract 0 l.toArray.size).toList=l:=sm
   rwa[y,a2]at h3
  have m:h=(Tw l).toArray:=by rw[<-(A5u f (Ajf (by rw[hd];simpa using o)))]
  subst m;exact⟨_,rfl,Aqv _,A5t hb hs (by simp[Tw];omega),λd v μ N' _ =>.pur (.tup [] [] rfl sm)⟩
 .have:l= []:=by simpa[Bd]using he
  subst this;refine⟨by simp[Tw,Bd],λw A=>?_⟩;refine(AnyF.slices_SortFunc_none sortPairs A 0 _ w).mono ?_;rintro e w'⟨rfl,rfl⟩;exact⟨_,rfl,⟨rfl,rfl,rfl,A7 _,λ_ _ _ =>rfl⟩,λd v μ N' _ =>.pur (.tup [] [] rfl sm)⟩
variable {S:AS}{fn:Func}{m:Nat}{r:V}
def K3:List (Int × Int)->List (Int × Int)
 | []=>[]
 | [x]=>[x]
 |x::y::r=>if x=y then K3 (y::r)else x::K3 (y::r)
def Ala(y x:Int × Int):∀a:List (Int × Int),K3 (a++[y,x])=K3 (a++[y])++(if y=x then []else [x])
 | []=>by
  show K3 [y,x]=K3 [y]++_
  by_cases h:y=x
  .subst h;simp[K3]
  .simp[K3,h]
 |z::a=>by
  have ih:=Ala y x a
  match a,ih with
  | [],ih=>
   show(if z=y then K3 [y,x]else z::K3 [y,x])=(if z=y then K3 [y]else z::K3 [y])++_
   rw[show K3 [y,x]=_ from ih];split<;>simp
  |b::r,ih=>
   show(if z=b then K3 (b::r++[y,x])else z::K3 (b::r++[y,x]))=(if z=b then K3 (b::r++[y])else z::K3 (b::r++[y]))++_
   rw[ih];split<;>simp
def Alb{l:List (Int × Int)}(h:m+1<l.length):K3 (l.take (m+2))=K3 (l.take (m+1))++(if l[m]'(by omega)=l[m+1]then []else [l[m+1]]):=by
 have c:l.take (m+2)=l.take m++[l[m]'(by omega),l[m+1]]:=by
  rw[Az h,Az (show m<l.length by omega),Cz];rfl
 have a:l.take (m+1)=l.take m++[l[m]'(by omega)]:=Az om;rw[c,a,Ala]
def Ag3:∀l:List (Int × Int),(K3 l).length<=l.length
 | []=>by simp[K3]
 | [x]=>by simp[K3]
 |x::y::r=>by
  have:=Ag3 (y::r);rw[K3];split<;>simp only[A3]at*<;>omega
def Bj2(l:List (Int × Int))(i:Nat)(x:Int × Int):(Bd l).set i (.agg [.i x.1,.i x.2])=Bd (l.set i x):=by simp[Bd,Oo]
def Aw5(a b:Int × Int):(decide (a.1=b.1)&&decide (a.2=b.2))=decide (a=b):=by
 have⟨d,f⟩:=a;have⟨e,c⟩:=b;by_cases h:d=e<;>by_cases h2:f=c<;>simp[h,h2]
def Biw(v:Nat)(l:List (Int × Int))(r:V)(a:List (Nat × Ob)):Prop:=
 ∃L:List (Int × Int),a= [(100,⟨v,2,447,Bd L⟩)]/\((r=.sl 100 v 2 L.length/\L=K3 l)\/(r=.ss 100 v 2 0 (K3 l).length/\L.take (K3 l).length=K3 l/\(K3 l).length<=L.length))
def Ac0{nx:Nat}{R:V->List (Nat × Ob)->Prop}{E:List PanicEntry->Prop}{ob:Ob}(a:nx<=S.nx)(c:Aag prog S fn.results.toList=some r)(d:Eng.get S.objs k=some ob)(f:R r [(k,ob)]):Af6 prog fn R E nx .ret S:=
 ⟨a,r,_,c,λ_ _ e=>B5 d e,f⟩
def Ano(v:Nat)(l:List (Int × Int))(hl:l.length<=1000000):Qv prog 355 [.sl 100 v 2 l.length] [(100,⟨v,2,447,Bd l⟩)] (Biw v l) (λ_ =>False):=by
 refine Ec func355 λw0 N0 af=>?_;refine Y [0] [100] sr (J (Y [0,8] [100] sr ?_))
 refine C1 (λh1=>?_) λh1=>?_
 .refine Y [2] [100] sr (Ao (Ac0 sy sr rfl ⟨l,rfl,.inl ⟨rfl,?_⟩⟩));have az:l.length<2:=sO h1
  match l,az with
  | [],_ =>rfl
  | [x],_ =>rfl
 have bf:2<=l.length:=sO h1
 refine J (Y [0,3] [100] sr (Ah ?_));refine C3 (λt:Nat × Nat=>⟨[(0,V.sl 100 v 2 l.length),(3,V.int .i64 ((t.1+1:Nat):Int))],[(100,⟨v,2,447,Bd l⟩)],t.2,61⟩) (λt=>t.1+1<=l.length/\af<=t.2/\K3 (l.take (t.1+1))=l.take (t.1+1)) (λt=>l.length-t.1) (0,_) ⟨by simp only;omega,by simp only;omega,by rw[Az om,Kh];rfl⟩ Z ?_;rintro⟨k,nx⟩⟨hk,a5,hI⟩;simp only at hk a5 hI|-;refine J (Y [0,3,13] [100] sr ?_)
 refine Cu (λh2=>?_) λh2=>?_
 .have r:k+1<l.length:=by simp at h2;omega
  have ba:k+1<(Bd l).length:=by rw[Ei];exact r
  have bb:k<(Bd l).length:=by rw[Ei];omega
  have g1:=Im r;have g0:=Im (show k<l.length by omega);have Ee:IntKind.i64.wrap (k:Int)=k:=Bp om om;have Tn:IntKind.i64.wrap ((k:Int)+1+1)=(k:Int)+1+1:=Bp om om;have ak:(0:Int)<=(k:Int)+1:=om;have aw:(k:Int)+1<l.length:=om;have a9:(k:Int)<l.length:=om;have ht:=Alb r;have ag:=Aw5 l[k+1] (l[k]'(by omega));generalize a7:l[k+1]=x1 at*;generalize bg:l[k]'(by omega)=x0 at*;refine J (Ah (Do [(0,[]),(1,[]),(2,[]),(4,[]),(5,[]),(6,[]),(7,[]),(3,[]),(8,[]),(9,[])] [0,3,25] [100] Eb kr (by simp[g1,g0,Ee,ak,aw,a9]<;>rfl) ?_))
  refine C1 (λh3=>?_) λh3=>?_
  .have s:x1=x0:=by rw[<- decide_eq_true_iff (p:=x1=x0),<- ag];simpa using h3
   have hN:l.length-(k+1)+(k+1)=l.length:=om;have a0:(k:Int)+1<=l.length:=om;rw[Ad s.symm,Ex,hI]at ht;refine Y [0,3,4] [100] Du (J (Y [0,3,4,5] [100] sr (Ah ?_)))
   refine C3 (λt:Nat × Nat × List (Int × Int)× Nat=>⟨[(0,V.sl 100 v 2 l.length),(3,V.int .i64 (t.2.1:Nat)),(4,V.ss 100 v 2 (k+1) (l.length-(k+1))),(5,V.int .i64 ((t.1+1:Nat):Int))],[(100,⟨v,2,447,Bd t.2.2.1⟩)],t.2.2.2,61⟩)
    (λt=>k+1+(t.1+1)<=l.length/\t.2.2.1.length=l.length/\t.2.1=(K3 (l.take (k+1+t.1+1))).length/\t.2.2.1.take t.2.1=K3 (l.take (k+1+t.1+1))/\t.2.1<=k+1+t.1/\(∀q,k+1+t.1<=q->t.2.2.1[q]? =l[q]?)/\af<=t.2.2.2)
    (λt=>l.length-t.1) (0,k+1,l,_) ⟨by simp only;omega,rfl,by simp only[Ef];rw[ht,Da];omega,by simp only[Ef];rw[ht],by simp only;omega,λ_ _ =>rfl,by simp only;omega⟩ Z ?_
   rintro⟨a,c,L,bi⟩⟨hj,o,i,j,ay,n,ae⟩;simp only at hj o i j ay n ae|-;have be:((l.length-(k+1):Nat):Int)=(l.length:Int)-(k+1):=om;refine J (Y [0,3,4,5,32] [100] sr ?_)
   refine Cu (λh4=>?_) λh4=>?_
   .have a1:k+1+(a+1)<l.length:=by simp at h4;omega
    have q1:=n (k+1+(a+1)) om;have q0:=n (k+1+a) om;rw[Ai om,Ai a1]at q1;rw[Ai om,Ai (show k+1+a<l.length by omega)]at q0;injection q1 with q1;injection q0 with q0;have u:=Im (l:=L) (k:=k+1+(a+1)) om;have aq:=Im (l:=L) (k:=k+1+a) om;rw[q1]at u;rw[q0]at aq;have h:=Alb (l:=l) (m:=k+1+a) om;have ab:=Aw5 (l[k+1+(a+1)]) (l[k+1+a]'(by omega));have ax:=Bj2 L c (l[k+1+(a+1)]);have ad:(L.set c (l[k+1+(a+1)])).length=l.length:=by rw[Hs];exact o
    have a4:(L.set c (l[k+1+(a+1)])).take (c+1)=L.take c++[l[k+1+(a+1)]]:=by
     rw[Az (by rw[ad];omega),List.getElem_set_self,List.take_set_of_le (A7 _)]
    have ar:∀q,c<q->(L.set c (l[k+1+(a+1)]))[q]? =L[q]? :=λq hq=>Ie om
    have f:k+1+a+1=k+1+(a+1):=om;have w:k+1+a+2=k+1+(a+1)+1:=om;simp only[f,w]at h j i;have ai:Hj (Bd L) c=some (.agg [.int .i64 (L[c]'(by omega)).1,.int .i64 (L[c]'(by omega)).2]):=Im om;generalize(L[c]'(by omega))=yo at ai;generalize l[k+1+(a+1)]=y,l[k+1+a]'(by omega)=y0 at*;generalize L.set c y=L' at*;have av:IntKind.i64.wrap (a:Int)=a:=Bp om om;have ah:IntKind.i64.wrap ((a:Int)+1+1)=(a:Int)+1+1:=Bp om om;have a2:IntKind.i64.wrap ((c:Int)+1)=(c:Int)+1:=Bp om om;have am:(0:Int)<=(a:Int)+1:=om;have an:(a:Int)+1<((l.length-(k+1):Nat):Int):=om;have au:(a:Int)<((l.length-(k+1):Nat):Int):=om;have a6:(c:Int)<l.length:=om;have al:=Ei L;refine J (Ah (Do [(0,[]),(1,[]),(2,[]),(4,[]),(5,[]),(6,[]),(7,[]),(3,[]),(8,[]),(9,[])] [0,3,4,5,44] [100] Eb kr (by simp[u,aq,av,am,an,au]<;>rfl) ?_));have ao:(!decide (y.1=y0.1)|| !decide (y.2=y0.2))= !decide (y=y0):=by rw[<- ab,Bool.not_and]
    refine C1 (λh5=>?_) λh5=>?_
    .have aj:¬y=y0:=by rw[ao]at h5;simpa using h5
     rw[I (λe=>aj e.symm)]at h;refine Y [0,3,4,5] [100] (by simp[u,am,an,a6,ai,ax]<;>rfl) (Ba [0,3,4,5] [100] (by simp[a2]<;>rfl) (Ba [0,3,4,5] [100] (by simp[ah]<;>rfl) ?_));exact⟨(a+1,c+1,L',_),⟨by simp only;omega,ad,by simp only[];rw[h,A1,<- i];rfl,by simp only[];rw[h,a4,j],by simp only;omega,λq hq=>by rw[ar q oM];exact n q om,by simp only;omega⟩,by simp only;omega,Z⟩
    have a3:y=y0:=by rw[ao]at h5;simpa using h5
    rw[Ad a3.symm,Ex]at h;refine Ba [0,3,4,5] [100] (by simp[ah]<;>rfl) ?_;exact⟨(a+1,c,L,_),⟨by simp only;omega,o,by simp only[];rw[h];exact i,by simp only[];rw[h];exact j,by simp only;omega,λq hq=>n q om,by simp only;omega⟩,by simp only;omega,Z⟩
   .refine A6 ?_;have bh:k+1+(a+1)=l.length:=sO h4
    have g:l.take (k+1+a+1)=l:=Bi om;rw[g]at i j;have bd:=Ag3 l;have al:=Ei L;have aa:(c:Int)<=l.length:=om;have bc:c<=l.length:=om;have a8:(Bd L).take c=Bd (K3 l):=by rw[<- j];simp[Bd,Pq]
    refine Bn 3 (by simp[aa]<;>rfl) ?_;refine Aze (d:=100) (off:=c) (len:=l.length-c) (ob:=⟨v,2,447,Bd L⟩) (te:=447) (z:=.agg #[.int .i64 0,.int .i64 0]) rfl rfl rfl sm gt (by simp[o];omega) sm zeroValue447 rfl (by simp[Value.cells,Value.oneCell']) (by simp[a8]<;>rfl) ?_;refine Aa [0,3] [100] sr ?_;refine Y [2] [100] (by simp[aa]<;>rfl) ?_;exact Ao (Ac0 sy sr rfl ⟨K3 l,rfl,.inr ⟨by rw[i],Be,A7 _⟩⟩)
  have s:¬x1=x0:=by rw[<- decide_eq_true_iff (p:=x1=x0),<- ag,h3];decide
  rw[I (λe=>s e.symm),hI]at ht;refine Ba [0,3] [100] (by simp[Tn]<;>rfl) ?_;exact⟨(k+1,_),⟨by simp only;omega,by simp only;omega,by rw[ht,Az (show k+1<l.length by omega),a7]⟩,by simp only;omega,Z⟩
 .refine A6 ?_;have bj:k+1=l.length:=sO h2
  have g:l.take (k+1)=l:=Bi om;rw[g]at hI;refine Y [2] [100] sr ?_;exact Ao (Ac0 sy sr rfl ⟨l,rfl,.inl ⟨rfl,hI.symm⟩⟩)
def A0o(p:Int × Int):Bool:=decide (p.1≠p.2)
def Ag4(l:List (Int × Int)):List (Int × Int):=(l.filter A0o).map λp=>A5j p.1 p.2
def A0p{l:List (Int × Int)}(h:k<l.length):Ag4 (l.take (k+1))=Ag4 (l.take k)++(if A0o l[k]=true then [A5j l[k].1 l[k].2]else []):=by
 unfold Ag4;rw[V2 A0o h,C0]
 congr 1
 by_cases a:A0o l[k]=true<;>simp[a]
def Ag5(l:List (Int × Int)):(Ag4 l).length<=l.length:=by unfold Ag4;rw[D9];exact H1 _ _
def Aqw(l:List (Int × Int)):List (Int × Int):=K3 (Tw (Ag4 l))
def Ac1(l:List (Int × Int)):(Tw l).length=l.length:=by simp[Tw]
def Ac2(l:List (Int × Int)):(Aqw l).length<=l.length:=Ag (Ag3 _) (by rw[Ac1];exact Ag5 l)
def Ag6(a b:List (Int × Int)):Bd (a++b)=Bd a++Bd b:=C0
def Ag7(p:Int × Int):Bd [p]= [.agg [.i p.1,.i p.2]]:=rfl
def flatP(l:List (Int × Int)):(Bd l).all Mc=true:=by
 rw[Ar];intro x a;simp only[Bd,Bl]at a;obtain⟨n,_,rfl⟩:=a;rfl
def A5v(l:List (Int × Int))(hl:l.length<=1000):AE 338 [.ro 2 (Bd l)] (.ro 2 (Bd (Aqw l))):=by
 have hq:=λ(k:Nat)(h:k<l.length)=>Im h
 have lq:=Ei l;have u:=λ(k:Nat)(h:k<l.length)=>A0p h
 have ag:=Ag5 l;unfold Aqw;generalize Bd l=w at*;refine Aq func338 λw0 N0=>?_;refine Y [0] [] sr (A9 [3] sr (J (Y [3,6,7,8] [] sr ?_)));refine Fz 3 100 2 447 [3,6,7,8] [100] sr sr (Ah ?_)
 refine C3 (λx:Nat × Nat × Nat=>⟨[(3,.sl 100 x.2.1 2 (Ag4 (l.take x.1)).length),(6,V.ro 2 w),(7,V.i w.length),(8,V.i (x.1:Nat))],[(100,⟨x.2.1,2,447,Bd (Ag4 (l.take x.1))⟩)],x.2.2,30⟩)
  (λx=>x.1<=l.length) (λx=>l.length-x.1) (0,_,_) (Cg _) Z ?_
 rintro⟨k,qv,nx⟩f;simp only at f|-;refine Y [3,6,7,8,9] [100] sr (J ?_)
 refine Cu (λh1=>?_) λh1=>?_
 .have c:k<l.length:=by simp at h1;omega
  have i:k<w.length:=om;have ga:=hq k c;have Ee:=A5 (k:=k) om;have a:=u k c;have s:(Ag4 (l.take k)).length<=1000:=Ag (Ag5 _) so;generalize l[k]=p at ga a;have g:=Auo p.1 p.2;generalize A5j p.1 p.2=op at*;have e:A0o p= !decide (p.1=p.2):=by unfold A0o;simp
  generalize Ag4 (l.take k)=z at a s|-;have t:z.length+1<=maxLen/\(z.length+1)*16<=140737488355328:=⟨Ag (show z.length+1<=1001 by omega) dc,by omega⟩;refine J (Ah (Y [3,5,6,7,8] [5,100] (by simp[ga,i]<;>rfl) (A9 [16] sr ?_)))
  refine C1 (λh2=>?_) λh2=>?_
  .refine Mr 5 sr ?_;refine Ac g func352 ?_;refine Aa [3,6,7,8] [100] (by simp[t]<;>rfl) ?_;refine Cw [] (by simp[Ee]<;>rfl) ?_;rw[Ad (by rw[e];simpa using h2)]at a;exact⟨(k+1,_,_),c,by simp only;omega,by simp only[a,Ag6,Ag7,A1,A3,Bo];exact Z⟩
  refine Ba [3,6,7,8] [100] (by simp[Ee]<;>rfl) ?_;rw[I (by rw[e];simp at h2;simp[h2]),Ex]at a;exact⟨(k+1,_,_),c,by simp only;omega,by simp only[a];exact Z⟩
 .refine A6 ?_;have ad:k=l.length:=sO h1
  subst ad;simp only[Be];generalize Ag4 l=L at*;have ab:=Aut L om;have j:=Ano qv (Tw L) (by rw[Ac1];omega);have f1:=flatP L;have f2:=flatP (Tw L);have l1:=Ei L;rw[Ac1]at j;refine Bn 1 sr ?_;refine Atu (d:=100) (v:=qv) ab f1 f2 func353 rfl kr rfl rfl rfl rfl sr sr sr ?_;refine Aa [3] [100] sr ?_;refine Bn 1 sr ?_;refine D0 j func355 rfl kr rfl rfl rfl sr (λk o f=>B5 gt f) ?_ λch m=>m.elim;rintro r ae ah⟨L2,rfl,hr⟩af;refine⟨λk f=>Jq f,?_⟩;have pL:=Bc (K3 (Tw L))
  rcases hr with⟨rfl,rfl⟩|⟨rfl,aa,y⟩
  .refine⟨_,by simp<;>rfl,?_⟩;refine Aa [2] [100] sr ?_;exact By (by simp[results338,pL]<;>rfl) rfl
  .have n:(Bd L2).take (K3 (Tw L)).length=Bd (K3 (Tw L)):=by rw[<- aa];simp[Bd,Pq]
   refine⟨_,by simp<;>rfl,?_⟩;refine Aa [2] [100] sr ?_;exact By (by simp[results338,pL,n,y]<;>rfl) rfl
@[simp]def Anp:Zx prog 330=some (.i64,4):=by kernel_rfl
def mB(l:List Int):List (Int × V):=l.map λx=>(x,.bool true)
def Bb2(l:List Int)(a:Int):Nu false (.bool false) (Hk a (mB l))=.bool (decide (a∈l)):=by
 induction l with
 |nil=>rfl
 |cons x r ih=>
  simp only[mB,B6,Hk]at ih|-
  by_cases h:x=a
  .rw[Ad h];simp[Nu,h]
  .rw[I h,ih];congr 1;simp[show¬a=x from λe=>h e.symm]
def V7(ids:List Int)(p:Int × Int):Bool:=decide (p.1∈ids)&&decide (p.2∈ids)
def Oa(l:List (Int × Int))(ids:List Int):List (Int × Int):=(Aqw l).filter (V7 ids)
def Anq(l:List (Int × Int))(ids:List Int)(hl:l.length<=1000)(hi:ids.length<=1000):AE 312 [.ro 2 (Bd l),.ro 1 (Av ids)] (.ro 2 (Bd (Oa l ids))):=by
 have i:=A5v l hl;have ai:=Ac2 l;have pl:=Bc l;have hq:=λ(k:Nat)(h:k<ids.length)=>Fu h
 have lq:=A4 ids;have f:∀a,Nu false (.bool false) (Hk a (mB ids.reverse))=.bool (decide (a∈ids)):=λa=>by rw[Bb2];congr 1;simp
 unfold Oa;generalize Aqw l=N at*;have o:=λ(k:Nat)(h:k<N.length)=>Im h
 have y:=Ei N;have af:=λ(k:Nat)(h:k<N.length)=>V2 (V7 ids) h
 have w:∀k,((N.take k).filter (V7 ids)).length<=1000:=λk=>Ag (H1 _ _) so
 generalize Bd l=lv at*;generalize ag:Bd N=Nv at i o y;generalize Av ids=iv at*;refine Aq func312 λw0 N0=>?_;refine Y [0,1] [] sr (J (Ak (R9 .i64 rfl rfl (λb hb _ =>⟨_,rfl,?_⟩))));refine Aa [0,1,5] [] sr (J (Y [0,5,12,13,14] [] sr ?_));refine Ah (Bu (λk nx=>⟨[(0,V.ro 2 lv),(5,.mp b .i64 (mB (ids.take k).reverse)),(12,V.ro 1 iv),(13,V.i iv.length),(14,V.i k)],[],nx,44⟩) (λk=>True) ids.length _ trivial Z ?_);intro k nx hk hI;refine Y [0,5,12,13,14,15] [] sr (J ?_)
 refine Cu (λh1=>?_) λh1=>?_
 .have c:k<ids.length:=by simp at h1;omega
  have g:k<iv.length:=om;have n:=hq k c;have Ee:=A5 (k:=k) om;have m:mB (ids.take (k+1)).reverse=(ids[k],.bool true)::mB (ids.take k).reverse:=by rw[Az c,List.reverse_append];rfl
  generalize ids[k]=id at n m;refine J (Ah (Y [0,5,7,12,13,14] [] (by simp[n,g]<;>rfl) ?_));refine Mr 2 sr ?_;refine St (b:=b) hb rfl rfl rfl sr sr sr rfl Anp rfl sr ?_;refine Aa [0,5,12,13,14] [] sr ?_;refine Cw [] (by simp[Ee]<;>rfl) ?_;exact⟨c,trivial,_,by rw[m];exact Z⟩
 .refine A6 ?_;have j:k=ids.length:=sO h1
  rw[j,Be];generalize mB ids.reverse=mv at*;refine Y [0,5,8] [] sr ?_;refine J (Bn 1 sr ?_);refine Ac i func338 ?_;refine Aa [5,8,22,23,24] [] sr ?_;refine Fz 8 100 2 447 [5,8,22,23,24] [100] sr sr ?_;refine Ah ?_
  refine C3 (λx:Nat × Nat × Nat=>⟨[(5,.mp b .i64 mv),(8,.sl 100 x.2.1 2 ((N.take x.1).filter (V7 ids)).length),(22,V.ro 2 Nv),(23,V.i Nv.length),(24,V.i (x.1:Nat))],[(100,⟨x.2.1,2,447,Bd ((N.take x.1).filter (V7 ids))⟩)],x.2.2,44⟩)
   (λx=>x.1<=N.length) (λx=>N.length-x.1) (0,_,_) (Cg _) Z ?_
  rintro⟨e,qv,ah⟩ab;simp only at ab|-;refine Y [5,8,22,23,24,25] [100] sr ?_;refine J ?_
  refine Cu (λh2=>?_) λh2=>?_
  .have c:e<N.length:=by simp at h2;omega
   have g:e<Nv.length:=om;have n:=o e c;have Ee:=A5 (k:=e) om;have d:=af e c;have z:=w e;generalize N[e]=p at n d;have ae:=f p.1;have aa:=f p.2;have s:V7 ids p=(decide (p.1∈ids)&&decide (p.2∈ids)):=rfl;generalize decide (p.1∈ids)=e1 at*;generalize decide (p.2∈ids)=e2 at*;generalize(N.take e).filter (V7 ids)=Lk at d z|-;have ad:Lk.length+1<=maxLen/\(Lk.length+1)*16<=140737488355328:=⟨Ag (show Lk.length+1<=1001 by omega) dc,by omega⟩;refine J (Ah (Y [5,8,10,22,23,24] [10,100] (by simp[n,g]<;>rfl) ?_));refine A9 [37] (by simp[ae,aa,-Nu]<;>rfl) ?_
   refine C1 (λt=>?_) λt=>?_
   .refine Ba [5,8,22,23,24] [100] (by simp[ad]<;>rfl) ?_;refine Cw [] (by simp[Ee]<;>rfl) ?_;rw[Ad (by rw[s];simpa using t)]at d;exact⟨(e+1,_,_),c,by simp only;omega,by simp only[d,Ag6,Ag7,A1,A3,Bo];exact Z⟩
   refine Ba [5,8,22,23,24] [100] (by simp[Ee]<;>rfl) ?_;rw[I (by rw[s];intro h;rw[h]at t;simp at t),Ex]at d;exact⟨(e+1,_,_),c,by simp only;omega,by simp only[d];exact Z⟩
  .refine A6 ?_;have j:e=N.length:=sO h2
   subst j;simp only[Be];have u:=Bc (N.filter (V7 ids));refine Y [4] [100] sr ?_;exact By (by simp[results312,u]<;>rfl) (rfl)
def A5w:Uh prog 280 "examboard/blueprint.rows" 4 408 0 3:=by
 intro xs w e
 match xs,e with
 | [a,b,c,d],_ =>show _ =_;kernel_rfl
def A5x:Uh prog 282 "examboard/blueprint.rows" 3 408 0 3:=by
 intro xs w d
 match xs,d with
 | [a,b,c],_ =>show _ =_;kernel_rfl
def A5y:Uh prog 283 "examboard/blueprint.rows" 3 408 0 3:=by
 intro xs w d
 match xs,d with
 | [a,b,c],_ =>show _ =_;kernel_rfl
def A5z:Uh prog 284 "examboard/blueprint.rows" 3 408 0 3:=by
 intro xs w d
 match xs,d with
 | [a,b,c],_ =>show _ =_;kernel_rfl
def A50:Uh prog 286 "examboard/blueprint.rows" 4 408 0 3:=by
 intro xs w e
 match xs,e with
 | [a,b,c,d],_ =>show _ =_;kernel_rfl
def A51:Uh prog 288 "examboard/blueprint.rows" 3 420 0 3:=by
 intro xs w d
 match xs,d with
 | [a,b,c],_ =>show _ =_;kernel_rfl
def A52:Uh prog 290 "examboard/blueprint.rows" 1 426 0 1:=by
 intro xs w c
 match xs,c with
 | [a],_ =>show _ =_;kernel_rfl
def A53:Uh prog 291 "examboard/blueprint.rows" 1 436 0 1:=by
 intro xs w c
 match xs,c with
 | [a],_ =>show _ =_;kernel_rfl
def A54:Uh prog 293 "examboard/blueprint.rows" 0 442 0 0:=by
 intro xs w a
 match xs,a with
 | [],_ =>show _ =_;kernel_rfl
def L5(rs:List Ru)(pool:List Pit)(vars a:Nat)(r:Ru):List Rw:=
 if r.kind=6 then Ae3 pool vars a r.mn r.mx r.n
 else if r.kind=7 then Ae4 pool vars r.n
 else if r.kind=8 then Ae5 rs pool vars r.n
 else if r.kind=9 then L4 pool vars (Aje pool)
 else [⟨J7 pool vars (Ag0 r),r.mn,r.mx⟩]
def Bb3{a b:Int}(h:Agm a b=0):0<=a/\0<=b:=by unfold Agm at h;(repeat' split at h)<;>omega
def A55(len:Int)(rs:List Ru)(pool:List Pit)(vars a:Nat)(r:Ru)(h:frOk pool vars a)(i:pool.length<=18)(l:r.fits=true)(c:Anc r=0)(j:r.kind=6->a<vars):
  ICQ gv prog (Y2 r) "examboard/blueprint.rows" [frV len rs pool vars a] (λx=>x=.ro 3 (Ha (L5 rs pool vars a r))):=by
 unfold Y2 Aqc Ago L5
 rcases Akt l with e|e|e|e|e|e|e|e|e
 .have f:r.code.length<9223372036854775807:=by
   unfold Anc at c;rw[Ad e]at c
   split at c
   .omega
   .rename_i h2
    have:r.code.length<=24:=by
     have g:=sG h2
     unfold P1 at g;rw[Bg]at g;exact Jz g.1
    omega
  have d:Ag0 r=λp=>J6 (Un p.code r.code):=by funext p;unfold Ag0;rw[Ad e]
  simp only[e,if_true,if_false,Int.reduceEq];rw[d];exact⟨280,_,408,_,0,3,.inl rfl,A5w,func408,rfl,by kernel_rfl,(Ak5 len rs pool vars a 153 r.v (λp=>J6 (Un p.code r.code)) r.mn r.mx h (λp _ =>Aa5 (args:=[p.v]) (us:=[]) (vs:=[.rp r.v]) (r:=.i (J6 (Un p.code r.code))) (Bf4 r p f) func153 kr rfl)).q gv⟩
 .have d:Ag0 r=Pit.wo:=by funext p;unfold Ag0;rw[I om,Ad e]
  simp only[e,if_true,if_false,Int.reduceEq];rw[d];have c:=(Acy len rs pool vars a 156 Pit.wo r.mn r.mx h (λp _ =>Aa5 (args:=[p.v]) (us:=[]) (vs:=[]) (r:=.i p.wo) (Bf5 p) func156 kr rfl)).argsR (args:=[.agg [.i r.mn,.i r.mx,.fn 156],frV len rs pool vars a]) (.cons (Bj.agg (.cons (Bj.refl _) (.cons (Bj.refl _) (.cons (Rl 156) .nil)))) (.cons (Bj.refl _) .nil));exact⟨282,_,408,_,0,3,.inl rfl,A5x,func408,rfl,by kernel_rfl,c.q gv⟩
 .have d:Ag0 r=Pit.se:=by funext p;unfold Ag0;rw[I om,I om,Ad e]
  simp only[e,if_true,if_false,Int.reduceEq];rw[d];have c:=(Acy len rs pool vars a 157 Pit.se r.mn r.mx h (λp _ =>Aa5 (args:=[p.v]) (us:=[]) (vs:=[]) (r:=.i p.se) (Bf6 p) func157 kr rfl)).argsR (args:=[.agg [.i r.mn,.i r.mx,.fn 157],frV len rs pool vars a]) (.cons (Bj.agg (.cons (Bj.refl _) (.cons (Bj.refl _) (.cons (Rl 157) .nil)))) (.cons (Bj.refl _) .nil));exact⟨283,_,408,_,0,3,.inl rfl,A5y,func408,rfl,by kernel_rfl,c.q gv⟩
 .have d:Ag0 r=Pit.pt:=by funext p;unfold Ag0;rw[I om,I om,I om,Ad e]
  simp only[e,if_true,if_false,Int.reduceEq];rw[d];have c:=(Acy len rs pool vars a 158 Pit.pt r.mn r.mx h (λp _ =>Aa5 (args:=[p.v]) (us:=[]) (vs:=[]) (r:=.i p.pt) (Bf7 p) func158 kr rfl)).argsR (args:=[.agg [.i r.mn,.i r.mx,.fn 158],frV len rs pool vars a]) (.cons (Bj.agg (.cons (Bj.refl _) (.cons (Bj.refl _) (.cons (Rl 158) .nil)))) (.cons (Bj.refl _) .nil));exact⟨284,_,408,_,0,3,.inl rfl,A5z,func408,rfl,by kernel_rfl,c.q gv⟩
 .have d:Ag0 r=λp=>J6 (decide (p.ky=r.n)):=by funext p;unfold Ag0;rw[I om,I om,I om,I oM]
  simp only[e,if_true,if_false,Int.reduceEq];rw[d];exact⟨286,_,408,_,0,3,.inl rfl,A50,func408,rfl,by kernel_rfl,(Ak5 len rs pool vars a 159 r.v (λp=>J6 (decide (p.ky=r.n))) r.mn r.mx h (λp _ =>Aa5 (args:=[p.v]) (us:=[]) (vs:=[.rp r.v]) (r:=.i (J6 (decide (p.ky=r.n)))) (Bf8 r p) func159 kr rfl)).q gv⟩
 .simp only[e,if_true,if_false,Int.reduceEq]
  have k:0<=r.mn/\0<=r.mx:=by
   unfold Anc at c;simp only[e,if_true,if_false,Int.reduceEq,or_self]at c
   split at c
   .omega
   .exact Bb3 c
  exact⟨288,_,420,_,0,3,.inl rfl,A51,func420,rfl,by kernel_rfl,(A5o len rs pool vars a r.mn r.mx r.n h (j e) k.1 k.2).q gv⟩
 .simp only[e,if_true,if_false,Int.reduceEq];exact⟨290,_,426,_,0,1,.inl rfl,A52,func426,rfl,by kernel_rfl,A0k len rs pool vars a r.n h⟩
 .simp only[e,if_true,if_false,Int.reduceEq];exact⟨291,_,436,_,0,1,.inl rfl,A53,func436,rfl,by kernel_rfl,A0l len rs pool vars a r.n h⟩
 .simp only[e,if_true,if_false,Int.reduceEq];exact⟨293,_,442,_,0,0,.inl rfl,A54,func442,rfl,by kernel_rfl,(A5q len rs pool vars a h i).q gv⟩
def Ae6{len:Int}{rs:List Ru}(h:Tt len rs=0):1<=len/\len<=18/\rs.length<=20/\∀r∈rs,r.fits=true/\Anc r=0:=by
 unfold Tt at h
 (repeat' split at h)<;>try omega
 rename_i h1 h2;refine⟨by omega,by omega,by omega,λr c=>?_⟩;have:=Ti h r c;unfold Akv at this
 split at this
 .omega
 .rename_i a;exact⟨by simpa using a,this⟩
def A56(pool:List Pit):Int:=match pool with| []=>0|p::_ =>p.m.length
def Bb4{pool:List Pit}{n:Int}(h:J5 pool n=0):J5 pool (A56 pool)=0:=by
 cases pool with
 |nil=>rfl
 |cons p r=>
  have:=(Xg h).2.2 p (Fk ..);have e:(p.m.length:Int)=n:=by unfold Lj at this;(repeat' split at this)<;>omega
  simp only[A56];rw[e];exact h
def Ajg(len:Int)(rs:List Ru)(pool:List Pit)(en:List (Int × Int))(n:Int)(hs:Tt len rs=0)(hp:J5 pool n=0)(he:en.length<=400):
  AQ 276 [Rh len rs,.ro 9 (C5 pool),.ro 2 (Bd en)] (.i 0):=by
 have c:=Yc len rs;rw[hs]at c;have a:=Mt pool (A56 pool);rw[Bb4 hp]at a;have pr:=Dr rs;have pl:=Cx pool;have le:=Ei en;have t:=E4 pool
 have h0:(pool= []/\A56 pool=0)\/∃p,∃h:0<pool.length,pool[0]=p/\A56 pool=p.m.length:=by
  cases pool with
  |nil=>exact .inl ⟨rfl,rfl⟩
  |cons p r=>exact .inr ⟨p,by simp,rfl,rfl⟩
 have z:=λ(k:Nat)(h:k<pool.length)=>I8 h
 unfold Rh at c|-;generalize Hu rs=rv at*;generalize aa:Bd en=ev at*
 rcases h0 with⟨e,j⟩|⟨p,g,o,j⟩
 .rw[j]at a;have l:(C5 pool).length=0:=by rw[t,e];rfl
  generalize C5 pool=pv at*;refine B0 func276 λw0 N0 i=>?_;refine Y [1,2,3] [3] sr (J (Bn 1 sr ?_));refine Bq i c func54 ?_;refine Aa [1,2,7] [] sr (A9 [13] sr ?_);refine A0 rfl (λh1=>absurd h1 sm) (λh1=>Ae (Y [1,2,8] [] sr (J (A9 [17] sr ?_))));refine A0 rfl (λh2=>absurd h2 G8) (λh2=>Ae (J (Bn 2 sr ?_)));refine Bq i a func29 ?_;refine Aa [2,9] [] sr ?_;refine A9 [28] sr ?_;refine A0 rfl (λu=>absurd u sm) (λu=>Ae (J (Y [32] [] sr ?_)));refine A0 rfl (λy=>absurd y (by simp[le];omega)) λy=>Ae ?_;exact Y [6] [] sr (By sr rf)
 .rw[j]at a;have d:=z 0 g;rw[o]at d;have f:0<(C5 pool).length:=by rw[t];exact g
  have x:(Es p.m).length=p.m.length:=by simp[Es]
  generalize C5 pool=pv at*;unfold Pit.v Pit.cs at d;generalize Es p.m=mv at*;refine B0 func276 λw0 N0 i=>?_;refine Y [1,2,3] [3] sr (J (Bn 1 sr ?_));refine Bq i c func54 ?_;refine Aa [1,2,7] [] sr ?_;refine A9 [13] sr ?_;refine A0 rfl (λh1=>absurd h1 sm) (λh1=>Ae (Y [1,2,8] [] sr (J (A9 [17] sr ?_))))
  refine A0 rfl (λh2=>?_) λh2=>absurd h2 G8
  .refine Ba [1,2,8] [] Du (J (Bn 2 sr ?_));refine Bq i a func29 ?_ (ha:=Du) (hs:=Du);refine Aa [2,9] [] sr ?_;refine A9 [28] sr ?_;refine A0 rfl (λw=>absurd w sm) (λw=>Ae (J (Y [32] [] sr ?_)));refine A0 rfl (λs=>absurd s (by simp[le];omega)) λs=>Ae ?_;exact Y [6] [] sr (By sr rf)
def Xx(r:Ru):Nat:=if r.kind=6 then 1 else 0
def Gd:List Ru->Nat
 | []=>0
 |r::t=>Xx r+Gd t
def Ag8:∀(a b:List Ru),Gd (a++b)=Gd a+Gd b
 | [],b=>by simp[Gd]
 |r::t,b=>by rw[Co,Gd,Gd,Ag8 t b];omega
def Aa7:∀(l:List Ru),Gd l<=l.length
 | []=>A7 _
 |r::t=>by have:=Aa7 t;simp only[Gd,Xx,A3];split<;>omega
def Aqx(r:Ru):J6 (decide (r.kind=6))=(Xx r:Int):=by unfold Xx J6;by_cases h:r.kind=6<;>simp[h]
def Ac3(rs:List Ru)(pool:List Pit)(vars:Nat):Nat->List Ru->List Rw
 |_,[]=>[]
 |a,r::t=>L5 rs pool vars a r++Ac3 rs pool vars (a+Xx r) t
def Aqy(rs:List Ru)(pool:List Pit)(vars:Nat):∀(a b:List Ru)(c:Nat),Ac3 rs pool vars c (a++b)=Ac3 rs pool vars c a++Ac3 rs pool vars (c+Gd a) b
 | [],b,c=>by simp[Ac3,Gd]
 |r::t,b,c=>by rw[Co,Ac3,Ac3,Aqy rs pool vars t b,Cz,Gd,Hl]
def A57(pool:List Pit):(Aje pool).length<=pool.length:=by
 have:=V5 pool [] [];rw[Aje,Pg];simp only[Bo]at this;omega
def Aeb(rs:List Ru)(pool:List Pit)(vars a:Nat)(r:Ru)(h:pool.length<=18):(L5 rs pool vars a r).length<=18:=by
 unfold L5 Ae3 Ae4 Ae5;have:=A57 pool
 repeat' split
 all_goals simp only[A3,Bo,Aea]
 all_goals omega
def Aqz(rs:List Ru)(pool:List Pit)(vars:Nat)(h:pool.length<=18):∀(l:List Ru)(a:Nat),(Ac3 rs pool vars a l).length<=18*l.length
 | [],_ =>by simp[Ac3]
 |r::t,a=>by
  have h1:=Aqz rs pool vars h t (a+Xx r);have h2:=Aeb rs pool vars a r h;rw[Ac3,A1,A3];omega
def Ajh(len:Int)(rs:List Ru)(pool:List Pit)(vars:Nat)(k:Nat):List Rw:=⟨J7 pool vars λ_ =>1,len,len⟩::Ac3 rs pool vars pool.length (rs.take k)
def stA(rs:List Ru)(pool:List Pit)(k:Nat):Nat:=pool.length+Gd (rs.take k)
def Ag9{rs:List Ru}(pool:List Pit)(h:k<rs.length):stA rs pool (k+1)=stA rs pool k+Xx rs[k]:=by
 unfold stA;rw[Az h,Ag8];simp only[Gd];omega
def A0q(len:Int){rs:List Ru}(pool:List Pit)(vars:Nat)(h:k<rs.length):Ajh len rs pool vars (k+1)=Ajh len rs pool vars k++L5 rs pool vars (stA rs pool k) rs[k]:=by
 unfold Ajh stA;rw[Az h,Aqy];simp[Ac3]
def Ac4(l:List Ru)(k:Nat):Gd (l.take k)<=Gd l:=by
 conv=>rhs;rw[<- H0 k l]
 rw[Ag8];omega
def Aq0(len:Int)(rs:List Ru)(pool:List Pit)(vars k:Nat)(h:pool.length<=18):(Ajh len rs pool vars k).length<=18*rs.length+1:=by
 unfold Ajh;have:=Aqz rs pool vars h (rs.take k) pool.length;rw[A3];rw[Da]at this;have:min k rs.length<=rs.length:=Ub _ _;omega
def A0r(len:Int)(rs:List Ru)(pool:List Pit)(vars:Nat):Ajh len rs pool vars 0= [⟨J7 pool vars λ_ =>1,len,len⟩]:=by simp[Ajh,Ac3]
def Xh(l:List Int)(x:Int):Av (l++[x])=Av l++[.i x]:=by rw[Rk];rfl
def Anr(pool:List Pit)(k:Nat):List Int:=(pool.take k).map Pit.id
def A0s{pool:List Pit}(h:k<pool.length):Anr pool (k+1)=Anr pool k++[pool[k].id]:=V3 _ h
def A58(pool:List Pit)(k:Nat):(Anr pool k).length<=pool.length:=by unfold Anr;simp;omega
def Aq1(pool:List Pit)(vars:Nat)(e:Int × Int):Rw:=⟨J7 pool vars λp=>J6 (decide (p.id=e.1)||decide (p.id=e.2)),0,1⟩
def Ans(len:Int)(rs:List Ru)(pool:List Pit)(vars:Nat)(c:List (Int × Int))(k:Nat):List Rw:=Ajh len rs pool vars rs.length++(c.take k).map (Aq1 pool vars)
def A0t(len:Int)(rs:List Ru)(pool:List Pit)(vars:Nat){c:List (Int × Int)}(h:k<c.length):Ans len rs pool vars c (k+1)=Ans len rs pool vars c k++[Aq1 pool vars c[k]]:=by
 unfold Ans;rw[Cz,V3 _ h]
def Aq2(len:Int)(rs:List Ru)(pool:List Pit)(vars:Nat)(c:List (Int × Int))(k:Nat)(h:pool.length<=18):(Ans len rs pool vars c k).length<=18*rs.length+1+c.length:=by
 unfold Ans;have:=Aq0 len rs pool vars rs.length h;rw[A1,D9,Da];have:min k c.length<=c.length:=Ub _ _;omega
def U9(len:Int)(rs:List Ru)(pool:List Pit)(en:List (Int × Int))(vars:Nat):List Rw:=Ans len rs pool vars (Oa en (pool.map Pit.id)) (Oa en (pool.map Pit.id)).length
def Auu(len:Int)(rs:List Ru)(pool:List Pit)(en:List (Int × Int))(hs:Tt len rs=0)(t:pool.length<=18)(he:en.length<=400):
  AQ 277 [frV len rs pool (pool.length+Gd rs:Nat) (pool.length:Nat),.ro 2 (Bd en)] (.ro 3 (Ha (U9 len rs pool en (pool.length+Gd rs)))):=by
 have⟨_,_,bb,ak⟩:=Ae6 hs;have ad:=Aun len rs bb (λr hr=>(ak r hr).1);have bi:=Aa7 rs;have af:∀k,frOk pool (pool.length+Gd rs) (stA rs pool k):=λk=>⟨by omega,by omega,by have:=Ac4 rs k;unfold stA;omega⟩
 have w:=λ(st:Nat)(hk:frOk pool (pool.length+Gd rs) st)=>Y5 len rs pool (pool.length+Gd rs) st 309 [] [] (λ_ =>1) len len hk.le hk.small (λp _ =>Aa5 (args:=[p.v]) (us:=[]) (vs:=[]) (r:=.i 1) (Bgb p) func309 kr rfl)
 have ab:=λ(st:Nat)(hk:frOk pool (pool.length+Gd rs) st)(a b:Int)=>Y5 len rs pool (pool.length+Gd rs) st 313 [] [.rp (.agg [.i a,.i b])] (λp=>J6 (decide (p.id=a)||decide (p.id=b))) 0 1 hk.le hk.small (λp _ =>Aa5 (args:=[p.v]) (us:=[]) (vs:=[.rp (.agg [.i a,.i b])]) (r:=.i (J6 (decide (p.id=a)||decide (p.id=b)))) (Bge a b p) func313 kr rfl)
 have o:=(w pool.length ⟨by omega,by omega,by omega⟩).argsR (args:=[frV len rs pool (pool.length+Gd rs:Nat) (pool.length:Nat),.fn 309,.i len,.i len]) (.cons (Bj.refl _) (.cons (Rl 309) (.cons (Bj.refl _) (.cons (Bj.refl _) .nil))))
 have aa:=λ(k:Nat)(h:k<rs.length)=>A55 len rs pool (pool.length+Gd rs) (stA rs pool k) rs[k] (af k) t (ak _ (Aw h)).1 (ak _ (Aw h)).2 (λe=>by
  have h1:=Ag9 pool h;have h2:=Ac4 rs (k+1);unfold Xx at h1;rw[Ad e]at h1;unfold stA at h1|-;omega)
 have bl:(Oa en (pool.map Pit.id)).length<=400:=by unfold Oa;exact Ag (H1 _ _) (Ag (Ac2 en) he)
 have an:=Anq en (pool.map Pit.id) om so;have bd:=λ(k:Nat)(h:k<rs.length)=>A0q len pool (pool.length+Gd rs) h
 have a3:=λ(k:Nat)(h:k<rs.length)=>Ag9 pool h
 have a0:=λ(k:Nat)=>Aq0 len rs pool (pool.length+Gd rs) k t
 have ar:=A0r len rs pool (pool.length+Gd rs);have az:stA rs pool 0=pool.length:=by simp[stA,Gd]
 have ay:=λ(k:Nat)(h:k<pool.length)=>A0s h
 have ba:=A58 pool;have a4:Anr pool pool.length=pool.map Pit.id:=by simp[Anr]
 have be:=λ(k:Nat)(h:k<(Oa en (pool.map Pit.id)).length)=>A0t len rs pool (pool.length+Gd rs) h
 have ax:=λ(k:Nat)=>Aq2 len rs pool (pool.length+Gd rs) (Oa en (pool.map Pit.id)) k t
 have av:Ans len rs pool (pool.length+Gd rs) (Oa en (pool.map Pit.id)) 0=Ajh len rs pool (pool.length+Gd rs) rs.length:=by simp[Ans]
 have ai:=λ(e:Int × Int)=>ab (stA rs pool rs.length) (af rs.length) e.1 e.2
 change∀e,AC _ _ _ (λr=>r=(Aq1 pool (pool.length+Gd rs) e).v)at ai;have a9:=λ(e:Int × Int)=>Af (Aq1 pool (pool.length+Gd rs) e).coef
 unfold U9;generalize Oa en (pool.map Pit.id)=N at*;generalize pool.map Pit.id=il at*;generalize Ajh len rs pool (pool.length+Gd rs)=i at*;generalize Ans len rs pool (pool.length+Gd rs) N=m at*;generalize stA rs pool=j at*;have a7:=λ(k:Nat)(h:k<N.length)=>Im h
 have b0:=Ei N;have a8:=λ(k:Nat)(h:k<pool.length)=>I8 h
 have bt:=E4 pool;have a1:=λ(k:Nat)(h:k<rs.length)=>Vx h
 have bs:=Ts rs;have bc:=λ(k:Nat)(h:k<rs.length)=>A0f h
 have bk:=Ak3 rs;have pl:=Cx pool;have pr:=Dr rs;have pe:=Bc en;have pN:=Bc N;have b2:((pool.length+Gd rs:Nat):Int)=(pool.length+Gd rs:Nat):=rfl;generalize bz:pool.length+Gd rs=vars at*;simp only[Sx]at w ab o aa ai;rw[Sx];unfold Rh at ad;generalize bw:Bd en=ev at*;generalize b1:Bd N=Nv at*;generalize bu:C5 pool=pv at*;generalize Hu rs=rv at*;generalize Tv rs=dv at*;have bm:=Af (J7 pool vars λ_ =>1);rw[A5n]at o;have ao:Ha (i 0)= [.agg [.ro 1 (Av (J7 pool vars λ_ =>1)),.i len,.i len]]:=by rw[ar];rfl
 have al:(i 0).length=1:=by rw[ar];rfl
 generalize Av (J7 pool vars λ_ =>1)=r0 at*;refine B0 func277 λw0 N0 hG=>?_;refine Y [1,2] [2] sr (A9 [5] sr (Bn 8 sr ?_));refine Ac o func310 ?_;refine Aa [1,2,6] [2,24] sr (J (Bn 2 sr ?_));refine Ac ad func311 ?_;refine Aa [1,2,6,27,28,29] [2,24] sr ?_;refine Ah ?_
 refine C3 (λx:Nat × Nat × Nat=>⟨[(1,V.ro 2 ev),(2,V.bp 2 (0) 5 0 0),(6,.sl 24 x.2.1 3 (i x.1).length),(27,.ro 1 dv),(28,.i dv.length),(29,V.i (x.1:Nat))],[(2,{ v:=0,sz:=5,ty:=412,es:=[V.agg [V.i len,V.ro 5 rv,V.ro 9 pv,V.i vars,V.i (j x.1:Nat)]]}),(24,⟨x.2.1,3,418,Ha (i x.1)⟩)],x.2.2,83⟩)
  (λx=>x.1<=rs.length) (λx=>rs.length-x.1) (0,_,_) (Cg _) (by simp only[ao,al,az];exact Z) ?_
 rintro⟨k,qv,nx⟩hk;simp only at hk|-;refine Y [1,2,6,27,28,29,30] [2,24] sr (J ?_)
 refine Cu (λh1=>?_) λh1=>?_
 .have c:k<rs.length:=by simp at h1;omega
  have f:k<rv.length:=om;have am:k<dv.length:=om;have bg:(k:Int).toNat=k:=rfl;have ga:=a1 k c;have gd:=bc k c;have Ee:=A5 (k:=k) om;have g:=bd k c;have bv:=a3 k c;have bq:=a0 k;have ae:=af k;have cI:=aa k c;have dl:=Aeb rs pool vars (j k) rs[k] t;have h6:=Aqx rs[k];rw[show rs[k].v=.agg [.i rs[k].kind,.i rs[k].n,.i rs[k].mn,.i rs[k].mx,.str rs[k].code]from rfl]at ga;have y:=Vw (decide (rs[k].kind=6));rw[h6]at y;have bj:Xx rs[k]<=1:=by unfold Xx;split<;>omega
  have a5:IntKind.i64.wrap ((j k:Int)+(Xx rs[k]:Int))=(j (k+1):Nat):=by rw[Bp om (by have:=ae.lt;have:=ae.small;omega)];omega
  unfold Y2 at cI gd;have pd:=Gx (L5 rs pool vars (j k) rs[k]);have l:(i k).length+(L5 rs pool vars (j k) rs[k]).length<=maxLen/\((i k).length+(L5 rs pool vars (j k) rs[k]).length)*40<=140737488355328:=⟨Ag (show(i k).length+(L5 rs pool vars (j k) rs[k]).length<=400 by omega) dc,by omega⟩;have ag:Ha (i (k+1))=Ha (i k)++Ha (L5 rs pool vars (j k) rs[k]):=by rw[g,Ag2]
  have ah:(i (k+1)).length=(i k).length+(L5 rs pool vars (j k) rs[k]).length:=by rw[g,A1]
  generalize L5 rs pool vars (j k) rs[k]=dr at*;generalize Aqc rs[k]=dt at*;generalize Ago rs[k]=dc at*;generalize rs[k].kind=kd at*;generalize Xx rs[k]=sx at*;refine J (Ah (Y [1,2,6,7,8,27,28,29] [2,24] (by simp[gd,am]<;>rfl) (Bn 3 sr ?_)));refine Akk hG cI sM rfl rfl sr sr sM sr ?_;refine Aa [1,2,6,7,27,28,29] [2,24] (by simp[N9,l]<;>rfl) ?_;refine Di [(0,[]),(2,[]),(3,[]),(5,[]),(1,[]),(4,[]),(6,[]),(7,[]),(8,[]),(9,[]),(10,[]),(11,[]),(12,[]),(13,[])] Eb kr ?_;refine Ci 10 (by simp[ga,f]<;>rfl) ?_;refine B4 (λhg=>y) func154 ?_;refine Dj [1,2,6,27,28,29] [2,24] (by simp[a5]<;>rfl) ?_;refine Cw [] (by simp[Ee]<;>rfl) ?_;exact⟨(k+1,_,_),c,by simp only;omega,by simp only[ag,ah];exact Z⟩
 .refine A6 ?_;have s:k=rs.length:=sO h1
  subst s;refine Y [1,2,6,9] [2,24] sr (J (A9 [54,55,56] sr ?_));refine Fz 9 101 1 3 [1,2,6,9,54,55,56] [2,24,101] sr sr ?_;refine Ah ?_
  refine C3 (λx:Nat × Nat × Nat=>⟨[(1,V.ro 2 ev),(2,V.bp 2 (0) 5 0 0),(6,.sl 24 qv 3 (i rs.length).length),(9,.sl 101 x.2.1 1 (Anr pool x.1).length),(54,.ro 9 pv),(55,.i pv.length),(56,V.i (x.1:Nat))],[(2,{ v:=0,sz:=5,ty:=412,es:=[V.agg [V.i len,V.ro 5 rv,V.ro 9 pv,V.i vars,V.i (j rs.length:Nat)]]}),(24,⟨qv,3,418,Ha (i rs.length)⟩),(101,⟨x.2.1,1,3,Av (Anr pool x.1)⟩)],x.2.2,83⟩)
   (λx=>x.1<=pool.length) (λx=>pool.length-x.1) (0,_,_) (Cg _) Z ?_
  rintro⟨u,bx,br⟩a2;simp only at a2|-;refine Y [1,2,6,9,54,55,56,57] [2,24,101] sr (J ?_)
  refine Cu (λh2=>?_) λh2=>?_
  .have c:u<pool.length:=by simp at h2;omega
   have f:u<pv.length:=om;have ga:=a8 u c;have Ee:=A5 (k:=u) om;have g:=ay u c;have aq:=ba u;rw[Gn]at ga;generalize Anr pool u=Lk at g aq|-;have l:Lk.length+1<=maxLen/\(Lk.length+1)*8<=140737488355328:=⟨Ag (show Lk.length+1<=19 by omega) dc,by omega⟩;refine J (Ah (Y [1,2,6,9,11,54,55,56] [2,11,24,101] (by simp[ga,f]<;>rfl) (Ba [1,2,6,9,54,55,56] [2,24,101] (by simp[l]<;>rfl) (Cw [] (by simp[Ee]<;>rfl) ?_))));exact⟨(u+1,_,_),c,by simp only;omega,by simp only[g,Xh,A1,A3,Bo];exact Z⟩
  .refine A6 ?_;have s:u=pool.length:=sO h2
   subst s;rw[a4];have pi:=Af il;have a6:=A4 il;generalize bn:Av il=iv at*;refine J (Bn 2 sr ?_);have aj:=F8 (Gx (i rs.length));refine Lf 101 [2,6,66,67] [2,24] (by simp[aj,pi,a6]<;>rfl) ?_;refine Ac an func312 ?_;refine Aa [2,6,68,69,70] [2,24] sr ?_;refine Ah ?_
   refine C3 (λx:Nat × Nat × Nat=>⟨[(2,V.bp 2 (0) 5 0 0),(6,.sl 24 x.2.1 3 (m x.1).length),(68,.ro 2 Nv),(69,.i Nv.length),(70,V.i (x.1:Nat))],[(2,{ v:=0,sz:=5,ty:=412,es:=[V.agg [V.i len,V.ro 5 rv,V.ro 9 pv,V.i vars,V.i (j rs.length:Nat)]]}),(24,⟨x.2.1,3,418,Ha (m x.1)⟩)],x.2.2,83⟩)
    (λx=>x.1<=N.length) (λx=>N.length-x.1) (0,_,_) (Cg _) (by simp only[av];exact Z) ?_
   rintro⟨d,bh,bo⟩aw;simp only at aw|-;refine Y [2,6,68,69,70,71] [2,24] sr (J ?_)
   refine Cu (λh3=>?_) λh3=>?_
   .have c:d<N.length:=by simp at h3;omega
    have f:d<Nv.length:=om;have ga:=a7 d c;have Ee:=A5 (k:=d) om;have g:=be d c;have bf:=ax d;have z:=ai N[d];have pc:=a9 N[d];rw[show(Aq1 pool vars N[d]).v=.agg [.ro 1 (Av (Aq1 pool vars N[d]).coef),.i 0,.i 1]from rfl]at z;have ag:Ha (m (d+1))=Ha (m d)++[.agg [.ro 1 (Av (Aq1 pool vars N[d]).coef),.i 0,.i 1]]:=by rw[g,Ag2];rfl
    have ah:(m (d+1)).length=(m d).length+1:=by rw[g,A1];rfl
    have l:(m d).length+1<=maxLen/\((m d).length+1)*40<=140737488355328:=⟨Ag (show(m d).length+1<=800 by omega) dc,by omega⟩;generalize Av (Aq1 pool vars N[d]).coef=cv at*;generalize N[d]=e3 at*;refine J (Ah (Y [2,6,13,68,69,70] [2,13,24] (by simp[ga,f]<;>rfl) ?_));have aj:=F8 (Gx (m d));refine Bw 13 [2,6,13,68,69,70] [2,24] (by simp[aj]<;>rfl) (Y [2,6,14,68,69,70] [2,24] sr (Mr 3 sr ?_));refine Ac z func310 ?_;refine Aa [2,6,68,69,70] [2,24] (by simp[l]<;>rfl) ?_;refine Cw [] (by simp[Ee]<;>rfl) ?_;exact⟨(d+1,_,_),c,by simp only;omega,by simp only[ag,ah];exact Z⟩
   .refine A6 ?_;have s:d=N.length:=sO h3
    subst s;have au:=Gx (m N.length);refine Y [4] [24] sr ?_;exact By (by simp[results277,au]<;>rfl) (rfl)
def Bb5(rs:List Ru)(p:Pit):Int:=if V4 rs 7 p.id=true then 1 else if V4 rs 8 p.id=true then 0 else -1
def Qq(rs:List Ru)(pool:List Pit):List Int:=pool.map (Bb5 rs)++List.replicate (Gd rs) (-1)
def Aq3(rs:List Ru)(pool:List Pit):(Qq rs pool).length=pool.length+Gd rs:=by simp[Qq]
def Bb6{rs:List Ru}{pool:List Pit}(h:k<pool.length):(Av (Qq rs pool))[k]? =some (.i (Bb5 rs pool[k])):=by
 simp only[Av,Qq,C0,Mb];rw[Bv (sG h)];simp[h]
def Bb7{rs:List Ru}{pool:List Pit}(h:pool.length<=k)(h2:k<pool.length+Gd rs):(Av (Qq rs pool))[k]? =some (.i (-1)):=by
 simp only[Av,Qq,C0,Mb];rw[Br (sG h)];simp[show k-pool.length<Gd rs by omega]
def Aq4(len:Int)(rs:List Ru)(pool:List Pit)(en:List (Int × Int)):Int:=
 if 24<pool.length+Gd rs\/60<(U9 len rs pool en (pool.length+Gd rs)).length then 5 else 0
def Aq5(a:List Int)(c:List Rw)(f:V):V:=.agg [.ro 1 (Av a),.ro 3 (Ha c),f]
def Aw6:V:=.agg [.nils,.nils,.nils]
def Uo(a:List Int)(rs:List Ru):List Int:=a++List.replicate (Gd rs) 0
def Alc(e:Int)(c:List Int)(d:List Rw)(f:List Int)(r:V)(a:List (Nat × Ob)):Prop:=
 if e=0 then∃v,r=.tup [Aq5 c d (.sl 78 v 1 f.length),.i 0]/\a= [(78,⟨v,1,3,Av f⟩)]
 else r=.tup [Aw6,.i e]/\a= []
def Ant(len:Int)(rs:List Ru)(pool:List Pit)(en:List (Int × Int))(a:List Int)(n:Int)(hs:Tt len rs=0)(hp:J5 pool n=0)(aw:pool.length<=18)(he:en.length<=400)
  (bk:a.length=pool.length)(aq:∀v∈a,-1000000<=v/\v<=1000000):
  Xr gv prog 244 [Rh len rs,.ro 9 (C5 pool),.ro 2 (Bd en),.ro 1 (Av a)] [] (Alc (Aq4 len rs pool en) (Uo a rs) (U9 len rs pool en (pool.length+Gd rs)) (Qq rs pool)):=by
 have u:=Ajg len rs pool en n hs hp he;have z:=Auu len rs pool en hs aw he;have ab:=λ(kd:Int)(st:Int)(n:Int)=>Ak4 len rs pool (pool.length+Gd rs:Nat) st kd n
 have bb:=Aa7 rs;have bs:rs.length<=20:=(Ae6 hs).2.2.1;have ai:=Aq3 rs pool;have aj:=λ(k:Nat)(h:k<pool.length)=>Bb6 (rs:=rs) h
 have am:=λ(k:Nat)(h:pool.length<=k)(h2:k<pool.length+Gd rs)=>Bb7 h h2
 have a6:=λ(k:Nat)(h:k<pool.length)=>I8 h
 have a1:=E4 pool;have av:=λ(k:Nat)(h:k<rs.length)=>Vx h
 have bh:=Ts rs;have ba:=λ(k:Nat)(h:k<a.length)=>Fu h
 have bd:=A4 a;have pl:=Cx pool;have pr:=Dr rs;have pe:=Bc en;have a7:=Af a;have au:stA rs pool 0=pool.length:=by simp[stA,Gd]
 have a5:stA rs pool rs.length=pool.length+Gd rs:=by simp[stA]
 unfold Rh at u|-;simp only[Sx]at z ab;unfold Aq4 Alc Aq5 Uo;generalize bq:U9 len rs pool en (pool.length+Gd rs)=cr at*;have bo:=Gx cr;have aa:=N9 cr;have a9:(Av (Qq rs pool)).length=pool.length+Gd rs:=by rw[A4,ai]
 have az:=Af (Qq rs pool);rw[ai];generalize Av (Qq rs pool)=t at*;have ar:Av (a++List.replicate (Gd rs) 0)=Av a++List.replicate (Gd rs) (.i 0):=by rw[Rk];congr 1;simp[Av]
 rw[ar];generalize Ha cr=cv,Av a=s at*;generalize bn:Bd en=ev at*;generalize bj:C5 pool=pv at*;generalize Hu rs=rv at*;refine H9 func244 λw0 N0 f hG=>?_;refine Y [1,2,3,4,8] [4,8] sr (J (Bn 3 sr ?_));refine Bq hG u func276 ?_ (hlt:=G8);refine Aa [1,2,3,4,8,10] [4,8] sr (A9 [24] sr ?_);refine A0 rfl (λh1=>absurd h1 sm) (λh1=>Ae (J (Y [1,2,3,4,8,31] [4,8] sr ?_)));refine A0 rfl (λh2=>absurd h2 so) (λh2=>Ae (J (Y [1,2,3,4,8,33,34,35] [4,8] sr (Ah (Bu (λk nx=>⟨[(1,V.ro 9 pv),(2,V.ro 2 ev),(3,V.ro 1 s),(4,V.bp 4 f 2 0 0),(8,V.bp 8 (f+1) 3 0 0),(33,V.ro 1 s),(34,V.i s.length),(35,V.i k)],[(4,{ v:=f,sz:=2,ty:=24,es:=[V.agg [V.i len,V.ro 5 rv]]}),(8,{ v:=f+1,sz:=3,ty:=326,es:=[.agg [.nils,.nils,.nils]]})],nx,131⟩) (λk=>True) a.length _ trivial Z ?_)))));intro k nx hk hI;refine Y [1,2,3,4,8,33,34,35,36] [4,8] sr (J ?_)
 refine Cu (λh3=>?_) λh3=>?_
 .have c:k<a.length:=by simp at h3;omega
  have j:k<s.length:=om;have y:=ba k c;have Ee:=A5 (k:=k) om;have a2:=aq _ (Aw c);generalize a[k]=v at y a2;refine J (Ah (Y [1,2,3,4,8,12,33,34,35] [4,8] (by simp[y,j]<;>rfl) (Y [1,2,3,4,8,33,34,35,44] [4,8] sr ?_)));refine A0 rfl (λh4=>absurd h4 so) (λh4=>Ae (Ba [1,2,3,4,8,33,34,35] [4,8] (by simp[Ee]<;>rfl) ?_));exact⟨c,trivial,_,Z⟩
 .refine A6 ?_;refine Y [1,2,3,4,8,13] [4,8,13] sr (J (Y [1,2,3,8,13,55,56,57] [8,13] sr (Ah (Bu (λk e=>⟨[(1,V.ro 9 pv),(2,V.ro 2 ev),(3,V.ro 1 s),(8,V.bp 8 (f+1) 3 0 0),(13,V.bp 13 (nx+1+7) 5 0 0),(55,V.ro 5 rv),(56,V.i rv.length),(57,V.i k)],[(8,{ v:=f+1,sz:=3,ty:=326,es:=[.agg [.nils,.nils,.nils]]}),(13,{ v:=nx+1+7,sz:=5,ty:=412,es:=[V.agg [V.int IntKind.i64 len,V.ro 5 rv,V.ro 9 pv,V.int IntKind.i64 (stA rs pool k:Nat),V.int IntKind.i64 (pool.length:Nat)]]})],e,131⟩) (λk=>True) rs.length _ trivial (by simp only[a1,au];exact Z) ?_))));intro g e bg bi;refine Y [1,2,3,8,13,55,56,57,58] [8,13] sr (J ?_)
  refine Cu (λh5=>?_) λh5=>?_
  .have c:g<rs.length:=by simp at h5;omega
   have j:g<rv.length:=om;have y:=av g c;have Ee:=A5 (k:=g) om;have bl:=Ag9 pool c;have h6:=Aqx rs[g];rw[show rs[g].v=.agg [.i rs[g].kind,.i rs[g].n,.i rs[g].mn,.i rs[g].mx,.str rs[g].code]from rfl]at y;have w:=Vw (decide (rs[g].kind=6));rw[h6]at w;have bc:Xx rs[g]<=1:=by unfold Xx;split<;>omega
   have bf:=Ac4 rs g;have a4:IntKind.i64.wrap ((stA rs pool g:Int)+(Xx rs[g]:Int))=(stA rs pool (g+1):Nat):=by rw[Bp om (by unfold stA;omega)];omega
   generalize Xx rs[g]=sx,rs[g].kind=kd at*;refine J (Ah (Y [1,2,3,8,13,15,55,56,57] [8,13,15] (by simp[y,j]<;>rfl) ?_));refine Di [(0,[]),(2,[]),(1,[]),(3,[]),(4,[]),(5,[]),(6,[]),(7,[]),(8,[])] Eb kr ?_;refine Ci 5 sr ?_;refine B4 (λhg=>w) func154 ?_;refine Dj [1,2,3,8,13,55,56,57] [8,13] (by simp[a4]<;>rfl) ?_;refine Cw [] (by simp[Ee]<;>rfl) ?_;exact⟨c,trivial,_,Z⟩
  .refine A6 ?_;have ae:g=rs.length:=sO h5
   rw[ae,a5];generalize br:pool.length+Gd rs=vars at*;have ak:(vars:Int)<=9223372036854775807:=om;have ah:8*(vars:Int)<=281474976710656:=om;refine J (Aeu (.take 0 [] (.take 4 [] (.take 6 [] (.take 1 [72,78,16] (.take 3 [72,78,16] (.take 5 [] (.take 7 [72,78,16] (.alt 2 (.alt 8 (.take 9 [] (.take 10 [] (.take 11 [] .done))) (.alt 10 (.take 8 [] (.take 9 [] (.take 11 [] .done))) .stop)) (.alt 8 (.alt 2 (.take 9 [] (.take 10 [] (.take 11 [] .done))) (.alt 10 (.take 2 [] (.take 9 [] (.take 11 [] .done))) .stop)) (.alt 10 (.alt 2 (.take 8 [] (.take 9 [] (.take 11 [] .done))) (.alt 8 (.take 2 [] (.take 9 [] (.take 11 [] .done))) .stop)) .stop)))))))))) Eb kr ?_);refine Ug sr ?_;refine Ug sr ?_;refine Ug sr ?_;refine Ug sr ?_;refine Ug (by simp[ak,ah]<;>rfl) ?_;refine Azh hG (λhg=>z) func277 rfl kr rfl rfl sr rfl rfl sr (by simp[pl,pr,pe]) sr ?_;refine Uf (L:=[1,3,8,13,16]) (M:=[8,13,72,78,16]) (by simp[ak,ah]<;>rfl) ?_;intro T hT;have a3:=(show T=_ by simpa using hT);subst a3;refine J (Y [1,3,8,13,16,88] [8,13,72,78,16] (by simp[aa]<;>rfl) ?_)
   refine C1 (λh6=>?_) λh6=>?_
   .refine Y [8,9] [8] sr ?_;have hE:24<vars\/60<cr.length:=by simp[aa]at h6;omega
    exact Db f (Ea (A8 _ _) sr (outs0:=[]) (by rw[Ad hE,I dC];exact⟨rfl,rfl⟩) (λk o hk=>by cases hk))
   have hE:¬(24<vars\/60<cr.length):=by simp[aa]at h6;omega
   have ay:s.length<=vars:=om;refine Bn 3 sr ?_;refine Azg (te:=3) rfl rfl kr kr (by simp[ay]<;>rfl) ?_;refine Aa [1,8,13,16] [8,13,72,78,16] sr ?_;refine J (A9 [96,97] sr (Ah (Bu (λk ag=>⟨[(1,V.ro 9 pv),(8,V.bp 8 (f+1) 3 0 0),(13,V.bp 13 (nx+1+7) 5 0 0),(16,V.bp 16 (e+1+10) 3 0 0),(96,V.i vars),(97,V.i k)],[(8,{ v:=f+1,sz:=3,ty:=326,es:=[.agg [.nils,.nils,.nils]]}),(13,{ v:=nx+1+7,sz:=5,ty:=412,es:=[V.agg [V.int IntKind.i64 len,V.ro 5 rv,V.ro 9 pv,V.int IntKind.i64 vars,V.int IntKind.i64 (pool.length:Nat)]]}),(72,{ v:=e+1+2,sz:=1,ty:=3,es:=s++List.replicate (vars-s.length) (V.int IntKind.i64 0)}),(78,{ v:=e+1+8,sz:=1,ty:=3,es:=E9 t (.i 0) k}),(16,{ v:=e+1+10,sz:=3,ty:=326,es:=[V.agg [V.sl 72 (e+1+2) 1 vars,V.ro 3 cv,V.sl 78 (e+1+8) 1 vars]]})],ag,131⟩) (λk=>True) vars _ trivial (by rw[H3,a9];exact Z) ?_)));intro d ag be bm;have af:=I3 t (.i 0) d om;refine Y [1,8,13,16,96,97,98] [8,13,72,78,16] sr (J ?_)
   refine Cu (λh7=>?_) λh7=>?_
   .have c:d<vars:=by simp at h7;omega
    have m:d<t.length:=om;have Ee:=A5 (k:=d) om;have i:=λ(x:V)(hx:t[d]? =some x)=>I5 t (.i 0) d m hx
    have al:Hj (E9 t (.i 0) d) d=some (.i 0):=I4 t _ d m;generalize E9 t (.i 0) d=row at al i af|-;have ao:∀x,Hj (row.set d x) d=some x:=λx=>by rw[C2];simp[af,m]
    refine J (Ah (Y [1,8,13,16,17,96,97] [8,13,72,78,16] sr (A9 [] (by simp[al,c]<;>rfl) (J (A9 [107] sr ?_)))))
    refine C1 (λh8=>?_) λh8=>?_
    .refine A6 ?_;refine Ba [1,8,13,16,96,97] [8,13,72,78,16] (by simp[i _ (am d (sO h8) c),Ee]<;>rfl) ?_;exact⟨c,trivial,_,Z⟩
    have an:d<pool.length:=sO h8
    have j:d<pv.length:=om;have y:=a6 d an;have r:=aj d an;have l:Bb5 rs pool[d]=if V4 rs 7 pool[d].id=true then 1 else if V4 rs 8 pool[d].id=true then 0 else -1:=rfl
    rw[Gn]at y;generalize Bb5 rs pool[d]=fp,pool[d].id=id at*;refine Y [1,8,13,16,17,18,96,97] [8,13,72,78,16] (by simp[y,j]<;>rfl) (Ah (Bn 2 sr ?_));refine Bq hG (ab 7 (pool.length:Nat) id) func278 ?_ (hlt:=by simp[pl,pr]) (hp:=by simp[pl,pr]);refine Aa [1,8,13,16,17,18,96,97,113] [8,13,72,78,16] sr ?_
    refine Au (λh9=>?_) λh9=>?_
    .rw[Ad (sG h9)]at l;subst l;refine Ba [1,8,13,16,96,97] [8,13,72,78,16] (by simp[ao,c]<;>rfl) (Cw [] (by simp[i _ r,Ee]<;>rfl) ?_);exact⟨c,trivial,_,Z⟩
    .rw[I (sG h9)]at l;refine Bn 2 sr ?_;refine Bq hG (ab 8 (pool.length:Nat) id) func278 ?_ (hlt:=by simp[pl,pr]) (hp:=by simp[pl,pr]);refine Aa [1,8,13,16,17,96,97,121] [8,13,72,78,16] sr ?_
     refine C1 (λad=>?_) λad=>?_
     .rw[Ad (sG ad)]at l;subst l;refine Ba [1,8,13,16,96,97] [8,13,72,78,16] (by simp[ao,c]<;>rfl) (Cw [] (by simp[i _ r,Ee]<;>rfl) ?_);exact⟨c,trivial,_,Z⟩
     rw[I (sG ad)]at l;subst l;refine Ba [1,8,13,16,96,97] [8,13,72,78,16] (by simp[i _ r,Ee]<;>rfl) ?_;exact⟨c,trivial,_,Z⟩
   .refine A6 ?_;have ae:d=vars:=sO h7
    rw[ae,Jm t (.i 0) vars oM];have a0:vars-s.length=Gd rs:=om;rw[a0];refine Y [8,9] [8,72,78] sr ?_;have a8:=F8 az;have ax:s.length+Gd rs=vars:=om;refine Bw 72 [8,9] [8,78] (by simp[a7,a8,ax]<;>rfl) ?_;exact Db f (Ea (A8 _ _) sr (outs0:=[(78,⟨e+1+8,1,3,t⟩)]) (by rw[I hE,Ad rfl];exact⟨e+1+8,rfl,rfl⟩) (λk o hk=>B5 gt hk))
variable {α:Type}
def Sf{l:List α}{f:α->Bool}(h:k<l.length)(a:f l[k]=true):l.any f=true:=Ew.2 ⟨_,Aw h,a⟩
def Oc{l:List α}{f:α->Bool}(h:k<l.length)(a:(l.take k).any f=false)(c:f l[k]=false):(l.take (k+1)).any f=false:=by
 rw[Az h,List.any_append,a];simp[c]
def inB(n m:Int):Bool:=decide (-m<=n)&&decide (n<=m)
def Ale(n m:Int)(hm:0<=m)(c:m<=1000000000):AE 317 [.i n,.i m] (.bool (inB n m)):=by
 have a:IntKind.i64.wrap (-m)= -m:=Bp om om;refine Aq func317 λw0 N0=>?_;exact Y [0,1] [] sr (Y [4] [] Du (By sr (by simp[inB])))
def Bgf(n:Int):AE 316 [.i n] (.bool (!inB n 1000000)):=by
 have a:=Ale n 1000000 dc dc;generalize inB n 1000000=z at*;refine Aq func316 λw0 N0=>?_;refine Y [0] [] sr (Bn 1 sr ?_);refine Ac a func317 ?_;exact Aa [2] [] sr (By sr (rfl))
def Ajj(r:Rw):Bool:=r.coef.any (λc=> !inB c 1000000)||(!inB r.mn 24000000|| !inB r.mx 24000000)
def Ac5(a:List Int)(d:List Rw)(e:List Int):Int:=
 if 24<a.length\/60<d.length then 5 else if e.length≠a.length then 1 else if d.any (λr=>decide (r.coef.length≠a.length))=true then 1
 else if a.any (λc=> !inB c 1000000)=true then 3 else if d.any Ajj=true then 3 else if e.any (λf=>decide (f< -1)||decide (1<f))=true then 3 else 0
def Bb8(d:List Int)(a:List Rw)(j:List Int)(hz:d.length<=1000/\a.length<=1000/\j.length<=1000):AQ 281 [.agg [.ro 1 (Av d),.ro 3 (Ha a),.ro 1 (Av j)]] (.i (Ac5 d a j)):=by
 unfold Ac5;have aa:=λ(l:List Int)=>(A5f l 316 [] [] (λc=> !inB c 1000000) (λc _ =>Agz ((Bgf c).q gv) func316 kr rfl)).argsR (args:=[.ro 1 (Av l),.fn 316]) (.cons (Bj.refl _) (.cons (Rl 316) .nil))
 have ae:=aa d;have hw:=λ(n:Int)=>Ale n 24000000 dc dc
 have ad:=λ(k:Nat)(h:k<a.length)=>Ag1 h
 have au:=N9 a;have af:=λ(k:Nat)(h:k<j.length)=>Fu h
 have aj:=A4 j;have ak:=A4 d;have pr:=Gx a;have pv:=Af d;have pf:=Af j;have ah:=λ(r:Rw)=>Af r.coef
 have ag:=λ(r:Rw)=>A4 r.coef
 generalize Ha a=rw at*;generalize an:Av j=fv at*;generalize am:Av d=vv at*;refine B0 func281 λw0 N0 hG=>?_;refine Y [1] [1] sr (A9 [3] sr (J (A9 [21] sr ?_)))
 refine Au (λh1=>?_) λh1=>Ae ?_
 .exact Y [2] [] sr (Ao (Ab sr (by rw[Ad (sO h1)])))
 rw[I (sO h1)];refine J (Y [1,3,26] [1] sr ?_)
 refine Au (λh2=>?_) λh2=>Ae ?_
 .exact Y [2] [] sr (Ao (Ab sr (by rw[Ad (sO h2)])))
 rw[I (sO h2)];refine J (Y [1,3,28,29,30] [1] sr (Ah (Bu (λk nx=>⟨[(1,V.bp 1 (0) 3 0 0),(3,V.i vv.length),(28,V.ro 3 rw),(29,V.i rw.length),(30,V.i k)],[(1,{ v:=0,sz:=3,ty:=326,es:=[V.agg [V.ro 1 vv,V.ro 3 rw,V.ro 1 fv]]})],nx,82⟩) (λk=>(a.take k).any (λr=>decide (r.coef.length≠d.length))=false) a.length _ rfl Z ?_)));intro k nx hk hI;refine Y [1,3,28,29,30,31] [1] sr (J ?_)
 refine Au (λh3=>Ae ?_) λh3=>?_
 .have e:k<a.length:=by simp at h3;omega
  have i:k<rw.length:=om;have u:=ad k e;have Ee:=A5 (k:=k) om;rw[show a[k].v=.agg [.ro 1 (Av a[k].coef),.i a[k].mn,.i a[k].mx]from rfl]at u;have aq:=ag a[k];have o:=λh=>Oc (f:=λr:Rw=>decide (r.coef.length≠d.length)) e hI h
  have m:=λh=>Sf (f:=λr:Rw=>decide (r.coef.length≠d.length)) e h
  generalize a[k]=r at*;generalize Av r.coef=cv at*;refine J (Ah (Y [1,3,5,28,29,30] [1,5] (by simp[u,i]<;>rfl) (Y [1,3,28,29,30,38] [1] sr ?_)))
  refine Au (λh4=>?_) λh4=>Ae ?_
  .exact Y [2] [] sr (Ao (Ab sr (by rw[Ad (m (by simp at h4|-;omega))])))
  refine Ba [1,3,28,29,30] [1] (by simp[Ee]<;>rfl) ?_;exact⟨e,o (by simp at h4|-;omega),_,Z⟩
 .refine A6 ?_;have s:k=a.length:=sO h3
  rw[s,Be]at hI;rw[I (by rw[hI];simp)];refine Y [1,6] [1] sr (J (J (Ak (Ay 3 sr ?_))));refine Bq hG ae func318 ?_;refine Aa [1,6,43] [1] sr ?_
  refine Au (λh5=>?_) λh5=>Ae ?_
  .exact Y [2] [] sr (Ao (Ab sr (by rw[Ad (sG h5)])))
  rw[I (sG h5)];refine J (Y [1,6,45,46,47] [1] sr (Ah (Bu (λk nx=>⟨[(1,V.bp 1 (0) 3 0 0),(6,.fn 316),(45,V.ro 3 rw),(46,V.i rw.length),(47,V.i k)],[(1,{ v:=0,sz:=3,ty:=326,es:=[V.agg [V.ro 1 vv,V.ro 3 rw,V.ro 1 fv]]})],nx,82⟩) (λk=>(a.take k).any Ajj=false) a.length _ rfl Z ?_)));intro g ao al t;refine Y [1,6,45,46,47,48] [1] sr (J ?_)
  refine Au (λh6=>Ae ?_) λh6=>?_
  .have e:g<a.length:=by simp at h6;omega
   have i:g<rw.length:=om;have u:=ad g e;have Ee:=A5 (k:=g) om;rw[show a[g].v=.agg [.ro 1 (Av a[g].coef),.i a[g].mn,.i a[g].mx]from rfl]at u;have x:=aa a[g].coef;have z:=ah a[g];have o:=λh=>Oc (f:=Ajj) e t h
   have m:=λh=>Sf (f:=Ajj) e h
   have ab:Ajj a[g]=(a[g].coef.any (λc=> !inB c 1000000)||(!inB a[g].mn 24000000|| !inB a[g].mx 24000000)):=rfl;have c1:=hw a[g].mn;have c2:=hw a[g].mx;generalize Ajj a[g]=fa at*;generalize a[g].coef.any (λc=> !inB c 1000000)=q1 at*;generalize inB a[g].mn 24000000=q2 at*;generalize inB a[g].mx 24000000=q3 at*;generalize a[g].mn=mn at*;generalize a[g].mx=mx at*;generalize Av a[g].coef=cv at*;refine J (Ah (Y [1,6,8,45,46,47] [1,8] (by simp[u,i]<;>rfl) (J (Ak (Ay 3 sr ?_)))));refine Bq hG x func318 ?_;refine Ay 3 sr ?_;refine Gf (c:= !q1) (λhg=>c1) func317 ?_;refine Ay 5 sr ?_;refine Gf (c:=(!q1&&q2)) (λhg=>c2) func317 ?_;refine Aa [1,6,45,46,47,66] [1] sr ?_
   refine Au (λh7=>?_) λh7=>Ae ?_
   .exact Y [2] [] sr (Ao (Ab sr (by rw[Ad (m (by rw[ab];revert h7;cases q1<;>cases q2<;>cases q3<;>simp))])))
   refine Ba [1,6,45,46,47] [1] (by simp[Ee]<;>rfl) ?_;exact⟨e,o (by rw[ab];revert h7;cases q1<;>cases q2<;>cases q3<;>simp),_,Z⟩
  .refine A6 ?_;have s:g=a.length:=sO h6
   rw[s,Be]at t;rw[I (by rw[t];simp)];refine J (Y [69,70,71] [] sr (Ah (Bu (λk nx=>⟨[(69,V.ro 1 fv),(70,V.i fv.length),(71,V.i k)],[],nx,82⟩) (λk=>(j.take k).any (λf=>decide (f< -1)||decide (1<f))=false) j.length _ rfl Z ?_)));intro y ai ar w;refine Y [69,70,71,72] [] sr (J ?_)
   refine Au (λh8=>Ae ?_) λh8=>?_
   .have e:y<j.length:=by simp at h8;omega
    have i:y<fv.length:=om;have u:=af y e;have Ee:=A5 (k:=y) om;have o:=λh=>Oc (f:=λf:Int=>decide (f< -1)||decide (1<f)) e w h
    have m:=λh=>Sf (f:=λf:Int=>decide (f< -1)||decide (1<f)) e h
    generalize j[y]=f at*;refine J (Ah (Y [10,69,70,71] [] (by simp[u,i]<;>rfl) (Y [69,70,71,80] [] sr ?_)))
    refine Au (λh9=>?_) λh9=>Ae ?_
    .exact Y [2] [] sr (Ao (Ab sr (by rw[Ad (m (sG h9))])))
    refine Ba [69,70,71] [] (by simp[Ee]<;>rfl) ?_;exact⟨e,o (sG h9),_,Z⟩
   .refine A6 ?_;have s:y=j.length:=sO h8
    rw[s,Be]at w;rw[I (by rw[w];simp)];exact Y [2] [] sr (Ao (Ab sr rf))
def Cs{l:List α}(h:k<l.length)(d:α):l.getD k d=l[k]:=by simp[List.getD,h]
def Aa8(c x:List Int):Nat->Int
 |0=>0
 |k+1=>IntKind.i64.wrap (Aa8 c x k+IntKind.i64.wrap (c.getD k 0*x.getD k 0))
def Ye(c x:List Int):Int:=Aa8 c x c.length
def Aha(c x:List Int)(h:c.length<=x.length)(hl:c.length<=1000):AE 343 [.ro 1 (Av c),.ro 1 (Av x)] (.i (Ye c x)):=by
 unfold Ye;have l:=λ(k:Nat)(h:k<c.length)=>Fu h
 have z:=A4 c;have s:=λ(k:Nat)(h:k<x.length)=>Fu h
 have y:=A4 x;have m:∀k(h1:k<c.length)(h2:k<x.length),Aa8 c x (k+1)=IntKind.i64.wrap (Aa8 c x k+IntKind.i64.wrap (c[k]*x[k])):=λk h1 h2=>by rw[Aa8,Cs h1,Cs h2]
 have o:Aa8 c x 0=0:=rfl;have pc:=Af c;have px:=Af x;generalize Av c=i,Av x=t,Aa8 c x=pk at*;refine Aq func343 λw0 N0=>?_;refine Y [0,1] [] sr (A9 [5] sr (J (Y [1,5,8,9,10] [] sr (Ah (Bu (λk nx=>⟨[(1,V.ro 1 t),(5,V.i (pk k)),(8,V.ro 1 i),(9,V.i i.length),(10,V.i k)],[],nx,25⟩) (λk=>True) c.length _ trivial (by simp only[o];exact Z) ?_)))));intro k nx hk hI;refine Y [1,5,8,9,10,11] [] sr (J ?_)
 refine Cu (λh1=>?_) λh1=>?_
 .have d:k<c.length:=by simp at h1;omega
  have e:k<x.length:=om;have g:k<i.length:=om;have f:k<t.length:=om;have u:=l k d;have w:=s k e;have Ee:=A5 (k:=k) om;have n:=m k d e;generalize c[k]=a,x[k]=b at*;refine J (Ah (Y [1,5,6,7,8,9,10] [] (by simp[u,g]<;>rfl) (Ba [1,5,8,9,10] [] (by simp[w,f]<;>rfl) (Cw [] (by simp[Ee]<;>rfl) ?_))));exact⟨d,trivial,_,by rw[n];exact Z⟩
 .refine A6 ?_;have j:k=c.length:=sO h1
  subst j;exact Y [4] [] sr (By sr rf)
def Js(a:List Int):Nat->List Int
 |0=>[]
 |k+1=>if a.getD k 0<0 then Js a k++[(k:Int)]else Js a k
def Fa(a:List Int):List Int:=Js a a.length
def Tx(a:List Int):∀k,(Js a k).length<=k
 |0=>A7 _
 |k+1=>by have:=Tx a k;rw[Js];split<;>simp<;>omega
def Aa9(c:List Int):∀k,∀i∈Js c k,0<=i/\i<k
 |0=>λi a=>by cases a
 |k+1=>λi a=>by
  have ih:=Aa9 c k;rw[Js]at a
  split at a
  .rcases Cn.1 a with h1|h1
   .have:=ih i h1;omega
   .have:=B3.1 h1;omega
  .have:=ih i a;omega
def Aq6(e:List V)(rw:List V)(a:List Int)(pv:e.all V.pureE=true)(pr:rw.all V.pureE=true)(hl:a.length<=1000):ACO prog 319 [.agg [.ro 1 e,.ro 3 rw,.ro 1 (Av a)]] 1 3 (λF es=>(F=λd q=>.sl d q 1 (Fa a).length)/\es=Av (Fa a)):=by
 unfold Fa;have t:=λ(k:Nat)(h:k<a.length)=>Fu h
 have aa:=A4 a;have pf:=Af a;have r:∀k(h:k<a.length),Js a (k+1)=if a[k] <0 then Js a k++[(k:Int)]else Js a k:=λk h=>by rw[Js,Cs h]
 have m:=Tx a;have l:Js a 0= []:=rfl;generalize Js a=j,Av a=s at*;refine Kn func319 λw0 N0=>?_;refine Y [1] [1] sr (A9 [3] sr (J (Y [3,7,8,9] [] sr (Ah (Fz 3 100 1 3 [3,7,8,9] [100] sr sr ?_)))))
 refine C3 (λx:Nat × Nat × Nat=>⟨[(3,.sl 100 x.2.1 1 (j x.1).length),(7,V.ro 1 s),(8,.i s.length),(9,V.i (x.1:Nat))],[(100,⟨x.2.1,1,3,Av (j x.1)⟩)],x.2.2,22⟩)
  (λx=>x.1<=a.length) (λx=>a.length-x.1) (0,_,_) (Cg _) (by simp only[l];exact Z) ?_
 rintro⟨k,qv,nx⟩y;simp only at y|-;refine Y [3,7,8,9,10] [100] sr (J ?_)
 refine Cu (λh1=>?_) λh1=>?_
 .have c:k<a.length:=by simp at h1;omega
  have i:k<s.length:=om;have w:=t k c;have Ee:=A5 (k:=k) om;have hs:=r k c;have z:=m k;generalize a[k]=f,j k=o at*;have n:o.length+1<=maxLen/\(o.length+1)*8<=140737488355328:=⟨Ag (show o.length+1<=1001 by omega) dc,by omega⟩;refine J (Ah (Y [3,4,5,7,8,9] [100] (by simp[w,i]<;>rfl) (Y [3,4,7,8,9,15] [100] sr ?_)))
  refine C1 (λh2=>?_) λh2=>?_
  .rw[Ad (sG h2)]at hs;refine Ba [3,7,8,9] [100] (by simp[n]<;>rfl) (Cw [] (by simp[Ee]<;>rfl) ?_);exact⟨(k+1,_,_),c,by simp only;omega,by simp only[hs,Xh,A1,A3,Bo];exact Z⟩
  rw[I (sG h2)]at hs;refine Ba [3,7,8,9] [100] (by simp[Ee]<;>rfl) ?_;exact⟨(k+1,_,_),c,by simp only;omega,by simp only[hs];exact Z⟩
 .refine A6 ?_;have u:k=a.length:=sO h1
  subst u;have g:=Tu (j a.length);refine Y [2] [100] sr ?_;exact Ao (H2 100 sr rfl rfl (sG g) sr ⟨rfl,rfl⟩)
def Bb9(a:List V)(rw:List V)(c:List Int)(pv:a.all V.pureE=true)(f:rw.all V.pureE=true)(d:c.length<=1000):AE 319 [.agg [.ro 1 a,.ro 3 rw,.ro 1 (Av c)]] (.ro 1 (Av (Fa c))):=by
 refine(Aq6 a rw c pv f d).ac ?_;rintro F e⟨rfl,rfl⟩;exact⟨_,by simp[(Af (Fa c)),(A4 (Fa c))]<;>rfl,rfl⟩
instance:Inhabited Rw:=⟨⟨[],0,0⟩⟩
def Aq7(c:List Int):Nat->Int
 |0=>0
 |k+1=>IntKind.i64.wrap (Aq7 c k+c.getD k 0)
def V8(c:Int):Bool:=decide (c≠0)&&decide (c≠1)
def Ahb(c:List Int):Int:=if c.any V8=true then -1 else Aq7 c c.length
def Sy(a:List Rw):Nat->Int × Int
 |0=>(-1,0)
 |k+1=>if(Sy a k).2<Ahb (a.getD k default).coef then((k:Int),Ahb (a.getD k default).coef)else Sy a k
def A59(a:List Rw):Int:=(Sy a a.length).1
def A0u(l:List V)(a:List Rw)(fv:List V)(pv:l.all V.pureE=true)(pf:fv.all V.pureE=true)(hl:a.length<=1000)(hc:∀r∈a,r.coef.length<=1000):AE 342 [.agg [.ro 1 l,.ro 3 (Ha a),.ro 1 fv]] (.i (A59 a)):=by
 unfold A59;have ad:=λ(k:Nat)(h:k<a.length)=>Ag1 h
 have al:=N9 a;have pr:=Gx a;have ag:∀k(h:k<a.length),Sy a (k+1)=if(Sy a k).2<Ahb a[k].coef then((k:Int),Ahb a[k].coef)else Sy a k:=λk h=>by rw[Sy,Cs h]
 have hw0:Sy a 0=(-1,0):=rfl;generalize Sy a=wk,Ha a=rw at*;refine Aq func342 λw0 N0=>?_;refine Y [1] [1] sr (A9 [3,4] sr (J (Y [3,4,11,12,13] [] sr (Ah (Bu (λk nx=>⟨[(3,V.i (wk k).1),(4,V.i (wk k).2),(11,V.ro 3 rw),(12,V.i rw.length),(13,V.i k)],[],nx,42⟩) (λk=>True) a.length _ trivial (by simp only[hw0];exact Z) ?_)))));intro k nx hk hI;refine Y [3,4,11,12,13,14] [] sr (J ?_)
 refine Cu (λh1=>?_) λh1=>?_
 .have i:k<a.length:=by simp at h1;omega
  have u:k<rw.length:=om;have ga:=ad k i;have Ee:=A5 (k:=k) om;have hs:=ag k i;have ai:=hc _ (Aw i);rw[show a[k].v=.agg [.ro 1 (Av a[k].coef),.i a[k].mn,.i a[k].mx]from rfl]at ga;generalize a[k].coef=d,wk k=p0 at*;have⟨aa,m0⟩:=p0;simp only at hs|-;have w:=λ(k:Nat)(h:k<d.length)=>Fu h
  have ak:=A4 d;have pc:=Af d;have af:∀k(h:k<d.length),Aq7 d (k+1)=IntKind.i64.wrap (Aq7 d k+d[k]):=λk h=>by rw[Aq7,Cs h]
  have z:Aq7 d 0=0:=rfl;have j:Ahb d=if d.any V8=true then -1 else Aq7 d d.length:=rfl
  generalize Aq7 d=sk,Av d=cv,Ahb d=on at*;refine J (Ah (Y [3,4,5,6,11,12,13] [6] (by simp[ga,u]<;>rfl) (Y [3,4,5,6,7,11,12,13] [6] sr (J (Y [3,4,5,7,11,12,13,19,20,21] [] sr (Ah (Bu (λg t=>⟨[(3,V.i aa),(4,V.i m0),(5,V.i k),(7,V.i (sk g)),(11,V.ro 3 rw),(12,V.i rw.length),(13,V.i k),(19,.ro 1 cv),(20,.i cv.length),(21,V.i g)],[],t,42⟩) (λg=>(d.take g).any V8=false) d.length _ rfl (by simp only[z];exact Z) ?_)))))));intro g t aj n;refine Y [3,4,5,7,11,12,13,19,20,21,22] [] sr (J ?_)
  refine Cu (λh2=>?_) λh2=>?_
  .have e:g<d.length:=by simp at h2;omega
   have o:g<cv.length:=om;have gc:=w g e;have Tn:=A5 (k:=g) om;have ae:=λh=>Oc (f:=V8) e n h
   have ab:=λh=>Sf (f:=V8) e h
   have y:=af g e;have s:V8 d[g]=(decide (d[g]≠0)&&decide (d[g]≠1)):=rfl;generalize d[g]=c at*;refine J (Ah (Y [3,4,5,7,9,11,12,13,19,20,21] [] (by simp[gc,o]<;>rfl) (J (A9 [30] sr ?_))))
   refine C1 (λh3=>?_) λh3=>?_
   .rw[Ad (ab (by rw[s];simpa using h3))]at j;subst j;refine Y [3,4,5,7,11,12,13] [] sr (A6 ?_);refine A9 [37] sr ?_
    refine C1 (λx=>?_) λx=>?_
    .rw[Ad (sG x)]at hs;refine Ba [3,4,11,12,13] [] sr (Cw [] (by simp[Ee]<;>rfl) ?_);exact⟨i,trivial,_,by simp only[hs];exact Z⟩
    rw[I (sG x)]at hs;refine Ba [3,4,11,12,13] [] (by simp[Ee]<;>rfl) ?_;exact⟨i,trivial,_,by simp only[hs];exact Z⟩
   refine Ba [3,4,5,7,11,12,13,19,20,21] [] sr (Cw [] (by simp[Tn]<;>rfl) ?_);exact⟨e,ae (by rw[s];simpa using h3),_,by simp only[y];exact Z⟩
  .refine A6 ?_;have m:g=d.length:=sO h2
   rw[m,Be]at n;rw[I (by rw[n];simp)]at j;rw[m,<- j];refine Y [3,4,5,7,11,12,13,37] [] sr ?_
   refine C1 (λh5=>?_) λh5=>?_
   .rw[Ad (sG h5)]at hs;refine Ba [3,4,11,12,13] [] sr (Cw [] (by simp[Ee]<;>rfl) ?_);exact⟨i,trivial,_,by simp only[hs];exact Z⟩
   rw[I (sG h5)]at hs;refine Ba [3,4,11,12,13] [] (by simp[Ee]<;>rfl) ?_;exact⟨i,trivial,_,by simp only[hs];exact Z⟩
 .refine A6 ?_;have ah:k=a.length:=sO h1
  subst ah;exact Y [2] [] sr (By sr rf)
def Dn{l:List Int}(h:k<l.length):Hj (Av l) k=some (.i (l.getD k 0)):=by rw[Cs h];exact Fu h
def Aba{l:List Rw}(h:k<l.length):Hj (Ha l) k=some (.agg [.ro 1 (Av (l.getD k default).coef),.i (l.getD k default).mn,.i (l.getD k default).mx]):=by rw[Cs h];exact Ag1 h
def Ahc{l:Mo}(h:k<l.length):Hj (Es l) k=some (.ro 1 (Av (l.getD k []))):=by rw[Cs h];exact Tj h
def Gz{l:List α}{P:α->Prop}(h:∀x∈l,P x)(a:k<l.length)(d:α):P (l.getD k d):=by rw[Cs a];exact h _ (Aw a)
structure Ss where
 vals:List Int
 rows:List Rw
 fx:List Int
 free:List Int
 one:Bool
 once:Bool
 low:Mo
 high:Mo
 wide:Int
 order:List Int
structure Sd where
 x:List Int
 value:Int
 sums:List Int
 least:Int
 best:Option (List Int)
 most:Int
 found:Bool
def bV:Option (List Int)->V
 |none=>.nils
 |some l=>.ro 1 (Av l)
def Ae7(o:Option (List Int)):(bV o).pureC=true:=by cases o<;>simp[bV,V.pureC]
def srC(s:Ss)(d:Sd)(c a:V):List V:=
 [.ro 1 (Av s.vals),.ro 3 (Ha s.rows),.ro 1 (Av s.fx),.ro 1 (Av s.free),.bool s.one,.bool s.once,c,.i d.value,a,.ro 1 (Es s.low),.ro 1 (Es s.high),.i s.wide,.ro 1 (Av s.order),.i d.least,bV d.best,.i d.most,.bool d.found]
structure WfS(s:Ss):Prop where
 hr:s.rows.length<=1000
 hv:s.vals.length<=1000
 hc:∀r∈s.rows,r.coef.length=s.vals.length
 hf:∀i∈s.free,0<=i/\i<s.vals.length
 hfl:s.free.length<=1000
 hl:s.low.length=s.free.length+1
 hh:s.high.length=s.free.length+1
 hlr:∀l∈s.low,l.length=s.rows.length
 hhr:∀l∈s.high,l.length=s.rows.length
 hw: -1<=s.wide/\s.wide<s.rows.length
 ho:∀e∈s.order,0<=e/\e<s.free.length
 hol:s.order.length<=1000
structure WfD(s:Ss)(d:Sd):Prop where
 hx:d.x.length=s.vals.length
 hs:d.sums.length=s.rows.length
def Anu(s:Ss)(d:Sd)(a k:Nat):Bool:=
 decide ((s.rows.getD k default).mx<IntKind.i64.wrap (d.sums.getD k 0+(s.low.getD a []).getD k 0))||decide (IntKind.i64.wrap (d.sums.getD k 0+(s.high.getD a []).getD k 0)<(s.rows.getD k default).mn)
def Ahd(s:Ss)(d:Sd)(a:Nat):Nat->Bool
 |0=>true
 |k+1=>Ahd s d a k&& !Anu s d a k
def Ajk(s:Ss)(d:Sd)(a:Nat):Bool:=Ahd s d a s.rows.length
def Aq8{s:Ss}{d:Sd}{a:Nat}(h:Anu s d a k=true):∀m,k<m->Ahd s d a m=false
 |0,c=>absurd c om
 |m+1,c=>by
  rw[Ahd]
  by_cases e:k=m
  .subst e;rw[h];simp
  .rw[Aq8 h m om];rfl
def Aq9(s:Ss)(d:Sd)(a:Nat)(hs:WfS s)(hd:WfD s d)(aq:a<=s.free.length):
  AE 345 [.rp (.agg (srC s d (.ro 1 (Av d.x)) (.ro 1 (Av d.sums)))),.i a] (.bool (Ajk s d a)):=by
 unfold Ajk;have a2:=hs.hr;have af:=λ(k:Nat)(h:k<s.rows.length)=>Aba h
 have a5:=N9 s.rows;have pr:=Gx s.rows;have pv:=Af s.vals;have pf:=Af s.fx;have az:=Af s.free;have px:=Af d.x;have a6:=Af d.sums;have a4:=D7 s.low;have a0:=D7 s.high;have a3:=Af s.order;have pb:=Ae7 d.best;have g:a<s.low.length:=by have:=hs.hl;omega
 have o:a<s.high.length:=by have:=hs.hh;omega
 have ai:=Ahc g;have ag:=Ahc o;have a7:=Gz hs.hlr g [];have aw:=Gz hs.hhr o [];have a1:=Lz s.low;have au:=Lz s.high;have ax:=hd.hs;have am:∀k,Anu s d a k=(decide ((s.rows.getD k default).mx<IntKind.i64.wrap (d.sums.getD k 0+(s.low.getD a []).getD k 0))||decide (IntKind.i64.wrap (d.sums.getD k 0+(s.high.getD a []).getD k 0)<(s.rows.getD k default).mn)):=λk=>rfl
 have j:=λ(k:Nat)(h:Anu s d a k=true)=>Aq8 h s.rows.length
 have ak:∀k,Ahd s d a (k+1)=(Ahd s d a k&& !Anu s d a k):=λk=>rfl
 have an:Ahd s d a 0=true:=rfl;unfold srC;generalize Ahd s d a=pk,Anu s d a=bp,s.low.getD a []=lo,s.high.getD a []=hi at*;have ad:=λ(k:Nat)(h:k<d.sums.length)=>Dn h
 have n:=λ(k:Nat)(h:k<lo.length)=>Dn h
 have z:=λ(k:Nat)(h:k<hi.length)=>Dn h
 have av:=A4 d.sums;have ao:=A4 lo;have ar:=A4 hi;generalize Ha s.rows=rw,Av d.sums=sv,Es s.low=w,Es s.high=l,Av lo=ab,Av hi=ae,Av s.vals=vv,Av s.fx=fv,Av s.free=aa,Av d.x=xv,Av s.order=ov,bV d.best=bv at*;refine Aq func345 λw0 N0=>?_;refine Y [0,1] [] sr (J (A9 [11,12,13] sr (Ah (Bu (λk nx=>⟨[(0,V.rp (V.agg [.ro 1 vv,.ro 3 rw,.ro 1 fv,.ro 1 aa,.bool s.one,.bool s.once,.ro 1 xv,.i d.value,.ro 1 sv,.ro 1 w,.ro 1 l,.i s.wide,.ro 1 ov,.i d.least,bv,.i d.most,.bool d.found])),(1,V.i a),(11,V.ro 3 rw),(12,V.i rw.length),(13,V.i k)],[],nx,63⟩) (λk=>pk k=true) s.rows.length _ an Z ?_))));intro k nx hk hI;refine Y [0,1,11,12,13,14] [] sr (J ?_)
 refine Au (λh1=>Ae ?_) λh1=>?_
 .have c:k<s.rows.length:=by simp at h1;omega
  have y:k<rw.length:=om;have ga:=af k c;have Ee:=A5 (k:=k) om;have gs:=ad k om;have gl:=n k om;have gh:=z k om;have f:k<sv.length:=om;have t:k<ab.length:=om;have u:k<ae.length:=om;have i:a<w.length:=om;have e:a<l.length:=om;have m:=am k;have aj:=j k;have al:=ak k;generalize s.rows.getD k default=r,d.sums.getD k 0=su,lo.getD k 0=l1 at*;generalize hi.getD k 0=ay at*;generalize bp k=b at*;refine J (Ah (Y [0,1,5,6,11,12,13] [6] (by simp[ga,y]<;>rfl) ?_));refine Do [(0,[]),(1,[]),(2,[]),(4,[]),(7,[]),(8,[]),(9,[]),(11,[]),(14,[]),(18,[]),(3,[]),(5,[]),(6,[]),(10,[]),(12,[]),(13,[]),(15,[]),(16,[]),(17,[]),(19,[]),(20,[]),(21,[]),(22,[]),(23,[]),(24,[]),(26,[]),(29,[]),(30,[]),(31,[]),(33,[]),(36,[]),(40,[]),(25,[]),(27,[]),(28,[]),(32,[]),(34,[]),(35,[]),(37,[]),(38,[]),(39,[]),(41,[]),(42,[]),(43,[])] [0,1,11,12,13,61] [] Eb kr (by simp[gs,gl,gh,f,t,u,i,e,ai,ag]<;>rfl) ?_
  refine Au (λh2=>?_) λh2=>Ae ?_
  .exact Y [4] [] sr (Ao (Ab sr (by rw[aj (by rw[m];simpa using h2) c])))
  refine Ba [0,1,11,12,13] [] (by simp[Ee]<;>rfl) ?_;exact⟨c,by rw[al,hI,m];simpa using h2,_,Z⟩
 .refine A6 ?_;have ah:k=s.rows.length:=sO h1
  rw[ah]at hI;rw[hI];exact Y [4] [] sr (Ao (Ab sr rf))
def L6(s:Ss)(i:Nat):Bool:=decide (0<=s.wide)&&decide ((s.rows.getD s.wide.toNat default).coef.getD i 0=1)
def Oy(s:Ss)(d:Sd)(a:Nat):Nat->Int × Int
 |0=>(if 0<=s.wide then IntKind.i64.wrap ((s.rows.getD s.wide.toNat default).mx-d.sums.getD s.wide.toNat 0)else 0,d.value)
 |k+1=>if s.order.getD k 0<a then Oy s d a k
  else if L6 s (s.free.getD (s.order.getD k 0).toNat 0).toNat=true then
   (if(Oy s d a k).1<=0 then Oy s d a k else(IntKind.i64.wrap ((Oy s d a k).1-1),IntKind.i64.wrap ((Oy s d a k).2+s.vals.getD (s.free.getD (s.order.getD k 0).toNat 0).toNat 0)))
  else((Oy s d a k).1,IntKind.i64.wrap ((Oy s d a k).2+s.vals.getD (s.free.getD (s.order.getD k 0).toNat 0).toNat 0))
def Auv(s:Ss)(d:Sd)(a:Nat):Int:=(Oy s d a s.order.length).2
def A6b(s:Ss)(d:Sd)(e:Nat)(hs:WfS s)(hd:WfD s d):
  AE 346 [.rp (.agg (srC s d (.ro 1 (Av d.x)) (.ro 1 (Av d.sums)))),.i e] (.i (Auv s d e)):=by
 unfold Auv;have hol:=hs.hol;have aw:=λ(k:Nat)(h:k<s.rows.length)=>Aba h
 have bb:=N9 s.rows;have pr:=Gx s.rows;have pv:=Af s.vals;have pf:=Af s.fx;have a5:=Af s.free;have px:=Af d.x;have bc:=Af d.sums;have bg:=D7 s.low;have a9:=D7 s.high;have bh:=Af s.order;have pb:=Ae7 d.best;have a8:=hd.hs;have az:=λ(k:Nat)(h:k<d.sums.length)=>Dn h
 have al:=λ(k:Nat)(h:k<s.order.length)=>Dn h
 have z:=λ(k:Nat)(h:k<s.free.length)=>Dn h
 have aq:=λ(k:Nat)(h:k<s.vals.length)=>Dn h
 have bd:=A4 d.sums;have a3:=A4 s.order;have a2:=A4 s.free;have a6:=A4 s.vals
 have ao:∀k,Oy s d e (k+1)=if s.order.getD k 0<e then Oy s d e k
  else if L6 s (s.free.getD (s.order.getD k 0).toNat 0).toNat=true then
   (if(Oy s d e k).1<=0 then Oy s d e k else(IntKind.i64.wrap ((Oy s d e k).1-1),IntKind.i64.wrap ((Oy s d e k).2+s.vals.getD (s.free.getD (s.order.getD k 0).toNat 0).toNat 0)))
  else((Oy s d e k).1,IntKind.i64.wrap ((Oy s d e k).2+s.vals.getD (s.free.getD (s.order.getD k 0).toNat 0).toNat 0)):=λk=>rfl
 have n:Oy s d e 0=(if 0<=s.wide then IntKind.i64.wrap ((s.rows.getD s.wide.toNat default).mx-d.sums.getD s.wide.toNat 0)else 0,d.value):=rfl;have j:∀i,L6 s i=(decide (0<=s.wide)&&decide ((s.rows.getD s.wide.toNat default).coef.getD i 0=1)):=λi=>rfl
 have ba:=hs.hw;have au:=λ(k:Nat)(h:k<s.rows.length)=>Gz hs.hc h default
 unfold srC;generalize Oy s d e=bk,L6 s=wh at*;generalize bf:s.wide=wd at*;generalize Ha s.rows=rw,Av d.sums=sv,Es s.low=an,Es s.high=aj,Av s.vals=vv,Av s.fx=fv,Av s.free=w,Av d.x=xv,Av s.order=ov,bV d.best=bv at*;refine Aq func346 λw0 N0=>?_;refine Y [0,1] [] sr (A9 [5] sr (J (A9 [14] sr ?_)))
 refine C1 (λh1=>?_) λh1=>?_
 .have⟨o,a0⟩:=Cr (show 0<=wd by simpa using h1);subst a0;simp only[Dh]at n j;have ak:o<s.rows.length:=om;have gr:=aw o ak;have gs:=az o om;have am:o<rw.length:=om;have ar:o<sv.length:=om;have hw0:(0:Int)<=(o:Int):=om;have av:=au o ak;rw[Ad hw0]at n;replace j:∀i,wh i=decide ((s.rows.getD o default).coef.getD i 0=1):=λi=>by rw[j];simp
  generalize s.rows.getD o default=r,d.sums.getD o 0=su at*;have⟨cf,be,a4⟩:=r;simp only at av n j gr;have ay:=λ(k:Nat)(h:k<s.vals.length)=>Dn (l:=cf) (show k<cf.length by omega)
  have a7:=A4 cf;generalize Av cf=cv at*;refine R8 [(0,[]),(1,[]),(2,[]),(3,[]),(5,[]),(6,[]),(7,[]),(12,[]),(13,[]),(14,[]),(16,[]),(17,[]),(18,[]),(4,[]),(8,[]),(9,[]),(10,[]),(11,[]),(15,[]),(19,[]),(20,[]),(21,[]),(22,[]),(23,[])] [0,1,5] [] Eb kr (by simp[gr,gs,am,ar]<;>rfl) (A9 [6] sr (J (A9 [45,46,47] sr (Ah (Bu (λk nx=>⟨[(0,V.rp (V.agg [.ro 1 vv,.ro 3 rw,.ro 1 fv,.ro 1 w,.bool s.one,.bool s.once,.ro 1 xv,.i d.value,.ro 1 sv,.ro 1 an,.ro 1 aj,.i (o:Nat),.ro 1 ov,.i d.least,bv,.i d.most,.bool d.found])),(1,V.i e),(5,.i (bk k).1),(6,.i (bk k).2),(45,.ro 1 ov),(46,.i ov.length),(47,V.i k)],[],nx,100⟩) (λk=>True) s.order.length _ trivial (by simp only[n];exact Z) ?_)))));intro k nx hk hI;refine Y [0,1,5,6,45,46,47,48] [] sr (J ?_)
  refine Cu (λh2=>?_) λh2=>?_
  .have f:k<s.order.length:=by simp at h2;omega
   have t:k<ov.length:=om;have ga:=al k f;have Ee:=A5 (k:=k) om;have a:=ao k;have⟨ae,aa⟩:=Gz hs.ho f 0;have⟨en,ad⟩:=Cr ae;rw[ad]at ga a aa;have m:en<s.free.length:=om;have ge:=z en m;have⟨ab,af⟩:=Gz hs.hf m 0;have⟨i,hi⟩:=Cr ab;simp only[Dh]at a;rw[hi]at ge af a;simp only[Dh]at a;have u:i<s.vals.length:=om;have gv:=aq i u;have ag:en<w.length:=om;have y:i<vv.length:=om;generalize s.vals.getD i 0=v,bk k=p at*;have⟨ai,a1⟩:=p;simp only at a|-;have gc:=ay i u;have ax:i<cv.length:=om;rw[j i]at a;generalize cf.getD i 0=c at*;refine J (Ah (Y [0,1,5,6,8,45,46,47] [] (by simp[ga,t]<;>rfl) (J (A9 [53] sr ?_))))
   refine C1 (λh3=>?_) λh3=>?_
   .rw[Ad (sG h3)]at a;refine A6 ?_;refine Ba [0,1,5,6,45,46,47] [] (by simp[Ee]<;>rfl) ?_;exact⟨f,trivial,_,by simp only[a];exact Z⟩
   rw[I (sG h3)]at a;refine Y [0,1,5,6,9,45,46,47] [] (by simp[ge,ag]<;>rfl) (J (Do [(0,[]),(1,[]),(2,[]),(3,[]),(4,[]),(5,[]),(6,[]),(7,[]),(8,[]),(9,[]),(11,[]),(12,[]),(13,[]),(18,[]),(10,[]),(14,[]),(15,[]),(16,[]),(17,[]),(19,[]),(20,[]),(21,[]),(22,[])] [0,1,5,6,9,45,46,47,83] [] Eb kr (by simp[gr,gc,ax,hw0,am]<;>rfl) ?_))
   refine C1 (λh4=>?_) λh4=>?_
   .refine J ?_;rw[Ad (sG h4)]at a;refine Y [0,1,5,6,9,45,46,47,85] [] sr ?_
    refine C1 (λh5=>?_) λh5=>?_
    .rw[Ad (sG h5)]at a;refine A6 ?_;refine Ba [0,1,5,6,45,46,47] [] (by simp[Ee]<;>rfl) ?_;exact⟨f,trivial,_,by simp only[a];exact Z⟩
    rw[I (sG h5)]at a;refine Ba [0,1,5,6,9,45,46,47] [] sr (Ba [0,1,5,6,45,46,47] [] (by simp[gv,y]<;>rfl) (Cw [] (by simp[Ee]<;>rfl) ?_));exact⟨f,trivial,_,by simp only[a];exact Z⟩
   rw[I (sG h4)]at a;refine Ba [0,1,5,6,45,46,47] [] (by simp[gv,y]<;>rfl) (Cw [] (by simp[Ee]<;>rfl) ?_);exact⟨f,trivial,_,by simp only[a];exact Z⟩
  .refine A6 ?_;have ah:k=s.order.length:=sO h2
   subst ah;exact Y [4] [] sr (By sr rf)
 have g:¬(0:Int)<=wd:=sG h1
 rw[I g]at n;replace j:∀i,wh i=false:=λi=>by rw[j];simp only[g,decide_false,Bool.false_and]
 refine Y [0,1,5,6] [] sr (J (A9 [45,46,47] sr (Ah (Bu (λk nx=>⟨[(0,V.rp (V.agg [.ro 1 vv,.ro 3 rw,.ro 1 fv,.ro 1 w,.bool s.one,.bool s.once,.ro 1 xv,.i d.value,.ro 1 sv,.ro 1 an,.ro 1 aj,.i wd,.ro 1 ov,.i d.least,bv,.i d.most,.bool d.found])),(1,V.i e),(5,.i (bk k).1),(6,.i (bk k).2),(45,.ro 1 ov),(46,.i ov.length),(47,V.i k)],[],nx,100⟩) (λk=>True) s.order.length _ trivial (by simp only[n];exact Z) ?_))));intro k nx hk hI;refine Y [0,1,5,6,45,46,47,48] [] sr (J ?_)
 refine Cu (λh6=>?_) λh6=>?_
 .have f:k<s.order.length:=by simp at h6;omega
  have t:k<ov.length:=om;have ga:=al k f;have Ee:=A5 (k:=k) om;have a:=ao k;have⟨ae,aa⟩:=Gz hs.ho f 0;have⟨en,ad⟩:=Cr ae;rw[ad]at ga a aa;have m:en<s.free.length:=om;have ge:=z en m;have⟨ab,af⟩:=Gz hs.hf m 0;have⟨i,hi⟩:=Cr ab;simp only[Dh]at a;rw[hi]at ge af a;simp only[Dh]at a;have u:i<s.vals.length:=om;have gv:=aq i u;have ag:en<w.length:=om;have y:i<vv.length:=om;generalize s.vals.getD i 0=v,bk k=p at*;have⟨ai,a1⟩:=p;simp only at a|-;rw[j i]at a;refine J (Ah (Y [0,1,5,6,8,45,46,47] [] (by simp[ga,t]<;>rfl) (J (A9 [53] sr ?_))))
  refine C1 (λh7=>?_) λh7=>?_
  .rw[Ad (sG h7)]at a;refine A6 ?_;refine Ba [0,1,5,6,45,46,47] [] (by simp[Ee]<;>rfl) ?_;exact⟨f,trivial,_,by simp only[a];exact Z⟩
  rw[I (sG h7)]at a;refine Y [0,1,5,6,9,45,46,47] [] (by simp[ge,ag]<;>rfl) (J (Do [(0,[]),(1,[]),(2,[]),(3,[]),(4,[]),(5,[]),(6,[]),(7,[]),(8,[]),(9,[]),(11,[]),(12,[]),(13,[]),(18,[]),(10,[]),(14,[]),(15,[]),(16,[]),(17,[]),(19,[]),(20,[]),(21,[]),(22,[])] [0,1,5,6,9,45,46,47,83] [] Eb kr (by simp[g]<;>rfl) ?_));refine A0 rfl (λh8=>absurd h8 sM) λh8=>Ae ?_;rw[I (by simp)]at a;refine Ba [0,1,5,6,45,46,47] [] (by simp[gv,y]<;>rfl) (Cw [] (by simp[Ee]<;>rfl) ?_);exact⟨f,trivial,_,by simp only[a];exact Z⟩
 .refine A6 ?_;have ah:k=s.order.length:=sO h6
  subst ah;exact Y [4] [] sr (By sr rf)
variable {N0:Nat->Prop}{P:Program}{Q:Exit->AS->Prop}{b c:Nat}{o:Ob}{w0:Bs}
def V9{c:Code}(a:Nat)(h:AW P w0 N0 c Q { S with nx:=a+S.nx}):AW P w0 N0 c Q S:=
 Uz (S':={ S with nx:=a+S.nx}) (Ad2 rfl rfl rfl (U4 _ _)) h
def Ac6(s:Ss)(d:Sd)(v c a:Nat):List (Nat × Ob):=
 [(22,⟨v,17,455,[.agg (srC s d (.sl 27 c 1 d.x.length) (.sl 61 a 1 d.sums.length))]⟩),(27,⟨c,1,3,Av d.x⟩),(61,⟨a,1,3,Av d.sums⟩)]
def Fv{a:Nat}{x y z:Ob}{l:List (Nat × Ob)}(h1:Eng.get l a=some x)(h2:Eng.get l b=some y)(f:Eng.get l c=some z)(d:Eng.get [(a,x),(b,y),(c,z)] k=some o):Eng.get l k=some o:=by
 simp only[Eng.get]at d
 split at d
 .rename_i e;subst e;cases d;exact h1
 .split at d
  .rename_i e;subst e;cases d;exact h2
  .split at d
   .rename_i e;subst e;cases d;exact f
   .cases d
def Y7(c:List Rw)(i:Nat)(d:Int)(a:List Int):Nat->List Int
 |0=>a
 |k+1=>(Y7 c i d a k).set k (IntKind.i64.wrap ((Y7 c i d a k).getD k 0+IntKind.i64.wrap (d*(c.getD k default).coef.getD i 0)))
def Wa(c:List Rw)(i:Nat)(d:Int)(a:List Int):∀k,(Y7 c i d a k).length=a.length
 |0=>rfl
 |k+1=>by rw[Y7,Hs,Wa c i d a k]
def sgn(b:Int):Int:=IntKind.i64.wrap (IntKind.i64.wrap (2*b)-1)
def Is(s:Ss)(d:Sd)(i:Nat)(b:Int):Sd:=
 { d with x:=d.x.set i b,value:=IntKind.i64.wrap (d.value+IntKind.i64.wrap (sgn b*s.vals.getD i 0)),sums:=Y7 s.rows i (sgn b) d.sums s.rows.length}
def Sg{s:Ss}{d:Sd}(h:WfD s d)(i:Nat)(b:Int):WfD s (Is s d i b):=⟨by simp[Is,h.hx],by simp[Is,Wa,h.hs]⟩
def Wb(l:List Int)(k:Nat)(x:Int):Av (l.set k x)=(Av l).set k (.i x):=by simp[Av,Oo]
def Bca(s:Ss)(d:Sd)(i:Nat)(b:Int)(v z y:Nat)(hs:WfS s)(hd:WfD s d)(hi:i<s.vals.length):
  Qv prog 347 [.bp 22 v 17 0 0,.i i,.i b] (Ac6 s d v z y) (λr j=>r=.tup []/\j=Ac6 s (Is s d i b) v z y) (λ_ =>False):=by
 have a1:=hs.hr;have ao:=λ(k:Nat)(h:k<s.rows.length)=>Aba h
 have ad:=λ(k:Nat)(h:k<s.rows.length)=>Dn (l:=(s.rows.getD k default).coef) (k:=i) (by rw[Gz hs.hc h default];exact hi)
 have n:=λ(k:Nat)(h:k<s.rows.length)=>Gz hs.hc h default
 have a6:=N9 s.rows;have az:=hd.hs;have a0:=hd.hx;have gv:=Dn hi;have a3:=A4 s.vals;have af:=A4 d.x;have gx:=Dn (l:=d.x) (k:=i) om;have am:=λ(k:Nat)(h:k<(Y7 s.rows i (sgn b) d.sums k).length)=>Dn h
 have e:=Wa s.rows i (sgn b) d.sums;have ah:∀k,Y7 s.rows i (sgn b) d.sums (k+1)=(Y7 s.rows i (sgn b) d.sums k).set k (IntKind.i64.wrap ((Y7 s.rows i (sgn b) d.sums k).getD k 0+IntKind.i64.wrap (sgn b*(s.rows.getD k default).coef.getD i 0))):=λk=>rfl
 have ag:Y7 s.rows i (sgn b) d.sums 0=d.sums:=rfl;have aw:IntKind.i64.wrap (IntKind.i64.wrap (2*b)-1)=sgn b:=rfl;have ar:=Wb d.x i b;unfold Ac6 srC Is;simp only[Hs,e,ar];generalize Y7 s.rows i (sgn b) d.sums=f at*;generalize sgn b=sg at*;generalize Ha s.rows=rw at*;generalize Es s.low=au at*;generalize Es s.high=aj at*;generalize s.vals.getD i 0=vi at*;generalize Av s.vals=vv at*;generalize Av s.fx=fv at*;generalize Av s.free=ab at*;generalize Av d.x=xv at*;generalize Av s.order=ov at*;generalize bV d.best=bv at*;have a4:i<xv.length:=om;have g:i<vv.length:=om;have ae:i<d.x.length:=om;refine Ec func347 λw0 N0 ai=>?_;refine Y [0,1,2] [22,27,61] (by simp[ntmps347,ae,gx]<;>rfl) (Y [0,1,6] [22,27,61] (by simp[aw]<;>rfl) ?_);refine Do [(0,[]),(1,[]),(2,[]),(4,[]),(5,[]),(6,[]),(7,[]),(8,[]),(10,[]),(3,[]),(9,[]),(11,[]),(12,[]),(13,[]),(14,[]),(15,[]),(16,[]),(17,[])] [0,1,6] [22,27,61] Eb kr (by simp[gv,g]<;>rfl) ?_;refine A9 [40,41,42] sr (Ah (Bu (λk nx=>⟨[(0,V.bp 22 v 17 0 0),(1,V.i i),(6,.i sg),(40,.ro 3 rw),(41,.i rw.length),(42,V.i k)],[(22,⟨v,17,455,[V.agg [V.ro 1 vv,V.ro 3 rw,V.ro 1 fv,V.ro 1 ab,V.bool s.one,V.bool s.once,V.sl 27 z 1 d.x.length,V.int IntKind.i64 (IntKind.i64.wrap (d.value+IntKind.i64.wrap (sg*vi))),V.sl 61 y 1 d.sums.length,V.ro 1 au,V.ro 1 aj,V.int IntKind.i64 s.wide,V.ro 1 ov,V.int IntKind.i64 d.least,bv,V.int IntKind.i64 d.most,V.bool d.found]]⟩),(27,⟨z,1,3,xv.set i (.i b)⟩),(61,⟨y,1,3,Av (f k)⟩)],nx,64⟩) (λk=>True) s.rows.length _ trivial (by simp only[ag];exact Z) ?_));intro k nx hk hI;refine Y [0,1,6,40,41,42,43] [22,27,61] sr (J ?_)
 refine Cu (λh1=>?_) λh1=>?_
 .have a:k<s.rows.length:=by simp at h1;omega
  have u:k<rw.length:=om;have ga:=ao k a;have gc:=ad k a;have lc:=n k a;have Ee:=A5 (k:=k) om;have t:=ah k;have aa:=Wb (f k) k;have al:k<(f k).length:=by rw[e];omega
  have gs:=am k al;have a5:=A4 (f k);have ax:=e k;generalize s.rows.getD k default=r at*;have⟨cf,a2,ay⟩:=r;simp only at gc lc ga t;have n:=A4 cf;generalize Av cf=cv at*;generalize cf.getD i 0=c at*;generalize Av (f k)=m at*;generalize(f k).getD k 0=su at*;have an:i<cv.length:=om;have a7:k<m.length:=om;have aq:k<d.sums.length:=om;have w:m.length=d.sums.length:=om;refine J (Ah (Y [0,1,6,7,8,40,41,42] [8,22,27,61] (by simp[ga,u]<;>rfl) ?_));refine R8 [(0,[]),(1,[]),(2,[]),(4,[]),(7,[]),(8,[]),(10,[]),(3,[]),(5,[]),(6,[]),(9,[]),(11,[]),(12,[]),(13,[]),(14,[]),(15,[]),(16,[])] [0,1,6,40,41,42] [22,27,61] Eb kr (by simp[gs,gc,an,aq]<;>rfl) ?_;refine Cw [] (by simp[Ee]<;>rfl) ?_;exact⟨a,trivial,_,by rw[t,aa];exact Z⟩
 .have av:k=s.rows.length:=by simp at h1;omega
  subst av;refine V9 ai ?_;refine A6 ?_;exact⟨A8 _ _,.tup [],_,by simp[results347],λk o hk=>Fv gt gt gt hk,rfl,rfl⟩
def No(a:n<=100000)(c:b<=1000):n<=maxLen/\n*b<=140737488355328:=
 ⟨Ag a dc,Ag (If a c) dc⟩
def Abb(es:List V)(hp:es.all V.pureE=true)(c:es.all Mc=true)(f:es.length<=100000):ACO prog 135 [.ro 1 es] 1 3 (λF a=>(F=λd q=>.sl d q 1 es.length)/\a=es):=by
 have e:=No (b:=8) f dc;refine Kn func135 λw0 N0=>?_;refine Y [0] [] sr (J (Bn 1 sr ?_));refine Nj rfl rfl sr rfl kr (λb h=>⟨_,by simp<;>rfl,?_⟩);refine Aa [0,4] [] sr ?_
 refine C1 (λh1=>?_) λh1=>?_
 .refine Y [2] [] sr ?_;have g:=Am.1 (h h1);subst g;exact Fz 2 2 1 3 [2] [2] sr sr (Ao (H2 2 sr rfl rfl sm sr ⟨rfl,rfl⟩))
 exact Y [2] [5] Du (Ao (H2 5 sr rfl rfl (sG c) sr ⟨rfl,rfl⟩))
def Aec(es:List V)(hp:es.all V.pureE=true)(a:es.all Mc=true)(c:es.length<=100000):AE 135 [.ro 1 es] (.ro 1 es):=by
 refine(Abb es hp a c).ac ?_;rintro F d⟨rfl,rfl⟩;exact⟨_,by simp[hp]<;>rfl,rfl⟩
def Anv(es:List V)(hp:es.all V.pureE=true)(c:es.all Mc=true)(f:es.length<=100000):ACO prog 138 [.ro 1 es] 1 164 (λF a=>(F=λd q=>.sl d q 1 es.length)/\a=es):=by
 have e:=No (b:=4) f dc;refine Kn func138 λw0 N0=>?_;refine Y [0] [] sr (J (Bn 1 sr ?_));refine Nj rfl rfl sr rfl kr (λb h=>⟨_,by simp<;>rfl,?_⟩);refine Aa [0,4] [] sr ?_
 refine C1 (λh1=>?_) λh1=>?_
 .refine Y [2] [] sr ?_;have g:=Am.1 (h h1);subst g;exact Fz 2 2 1 164 [2] [2] sr sr (Ao (H2 2 sr rfl rfl sm sr ⟨rfl,rfl⟩))
 exact Y [2] [5] Du (Ao (H2 5 sr rfl rfl (sG c) sr ⟨rfl,rfl⟩))
def Aed(es:List V)(hp:es.all V.pureE=true)(a:es.all Mc=true)(c:es.length<=100000):AE 138 [.ro 1 es] (.ro 1 es):=by
 refine(Anv es hp a c).ac ?_;rintro F d⟨rfl,rfl⟩;exact⟨_,by simp[hp]<;>rfl,rfl⟩
def Abc(es:List V)(hp:es.all V.pureE=true)(c:es.all Mc=true)(f:es.length<=100000):ACO prog 136 [.ro 2 es] 2 121 (λF a=>(F=λd q=>.sl d q 2 es.length)/\a=es):=by
 have e:=No (b:=16) f dc;refine Kn func136 λw0 N0=>?_;refine Y [0] [] sr (J (Bn 1 sr ?_));refine Nj rfl rfl sr rfl kr (λb h=>⟨_,by simp<;>rfl,?_⟩);refine Aa [0,4] [] sr ?_
 refine C1 (λh1=>?_) λh1=>?_
 .refine Y [2] [] sr ?_;have g:=Am.1 (h h1);subst g;exact Fz 2 2 2 121 [2] [2] sr sr (Ao (H2 2 sr rfl rfl sm sr ⟨rfl,rfl⟩))
 exact Y [2] [5] Du (Ao (H2 5 sr rfl rfl (sG c) sr ⟨rfl,rfl⟩))
def Ara(es:List V)(hp:es.all V.pureE=true)(a:es.all Mc=true)(c:es.length<=100000):AE 136 [.ro 2 es] (.ro 2 es):=by
 refine(Abc es hp a c).ac ?_;rintro F d⟨rfl,rfl⟩;exact⟨_,by simp[hp]<;>rfl,rfl⟩
def Anw(es:List V)(hp:es.all V.pureE=true)(f:es.length<=100000):Qv prog 137 [.ro 1 es] [] (λr c=>∃v,r=.sl 5 v 1 es.length/\c= [(5,⟨v,1,30,es⟩)]) (λ_ =>False):=by
 have e:=No (b:=24) f dc;refine Ec func137 λw0 N0 a=>?_;refine Y [0] [] sr (J (Bn 1 sr ?_));refine Nj rfl rfl sr rfl kr (λb h=>⟨_,by simp<;>rfl,?_⟩);refine Aa [0,4] [] sr ?_
 refine C1 (λh1=>?_) λh1=>?_
 .refine Y [2] [] sr ?_;have g:=Am.1 (h h1);subst g;exact Fz 2 5 1 30 [2] [5] sr sr (Db a (Ea (A8 _ _) sr ⟨_,rfl,rfl⟩ (λk o d=>B5 gt d)))
 exact Y [2] [5] Du (Db a (Ea (A8 _ _) sr ⟨_,rfl,rfl⟩ (λk o d=>B5 gt d)))
def Abd(S:AS)(o:Option (List Int)):S.viewC (bV o)=some (bV o):=by
 cases o with
 |none=>rfl
 |some l=>have:=Af l;simp[bV,AS.viewC]
def Kz{a:Nat}{x y z g f h:Ob}(d:Eng.get [(a,x),(b,y),(c,z)] k=none):Eng.get [(a,g),(b,f),(c,h)] k=none:=by
 simp only[Eng.get]at d|-
 split at d
 .cases d
 .rename_i h1;rw[I h1]
  split at d
  .cases d
  .rename_i h2;rw[I h2]
   split at d
   .cases d
   .rename_i e;rw[I e]
def Yf(s:Ss)(d:Sd)(a:Nat):Bool:= !Ajk s d a||decide (Auv s d a<d.least)
def Alf(s:Ss)(d:Sd):Sd:={ d with best:=some d.x,most:=d.value,found:=true,least:=if s.once=true then 9223372036854775807 else IntKind.i64.wrap (d.value+1)}
def vI(s:Ss)(a:Nat):Nat:=(s.free.getD a 0).toNat
def Arb(s:Ss)(a:Nat):Bool:= !s.one&&decide (s.vals.getD (vI s a) 0<=0)
def Hi(s:Ss):Nat->Nat->Sd->Sd
 |0,a,d=>if Yf s d a=true then d else Alf s d
 |m+1,a,d=>if Yf s d a=true then d else
  if Arb s a=true then Is s (Hi s m (a+1) (Is s (Hi s m (a+1) d) (vI s a) 1)) (vI s a) 0
  else Hi s m (a+1) (Is s (Hi s m (a+1) (Is s d (vI s a) 1)) (vI s a) 0)
def A6c{s:Ss}{d:Sd}(h:WfD s d):WfD s (Alf s d):=⟨h.hx,h.hs⟩
def Sh{s:Ss}:∀(m a:Nat){d:Sd},WfD s d->WfD s (Hi s m a d)
 |0,a,d,h=>by rw[Hi];split;exact h;exact A6c h
 |m+1,a,d,h=>by
  rw[Hi]
  split
  .exact h
  .split
   .exact Sg (Sh m _ (Sg (Sh m _ h) _ _)) _ _
   .exact Sh m _ (Sg (Sh m _ (Sg h _ _)) _ _)
def Alg{s:Ss}{a:Nat}{d:Sd}(h:Yf s d a=true):Hi s m a d=d:=by cases m<;>rw[Hi,Ad h]
def Bgg(s:Ss)(v f e m:Nat):Prop:=∀(a:Nat)(d:Sd),a+m=s.free.length->WfD s d->
 Qv prog 323 [.bp 22 v 17 0 0,.i a] (Ac6 s d v f e) (λr c=>r=.tup []/\c=Ac6 s (Hi s m a d) v f e) (λ_ =>False)
def Ahe(s:Ss)(hs:WfS s)(v xq sq m:Nat)(ih:∀m',m'+1=m->Bgg s v xq sq m'):Bgg s v xq sq m:=by
 intro c d bi hd;have ah:=Aq9 s d c hs hd om;have af:=A6b s d c hs hd;have z:Yf s d c=(!Ajk s d c||decide (Auv s d c<d.least)):=rfl;generalize t:Hi s m c d=R;generalize Ajk s d c=ps,Auv s d c=bn at*;have n:=A4 d.x;have aj:=A4 d.sums;have ax:=A4 s.free;have a8:=A4 s.vals;have pb:=Ae7 d.best;have px:=Af d.x;have ad:=Af d.sums;have p1:=Af s.vals;have p2:=Gx s.rows;have p3:=Af s.fx;have p4:=Af s.free;have p5:=D7 s.low;have p6:=D7 s.high;have p7:=Af s.order;have hfl:=hs.hfl;have bh:=hs.hv;have a5:=λ(k:Nat)(h:k<s.free.length)=>Dn h
 have bb:=λ(k:Nat)(h:k<s.vals.length)=>Dn h
 have ay:=F8 px;have ar:=F8 ad;have bk:∀y:Option (List Int),∀u:Bool,∀w:V,(bV y=.whn u w)=False:=λy u w=>by cases y<;>simp[bV]
 refine Ec func323 λw0 N0 j=>?_;unfold Ac6;simp only[srC]at ah af|-;refine J ?_;cases ps with
 |false=>
  refine J (Ir [2] Eb ?_);refine F6 [(0,[]),(1,[])] kr sr ?_
  refine Hm (i:=2) (ks:=[]) kr rfl sm (W9 sm ah func345 rfl kr sr rfl rfl sr (by simp[n,aj,px,ad,↓Abd]<;>rfl) rfl sr) ?_;refine F6 [(3,[]),(4,[]),(5,[]),(6,[])] kr sr ?_
  refine F6 [(7,[]),(8,[]),(9,[]),(10,[]),(11,[]),(12,[]),(13,[])] kr sr ?_
  refine H4 [0,1,19] [22,27,61] kr sr ?_;refine A0 rfl (λh1=>?_) λh1=>absurd h1 sm;rw[Alg (by rw[z];rfl)]at t;subst t;exact Db j (Ea (A8 _ _) sr ⟨rfl,rfl⟩ (λk o a=>Fv gt gt gt a))
 |true=>
 refine N3 ⟨[(0,V.bp 22 v 17 0 0),(1,V.i c),(19,V.bool (decide (bn<d.least)))],[(22,⟨v,17,455,[V.agg [V.ro 1 (Av s.vals),V.ro 3 (Ha s.rows),V.ro 1 (Av s.fx),V.ro 1 (Av s.free),V.bool s.one,V.bool s.once,V.sl 27 xq 1 d.x.length,V.int IntKind.i64 d.value,V.sl 61 sq 1 d.sums.length,V.ro 1 (Es s.low),V.ro 1 (Es s.high),V.int IntKind.i64 s.wide,V.ro 1 (Av s.order),V.int IntKind.i64 d.least,bV d.best,V.int IntKind.i64 d.most,V.bool d.found]]⟩),(27,⟨xq,1,3,Av d.x⟩),(61,⟨sq,1,3,Av d.sums⟩)],j+14,104⟩ ?h1 ?h2
 case h1=>
  refine Ir [2,7] Eb ?_;refine F6 [(0,[]),(1,[])] kr sr ?_
  refine Hm (i:=2) (ks:=[]) kr rfl sm (W9 sm ah func345 rfl kr sr rfl rfl sr (by simp[n,aj,px,ad,↓Abd]<;>rfl) rfl sr) ?_;refine F6 [(3,[]),(4,[]),(5,[]),(6,[]),(8,[]),(9,[]),(10,[])] kr sr ?_
  refine Pm [7,11] kr ?_;intro i hi;simp only[B8,Dw,or_false]at hi
  rcases hi with rfl|rfl
  .refine⟨_,_,rfl,W9 sm af func346 rfl kr sr rfl rfl sr (by simp[n,aj,px,ad,↓Abd]<;>rfl) rfl sr,?_⟩;refine F6 [(11,[]),(12,[]),(13,[])] kr sr ?_
   refine H4 [0,1,19] [22,27,61] kr sr ?_;exact⟨rfl,Z⟩
  .refine⟨_,_,rfl,O2 sr,?_⟩;refine Hm (i:=7) (ks:=[]) kr rfl sm (W9 sm af func346 rfl kr sr rfl rfl sr (by simp[n,aj,px,ad,↓Abd]<;>rfl) rfl sr) ?_;refine F6 [(12,[]),(13,[])] kr sr ?_
   refine H4 [0,1,19] [22,27,61] kr sr ?_;exact⟨rfl,Z⟩
 refine C1 (λh1=>?_) λh1=>?_
 .rw[Alg (by rw[z];simpa using h1)]at t;subst t;exact Db j (Ea (A8 _ _) sr ⟨rfl,rfl⟩ (λk o a=>Fv gt gt gt a))
 have al:Yf s d c=false:=by rw[z];simpa using h1
 refine J (Y [0,1,26] [22,27,61] (by simp[ax]<;>rfl) ?_)
 refine C1 (λh2=>?_) λh2=>?_
 .have be:c=s.free.length:=by simp at h2;omega
  have a6:m=0:=om;subst a6;rw[Hi,I (by rw[al];simp)]at t;unfold Alf at t;have ak:=Abb (Av d.x) px (Tu d.x) (by rw[A4,hd.hx];omega);refine N3 ⟨[(0,V.bp 22 v 17 0 0)],[(22,⟨v,17,455,[V.agg [V.ro 1 (Av s.vals),V.ro 3 (Ha s.rows),V.ro 1 (Av s.fx),V.ro 1 (Av s.free),V.bool s.one,V.bool s.once,V.sl 27 xq 1 d.x.length,V.int IntKind.i64 d.value,V.sl 61 sq 1 d.sums.length,V.ro 1 (Es s.low),V.ro 1 (Es s.high),V.int IntKind.i64 s.wide,V.ro 1 (Av s.order),V.int IntKind.i64 d.least,V.sl 34 (j+14+7+7) 1 d.x.length,V.int IntKind.i64 d.value,V.bool true]]⟩),(27,⟨xq,1,3,Av d.x⟩),(61,⟨sq,1,3,Av d.sums⟩),(34,⟨j+14+7+7,1,3,Av d.x⟩)],j+14+7+21,104⟩ ?g1 ?g2
  case g1=>
   refine Ir [7] Eb ?_;refine F6 [(0,[]),(1,[]),(2,[]),(3,[]),(4,[]),(5,[]),(6,[]),(8,[]),(9,[]),(10,[])] kr sr ?_
   refine Pm [7,11] kr ?_;intro i hi;simp only[B8,Dw,or_false]at hi
   rcases hi with rfl|rfl
   .refine⟨_,_,rfl,Aaf 34 sm ak func135 rfl kr sr rfl rfl sr (by simp[n,px]<;>rfl) sr,?_⟩;refine F6 [(11,[]),(12,[]),(13,[]),(14,[]),(15,[]),(16,[]),(17,[]),(18,[]),(19,[]),(20,[])] kr sr ?_
    refine H4 [0] [22,27,61,34] kr sr ?_;exact⟨rfl,Z⟩
   .refine⟨_,_,rfl,O2 sr,?_⟩;refine Hm (i:=7) (ks:=[]) kr rfl sm (Aaf 34 sm ak func135 rfl kr sr rfl rfl sr (by simp[n,px]<;>rfl) sr) ?_;refine F6 [(12,[]),(13,[]),(14,[]),(15,[]),(16,[]),(17,[]),(18,[]),(19,[]),(20,[])] kr sr ?_
    refine H4 [0] [22,27,61,34] kr sr ?_;exact⟨rfl,Z⟩
  refine Bw 34 [0] [22,27,61] (by simp[px,ay,ar,n]<;>rfl) (A9 [] sr (J (A9 [56] sr ?_)))
  refine C1 (λh3=>?_) λh3=>?_
  .refine Ba [] [22,27,61] sr ?_;rw[Ad (sG h3)]at t;subst t;exact Db j (Ea (A8 _ _) sr ⟨rfl,rfl⟩ (λk o a=>Fv (by simp[Eng.get,bV]) gt gt a))
  rw[I (sG h3)]at t;subst t;exact Db j (Ea (A8 _ _) sr ⟨rfl,rfl⟩ (λk o a=>Fv (by simp[Eng.get,bV]) gt gt a))
 have bf:¬c=s.free.length:=λe=>by simp[e]at h2
 obtain⟨m',rfl⟩:∃m',m=m'+1:=⟨m-1,by omega⟩;obtain⟨l,aq⟩:∃x:Nat,x=c+1:=⟨_,rfl⟩;have Ee:IntKind.i64.wrap ((c:Int)+1)=(l:Int):=by rw[aq];exact A5 om
 have aa:c<s.free.length:=om;have gf:=a5 c aa;have⟨a7,a3⟩:=Gz hs.hf aa 0;have⟨i,hi⟩:=Cr a7;have aw:vI s c=i:=by unfold vI;rw[hi];rfl
 have a2:Arb s c=(!s.one&&decide (s.vals.getD i 0<=0)):=by unfold Arb;rw[aw]
 rw[hi]at gf a3;have ao:i<s.vals.length:=om;have gv:=bb i ao;rw[Hi,I (by rw[al];simp),a2,aw,<- aq]at t;have ab:=λd' am=>(ih m' rfl) l d' om am
 have ai:=λd' b am=>Bca s d' i b v xq sq hs am ao
 simp only[Ac6,srC]at ab ai;generalize s.vals.getD i 0=vi at*;refine Y [0,1,4] [22,27,61] (by simp[gf,aa,ax]<;>rfl) (A9 [5] (by simp[gv,ao,a8]<;>rfl) (J (A9 [83] sr ?_)))
 refine C1 (λh4=>?_) λh4=>?_
 .rw[Ad (sG h4)]at t;refine Mr 3 (by simp[Ee]<;>rfl) ?_;refine D0 (ab d hd) func323 rfl kr rfl rfl rfl sr (λk o a=>Fv gt gt gt a) ?_ λch f=>f.elim;rintro r g bj⟨rfl,rfl⟩bc;refine⟨λk a=>Kz a,_,by simp<;>rfl,?_⟩;have au:WfD s (Hi s m' l d):=Sh _ _ hd;generalize Hi s m' l d=d1 at*;refine Aa [0,1,4,5] [22,27,61] sr ?_;refine Bn 2 sr ?_;refine D0 (ai d1 1 au) func347 rfl kr rfl rfl rfl sr (λk o a=>Fv gt gt gt a) ?_ λch f=>f.elim;rintro r g ba⟨rfl,rfl⟩av;refine⟨λk a=>Kz a,_,by simp<;>rfl,?_⟩;have ae:WfD s (Is s d1 i 1):=Sg au _ _;generalize Is s d1 i 1=d2 at*;refine Aa [0,1,4,5] [22,27,61] sr ?_;refine Bn 3 (by simp[Ee]<;>rfl) ?_;refine D0 (ab d2 ae) func323 rfl kr rfl rfl rfl sr (λk o a=>Fv gt gt gt a) ?_ λch f=>f.elim;rintro r g a4⟨rfl,rfl⟩a1;refine⟨λk a=>Kz a,_,by simp<;>rfl,?_⟩;have ag:WfD s (Hi s m' l d2):=Sh _ _ ae;generalize Hi s m' l d2=d3 at*;refine Aa [0,1,4,5] [22,27,61] sr ?_;refine Bn 2 sr ?_;refine D0 (ai d3 0 ag) func347 rfl kr rfl rfl rfl sr (λk o a=>Fv gt gt gt a) ?_ λch f=>f.elim;rintro r g a9⟨rfl,rfl⟩az;refine⟨λk a=>Kz a,_,by simp<;>rfl,?_⟩;have an:WfD s (Is s d3 i 0):=Sg ag _ _;generalize Is s d3 i 0=d4 at*;refine Aa [0,1,5] [22,27,61] sr ?_;refine V9 j ?_;refine Y [0,1,99] [22,27,61] sr ?_;refine A0 rfl (λh5=>absurd h5 (by revert h4;cases s.one<;>simp<;>omega)) (λh5=>Ae ?_);subst t;exact⟨by simp only;omega,.tup [],_,by simp[results323],(λk o a=>Fv gt gt gt a),rfl,rfl⟩
 rw[I (sG h4)]at t;refine Bn 2 sr ?_;refine D0 (ai d 1 hd) func347 rfl kr rfl rfl rfl sr (λk o a=>Fv gt gt gt a) ?_ λch f=>f.elim;rintro r g ba⟨rfl,rfl⟩av;refine⟨λk a=>Kz a,_,by simp<;>rfl,?_⟩;have ae:WfD s (Is s d i 1):=Sg hd _ _;generalize Is s d i 1=d2 at*;refine Aa [0,1,4,5] [22,27,61] sr ?_;refine Bn 3 (by simp[Ee]<;>rfl) ?_;refine D0 (ab d2 ae) func323 rfl kr rfl rfl rfl sr (λk o a=>Fv gt gt gt a) ?_ λch f=>f.elim;rintro r g a4⟨rfl,rfl⟩a1;refine⟨λk a=>Kz a,_,by simp<;>rfl,?_⟩;have ag:WfD s (Hi s m' l d2):=Sh _ _ ae;generalize Hi s m' l d2=d3 at*;refine Aa [0,1,4,5] [22,27,61] sr ?_;refine Bn 2 sr ?_;refine D0 (ai d3 0 ag) func347 rfl kr rfl rfl rfl sr (λk o a=>Fv gt gt gt a) ?_ λch f=>f.elim;rintro r g a9⟨rfl,rfl⟩az;refine⟨λk a=>Kz a,_,by simp<;>rfl,?_⟩;have an:WfD s (Is s d3 i 0):=Sg ag _ _;generalize Is s d3 i 0=d4 at*;refine Aa [0,1,5] [22,27,61] sr ?_;refine V9 j ?_;refine Y [0,1,99] [22,27,61] sr ?_
 refine A0 rfl (λh6=>?_) (λh6=>absurd h4 (by revert h6;cases s.one<;>simp<;>omega))
 .refine Mr 3 (by simp[Ee]<;>rfl) ?_;refine D0 (ab d4 an) func323 rfl kr rfl rfl rfl sr (λk o a=>Fv gt gt gt a) ?_ λch f=>f.elim;rintro r g bg⟨rfl,rfl⟩a0;refine⟨λk a=>Kz a,_,by simp<;>rfl,?_⟩;have bd:WfD s (Hi s m' l d4):=Sh _ _ an;generalize Hi s m' l d4=d5 at*;refine Aa [] [22,27,61] sr ?_;subst t;exact⟨by simp only;simp at a0;omega,.tup [],_,by simp[results323],(λk o a=>Fv gt gt gt a),rfl,rfl⟩
def Alh(s:Ss)(hs:WfS s)(v c a:Nat):∀m,Bgg s v c a m
 |0=>Ahe s hs v c a 0 (λd h=>by omega)
 |m+1=>Ahe s hs v c a (m+1) (λd h=>by
  have:d=m:=om;subst this;exact Alh s hs v c a d)
def Ali(s:Ss)(hs:WfS s)(v e c:Nat)(d:Sd)(f:WfD s d):
  Qv prog 323 [.bp 22 v 17 0 0,.i 0] (Ac6 s d v e c) (λr a=>r=.tup []/\a=Ac6 s (Hi s s.free.length 0 d) v e c) (λ_ =>False):=
 Alh s hs v e c s.free.length 0 d om f
variable {j:Nat}{x:Int}
def P8(l:List Int)(j:Nat):List Int:=(l.set (j+1) (l.getD j 0)).set j (l.getD (j+1) 0)
def bub(cmp:Int->Int->Int):Nat->List Int->List Int
 |0,l=>l
 |j+1,l=>if cmp (l.getD (j+1) 0) (l.getD j 0)<0 then bub cmp j (P8 l j)else l
def M7(cmp:Int->Int->Int)(l:List Int):Nat->List Int
 |0=>l
 |k+1=>bub cmp (k+1) (M7 cmp l k)
def Hb(cmp:Int->Int->Int)(l:List Int):List Int:=M7 cmp l (l.length-1)
def Ty(l:List Int)(j:Nat):(P8 l j).length=l.length:=by simp[P8]
def Aw7(cmp:Int->Int->Int):∀(j:Nat)(l:List Int),(bub cmp j l).length=l.length
 |0,l=>rfl
 |j+1,l=>by rw[bub];split;rw[Aw7 cmp j,Ty];rfl
def Od(cmp:Int->Int->Int)(l:List Int):∀k,(M7 cmp l k).length=l.length
 |0=>rfl
 |k+1=>by rw[M7,Aw7,Od cmp l k]
def Ac7{l:List Int}(c:j+1<l.length)(h:x∈P8 l j):x∈l:=by
 unfold P8 at h;rw[Cs c,Cs (show j<l.length by omega)]at h
 rcases F0 h with h|h
 .rcases F0 h with h|h
  .exact h
  .rw[h];exact Aw _
 .rw[h];exact Aw _
def Aw8{cmp:Int->Int->Int}:∀(j:Nat)(l:List Int),j<l.length->x∈bub cmp j l->x∈l
 |0,l,_,h=>h
 |j+1,l,c,h=>by
  rw[bub]at h
  split at h
  .exact Ac7 c (Aw8 j _ (by rw[Ty];omega) h)
  .exact h
def Wc{cmp:Int->Int->Int}{l:List Int}:∀k,k<l.length->x∈M7 cmp l k->x∈l
 |0,_,h=>h
 |k+1,c,h=>Wc k om (Aw8 (k+1) _ (by rw[Od];exact c) h)
def Np(cmp:Int->Int->Int)(l:List Int):(Hb cmp l).length=l.length:=Od cmp l _
def Tz{cmp:Int->Int->Int}{l:List Int}(h:x∈Hb cmp l):x∈l:=by
 cases l with
 |nil=>exact h
 |cons a t=>exact Wc _ sm h
def Ahf(d v:Nat)(l:List Int)(f:FuncId)(us vs:List V)(cmp:Int->Int->Int)(n:Nat)(a4:n<=l.length)(hl:l.length<=1000)
  (hf:∀a∈l,∀b∈l,Yz G0 prog (.fc f us vs) [.i a,.i b] (λr=>r=.i (cmp a b))):
  Qv prog 284 [.sl d v 1 l.length,.i 0,.i n,.fc f us vs] [(d,⟨v,1,3,Av l⟩)] (λr t=>r=.tup []/\t= [(d,⟨v,1,3,Av (M7 cmp l (n-1))⟩)]) (λ_ =>False):=by
 have al:=Od cmp l;have av:∀k,k<l.length->∀x∈M7 cmp l k,x∈l:=λk hk x hx=>Wc k hk hx
 have ag:∀k,M7 cmp l (k+1)=bub cmp (k+1) (M7 cmp l k):=λk=>rfl
 have ak:M7 cmp l 0=l:=rfl;generalize M7 cmp l=ik at*;refine Ec func284 λw0 N0 aa=>?_;refine Y [0,1,2,3,8] [d] sr (Ah (Bu (λk nx=>⟨[(0,V.sl d v 1 l.length),(1,V.i 0),(2,V.i n),(3,.fc f us vs),(8,.i (k+1:Nat))],[(d,⟨v,1,3,Av (ik k)⟩)],nx,53⟩) (λk=>True) (n-1) _ trivial (by simp only[ak];exact Z) ?_));intro k nx hk hI;refine J (Y [0,1,2,3,8,14] [d] sr ?_)
 refine Cu (λh1=>?_) λh1=>?_
 .have ay:k+1<n:=by simp at h1;omega
  have aq:k+1<l.length:=om;have Ee:IntKind.i64.wrap ((k:Int)+1+1)=(k:Int)+1+1:=Bp om om;have ax:=ag k;have ae:=al k;have an:=av k om;refine J (Ah (Y [0,1,2,3,8,9] [d] sr (Ah ?_)))
  refine C3 (λx:List Int × Nat × Nat=>⟨[(0,V.sl d v 1 l.length),(1,V.i 0),(2,V.i n),(3,.fc f us vs),(8,.i (k+1:Nat)),(9,.i x.2.1)],[(d,⟨v,1,3,Av x.1⟩)],x.2.2,53⟩)
   (λx=>x.1.length=l.length/\x.2.1<l.length/\(∀y∈x.1,y∈l)/\bub cmp x.2.1 x.1=ik (k+1)) (λx=>x.2.1) (ik k,k+1,_) ⟨ae,aq,an,ax.symm⟩ Z ?_
  rintro⟨A,j,a5⟩⟨ab,af,e,c⟩;simp only at ab af e c|-;refine J ?_;have az:=A4 A;cases j with
  |zero=>
   have ad:0<l.length:=om;have w:IntKind.i64.wrap (-1)= -1:=rfl;have aj:=Dn (l:=A) (k:=0) om;have ar:(Av A).length=l.length:=om;refine J (Ir [] Eb ?_);refine F6 [(0,[]),(1,[]),(2,[]),(3,[]),(4,[]),(5,[]),(6,[]),(7,[]),(9,[]),(10,[]),(11,[]),(12,[]),(8,[]),(13,[]),(14,[]),(15,[]),(16,[])] kr Du ?_
   refine H4 [0,1,2,3,8,9,34] [d] kr sr (A0 rfl (λh2=>absurd h2 sm) (λh2=>?_));refine A6 (Ba [0,1,2,3,8] [d] Du ?_);rw[bub]at c;exact⟨by omega,trivial,_,by rw[c];exact Z⟩
  |succ j=>
  have u:j+1<A.length:=om;have z:j<l.length:=om;have g1:=Dn u;have g0:=Dn (l:=A) (k:=j) om;have ah:A.getD (j+1) 0∈l:=e _ (by rw[Cs u];exact Aw _);have am:A.getD j 0∈l:=e _ (by rw[Cs (show j<A.length by omega)];exact Aw _);have hF:=hf _ ah _ am;rw[bub]at c;have a6:=Ty A j;have aw:=λ(u:j+1<A.length)(x:Int)(h:x∈P8 A j)=>e x (Ac7 u h)
  have m:IntKind.i64.wrap (j:Int)=(j:Int):=Bp om om;have s:(0:Int)<=(j:Int)+1/\(j:Int)+1<(l.length:Int):=om;have a7:j+1<(Av A).length:=om;have a3:j<(Av A).length:=om;have g:(Av A).length=l.length:=om;have au:Av (P8 A j)=((Av A).set (j+1) (.i (A.getD j 0))).set j (.i (A.getD (j+1) 0)):=by unfold P8;rw[Wb,Wb]
  generalize A.getD (j+1) 0=a1,A.getD j 0=a0 at*;obtain⟨i1,a2⟩:∃i1:Int,i1=((j+1:Nat):Int):=⟨_,rfl⟩;refine J (Ir [14] Eb ?_);refine F6 [(0,[]),(1,[]),(2,[]),(3,[]),(4,[]),(5,[]),(6,[]),(7,[]),(8,[]),(9,[]),(10,[]),(11,[]),(12,[]),(13,[])] kr Du ?_
  refine Hm (i:=14) (ks:=[]) kr rfl sm (Vk sm (Aup _) hF sr rfl sr sr sm sr) (F6 [(15,[]),(16,[])] kr sr ?_)
  refine H4 [0,1,2,3,8,9,34] [d] kr sr ?_
  refine Cu (λh2=>?_) λh2=>?_
  .refine J ?_;rw[Ad (sG h2)]at c;have ai:∀x,Hj ((Av A).set (j+1) x) j=some (.i a0):=λx=>by rw[C2,Ie om,<- C2];exact g0
   refine Ah (R8 [(0,[]),(1,[]),(2,[]),(3,[]),(4,[]),(5,[]),(6,[]),(7,[]),(8,[]),(10,[]),(11,[]),(12,[]),(9,[]),(13,[]),(14,[]),(15,[]),(16,[]),(17,[])] [0,1,2,3,8,9] [d] Eb kr Du ?_);refine Ba [0,1,2,3,8,9] [d] Du ?_;exact⟨(P8 A j,j,_),⟨by simp only;omega,by simp only;omega,aw u,c⟩,by simp only;omega,by simp only[au];exact Z⟩
  .rw[I (sG h2)]at c;refine A6 (Ba [0,1,2,3,8] [d] (by simp[Ee]<;>rfl) ?_);exact⟨by omega,trivial,_,by rw[<- c];exact Z⟩
 .have ao:k=n-1:=by simp at h1;omega
  subst ao;refine V9 aa (A6 ?_);exact⟨by simp only;omega,.tup [],_,by simp[results284],λk o hk=>B5 gt hk,rfl,rfl⟩
def Alj{cmp:Int->Int->Int}{l:List Int}(h:∀k,m<=k->k+1<l.length->0<=cmp ((M7 cmp l m).getD (k+1) 0) ((M7 cmp l m).getD k 0)):∀k,m<=k->k<l.length->M7 cmp l k=M7 cmp l m
 |0,h1,_ =>by rw[Nat.le_zero.1 h1]
 |k+1,h1,h2=>by
  rcases Nat.eq_or_lt_of_le h1 with e|h3
  .rw[e]
  .rw[M7,Alj h k om om,bub,I (Int.not_lt.2 (h k om h2))]
def A0v(d v:Nat)(l:List Int)(f:FuncId)(us vs:List V)(cmp:Int->Int->Int)(a b:Nat)(hb:b<=l.length)(hl:l.length<=1000)
  (y:∀a∈l,∀b∈l,Yz G0 prog (.fc f us vs) [.i a,.i b] (λr=>r=.i (cmp a b)))
  (hn:∀k,a<k->k<b->0<=cmp (l.getD k 0) (l.getD (k-1) 0))(ha:a<=1000):
  Qv prog 284 [.sl d v 1 l.length,.i a,.i b,.fc f us vs] [(d,⟨v,1,3,Av l⟩)] (λr e=>r=.tup []/\e= [(d,⟨v,1,3,Av l⟩)]) (λ_ =>False):=by
 have j:=A4 l;have hw0:IntKind.i64.wrap ((a:Int)+1)=((a+1:Nat):Int):=A5 om;refine Ec func284 λw0 N0 g=>?_;refine Y [0,1,2,3,8] [d] Du (Ah ?_)
 refine C3 (λx:Nat × Nat=>⟨[(0,V.sl d v 1 l.length),(1,V.i a),(2,V.i b),(3,.fc f us vs),(8,.i (x.1:Nat))],[(d,⟨v,1,3,Av l⟩)],x.2,53⟩)
  (λx=>a<x.1) (λx=>b-x.1) (a+1,_) sy Z ?_
 rintro⟨i,nx⟩c;simp only at c|-;refine J (Y [0,1,2,3,8,14] [d] sr ?_)
 refine Cu (λh1=>?_) λh1=>?_
 .have m:i<b:=by simp at h1;omega
  obtain⟨p,rfl⟩:∃p,i=p+1:=⟨i-1,by omega⟩;have u:=hn (p+1) c m;rw[Na]at u;have Ee:IntKind.i64.wrap (((p+1:Nat):Int)+1)=((p+2:Nat):Int):=A5 om;have t:IntKind.i64.wrap (((p+1:Nat):Int)-1)=(p:Int):=by rw[Bp om oM];omega
  have hp:p<l.length:=om;have s:p+1<l.length:=om;have w:=Dn s;have z:=Dn hp;have hF:=y (l.getD (p+1) 0) (by rw[Cs s];exact Aw _) (l.getD p 0) (by rw[Cs hp];exact Aw _);generalize l.getD (p+1) 0=a1,l.getD p 0=a0 at*;have n:p+1<(Av l).length:=om;have h:p<(Av l).length:=om;generalize hq:p+1=q at*;refine J (Ah (Y [0,1,2,3,8,9] [d] sr (Ah (C3 (λnx:Nat=>⟨[(0,V.sl d v 1 l.length),(1,V.i a),(2,V.i b),(3,.fc f us vs),(8,.i q),(9,.i q)],[(d,⟨v,1,3,Av l⟩)],nx,53⟩) (λ_ =>True) (λ_ =>0) _ trivial Z ?_))));intro nx _;refine J (J (Ir [14] Eb ?_));refine F6 [(0,[]),(1,[]),(2,[]),(3,[]),(4,[]),(5,[]),(6,[]),(7,[]),(8,[]),(9,[]),(10,[]),(11,[]),(12,[]),(13,[])] kr Du ?_
  refine Hm (i:=14) (ks:=[]) kr rfl sm (Vk sm (Aup _) hF sr rfl sr sr sm sr) (F6 [(15,[]),(16,[])] kr sr ?_)
  refine H4 [0,1,2,3,8,9,34] [d] kr sr (A0 rfl (λh2=>absurd h2 so) (λh2=>?_));refine A6 (Ba [0,1,2,3,8] [d] Du ?_);exact⟨(p+2,_),by simp only;omega,by simp only;omega,Z⟩
 .refine V9 g (A6 ?_);exact⟨by simp only;omega,.tup [],_,by simp[results284],λk o hk=>B5 gt hk,rfl,rfl⟩
def Aw9{x y h:Nat}(hx:x<=1000)(hy:y<=1000)(hh:h=(x+y)/2):∃s:Int,IntKind.i64.wrap ((x:Int)+(y:Int))=s/\IntKind.u64.wrap s=s/\s.fdiv (2^min 1 IntKind.u64.bits)=(h:Int)/\IntKind.i64.wrap (h:Int)=(h:Int):=by
 refine⟨((x+y:Nat):Int),by rw[Bp om oM];omega,wrap_u64 om,?_,Bp om om⟩;rw[show(2:Int)^min 1 IntKind.u64.bits=2 by decide,Ca _ dC];omega
def Arc(d v:Nat)(l:List Int)(f:FuncId)(us vs:List V)(cmp:Int->Int->Int)(hl:l.length<=1000)
  (hf:∀a∈l,∀b∈l,Yz G0 prog (.fc f us vs) [.i a,.i b] (λr=>r=.i (cmp a b))):
  ∀(n a m b:Nat),b-a<=n->a<m->m<b->b<=l.length->(∀i j,a<=i->i<m->m<=j->j<b->0<=cmp (l.getD j 0) (l.getD i 0))->
  Qv prog 356 [.sl d v 1 l.length,.i a,.i m,.i b,.fc f us vs] [(d,⟨v,1,3,Av l⟩)] (λr ab=>r=.tup []/\ab= [(d,⟨v,1,3,Av l⟩)]) (λ_ =>False)
 |0,a,m,b,h0,h1,h2,_,_ =>by omega
 |n+1,a,m,b,h0,h1,h2,h3,hn=>by
  have rc:=Arc d v l f us vs cmp hl hf n;have ai:=A4 l;have hg:=λi(h:i<l.length)=>Dn (l:=l) (k:=i) h
  have hF:=λi j(hi:i<l.length)(hj:j<l.length)=>hf (l.getD i 0) (by rw[Cs hi];exact Aw _) (l.getD j 0) (by rw[Cs hj];exact Aw _)
  have bc:IntKind.i64.wrap ((m:Int)-(a:Int))=((m-a:Nat):Int):=by rw[Bp om oM];omega
  have ba:IntKind.i64.wrap ((b:Int)-(m:Int))=((b-m:Nat):Int):=by rw[Bp om oM];omega
  refine Ec func356 λw0 N0 ah=>?_;refine J (Y [0,1,2,3,4,28] [d] Du ?_)
  refine C1 (λc1=>?_) λc1=>?_
  .have bi:m=a+1:=by simp at c1;omega
   have wm:IntKind.i64.wrap ((m:Int)-1)=(a:Int):=by rw[Bp om oM];omega
   have ga:=hg a om;refine Y [0,1,3,4,10] [d] sr (Y [0,1,4,10,11] [d] sr (J (Ah ?_)));refine C3 (λx:Nat × Nat=>⟨[(0,V.sl d v 1 l.length),(1,V.i a),(4,.fc f us vs),(10,V.i m),(11,V.i x.1)],[(d,⟨v,1,3,Av l⟩)],x.2,220⟩) (λx=>m<=x.1/\x.1<=b) (λx=>x.1-m) (b,_) ⟨by simp only;omega,by simp only;omega⟩ Z ?_;rintro⟨j,nx⟩⟨a8,bb⟩;simp only at a8 bb|-;refine J (Y [0,1,4,10,11,33] [d] sr ?_)
   refine Cu (λc2=>?_) λc2=>?_
   .have bl:m<j:=by simp at c2;omega
    obtain⟨h,hh⟩:∃h,h=(m+j)/2:=⟨_,rfl⟩;have⟨s,e1,e2,e3,e4⟩:=Aw9 (x:=m) (y:=j) om om hh;have z:h<l.length:=om;have av:a<l.length:=om;have ay:=hn a h (A7 _) h1 om om;have ae:=hF h a z av;have gh:=hg h z;have aa:h<(Av l).length:=om;have ar:a<(Av l).length:=om;generalize l.getD h 0=y1,l.getD a 0=y0 at*;refine Ah (Y [0,1,4,10,11,12] [d] (by simp[e1,e2,e3,e4]<;>rfl) (J (Ir [9] Eb ?_)));refine F6 [(0,[]),(1,[]),(2,[]),(3,[]),(5,[]),(6,[]),(7,[]),(4,[]),(8,[])] kr (by simp[gh,ga,z,av]<;>rfl) ?_
    refine Hm (i:=9) (ks:=[]) kr rfl sm (Vk sm (Aup _) ae sr rfl sr sr sm sr) ?_;refine F6 [(10,[])] kr sr ?_
    refine H4 [0,1,4,10,11,12,50] [d] kr sr ?_;refine A0 rfl (λc3=>absurd c3 so) λc3=>?_;refine Ba [0,1,4,10,11] [d] sr ?_;exact⟨(h,_),⟨by simp only;omega,by simp only;omega⟩,by simp only;omega,Z⟩
   .refine A6 ?_;refine J (Y [0,10,13] [d] sr (Ah (C3 (λnx:Nat=>⟨[(0,V.sl d v 1 l.length),(10,V.i m),(13,V.i a)],[(d,⟨v,1,3,Av l⟩)],nx,220⟩) (λ_ =>True) (λ_ =>0) _ trivial Z ?_)));intro nx _;refine J (Y [0,10,13,58] [d] (by simp[wm]<;>rfl) ?_);refine A0 rfl (λc4=>absurd c4 sm) λc4=>?_;refine V9 ah ?_;refine A6 ?_;exact Ao (Apn sy (by simp[results356]) (λk o u=>B5 gt u))
  refine J (Y [0,1,2,3,4,80] [d] (by simp[ba]<;>rfl) ?_)
  refine C1 (λc5=>?_) λc5=>?_
  .have bj:b=m+1:=by simp at c5;omega
   have gm:=hg m om;refine Y [0,2,4,14] [d] sr (Y [0,2,4,14,15] [d] sr (J (Ah ?_)));refine C3 (λx:Nat × Nat=>⟨[(0,V.sl d v 1 l.length),(2,V.i m),(4,.fc f us vs),(14,V.i x.1),(15,V.i m)],[(d,⟨v,1,3,Av l⟩)],x.2,220⟩) (λx=>a<=x.1/\x.1<=m) (λx=>m-x.1) (a,_) ⟨by simp only;omega,by simp only;omega⟩ Z ?_;rintro⟨i,nx⟩⟨am,ak⟩;simp only at am ak|-;refine J (Y [0,2,4,14,15,85] [d] sr ?_)
   refine Cu (λc6=>?_) λc6=>?_
   .have ax:i<m:=by simp at c6;omega
    obtain⟨h,hh⟩:∃h,h=(i+m)/2:=⟨_,rfl⟩;have⟨s,e1,e2,e3,e4⟩:=Aw9 (x:=i) (y:=m) om om hh;have z:h<l.length:=om;have aq:m<l.length:=om;have ay:=hn h m om om (A7 _) h2;have ae:=hF m h aq z;have gh:=hg h z;have Ee:IntKind.i64.wrap ((h:Int)+1)=((h+1:Nat):Int):=A5 om;have aa:h<(Av l).length:=om;have au:m<(Av l).length:=om;generalize l.getD h 0=y1,l.getD m 0=y0 at*;refine Ah (Y [0,2,4,14,15,16] [d] (by simp[e1,e2,e3,e4]<;>rfl) (J (Ir [9] Eb ?_)));refine F6 [(0,[]),(1,[]),(2,[]),(3,[]),(5,[]),(6,[]),(7,[]),(4,[]),(8,[])] kr (by simp[gh,gm,z,aq]<;>rfl) ?_
    refine Hm (i:=9) (ks:=[]) kr rfl sm (Vk sm (Aup _) ae sr rfl sr sr sm sr) ?_;refine F6 [(10,[]),(11,[])] kr sr ?_
    refine H4 [0,2,4,14,15,16,103] [d] kr sr ?_;refine A0 rfl (λc7=>?_) λc7=>absurd c7 so;refine Ba [0,2,4,14,15] [d] (by simp[Ee]<;>rfl) ?_;exact⟨(h+1,_),⟨by simp only;omega,by simp only;omega⟩,by simp only;omega,Z⟩
   .have ax:i=m:=by simp at c6;omega
    subst ax;refine A6 ?_;refine J (Y [0,14,17] [d] sr (Ah (C3 (λnx:Nat=>⟨[(0,V.sl d v 1 l.length),(14,V.i i),(17,V.i i)],[(d,⟨v,1,3,Av l⟩)],nx,220⟩) (λ_ =>True) (λ_ =>0) _ trivial Z ?_)));intro nx _;refine J (Y [0,14,17,110] [d] sr ?_);refine A0 rfl (λc8=>absurd c8 sm) λc8=>?_;refine V9 ah ?_;refine A6 ?_;exact Ao (Apn sy (by simp[results356]) (λk o u=>B5 gt u))
  obtain⟨e,a7⟩:∃e,e=(a+b)/2:=⟨_,rfl⟩;have⟨s,e1,e2,e3,e4⟩:=Aw9 (x:=a) (y:=b) om om a7;have wn:IntKind.i64.wrap ((e:Int)+(m:Int))=((e+m:Nat):Int):=by rw[Bp om oM];omega
  obtain⟨s0,r0,t,w⟩:∃s0 r0:Nat,(e<m->s0=e+m-b/\r0=e)/\(¬e<m->s0=a/\r0=m):=by
   by_cases h:e<m
   .exact⟨_,_,λ_ =>⟨rfl,rfl⟩,λh'=>absurd h h'⟩
   .exact⟨_,_,λh'=>absurd h' h,λ_ =>⟨rfl,rfl⟩⟩
  have be:¬m-a=1:=sO c1
  have bh:¬b-m=1:=sO c5
  obtain⟨nn,a9⟩:∃nn,nn=e+m:=⟨_,rfl⟩;rw[<- a9]at wn;have a5:e<m->IntKind.i64.wrap ((nn:Int)-(b:Int))=(s0:Int):=λh=>by rw[Bp om oM];have:=t h;omega
  have wp:IntKind.i64.wrap ((nn:Int)-1)=((nn-1:Nat):Int):=by rw[Bp om oM];omega
  refine Y [0,1,2,3,4,18] [d] (by simp[e1,e2,e3,e4]<;>rfl) (Y [0,1,2,3,4,18,19] [d] (by simp[wn]<;>rfl) (Y [0,1,2,3,4,18,19] [d] sr ?_))
  refine N3 ⟨[(0,V.sl d v 1 l.length),(1,V.i a),(2,V.i m),(3,V.i b),(4,.fc f us vs),(18,V.i e),(19,V.i nn),(20,V.i s0),(21,V.i r0)],[(d,⟨v,1,3,Av l⟩)],ah+1000,220⟩ ?_ ?_
  .refine Y [0,1,2,3,4,18,19,140] [d] sr ?_
   refine Au (λc9=>?_) λc9=>?_
   .have g:e<m:=by simp at c9;omega
    have hr:=(t g).2;refine Y [0,1,2,3,4,18,19,20] [d] (by simp[a5 g]<;>rfl) (Ba [0,1,2,3,4,18,19,20,21] [d] sr ?_);rw[hr];exact⟨rfl,Ad2 rfl rfl rfl sy⟩
   .have g:¬e<m:=by simp at c9;omega
    have⟨q1,q2⟩:=w g;refine Y [0,1,2,3,4,18,19,20] [d] sr (Ba [0,1,2,3,4,18,19,20,21] [d] sr ?_);rw[q1,q2];exact⟨rfl,Ad2 rfl rfl rfl sy⟩
  obtain⟨p,hp⟩:∃p,p=nn-1:=⟨_,rfl⟩;rw[<- hp]at wp
  have bk:s0<=r0:=by
   by_cases h:e<m
   .have:=t h;omega
   .have:=w h;omega
  refine Y [0,1,2,3,4,18,19,20,21,22] [d] (by simp[wp]<;>rfl) (J (Ah ?_));refine C3 (λx:Nat × Nat=>⟨[(0,V.sl d v 1 l.length),(1,V.i a),(2,V.i m),(3,V.i b),(4,.fc f us vs),(18,V.i e),(19,V.i nn),(20,V.i x.1),(21,V.i r0),(22,V.i p)],[(d,⟨v,1,3,Av l⟩)],x.2,220⟩) (λx=>s0<=x.1/\x.1<=r0) (λx=>r0-x.1) (s0,_) ⟨by simp only;omega,by simp only;omega⟩ Z ?_;rintro⟨i,nx⟩⟨am,ak⟩;simp only at am ak|-;refine J (Y [0,1,2,3,4,18,19,20,21,22,151] [d] sr ?_)
  refine Cu (λca=>?_) λca=>?_
  .have aw:i<r0:=by simp at ca;omega
   obtain⟨c,hh⟩:∃c,c=(i+r0)/2:=⟨_,rfl⟩
   have bf:s0<=c/\c<r0/\r0<=1000/\i<=1000:=by
    by_cases h:e<m
    .have:=t h;omega
    .have:=w h;omega
   have⟨s',f1,f2,f3,f4⟩:=Aw9 (x:=i) (y:=r0) om om hh;obtain⟨q,hq⟩:∃q,q=p-c:=⟨_,rfl⟩
   have af:a<=c/\c<m/\m<=q/\q<b/\c<=p:=by
    by_cases h:e<m
    .have:=t h;omega
    .have:=w h;omega
   have wq:IntKind.i64.wrap ((p:Int)-(c:Int))=(q:Int):=by rw[Bp om oM];omega
   have aj:c<l.length:=om;have al:q<l.length:=om;have ay:=hn c q af.1 af.2.1 af.2.2.1 af.2.2.2.1;have ae:=hF q c al aj;have gc:=hg c aj;have gq:=hg q al;have Ee:IntKind.i64.wrap ((c:Int)+1)=((c+1:Nat):Int):=A5 om;have ao:c<(Av l).length:=om;have az:q<(Av l).length:=om;generalize l.getD c 0=y1,l.getD q 0=y0 at*;refine Ah (Y [0,1,2,3,4,18,19,20,21,22,23] [d] (by simp[f1,f2,f3,f4]<;>rfl) (J (Ir [11] Eb ?_)));refine F6 [(0,[]),(1,[]),(2,[]),(3,[]),(4,[]),(5,[]),(7,[]),(8,[]),(9,[]),(6,[]),(10,[])] kr (by simp[wq,gc,gq,aj,al]<;>rfl) ?_
   refine Hm (i:=11) (ks:=[]) kr rfl sm (Vk sm (Aup _) ae sr rfl sr sr sm sr) ?_;refine F6 [(12,[]),(13,[])] kr sr ?_
   refine H4 [0,1,2,3,4,18,19,20,21,22,23,171] [d] kr sr ?_;refine A0 rfl (λcb=>?_) λcb=>absurd cb so;refine Ba [0,1,2,3,4,18,19,20,21,22] [d] (by simp[Ee]<;>rfl) ?_;exact⟨(c+1,_),⟨by simp only;omega,by simp only;omega⟩,by simp only;omega,Z⟩
  have aw:i=r0:=sO ca
  subst aw;refine V9 ah ?_;refine A6 ?_
  have we:IntKind.i64.wrap ((nn:Int)-(i:Int))=((nn-i:Nat):Int):=by
   rw[Bp om oM]
   by_cases h:e<m
   .have:=t h;omega
   .have:=w h;omega
  obtain⟨en,bd⟩:∃en,en=nn-i:=⟨_,rfl⟩;rw[<- bd]at we;refine Y [0,1,2,3,4,18,20,24] [d] (by simp[we]<;>rfl) (J ?_)
  have bg:¬(i<m/\m<en):=by
   by_cases h:e<m
   .have:=t h;omega
   .have:=w h;omega
  refine Y [0,1,2,3,4,18,20,24,185] [d] sr ?_;refine A0 rfl (λcc=>absurd cc so) λcc=>Ae (J ?_)
  by_cases g:e<m
  .have⟨q1,q2⟩:=t g;have ag:en=m:=om;subst q2;refine Y [0,1,3,4,18,20,24,199] [d] sr ?_;refine A0 rfl (λcd=>absurd cd sm) (λcd=>Ae (Y [0,3,4,18,24,213] [d] (by simp[ag,g,h2]<;>rfl) ?_));refine A0 rfl (λce=>?_) λce=>absurd ce sm;have rq:=rc i m b om g h2 h3 (λx y a1 a2 a3 a4=>hn x y om a2 a3 a4);refine Mr 5 sr ?_;refine D0 rq func356 rfl kr rfl rfl rfl sr (λk o u=>B5 gt u) ?_ λch an=>an.elim;rintro r ab a0⟨rfl,rfl⟩ad;refine⟨λk u=>Jq u,_,by simp<;>rfl,?_⟩;refine Aa [] [d] sr ?_;exact⟨by simp only;simp at ad;omega,.tup [],_,by simp[results356],λk o u=>B5 gt u,rfl,rfl⟩
  .have⟨q1,q2⟩:=w g;have ag:en=e:=om;subst q2;refine Y [0,1,3,4,18,20,24,199] [d] (by simp[h1]<;>rfl) ?_
   refine C1 (λcd=>?_) λcd=>?_
   .have a6:i<e:=by simp at cd;omega
    have rq:=rc a i e om h1 a6 om (λx y a1 a2 a3 a4=>hn x y a1 a2 a3 om);refine Mr 5 sr ?_;refine D0 rq func356 rfl kr rfl rfl rfl sr (λk o u=>B5 gt u) ?_ λch an=>an.elim;rintro r ab a0⟨rfl,rfl⟩ad;refine⟨λk u=>Jq u,_,by simp<;>rfl,?_⟩;refine Aa [0,3,4,18,24] [d] sr ?_;refine Y [0,3,4,18,24,213] [d] (by simp[ag]<;>rfl) ?_;refine A0 rfl (λce=>absurd ce sm) λce=>Ae ?_;exact⟨by simp only;simp at ad;omega,.tup [],_,by simp[results356],λk o u=>B5 gt u,rfl,rfl⟩
   .refine Y [0,3,4,18,24,213] [d] (by simp[ag]<;>rfl) ?_;refine A0 rfl (λce=>absurd ce sm) λce=>Ae ?_;exact⟨by simp only;omega,.tup [],_,by simp[results356],λk o u=>B5 gt u,rfl,rfl⟩
def A0w(d v:Nat)(l:List Int)(f:FuncId)(us vs:List V)(cmp:Int->Int->Int)(hl:l.length<20)
  (w:∀a∈l,∀b∈l,Yz G0 prog (.fc f us vs) [.i a,.i b] (λr=>r=.i (cmp a b))):
  Qv prog 341 [.sl d v 1 l.length,.i l.length,.fc f us vs] [(d,⟨v,1,3,Av l⟩)] (λr c=>r=.tup []/\c= [(d,⟨v,1,3,Av (Hb cmp l)⟩)]) (λ_ =>False):=by
 have e:=Ahf d v l f us vs cmp l.length (A7 _) om w;change Qv _ _ _ _ (λr c=>r=.tup []/\c= [(d,⟨v,1,3,Av (Hb cmp l)⟩)]) _ at e;have n:¬(20:Int)<=l.length:=om;have h:¬(20:Int)<l.length:=om;have g:=Np cmp l;refine Ec func341 λw0 N0 j=>?_;refine Y [0,1,2,6] [d] sr (Y [0,1,2,6,7,8] [d] sr (J (Ah (C3 (λnx:Nat=>⟨[(0,V.sl d v 1 l.length),(1,V.i l.length),(2,.fc f us vs),(6,V.i 20),(7,V.i 0),(8,V.i 20)],[(d,⟨v,1,3,Av l⟩)],nx,63⟩) (λ_ =>True) (λ_ =>0) _ trivial Z ?_))));intro nx _;refine J (Y [0,1,2,6,7,8,13] [d] sr ?_)
 refine A0 rfl (λh1=>absurd h1 G8) λh1=>?_
 .refine A6 (Bn 4 sr ?_);refine D0 e func284 rfl kr rfl rfl rfl sr (λk o g=>B5 gt g) ?_ λch m=>m.elim;rintro r c u⟨rfl,rfl⟩s;refine⟨λk g=>Jq g,_,by simp<;>rfl,?_⟩;refine Aa [0,1,2,6] [d] sr (Ah (C3 (λnx:Nat=>⟨[(0,V.sl d v 1 l.length),(1,V.i l.length),(2,.fc f us vs),(6,V.i 20)],[(d,⟨v,1,3,Av (Hb cmp l)⟩)],nx,63⟩) (λ_ =>True) (λ_ =>0) _ trivial Z ?_));intro t _;refine J (Y [0,1,2,6,30] [d] sr ?_)
  refine A0 rfl (λh2=>absurd h2 G8) λh2=>?_
  .refine V9 j (A6 ?_);exact⟨by simp only;omega,.tup [],_,by simp[results341],λk o g=>B5 gt g,rfl,rfl⟩
def Auw{l:List Int}(h:j+1<k):(P8 l j).drop k=l.drop k:=by
 unfold P8;rw[Qa om,Qa h]
def Ard{cmp:Int->Int->Int}:∀(j:Nat)(l:List Int),j<k->(bub cmp j l).drop k=l.drop k
 |0,l,_ =>rfl
 |j+1,l,h=>by
  rw[bub]
  split
  .rw[Ard j _ om,Auw oM]
  .rfl
def Alk{cmp:Int->Int->Int}{l:List Int}:∀(k:Nat){m:Nat},k<m->(M7 cmp l k).drop m=l.drop m
 |0,_,_ =>rfl
 |k+1,m,h=>by rw[M7,Ard _ _ h,Alk k om]
def A0x(d v:Nat)(l:List Int)(f:FuncId)(us vs:List V)(cmp:Int->Int->Int)(ax:20<=l.length)(a2:l.length<40)(hz:∀x∈l.drop 20,∀y∈l,0<=cmp x y)
  (hf:∀a∈l,∀b∈l,Yz G0 prog (.fc f us vs) [.i a,.i b] (λr=>r=.i (cmp a b))):
  Qv prog 341 [.sl d v 1 l.length,.i l.length,.fc f us vs] [(d,⟨v,1,3,Av l⟩)] (λr c=>r=.tup []/\c= [(d,⟨v,1,3,Av (Hb cmp l)⟩)]) (λ_ =>False):=by
 have cA:=Ahf d v l f us vs cmp 20 ax om hf;have ab:=Od cmp l 19;have g:∀x∈M7 cmp l 19,x∈l:=λx hx=>Wc 19 om hx
 have au:=Alk (cmp:=cmp) (l:=l) 19 (m:=20) om
 have z:∀k,20<=k->k<l.length->(M7 cmp l 19).getD k 0∈l.drop 20:=λk h1 h2=>by
  rw[<- au,Cs oM];exact R2.2 ⟨k-20,by omega,by congr 1;omega⟩
 have aa:∀k,k<l.length->(M7 cmp l 19).getD k 0∈l:=λk h2=>by
  rw[Cs oM];exact g _ (Aw _)
 have av:Hb cmp l=M7 cmp l 19:=Alj (λk h1 h2=>hz _ (z _ om h2) _ (aa _ om)) _ om om;rw[av];change Qv _ _ _ _ (λr c=>r=.tup []/\c= [(d,⟨v,1,3,Av (M7 cmp l 19)⟩)]) _ at cA;rw[show(((20:Nat):Nat):Int)=(20:Int)from rfl]at cA;have cB:=A0v d v (M7 cmp l 19) f us vs cmp 20 l.length om om (λa ha b hb=>hf a (g a ha) b (g b hb)) (λk h1 h2=>hz _ (z _ om h2) _ (aa _ om)) om;have cC:=λh=>Arc d v (M7 cmp l 19) f us vs cmp om (λa ha b hb=>hf a (g a ha) b (g b hb)) 100 0 20 l.length om om h om (λi j _ h2 h3 h4=>hz _ (z _ h3 h4) _ (aa _ om))
 rw[show(((20:Nat):Nat):Int)=(20:Int)from rfl,ab]at cB;rw[show(((20:Nat):Nat):Int)=(20:Int)from rfl,show(((0:Nat):Nat):Int)=(0:Int)from rfl,ab]at cC;have a3:(Av (M7 cmp l 19)).length=l.length:=by rw[A4,ab]
 generalize Av (M7 cmp l 19)=B at*;have a0:=A4 l;generalize Av l=A at*;obtain⟨L,al,aj⟩:∃L:Nat->List V,L 0=A/\L 1=B:=⟨λk=>if k=0 then A else B,rfl,rfl⟩;obtain⟨u,am,ah⟩:∃u:Nat->Int,u 0=0/\u 1=20:=⟨λk=>if k=0 then 0 else 20,rfl,rfl⟩;obtain⟨w,hw0,Ee⟩:∃w:Nat->Int,w 0=20/\w 1=40:=⟨λk=>if k=0 then 20 else 40,rfl,rfl⟩;have ad:(20:Int)<=l.length:=om;have s:¬(40:Int)<=l.length:=om;have af:¬(40:Int)<l.length:=om;have ao:IntKind.i64.wrap (20+20)=40:=rfl;have ag:IntKind.i64.wrap (20*2)=40:=rfl;have an:IntKind.i64.wrap (2*20)=40:=rfl;have ar:IntKind.i64.wrap 20=20:=rfl;have t:IntKind.i64.wrap 40=40:=rfl;refine Ec func341 λw0 N0 ae=>?_;refine Y [0,1,2,6] [d] sr (Y [0,1,2,6,7,8] [d] sr (J (Ah (C3 (λx:Nat × Nat=>⟨[(0,V.sl d v 1 l.length),(1,V.i l.length),(2,.fc f us vs),(6,V.i 20),(7,V.i (u x.1)),(8,V.i (w x.1))],[(d,⟨v,1,3,L x.1⟩)],x.2,63⟩) (λx=>x.1<=1) (λx=>1-x.1) (0,_) sm (by simp only[al,am,hw0];exact Z) ?_))));rintro⟨k,nx⟩e;simp only at e|-;refine J ?_
 obtain rfl|rfl:k=0\/k=1:=by omega
 .rw[al,am,hw0];refine Y [0,1,2,6,7,8,13] [d] sr (A0 rfl (λh1=>Ae ?_) (λh1=>absurd h1 G8));refine Ah (Bn 4 sr ?_);refine D0 cA func284 rfl kr rfl rfl rfl sr (λk o e=>B5 gt e) ?_ λch n=>n.elim;rintro r c aq⟨rfl,rfl⟩ai;refine⟨λk e=>Jq e,_,by simp<;>rfl,?_⟩;refine Aa [0,1,2,6,8] [d] sr (Y [0,1,2,6,7,8] [d] sr (Ba [0,1,2,6,7,8] [d] Du ?_));exact⟨(1,_),by simp,by simp,by simp only[aj,ah,Ee];exact Z⟩
 rw[aj,ah,Ee];refine Y [0,1,2,6,7,8,13] [d] sr (A0 rfl (λh1=>absurd h1 G8) (λh1=>?_));refine A6 (Bn 4 sr ?_);refine D0 cB func284 rfl kr rfl rfl rfl sr (λk o e=>B5 gt e) ?_ λch n=>n.elim;rintro r c aq⟨rfl,rfl⟩ai;refine⟨λk e=>Jq e,_,by simp<;>rfl,?_⟩;refine Aa [0,1,2,6] [d] sr (Ah (C3 (λx:Nat × Nat=>⟨[(0,V.sl d v 1 l.length),(1,V.i l.length),(2,.fc f us vs),(6,V.i (w x.1))],[(d,⟨v,1,3,B⟩)],x.2,63⟩) (λx=>x.1<=1) (λx=>1-x.1) (0,_) sm (by simp only[hw0];exact Z) ?_));rintro⟨k,az⟩e;simp only at e|-;refine J ?_
 obtain rfl|rfl:k=0\/k=1:=by omega
 .rw[hw0];refine Y [0,1,2,6,30] [d] sr ?_
  refine Cu (λh2=>?_) λh2=>?_
  .have aw:20<l.length:=by simp at h2;omega
   have ak:(20:Int)<l.length:=om;refine Ah (Y [0,1,2,6,7,8] [d] Du (J (Ah (C3 (λnx:Nat=>⟨[(0,V.sl d v 1 l.length),(1,V.i l.length),(2,.fc f us vs),(6,V.i 20),(7,V.i 0),(8,V.i 40)],[(d,⟨v,1,3,B⟩)],nx,63⟩) (λ_ =>True) (λ_ =>0) _ trivial Z ?_))));intro a4 _;refine J (Y [0,1,2,6,7,8,35] [d] sr ?_);refine A0 rfl (λh3=>absurd h3 G8) λh3=>?_;refine A6 (J (Y [0,1,2,6,7,9] [d] Du (Y [0,1,2,6,7,9,54] [d] sr ?_)));refine A0 rfl (λh4=>?_) λh4=>absurd h4 G8;refine Mr 5 sr (D0 (cC aw) func356 rfl kr rfl rfl rfl sr (λk o e=>B5 gt e) ?_ (λch n=>n.elim));rintro r c a1⟨rfl,rfl⟩ay;refine⟨λk e=>Jq e,_,by simp<;>rfl,?_⟩;refine Aa [0,1,2,6] [d] sr (Ba [0,1,2,6] [d] Du ?_);exact⟨(1,_),by simp,by simp,by simp only[Ee];exact Z⟩
  .refine V9 ae (A6 ?_);exact⟨by simp only;omega,.tup [],_,by simp[results341],λk o e=>B5 gt e,rfl,rfl⟩
 .rw[Ee];refine Y [0,1,2,6,30] [d] sr (A0 rfl (λh2=>absurd h2 G8) (λh2=>?_));refine V9 ae (A6 ?_);exact⟨by simp only;omega,.tup [],_,by simp[results341],λk o e=>B5 gt e,rfl,rfl⟩
def A6d(d v:Nat)(l:List Int)(f:FuncId)(us vs:List V)(cmp:Int->Int->Int)(j:l.length<20\/(l.length<40/\∀x∈l.drop 20,∀y∈l,0<=cmp x y))
  (g:∀a∈l,∀b∈l,Yz G0 prog (.fc f us vs) [.i a,.i b] (λr=>r=.i (cmp a b))):
  Qv prog 341 [.sl d v 1 l.length,.i l.length,.fc f us vs] [(d,⟨v,1,3,Av l⟩)] (λr c=>r=.tup []/\c= [(d,⟨v,1,3,Av (Hb cmp l)⟩)]) (λ_ =>False):=by
 rcases Cl l.length 20 with h|h
 .exact A0w d v l f us vs cmp h g
 .exact A0x d v l f us vs cmp h (j.elim (λe=>absurd e om) And.left) (j.elim (λe=>absurd e om) And.right) g
def All(d v:Nat)(l:List Int)(f:FuncId)(us vs:List V)(cmp:Int->Int->Int)(t:l.length<20\/(l.length<40/\∀x∈l.drop 20,∀y∈l,0<=cmp x y))
  (s:∀a∈l,∀b∈l,Yz G0 prog (.fc f us vs) [.i a,.i b] (λr=>r=.i (cmp a b))):
  Qv prog 320 [.sl d v 1 l.length,.fc f us vs] [(d,⟨v,1,3,Av l⟩)] (λr c=>r=.tup []/\c= [(d,⟨v,1,3,Av (Hb cmp l)⟩)]) (λ_ =>False):=by
 refine Ec func320 λw0 N0 m=>?_;refine Mr 4 sr (D0 (A6d d v l f us vs cmp t s) func341 rfl kr rfl rfl rfl sr (λk o g=>B5 gt g) ?_ (λch j=>j.elim));rintro r c n⟨rfl,rfl⟩h;refine⟨λk g=>Jq g,_,by simp<;>rfl,?_⟩;refine Aa [] [d] sr ?_;exact⟨by simp only;simp at h;omega,.tup [],_,by simp[results320],λk o g=>B5 gt g,rfl,rfl⟩
def Aux{l:List Int}(h:j+1<l.length):(P8 l j).Perm l:=by
 have:= @List.set_set_perm Int l (j+1) j h om;unfold P8
 rwa[Cs h,Cs (show j<l.length by omega)]
def Are(a:Int->Int->Int):∀(j:Nat)(l:List Int),j<l.length->(bub a j l).Perm l
 |0,l,_ =>.refl _
 |j+1,l,h=>by
  rw[bub]
  split
  .exact(Are a j _ (by rw[Ty];omega)).trans (Aux h)
  .exact .refl _
def Alm(a:Int->Int->Int)(l:List Int):∀k,k<l.length->(M7 a l k).Perm l
 |0,_ =>.refl _
 |k+1,h=>(Are a (k+1) _ (by rw[Od];exact h)).trans (Alm a l k om)
def Rm(c:Int->Int->Int)(l:List Int):(Hb c l).Perm l:=by
 cases l with
 |nil=>exact .refl _
 |cons a t=>exact Alm c _ _ sm
def Bj3(c:Int->Int->Int)(l:List Int)(K j:Nat):Prop:=∀a b,a<b->b<=K->b≠j->¬c (l.getD b 0) (l.getD a 0)<0
structure CmpOk(cmp:Int->Int->Int)(P:Int->Prop):Prop where
 asym:∀x y,P x->P y->cmp x y<0->¬cmp y x<0
 trans:∀x y z,P x->P y->P z->¬cmp y x<0->¬cmp z y<0->¬cmp z x<0
def Arf{l:List Int}(h:j+1<l.length)(i:Nat):(P8 l j).getD i 0=if i=j then l.getD (j+1) 0 else if i=j+1 then l.getD j 0 else l.getD i 0:=by
 unfold P8;simp only[List.getD,Lb,Hs]
 by_cases h1:i=j
 .subst h1;simp[show i<l.length by omega]
 .rw[I (Ab2 h1),I h1]
  by_cases h2:i=j+1
  .subst h2;simp[h]
  .rw[I (Ab2 h2),I h2]
def Axa{c:Int->Int->Int}{P:Int->Prop}(r:CmpOk c P){K:Nat}:∀(j:Nat)(l:List Int),j<=K->K<l.length->(∀x∈l,P x)->Bj3 c l K j->∀a b,a<b->b<=K->¬c ((bub c j l).getD b 0) ((bub c j l).getD a 0)<0
 |0,l,_,_,_,h=>λa b d k=>h a b d k om
 |j+1,l,hj,hK,hp,h=>by
  have m:∀i,i<l.length->P (l.getD i 0):=λi u=>Gz hp u 0
  rw[bub]
  by_cases e:c (l.getD (j+1) 0) (l.getD j 0)<0
  .rw[Ad e];have s:j+1<l.length:=om;refine Axa r j (P8 l j) om (by rw[Ty];omega) (λx t=>hp x (Ac7 s t)) ?_;intro a b d k f;rw[Arf s,Arf s,I f]
   by_cases n:b=j+1
   .rw[Ad n]
    by_cases g:a=j
    .rw[Ad g];exact r.asym _ _ (m _ om) (m _ om) e
    .rw[I g,I oM];exact h a j om om om
   .rw[I n]
    by_cases g:a=j
    .rw[Ad g];exact h (j+1) b om k om
    .rw[I g]
     by_cases o:a=j+1
     .rw[Ad o];exact h j b om k om
     .rw[I o];exact h a b d k om
  .rw[I e];intro a b d k
   by_cases f:b=j+1
   .subst f
    by_cases g:a=j
    .rw[g];exact e
    .exact r.trans _ _ _ (m _ om) (m _ om) (m _ om) (h a j om om om) e
   .exact h a b d k f
def Arg{c:Int->Int->Int}{P:Int->Prop}(e:CmpOk c P){l:List Int}(hp:∀x∈l,P x):∀k,k<l.length->∀a b,a<b->b<=k->¬c ((M7 c l k).getD b 0) ((M7 c l k).getD a 0)<0
 |0,_ =>λa b d i=>by omega
 |k+1,g=>by
  rw[M7];refine Axa e (k+1) _ (A7 _) (by rw[Od];exact g) (λx f=>hp x (Wc k om f)) ?_;intro a b d i h;exact Arg e hp k om a b d om
def Ac8{c:Int->Int->Int}{P:Int->Prop}(g:CmpOk c P){l:List Int}(hp:∀x∈l,P x):(Hb c l).Pairwise (λa b=>¬c b a<0):=by
 rw[Hw];intro i j e f d;rw[Np]at e f;have:=Arg g hp (l.length-1) om i j d om;unfold Hb
 rwa[Cs (by rw[Od];exact f),Cs (by rw[Od];exact e)]at this
def A0y{c:Int->Int->Int}{P:Int->Prop}(f:CmpOk c P){l m:List Int}(hp:∀x∈l,P x)(e:l.Perm m)
  (j:∀x y,P x->P y->¬c x y<0->¬c y x<0->x=y):Hb c l=Hb c m:=by
 have d:∀x∈m,P x:=λx h=>hp x (e.mem_iff.2 h)
 refine S8 (le:=λa b=>¬c b a<0) ?_ (Ac8 f hp) (Ac8 f d) (((Rm c l).trans e).trans (Rm c m).symm);intro a b h1 h2 g i;exact j a b (hp a (Tz h1)) (d b (Tz h2)) i g
variable {i:Nat}{y:List Int}
def Ml(c x:List Int):Nat->Int
 |0=>0
 |k+1=>Ml c x k+c.getD k 0*x.getD k 0
def Ajl(n:Nat)(x:List Int):Prop:=x.length=n/\∀i,x.getD i 0=0\/x.getD i 0=1
def Bnd(c:List Int):Prop:=∀i,-1000000<=c.getD i 0/\c.getD i 0<=1000000
def Up{c x:List Int}(d:Bnd c)(a:Ajl n x):∀k:Nat,-1000000*(k:Int)<=Ml c x k/\Ml c x k<=1000000*(k:Int)
 |0=>by simp[Ml]
 |k+1=>by
  have ih:=Up d a k;have h1:=d k;rw[Ml];rcases a.2 k with h|h<;>rw[h]<;>omega
def Ahg{c x:List Int}(d:Bnd c)(a:Ajl n x):∀k,k<=1000->Aa8 c x k=Ml c x k
 |0,_ =>rfl
 |k+1,hk=>by
  have hb:=Up d a k;have h1:=d k;rw[Aa8,(Ahg d a k om),Ml]
  rcases a.2 k with h|h<;>rw[h]
  .rw[Int.mul_zero,Bp (x:=0) om om,Bp om oM]
  .rw[Int.mul_one,Bp (x:=c.getD k 0) om om,Bp om oM]
def Kf(x:List Int)(i:Nat)(b:Int)(k:Nat):(x.set i b).getD k 0=if k=i/\i<x.length then b else x.getD k 0:=by
 simp only[List.getD,Lb]
 by_cases h:i=k
 .subst h
  by_cases h2:i<x.length
  .simp[h2]
  .simp[h2]
 .rw[I h,I (λa=>h a.1.symm)]
def Abe{x:List Int}(c:List Int)(b:Int)(a:i<x.length):∀k,Ml c (x.set i b) k=Ml c x k+if i<k then c.getD i 0*(b-x.getD i 0)else 0
 |0=>by simp[Ml]
 |k+1=>by
  rw[Ml,Ml,Abe c b a k,Kf]
  by_cases h:k=i
  .subst h;rw[I (c:=k<k) om,Ad (c:=k=k/\k<x.length) ⟨rfl,a⟩,Ad (c:=k<k+1) om,Int.mul_sub];omega
  .rw[I (c:=k=i/\i<x.length) (λh2=>h h2.1)]
   by_cases h2:i<k
   .rw[Ad (c:=i<k) h2,Ad (c:=i<k+1) oM];omega
   .rw[I (c:=i<k) h2,I (c:=i<k+1) oM];omega
def Ahh{x:List Int}(c:List Int)(h:∀i,y.getD i 0=x.getD i 0):∀k,Ml c y k=Ml c x k
 |0=>rfl
 |k+1=>by rw[Ml,Ml,Ahh c h k,h k]
def Arh{x:List Int}(a:Ajl n x)(i:Nat){b:Int}(c:b=0\/b=1):Ajl n (x.set i b):=
 ⟨by rw[Hs];exact a.1,λk=>by rw[Kf];split;exact c;exact a.2 k⟩
def Io(f:Nat->Int):List Nat->Int
 | []=>0
 |i::t=>f i+Io f t
def Ari(f:Nat->Int)(l m:List Nat):Io f (l++m)=Io f l+Io f m:=by
 induction l with
 |nil=>simp[Io]
 |cons a t ih=>simp only[Co,Io,ih];omega
def Aln(f:Nat->Int){l m:List Nat}(h:l.Perm m):Io f l=Io f m:=by
 induction h with
 |nil=>rfl
 |cons a _ ih=>simp only[Io,ih]
 |swap a b l=>simp only[Io];omega
 |trans _ _ h1 h2=>rw[h1,h2]
def Ae8{f g:Nat->Int}{l:List Nat}(h:∀i∈l,f i<=g i):Io f l<=Io g l:=by
 induction l with
 |nil=>exact Int.le_refl _
 |cons a t ih=>
  have h1:=h a sm;have h2:=ih (λi c=>h i G8);simp only[Io];omega
def Anx{f:Nat->Int}{l:List Nat}(h:∀i∈l,-1000000<=f i/\f i<=1000000): -1000000*(l.length:Int)<=Io f l/\Io f l<=1000000*(l.length:Int):=by
 induction l with
 |nil=>simp[Io]
 |cons a t ih=>
  have h1:=h a sm;have h2:=ih (λi c=>h i G8);simp only[Io,A3];omega
def Axb(c:List Int)(l:Ajl n y):∀(t:List Nat){x:List Int},Ajl n x->t.Nodup->(∀i∈t,i<n)->(∀i∈t,x.getD i 0=0)->(∀i,i∉t->y.getD i 0=x.getD i 0)->
  Ml c y n=Ml c x n+Io (λi=>c.getD i 0*y.getD i 0) t
 | [],x,_,_,_,_,h=>by rw[Ahh c (λi=>h i sm) n];simp[Io]
 |i::t,x,j,g,o,r,h=>by
  have m:=o i sm;have d:i<x.length:=by rw[j.1];exact m
  have ih:=Axb c l t (x:=x.set i (y.getD i 0)) (Arh j i (l.2 i)) (Iq.1 g).2 (λk a=>o k G8)
   (λk a=>by rw[Kf,I (c:=k=i/\i<x.length) (λe=>((Iq.1 g).1) (e.1▸a))];exact r k G8)
   (λk a=>by
    rw[Kf]
    by_cases e:k=i
    .rw[Ad (c:=k=i/\i<x.length) ⟨e,d⟩,e]
    .rw[I (c:=k=i/\i<x.length) (λs=>e s.1)];exact h k G8)
  rw[ih,Abe c _ d n,Ad m,r i sm,Io,Int.sub_zero];omega
def gre(W:Nat->Bool)(v:Nat->Int):Int->List Nat->Int
 |_,[]=>0
 |r,i::t=>if W i=true then(if r<=0 then gre W v r t else v i+gre W v (r-1) t)else v i+gre W v r t
def Ahi{W:Nat->Bool}{v:Nat->Int}{M:Int}(a:0<=M):∀(t:List Nat)(r:Int),0<r->(∀i∈t,v i<=M)->gre W v r t<=M+gre W v (r-1) t
 | [],r,_,_ =>by simp[gre];exact a
 |i::t,r,f,d=>by
  have h1:=d i sm;have h2:∀k∈t,v k<=M:=λk g=>d k G8
  rw[gre,gre]
  by_cases e:W i=true
  .simp only[Ad e];rw[I oM]
   by_cases c:r-1<=0
   .rw[Ad c];omega
   .rw[I c];have:=Ahi (W:=W) a t (r-1) om h2;omega
  .simp only[I e];have:=Ahi (W:=W) a t r f h2;omega
def Bcc{f:Nat->Int}{l:List Nat}(h:∀i∈l,0<=f i):0<=Io f l:=by
 induction l with
 |nil=>exact Int.le_refl _
 |cons a t ih=>
  have h1:=h a sm;have h2:=ih (λi c=>h i G8);simp only[Io];omega
def Ahj{W:Nat->Bool}{v y:Nat->Int}(d:∀i,y i=0\/y i=1):∀(t:List Nat)(r:Int),t.Pairwise (λa b=>v b<=v a)->(∀i∈t,0<v i)->Io (λi=>if W i=true then y i else 0) t<=r->Io (λi=>v i*y i) t<=gre W v r t
 | [],r,_,_,_ =>by simp[gre,Io]
 |i::t,r,hp,g,e=>by
  have h1:=g i sm;have h2:∀k∈t,0<v k:=λk l=>g k G8
  have c:=(Nb.1 hp);have m:0<=Io (λi=>if W i=true then y i else 0) t:=Bcc (λk _ =>by split;rcases d k with h|h<;>omega;omega);simp only[Io]at e|-;rw[gre]
  by_cases j:W i=true
  .simp only[Ad j]at e|-
   by_cases f:r<=0
   .rw[Ad f];have ih:=Ahj (W:=W) d t r c.2 h2
    rcases d i with h|h<;>rw[h]at e|-
    .have:=ih oM;omega
    .omega
   .rw[I f]
    rcases d i with h|h<;>rw[h]at e|-
    .have ih:=Ahj (W:=W) d t r c.2 h2 om;have:=Ahi (W:=W) (M:=v i) om t r om c.1;omega
    .have ih:=Ahj (W:=W) d t (r-1) c.2 h2 om;omega
  .simp only[I j]at e|-;have ih:=Ahj (W:=W) d t r c.2 h2 om;rcases d i with h|h<;>rw[h]<;>omega
variable {free:List Int}
def Sz(c:List Int)(a b:Int):Int:=IntKind.i64.wrap (c.getD b.toNat 0-c.getD a.toNat 0)
def Bcd(c:List Int)(i k:List V)(pr:i.all V.pureE=true)(pf:k.all V.pureE=true)(a b:Int)(m:0<=a/\a<c.length)(o:0<=b/\b<c.length):
  AE 321 [.i a,.i b,.rp (.agg [.ro 1 (Av c),.ro 3 i,.ro 1 k])] (.i (Sz c a b)):=by
 obtain⟨h,rfl⟩:=Cr m.1;obtain⟨b',rfl⟩:=Cr o.1;have d:h<c.length:=om;have g:b'<c.length:=om;have l:=Dn d;have n:=Dn g;have lv:=A4 c;have pv:=Af c;unfold Sz;simp only[Dh];generalize c.getD h 0=va,c.getD b' 0=vb,Av c=j at*;have e:h<j.length:=om;have f:b'<j.length:=om;refine Aq func321 λw0 N0=>?_;refine Y [0,1,2] [] sr (Do [(0,[]),(2,[]),(5,[]),(7,[]),(1,[]),(3,[]),(4,[]),(6,[]),(8,[]),(9,[]),(10,[]),(11,[])] [5] [] Eb kr Du ?_);exact By sr (rfl)
def Ajm(c free:List Int)(a b:Int):Int:=IntKind.i64.wrap (c.getD (free.getD b.toNat 0).toNat 0-c.getD (free.getD a.toNat 0).toNat 0)
def Bce(c:List Int)(x fv:List V)(free:List Int)(pr:x.all V.pureE=true)(pf:fv.all V.pureE=true)(hf:∀i∈free,0<=i/\i<c.length)(a b:Int)(ha:0<=a/\a<free.length)(hb:0<=b/\b<free.length):
  AE 344 [.i a,.i b,.rp (.agg [.ro 1 (Av c),.ro 3 x,.ro 1 fv]),.rp (.ro 1 (Av free))] (.i (Ajm c free a b)):=by
 obtain⟨s,rfl⟩:=Cr ha.1;obtain⟨b',rfl⟩:=Cr hb.1;have f:s<free.length:=om;have d:b'<free.length:=om;have ga:=Dn f;have gb:=Dn d;have⟨o,ad⟩:=Gz hf f 0;have⟨l,ab⟩:=Gz hf d 0;unfold Ajm;simp only[Dh];generalize free.getD s 0=fa,free.getD b' 0=fb at*;obtain⟨n,rfl⟩:=Cr o;obtain⟨t,rfl⟩:=Cr l;have k:n<c.length:=om;have h:t<c.length:=om;have m:=Dn k;have w:=Dn h;have lv:=A4 c;have pv:=Af c;have lf:=A4 free;have aa:=Af free;simp only[Dh];generalize c.getD n 0=va,c.getD t 0=vb,Av c=y,Av free=z at*;have j:n<y.length:=om;have u:t<y.length:=om;have g:s<z.length:=om;have e:b'<z.length:=om;refine Aq func344 λw0 N0=>?_;refine Y [0,1,2,3] [] sr (Do [(0,[]),(3,[]),(8,[]),(11,[]),(1,[]),(2,[]),(4,[]),(5,[]),(6,[]),(7,[]),(9,[]),(10,[]),(12,[]),(13,[]),(14,[]),(15,[]),(16,[]),(17,[])] [6] [] Eb kr Du ?_);exact By sr (rfl)
def S9(f:Int):Int:=if f<0 then 0 else f
def mn0(c:Int):Int:=if 0<c then 0 else c
def xP(a:List Int):List Int:=a.map S9
def smP(a:List Rw)(x:List Int):List Int:=a.map λr=>Ye r.coef x
def Y8(g:Int->Int)(a:List Rw)(free:List Int):Nat->List Int
 |0=>List.replicate a.length 0
 |m+1=>(List.range a.length).map λr=>IntKind.i64.wrap ((Y8 g a free m).getD r 0+g ((a.getD r default).coef.getD (free.getD (free.length-(m+1)) 0).toNat 0))
def Abg(g:Int->Int)(a:List Rw)(free:List Int):∀m,(Y8 g a free m).length=a.length
 |0=>by simp[Y8]
 |m+1=>by simp[Y8]
def loL(g:Int->Int)(a:List Rw)(free:List Int):Mo:=(List.range (free.length+1)).map λd=>Y8 g a free (free.length-d)
def Si(g:Int->Int)(a:List Rw)(free:List Int):(loL g a free).length=free.length+1:=by simp[loL]
def Axd(g:Int->Int)(a:List Rw)(free:List Int):∀l∈loL g a free,l.length=a.length:=by
 intro l c;simp only[loL,Bl]at c;obtain⟨d,_,rfl⟩:=c;exact Abg g a free _
def Auy(g:Int->Int)(a:List Rw)(free:List Int)(h:d<=free.length):(loL g a free).getD d []=Y8 g a free (free.length-d):=by
 rw[Cs (by rw[Si];omega)];simp[loL]
def Rn(a free:List Int):Nat->List Int
 |0=>[]
 |k+1=>if 0<a.getD (free.getD k 0).toNat 0 then Rn a free k++[(k:Int)]else Rn a free k
def Abh(a free:List Int):∀k,(Rn a free k).length<=k
 |0=>A7 _
 |k+1=>by have:=Abh a free k;rw[Rn];split<;>simp<;>omega
def Abi(a free:List Int):∀k,∀i∈Rn a free k,0<=i/\i<k
 |0=>λi c=>by cases c
 |k+1=>λi c=>by
  have ih:=Abi a free k;rw[Rn]at c
  split at c
  .rcases Cn.1 c with h1|h1
   .have:=ih i h1;omega
   .have:=B3.1 h1;omega
  .have:=ih i c;omega
def nwS(c:List Int)(a:List Rw)(d free:List Int):Ss:=
 ⟨c,a,d,free,false,false,loL mn0 a free,loL S9 a free,A59 a,Hb (Ajm c free) (Rn c free free.length)⟩
def nwD(a:List Int)(c:List Rw)(d:List Int):Sd:=⟨xP d,Ye a (xP d),smP c (xP d),0,none,0,false⟩
def Ae9(a:List Rw):∀k,k<=a.length-> -1<=(Sy a k).1/\(Sy a k).1<a.length
 |0,_ =>by simp only[Sy];omega
 |k+1,h=>by
  have:=Ae9 a k om;rw[Sy]
  split
  .simp only;omega
  .exact this
structure WfP(vals:List Int)(rows:List Rw)(fx free:List Int):Prop where
 hr:rows.length<=1000
 hv:vals.length<=1000
 hx:fx.length=vals.length
 hc:∀r∈rows,r.coef.length=vals.length
 hf:∀i∈free,0<=i/\i<vals.length
 hfl:free.length<=24
 hpo:(Rn vals free free.length).length<20
def A6e{a:List Int}{c:List Rw}{d:List Int}(h:WfP a c d free):WfS (nwS a c d free)where
 hr:=h.hr
 hv:=h.hv
 hc:=h.hc
 hf:=h.hf
 hfl:=by have:=h.hfl;simp only[nwS];omega
 hl:=Si _ _ _
 hh:=Si _ _ _
 hlr:=Axd _ _ _
 hhr:=Axd _ _ _
 hw:=Ae9 c c.length (A7 _)
 ho:=λe f=>Abi a free free.length e (Tz f)
 hol:=by have:=h.hfl;have:=Abh a free free.length;simp only[nwS,Np];omega
def A6f{a:List Int}{c:List Rw}{d:List Int}(h:WfP a c d free):WfD (nwS a c d free) (nwD a c d):=
 ⟨by simp[nwD,nwS,xP,h.hx],by simp[nwD,nwS,smP]⟩
variable {u:Nat}
def Bgh{x:Code}(a:AS)(h1:AW P w0 N0 x (λe T=>e=.normal/\T.le a) S)(h2:∀T,T.le a->Q .normal T):AW P w0 N0 x Q S:=
 h1.mono λe T⟨he,hT⟩=>by subst he;exact h2 T hT
def loE(g:Int->Int)(a:List Rw)(free:List Int)(u:Nat):List V:=List.replicate u .nils++(Es (loL g a free)).drop u
def Bcf(g:Int->Int)(a:List Rw)(free:List Int):loE g a free (free.length+1)=List.replicate (free.length+1) .nils:=by
 unfold loE;rw[Ou (by rw[Lz,Si];omega),Ex]
def A6g(g:Int->Int)(a:List Rw)(free:List Int):loE g a free 0=Es (loL g a free):=by simp[loE]
def An0(g:Int->Int)(a:List Rw)(free:List Int)(h:u<=free.length+1):(loE g a free u).length=free.length+1:=by
 simp[loE,Si];omega
def Axf(g:Int->Int)(a:List Rw)(free:List Int)(h:d<u):Hj (loE g a free u) d=some .nils:=by
 rw[C2,loE,Bv (sG h)];simp[h]
def Bcg(g:Int->Int)(a:List Rw)(free:List Int)(h:d<=free.length):(Es (loL g a free))[d]? =some (.ro 1 (Av (Y8 g a free (free.length-d)))):=by
 rw[<- C2,Ahc (by rw[Si];omega),Auy g a free h]
def An1(g:Int->Int)(a:List Rw)(free:List Int)(h:d<=free.length):Hj (loE g a free d) d=some (.ro 1 (Av (Y8 g a free (free.length-d)))):=by
 rw[C2,loE,Br sm,Dk];simp only[List.length_replicate,F5,Ef];exact Bcg g a free h
def Axg(g:Int->Int)(a:List Rw)(free:List Int)(h:d<=free.length):(loE g a free (d+1)).set d (.ro 1 (Av (Y8 g a free (free.length-d))))=loE g a free d:=by
 apply La;intro i;rw[Lb,An0 g a free oM]
 by_cases e:d=i
 .subst e;rw[Ad rfl,Ad om,<- C2,An1 g a free h]
 .rw[I e];unfold loE
  by_cases c:i<d
  .rw[Bv so,Bv (by simp;omega)];simp[c,show i<d+1 by omega]
  .rw[Br so,Br so,Dk,Dk];simp only[List.length_replicate]
   congr 1;omega
def Arj(g:Int->Int)(a:List Rw)(free:List Int)(u:Nat):(loE g a free u).all V.pureE=true:=by
 rw[Ar];intro x c
 rcases Cn.1 c with h|h
 .have:=J2 h;subst this;rfl
 .exact Ar.1 (D7 _) x (Df h)
def Axh(g:Int->Int)(a:List Rw)(free:List Int){r:Nat}(hd:d<free.length)(e:r<a.length):
  (Av (Y8 g a free (free.length-d)))[r]? =some (.i (IntKind.i64.wrap ((Y8 g a free (free.length-(d+1))).getD r 0+g ((a.getD r default).coef.getD (free.getD d 0).toNat 0)))):=by
 obtain⟨m,c⟩:∃m,free.length-d=m+1:=⟨free.length-(d+1),by omega⟩;have h1:free.length-(d+1)=m:=om;have h2:free.length-(m+1)=d:=om;rw[c,h1,Y8,h2];simp[Av,e]
def Yg(g:List Int)(e:List Rw)(w free:List Int)(h:WfP g e w free):
  Qv prog 322 [.agg [.ro 1 (Av g),.ro 3 (Ha e),.ro 1 (Av w)],.ro 1 (Av free)] []
   (λr a7=>∃v xq sq,r=.bp 22 v 17 0 0/\a7=Ac6 (nwS g e w free) (nwD g e w) v xq sq) (λ_ =>False):=by
 have hfl:=h.hfl;have hpo:=h.hpo;have e0:=h.hr;have ex:=h.hv;have cm:=h.hx;have bo:=A0u (Av g) e (Av w) (Af _) (Af _) h.hr (λr hr=>by rw[h.hc r hr];exact h.hv);have lv:=A4 g;have lr:=N9 e;have lf:=A4 w;have ay:=A4 free;have pv:=Af g;have pr:=Gx e;have pf:=Af w;have c1:=Af free;have d6:=λ(k:Nat)(h:k<w.length)=>Dn h
 have b1:=λ(k:Nat)(h:k<e.length)=>Aba h
 have a4:=λ(k:Nat)(h:k<free.length)=>Dn h
 have ei:=λ(k:Nat)(h:k<g.length)=>Dn h
 have dr:(g.length:Int)<=9223372036854775807:=om;have da:8*(g.length:Int)<=281474976710656:=om;have bf:(e.length:Int)<=9223372036854775807:=om;have bi:8*(e.length:Int)<=281474976710656:=om;have a1:(Av (xP w)).length=g.length:=by rw[A4,xP,D9];exact cm
 have ck:(xP w).length=g.length:=by rw[xP,D9];exact cm
 have de:∀k,k<w.length->(Av (xP w))[k]? =some (.i (S9 (w.getD k 0))):=λk hk=>by rw[Cs hk];simp[Av,xP,hk]
 have cc:=Aha g (xP w) om om;have d7:=λ(k:Nat)(hk:k<e.length)=>Aha (e.getD k default).coef (xP w) (by rw[Gz h.hc hk default];omega) (by rw[Gz h.hc hk default];omega)
 have dl:=λ(k:Nat)=>Af (e.getD k default).coef
 have bk:=Af (xP w);have cx:=Af (xP w);have ef:(Av (smP e (xP w))).length=e.length:=by rw[A4,smP,D9]
 have ca:(smP e (xP w)).length=e.length:=by rw[smP,D9]
 have dq:∀k,k<e.length->(Av (smP e (xP w)))[k]? =some (.i (Ye (e.getD k default).coef (xP w))):=λk hk=>by rw[Cs hk];simp[Av,smP,hk]
 have cq:IntKind.i64.wrap ((free.length:Int)+1)=(free.length:Int)+1:=Bp om om;have b3:(free.length:Int)+1<=9223372036854775807:=om;have bv:24*((free.length:Int)+1)<=281474976710656:=om;have bq:(0:Int)<=(free.length:Int)+1:=om;have df:∀m,(Av (Y8 mn0 e free m)).all V.pureE=true:=λm=>Af _
 have dh:∀m,(Av (Y8 S9 e free m)).all V.pureE=true:=λm=>Af _
 have ce:∀m,(Av (Y8 mn0 e free m)).length=e.length:=λm=>by rw[A4,Abg]
 have bs:∀m,(Av (Y8 S9 e free m)).length=e.length:=λm=>by rw[A4,Abg]
 have b4:=Af (smP e (xP w));have dm:∀a,mn0 a=if 0<a then 0 else a:=λa=>rfl
 have co:∀a,S9 a=if a<0 then 0 else a:=λa=>rfl
 have ar:=Abi g free free.length;generalize al:Rn g free=ok at*;unfold Ac6 srC nwS nwD;simp only[ck,ca,al];generalize A59 e=wd at*;generalize bm:Av g=vv at*;generalize Ha e=rw,Av w=fv at*;generalize b6:Av free=s at*;refine Ec func322 λw0 N0 j=>?_;refine Y [2,3] [2,3] sr (J (Di [(0,[22]),(1,[22]),(2,[22]),(3,[]),(4,[]),(5,[]),(6,[])] Eb kr ?_));refine Ci 3 sr (B4 (λhg=>bo) func342 ?_);refine Dj [2,3,5] [2,3,22] sr ?_;refine Y [2,3,5] [2,3,22,27] Du (J (A9 [31,32,33] sr (Ah ?_)));generalize e4:Av (xP w)=xv at*;refine Bu (λk nx=>⟨[(2,V.bp 2 j 3 0 0),(3,V.bp 3 (j+1) 1 0 0),(5,V.bp 22 (j+8) 17 0 0),(31,V.ro 1 fv),(32,V.i fv.length),(33,V.i k)],[(2,⟨j,3,326,[V.agg [V.ro 1 vv,V.ro 3 rw,V.ro 1 fv]]⟩),(3,⟨j+1,1,25,[V.ro 1 s]⟩),(22,⟨j+8,17,455,[V.agg [V.ro 1 vv,V.ro 3 rw,V.ro 1 fv,V.ro 1 s,V.bool false,V.bool false,V.sl 27 (j+14) 1 g.length,V.i 0,V.nils,V.nils,V.nils,V.i wd,V.nils,V.i 0,V.nils,V.i 0,V.bool false]]⟩),(27,⟨j+14,1,3,E9 xv (.i 0) k⟩)],nx,222⟩) (λk=>True) g.length _ trivial (by rw[H3,a1];exact Z) ?_;intro k nx hk hI;have bb:=I3 xv (.i 0) k om;refine Y [2,3,5,31,32,33,34] [2,3,22,27] sr (J ?_)
 refine Cu (λh1=>?_) λh1=>?_
 .have n:k<w.length:=by simp at h1;omega
  have aa:k<fv.length:=om;have a8:k<g.length:=om;have ga:=d6 k n;have Ee:=A5 (k:=k) om;have aw:=de k n;have eh:=co (w.getD k 0);generalize w.getD k 0=f at*;rw[eh]at aw;have ag:=I5 xv (.i 0) k om aw;have ao:Hj (E9 xv (.i 0) k) k=some (.i 0):=I4 xv _ k om;have af:(E9 xv (.i 0) k).length=g.length:=om;generalize E9 xv (.i 0) k=row at ao ag bb af|-;refine J (Ah (Y [2,3,5,6,7,31,32,33] [2,3,22,27] (by simp[ga,aa]<;>rfl) (Ba [2,3,5,31,32,33] [2,3,22,27] (by simp[a8,ao,ag]<;>rfl) (Cw [] (by simp[Ee]<;>rfl) ?_))));exact⟨a8,trivial,_,Z⟩
 .refine A6 ?_;have aj:k=g.length:=sO h1
  rw[aj,Jm xv (.i 0) g.length oM];generalize Ye g (xP w)=ah at*;refine J (Ir [7] Eb ?_);refine F6 [(0,[]),(1,[]),(3,[]),(4,[]),(5,[]),(2,[]),(6,[])] kr sr ?_
  refine Hm (i:=7) (ks:=[]) kr rfl sm (I9 sm cc func343 rfl kr sr rfl rfl sr (by simp[a1,bk]<;>rfl) rfl sr) ?_;refine F6 [(8,[]),(9,[]),(10,[])] kr sr ?_
  refine H4 [2,3,5] [2,3,22,27] kr sr ?_;refine Y [2,3,5] [2,3,22,27,61] (by simp[bf,bi,lr]<;>rfl) (J (A9 [65,66,67] sr (Ah ?_)));generalize er:Av (smP e (xP w))=z at*;refine Bu (λk2 t=>⟨[(2,V.bp 2 j 3 0 0),(3,V.bp 3 (j+1) 1 0 0),(5,V.bp 22 (j+8) 17 0 0),(65,.ro 3 rw),(66,.i rw.length),(67,.i k2)],[(2,⟨j,3,326,[V.agg [V.ro 1 vv,V.ro 3 rw,V.ro 1 fv]]⟩),(3,⟨j+1,1,25,[V.ro 1 s]⟩),(22,⟨j+8,17,455,[V.agg [V.ro 1 vv,V.ro 3 rw,V.ro 1 fv,V.ro 1 s,V.bool false,V.bool false,V.sl 27 (j+14) 1 g.length,V.i ah,V.sl 61 (nx+1+11+4) 1 e.length,V.nils,V.nils,V.i wd,V.nils,V.i 0,V.nils,V.i 0,V.bool false]]⟩),(27,⟨j+14,1,3,xv⟩),(61,⟨(nx+1+11+4),1,3,E9 z (.i 0) k2⟩)],t,222⟩) (λk=>True) e.length _ trivial (by rw[H3,ef];exact Z) ?_;intro k2 t eu ew;have bb:=I3 z (.i 0) k2 om;refine Y [2,3,5,65,66,67,68] [2,3,22,27,61] sr (J ?_)
  refine Cu (λh2=>?_) λh2=>?_
  .have n:k2<e.length:=by simp at h2;omega
   have aa:k2<rw.length:=om;have ga:=b1 k2 n;have Ee:=A5 (k:=k2) om;have aw:=dq k2 n;have ai:=d7 k2 n;have bj:=dl k2;generalize e.getD k2 default=r at*;have⟨cf,eb,cz⟩:=r;simp only at ga aw ai bj;generalize Av cf=cv,Ye cf (xP w)=e3 at*;have ag:=I5 z (.i 0) k2 om aw;have ao:Hj (E9 z (.i 0) k2) k2=some (.i 0):=I4 z _ k2 om;have af:(E9 z (.i 0) k2).length=e.length:=om;refine J (Ah (Y [2,3,5,8,9,65,66,67] [2,3,9,22,27,61] (by simp[ga,aa]<;>rfl) ?_));refine Bgh ⟨[(2,V.bp 2 j 3 0 0),(3,V.bp 3 (j+1) 1 0 0),(5,V.bp 22 (j+8) 17 0 0),(65,.ro 3 rw),(66,.i rw.length),(67,.i k2)],[(2,⟨j,3,326,[V.agg [V.ro 1 vv,V.ro 3 rw,V.ro 1 fv]]⟩),(3,⟨j+1,1,25,[V.ro 1 s]⟩),(22,⟨j+8,17,455,[V.agg [V.ro 1 vv,V.ro 3 rw,V.ro 1 fv,V.ro 1 s,V.bool false,V.bool false,V.sl 27 (j+14) 1 g.length,V.i ah,V.sl 61 (nx+1+11+4) 1 e.length,V.nils,V.nils,V.i wd,V.nils,V.i 0,V.nils,V.i 0,V.bool false]]⟩),(27,⟨j+14,1,3,xv⟩),(61,⟨(nx+1+11+4),1,3,E9 z (.i 0) (k2+1)⟩)],t+1+6+14,222⟩ ?g1 λT hT=>Uz hT ?g2
   case g1=>
    rw[<- ag];generalize E9 z (.i 0) k2=row at ao ag bb af|-;refine Ir [11] Eb ?_;refine F6 [(0,[]),(1,[]),(2,[]),(4,[]),(5,[]),(7,[]),(8,[]),(9,[]),(6,[]),(10,[])] kr sr ?_
    refine Pm [3,11] kr ?_;intro i hi;simp only[B8,Dw,or_false]at hi
    rcases hi with rfl|rfl
    .refine⟨_,_,rfl,O2 sr,?_⟩;refine Hm (i:=11) (ks:=[]) kr rfl sm (I9 sm ai func343 rfl kr sr rfl rfl sr (by simp[a1,bk]<;>rfl) rfl sr) ?_;refine F6 [(12,[]),(13,[])] kr (by simp[n,ao]<;>rfl) ?_
     refine H4 [2,3,5,65,66,67] [2,3,22,27,61] kr sr ?_;exact⟨rfl,Z⟩
    .refine⟨_,_,rfl,I9 sm ai func343 rfl kr sr rfl rfl sr (by simp[a1,bk]<;>rfl) rfl sr,?_⟩;refine F6 [(3,[]),(12,[]),(13,[])] kr (by simp[n,ao]<;>rfl) ?_
     refine H4 [2,3,5,65,66,67] [2,3,22,27,61] kr sr ?_;exact⟨rfl,Z⟩
   refine Cw [] (by simp[Ee]<;>rfl) ?_;exact⟨n,trivial,_,Z⟩
  .refine A6 ?_;have aj:k2=e.length:=sO h2
   rw[aj,Jm z (.i 0) e.length oM];refine Y [2,3,5,10] [2,3,22,27,61] (by simp[ay]<;>rfl) (Y [2,3,5,10] [2,3,22,27,61,91] (by simp[cq,b3,bv,bq]<;>rfl) (Y [2,3,5,10] [2,3,22,27,61,91,97] (by simp[cq,b3,bv,bq]<;>rfl) (J (A9 [11] sr (Ah ?_)))));have c6:((free.length+1:Nat):Int)-1=free.length:=om;refine C3 (λx:Nat × Nat=>⟨[(2,V.bp 2 j 3 0 0),(3,V.bp 3 (j+1) 1 0 0),(5,V.bp 22 (j+8) 17 0 0),(10,.i free.length),(11,.i ((x.1:Int)-1))],[(2,⟨j,3,326,[V.agg [V.ro 1 vv,V.ro 3 rw,V.ro 1 fv]]⟩),(3,⟨j+1,1,25,[V.ro 1 s]⟩),(22,⟨j+8,17,455,[V.agg [V.ro 1 vv,V.ro 3 rw,V.ro 1 fv,V.ro 1 s,V.bool false,V.bool false,V.sl 27 (j+14) 1 g.length,V.i ah,V.sl 61 (nx+1+11+4) 1 e.length,V.sl 91 (t+1+3+3) 1 (free.length+1),V.sl 97 (t+1+3+7+3) 1 (free.length+1),V.i wd,V.nils,V.i 0,V.nils,V.i 0,V.bool false]]⟩),(27,⟨j+14,1,3,xv⟩),(61,⟨(nx+1+11+4),1,3,z⟩),(91,⟨(t+1+3+3),1,25,loE mn0 e free x.1⟩),(97,⟨(t+1+3+7+3),1,25,loE S9 e free x.1⟩)],x.2,222⟩) (λx=>x.1<=free.length+1) (λx=>x.1) (free.length+1,_) (A7 _) (by simp only[Bcf,c6];exact Z) ?_;rintro⟨u,az⟩hu;simp only at hu|-;refine J (Y [2,3,5,10,11,102] [2,3,22,27,61,91,97] sr ?_)
   refine Cu (λh3=>?_) λh3=>?_
   .obtain⟨d,rfl⟩:∃d,u=d+1:=⟨u-1,by simp at h3;omega⟩;have ds:((d+1:Nat):Int)-1=(d:Int):=om;have cr:IntKind.i64.wrap ((d:Int)-1)=(d:Int)-1:=Bp om om;have cg:d<=free.length:=om;have bc:=Axg mn0 e free cg;have ba:=Axg S9 e free cg;have cu:=An0 mn0 e free hu;have cp:=An0 S9 e free hu;have d8:=Axf mn0 e free (show d<d+1 by omega);have dx:=Axf S9 e free (show d<d+1 by omega);have d0:=F8 (Arj mn0 e free (d+1));have du:=F8 (Arj S9 e free (d+1));have ed:=λ(h:d+1<=free.length)=>An1 mn0 e free h
    have d9:=λ(h:d+1<=free.length)=>An1 S9 e free h
    have a0:(d:Int)<(free.length:Int)+1:=om;have an:∀(a b:Nat)es y,((loE mn0 e free (d+1)).set d y).map (V.frz a b 1 es)=(loE mn0 e free (d+1)).set d (V.frz a b 1 es y):=λa b es y=>by rw[Oo,d0]
    have am:∀(a b:Nat)es y,((loE S9 e free (d+1)).set d y).map (V.frz a b 1 es)=(loE S9 e free (d+1)).set d (V.frz a b 1 es y):=λa b es y=>by rw[Oo,du]
    have ae:=F8 cx;have ad:=F8 b4;simp only[ds];generalize loE mn0 e free (d+1)=E1,loE S9 e free (d+1)=E2 at*;refine J (Ah (Do [(0,[]),(1,[]),(2,[]),(4,[]),(5,[]),(3,[113]),(6,[113]),(7,[]),(8,[]),(9,[]),(10,[])] [2,3,5,10,11] [2,3,22,27,61,91,97,113] Eb kr (by simp[lr,bf,bi,d8,a0]<;>rfl) ?_));refine Do [(0,[]),(1,[]),(2,[]),(4,[]),(5,[]),(3,[123]),(6,[123]),(7,[]),(8,[]),(9,[]),(10,[])] [2,3,5,10,11] [2,3,22,27,61,91,97,113,123] Eb kr (by simp[lr,bf,bi,dx,a0]<;>rfl) ?_;refine J (A9 [127] sr ?_)
    refine C1 (λh4=>?_) λh4=>?_
    .refine A6 ?_;have ab:d=free.length:=sO h4
     have d5:Av (Y8 mn0 e free (free.length-d))=List.replicate e.length (.i 0):=by rw[ab,F5];simp[Y8,Av]
     have dd:Av (Y8 S9 e free (free.length-d))=List.replicate e.length (.i 0):=by rw[ab,F5];simp[Y8,Av]
     rw[d5]at bc;rw[dd]at ba;refine Bw 113 [2,3,5,10,11] [2,3,22,27,61,91,97,123] (by simp[an,am,ae,ad]<;>rfl) (Bw 123 [2,3,5,10,11] [2,3,22,27,61,91,97] (by simp[an,am,ae,ad]<;>rfl) (Cw [] (by simp[cr]<;>rfl) ?_));exact⟨(d,_),by simp only;omega,by simp only;omega,by simp only[<- bc,<- ba];exact Z⟩
    have ab:d<free.length:=sO h4
    have b2:=λ(r:Nat)(hr:r<e.length)=>Axh mn0 e free ab hr
    have b5:=λ(r:Nat)(hr:r<e.length)=>Axh S9 e free ab hr
    have b8:=ed om;have b9:=d9 om;have bl:=df (free.length-d);have ct:=dh (free.length-d);have bu:=ce (free.length-d);have b7:=bs (free.length-d);have ek:=ce (free.length-(d+1));have ej:=bs (free.length-(d+1));have bx:=λ(r:Nat)(hr:r<e.length)=>Dn (l:=Y8 mn0 e free (free.length-(d+1))) (k:=r) (by rw[Abg];exact hr)
    have bt:=λ(r:Nat)(hr:r<e.length)=>Dn (l:=Y8 S9 e free (free.length-(d+1))) (k:=r) (by rw[Abg];exact hr)
    have dz:=a4 d ab;have⟨bh,d3⟩:=Gz h.hf ab 0;generalize Y8 mn0 e free (free.length-(d+1))=bd at*;generalize Y8 S9 e free (free.length-(d+1))=ax at*;generalize Av (Y8 mn0 e free (free.length-d))=lo,Av (Y8 S9 e free (free.length-d))=hi,free.getD d 0=dt at*;obtain⟨fi,rfl⟩:=Cr bh;simp only[Dh]at b2 b5;have a9:IntKind.i64.wrap ((d:Int)+1)=(d:Int)+1:=Bp om om;have bg:(0:Int)<=(d:Int)+1/\d<free.length:=om;have dy:∀y,Hj (E1.set d y) d=some y:=λy=>by rw[C2,Oj oM]
    have dn:∀y,Hj (E2.set d y) d=some y:=λy=>by rw[C2,Oj oM]
    have dj:∀y,Hj (E1.set d y) (d+1)=some (.ro 1 (Av bd)):=λy=>by rw[C2,Ie om,<- C2];exact b8
    have dw:∀y,Hj (E2.set d y) (d+1)=some (.ro 1 (Av ax)):=λy=>by rw[C2,Ie om,<- C2];exact b9
    refine Y [2,3,5,10,11,129,130,131] [2,3,22,27,61,91,97,113,123] sr (Ah (Bu (λr ci=>⟨[(2,V.bp 2 j 3 0 0),(3,V.bp 3 (j+1) 1 0 0),(5,V.bp 22 (j+8) 17 0 0),(10,.i free.length),(11,.i d),(129,.ro 3 rw),(130,.i rw.length),(131,.i r)],[(2,⟨j,3,326,[V.agg [V.ro 1 vv,V.ro 3 rw,V.ro 1 fv]]⟩),(3,⟨j+1,1,25,[V.ro 1 s]⟩),(22,⟨j+8,17,455,[V.agg [V.ro 1 vv,V.ro 3 rw,V.ro 1 fv,V.ro 1 s,V.bool false,V.bool false,V.sl 27 (j+14) 1 g.length,V.i ah,V.sl 61 (nx+1+11+4) 1 e.length,V.sl 91 (t+1+3+3) 1 (free.length+1),V.sl 97 (t+1+3+7+3) 1 (free.length+1),V.i wd,V.nils,V.i 0,V.nils,V.i 0,V.bool false]]⟩),(27,⟨j+14,1,3,xv⟩),(61,⟨(nx+1+11+4),1,3,z⟩),(91,⟨(t+1+3+3),1,25,E1.set d (.sl 113 (az+2+8) 1 e.length)⟩),(97,⟨(t+1+3+7+3),1,25,E2.set d (.sl 123 (az+2+11+8) 1 e.length)⟩),(113,⟨(az+2+8),1,3,E9 lo (.i 0) r⟩),(123,⟨(az+2+11+8),1,3,E9 hi (.i 0) r⟩)],ci,222⟩) (λk=>True) e.length _ trivial (by rw[H3,H3,bu,b7];exact Z) ?_));intro r ci hr ey;refine Y [2,3,5,10,11,129,130,131,132] [2,3,22,27,61,91,97,113,123] sr (J ?_)
    refine Cu (λh5=>?_) λh5=>?_
    .have n:r<e.length:=by simp at h5;omega
     have aa:r<rw.length:=om;have ga:=b1 r n;have Ee:=A5 (k:=r) om;have c5:=Gz h.hc n default;have aq:=b2 r n;have au:=b5 r n;have ee:=bx r n;have c0:=bt r n;generalize e.getD r default=rr at*;have⟨cf,eb,cz⟩:=rr;simp only at ga aq au c5;have a2:fi<cf.length:=om;have gc:=Dn a2;have ez:=A4 cf;have ep:=Af cf;generalize Av cf=cv at*;have cd:fi<cv.length:=om;generalize cf.getD fi 0=c,bd.getD r 0=l0,ax.getD r 0=h0,Av bd=d1,Av ax=c9 at*;rw[dm]at aq;rw[co]at au;have c8:=I5 lo (.i 0) r om aq;have ec:=I5 hi (.i 0) r om au;have db:Hj (E9 lo (.i 0) r) r=some (.i 0):=I4 lo _ r om;have dg:Hj (E9 hi (.i 0) r) r=some (.i 0):=I4 hi _ r om;have ea:(E9 lo (.i 0) r).length=e.length:=by rw[I3 lo _ r oM];omega
     have c4:(E9 hi (.i 0) r).length=e.length:=by rw[I3 hi _ r oM];omega
     generalize E9 lo (.i 0) r=em,E9 hi (.i 0) r=en at*;have c2:r<d1.length:=om;have dp:r<c9.length:=om;refine J (Ah (Y [2,3,5,10,11,12,13,129,130,131] [2,3,13,22,27,61,91,97,113,123] (by simp[ga,aa]<;>rfl) ?_));refine Do [(0,[]),(3,[]),(1,[]),(2,[]),(4,[]),(5,[]),(6,[]),(7,[]),(8,[])] [2,3,5,10,11,12,14,129,130,131] [2,3,22,27,61,91,97,113,123] Eb kr (by simp[dz,gc,cd,bg,ay]<;>rfl) ?_;refine Do [(0,[]),(1,[]),(2,[]),(4,[]),(7,[]),(8,[]),(9,[]),(10,[]),(12,[]),(13,[]),(16,[]),(19,[]),(20,[]),(3,[]),(5,[]),(6,[]),(11,[]),(14,[]),(15,[]),(17,[]),(18,[]),(21,[]),(22,[]),(23,[])] [2,3,5,10,11,12,14,129,130,131] [2,3,22,27,61,91,97,113,123] Eb kr (by simp[dy,dj,a0,bg,a9,ee,c2,n,db,c8]<;>rfl) ?_;refine R8 [(0,[]),(1,[]),(2,[]),(4,[]),(7,[]),(8,[]),(9,[]),(10,[]),(12,[]),(13,[]),(16,[]),(19,[]),(20,[]),(3,[]),(5,[]),(6,[]),(11,[]),(14,[]),(15,[]),(17,[]),(18,[]),(21,[]),(22,[]),(23,[])] [2,3,5,10,11,129,130,131] [2,3,22,27,61,91,97,113,123] Eb kr (by simp[dn,dw,a0,bg,a9,c0,dp,n,dg,ec]<;>rfl) ?_;refine Cw [] (by simp[Ee]<;>rfl) ?_;exact⟨n,trivial,_,Z⟩
    .refine A6 ?_;have aj:r=e.length:=sO h5
     rw[aj,Jm lo (.i 0) e.length om,Jm hi (.i 0) e.length oM];have c7:=F8 bl;have cb:=F8 ct;refine Bw 113 [2,3,5,10,11] [2,3,22,27,61,91,97,123] (by simp[an,am,ae,ad,cb,bl,bu]<;>rfl) (Bw 123 [2,3,5,10,11] [2,3,22,27,61,91,97] (by simp[an,am,ae,ad,ct,b7]<;>rfl) (Cw [] (by simp[cr]<;>rfl) ?_));exact⟨(d,_),by simp only;omega,by simp only;omega,by simp only[<- bc,<- ba];exact Z⟩
   .refine A6 ?_;have d4:u=0:=sO h3
    subst d4;simp only[A6g];have a3:=D7 (loL mn0 e free);have a6:=D7 (loL S9 e free);have bz:(Es (loL mn0 e free)).length=free.length+1:=by rw[Lz,Si]
    have bw:(Es (loL S9 e free)).length=free.length+1:=by rw[Lz,Si]
    have cj:∀k,ok (k+1)=if 0<g.getD (free.getD k 0).toNat 0 then ok k++[(k:Int)]else ok k:=λk=>by rw[<- al];rfl
    have cn:ok 0= []:=by rw[<- al];rfl
    have a5:∀k,(ok k).length<=k:=λk=>by rw[<- al];exact Abh g free k
    generalize di:Es (loL mn0 e free)=cl at*;generalize cy:Es (loL S9 e free)=be at*;refine Ni 22 12 100 1 3 [2,3,5] [2,3,22,27,61,91,97,100] sr ?_;refine J (A9 [191,192,193] (by simp[ay]<;>rfl) (Ah (C3 (λx:Nat × Nat × Nat=>⟨[(2,V.bp 2 j 3 0 0),(3,V.bp 3 (j+1) 1 0 0),(5,V.bp 22 (j+8) 17 0 0),(191,.ro 1 s),(192,.i s.length),(193,.i (x.1:Nat))],[(2,⟨j,3,326,[V.agg [V.ro 1 vv,V.ro 3 rw,V.ro 1 fv]]⟩),(3,⟨j+1,1,25,[V.ro 1 s]⟩),(22,⟨j+8,17,455,[V.agg [V.ro 1 vv,V.ro 3 rw,V.ro 1 fv,V.ro 1 s,V.bool false,V.bool false,V.sl 27 (j+14) 1 g.length,V.i ah,V.sl 61 (nx+1+11+4) 1 e.length,V.sl 91 (t+1+3+3) 1 (free.length+1),V.sl 97 (t+1+3+7+3) 1 (free.length+1),V.i wd,.sl 100 x.2.1 1 (ok x.1).length,V.i 0,V.nils,V.i 0,V.bool false]]⟩),(27,⟨j+14,1,3,xv⟩),(61,⟨(nx+1+11+4),1,3,z⟩),(91,⟨(t+1+3+3),1,25,cl⟩),(97,⟨(t+1+3+7+3),1,25,be⟩),(100,⟨x.2.1,1,3,Av (ok x.1)⟩)],x.2.2,222⟩) (λx=>x.1<=free.length) (λx=>free.length-x.1) (0,_,_) (Cg _) (by simp only[cn,ay];exact Z) ?_)));rintro⟨k,qv,et⟩eg;simp only at eg|-;refine Y [2,3,5,191,192,193,194] [2,3,22,27,61,91,97,100] sr (J ?_)
    refine Cu (λh6=>?_) λh6=>?_
    .have n:k<free.length:=by simp at h6;omega
     have aa:k<s.length:=om;have ga:=a4 k n;have Ee:=A5 (k:=k) om;have hs:=cj k;have e1:=a5 k;have⟨bh,d3⟩:=Gz h.hf n 0;generalize free.getD k 0=dt at*;obtain⟨fi,rfl⟩:=Cr bh;simp only[Dh]at hs;have a2:fi<g.length:=om;have gv:=ei fi a2;have cw:fi<vv.length:=om;generalize ok k=Lk at*;have c3:Lk.length+1<=maxLen/\(Lk.length+1)*8<=140737488355328:=⟨Ag (show Lk.length+1<=25 by omega) dc,by omega⟩;refine J (Ah (Y [2,3,5,15,16,191,192,193] [2,3,22,27,61,91,97,100] (by simp[ga,aa]<;>rfl) (Y [2,3,5,15,191,192,193,203] [2,3,22,27,61,91,97,100] (by simp[gv,cw]<;>rfl) ?_)))
     refine C1 (λh7=>?_) λh7=>?_
     .rw[Ad (sG h7)]at hs;refine Ba [2,3,5,191,192,193] [2,3,22,27,61,91,97,100] (by simp[c3]<;>rfl) (Cw [] (by simp[Ee]<;>rfl) ?_);exact⟨(k+1,_,_),n,by simp only;omega,by simp only[hs,Xh,A1,A3,Bo];exact Z⟩
     rw[I (sG h7)]at hs;refine Ba [2,3,5,191,192,193] [2,3,22,27,61,91,97,100] (by simp[Ee]<;>rfl) ?_;exact⟨(k+1,_,_),n,by simp only;omega,by simp only[hs];exact Z⟩
    .refine A6 ?_;have aj:k=free.length:=sO h6
     subst aj;have av:=F8 a3;have ak:=F8 a6;have dk:=Af (ok free.length);have b0:=F8 dk;have ae:=F8 cx;have ad:=F8 b4
     have bn:=All 100 qv (ok free.length) 344 [] [V.rp (V.agg [V.ro 1 vv,V.ro 3 rw,V.ro 1 fv]),V.rp (V.ro 1 s)] (Ajm g free) (.inl hpo) (λa ha b hb=>Aa5 (args:=[.i a,.i b]) (us:=[]) (vs:=[V.rp (V.agg [V.ro 1 vv,V.ro 3 rw,V.ro 1 fv]),V.rp (V.ro 1 s)]) (r:=.i (Ajm g free a b)) (by
      rw[<- bm,<- b6];exact Bce g rw fv free pr pf h.hf a b (ar a ha) (ar b hb)) func344 kr rfl)
     have br:=Af (Hb (Ajm g free) (ok free.length));have dv:(Av (Hb (Ajm g free) (ok free.length))).length=(ok free.length).length:=by rw[A4,Np]
     refine Bw 2 [2,3,5] [3,22,27,61,91,97,100] (by simp[ae,ad,av,ak,b0]<;>rfl) (Bw 3 [2,3,5] [22,27,61,91,97,100] (by simp[ae,ad,av,ak,b0]<;>rfl) (Bn 5 sr ?_));refine D0 bn func320 rfl kr rfl rfl rfl sr (λk o hk=>B5 gt hk) ?_ λch d2=>d2.elim;rintro r a7 e2⟨rfl,rfl⟩el;refine⟨λk hk=>Jq hk,_,by simp<;>rfl,?_⟩;refine Aa [5] [22,27,61,91,97,100] sr ?_;have eo:=F8 br;refine Bw 100 [5] [22,27,61,91,97] (by simp[ae,ad,av,ak,br,dv]<;>rfl) (Bw 91 [5] [22,27,61,97] (by simp[ae,ad,ak,a3,bz]<;>rfl) (Bw 97 [5] [22,27,61] (by simp[ae,ad,a6,bw]<;>rfl) (Y [4] [22,27,61] sr ?_)));exact Db j (Ea (A8 _ _) sr ⟨j+8,j+14,nx+1+11+4,rfl,rfl⟩ (λk o hk=>Fv (by simp[Eng.get,bV]) gt gt hk))
def Vz(a:List Int):Prop:=∀k,0<=a.getD k 0/\a.getD k 0<=1000000/\(12<=k->a.getD k 0=0)
def A6h(a:List Int)(i:Int):Bool:=decide (0<a.getD i.toNat 0)
def Ahl(a free:List Int):∀k,k<=free.length->(Rn a free k).length=((free.take k).filter (A6h a)).length
 |0,_ =>rfl
 |k+1,h=>by
  have hk:=h
  rw[Az hk,Kq,A1,<- Ahl a free k om,Rn,Cs hk]
  by_cases e:0<a.getD (free[k]).toNat 0
  .rw[Ad e,A1,Ii (by simpa[A6h]using e)];rfl
  .rw[I e,Ij (by simpa[A6h]using e)];rfl
def Alo{a:List Int}(hz:Vz a)(d:List Int):∀k,((Js d k).filter (A6h a)).length<=min k 12
 |0=>Cg _
 |k+1=>by
  have ih:=Alo hz d k
  rw[Js]
  split
  .rw[Kq,A1]
   by_cases e:A6h a (k:Int)=true
   .have h12:k<12:=by
     rcases Cl k 12 with h|h
     .exact h
     .exfalso;have e2:(0:Int)<a.getD k 0:=Jz e;rw[(hz k).2.2 h]at e2;exact absurd e2 dC
    rw[Ii e];simp only[List.filter_nil,A3,Bo];omega
   .rw[Ij e];simp only[List.filter_nil,Bo];omega
  .omega
def Ac9(d:List Int):∀(k j:Nat)(h:j<(Js d k).length),(j:Int)<=(Js d k)[j]
 |0,j,h=>absurd h (Nat.not_lt_zero _)
 |k+1,j,h=>by
  by_cases e:d.getD k 0<0
  .have er:Js d (k+1)=Js d k++[(k:Int)]:=by rw[Js,Ad e]
   simp only[er]at h|-
   rw[List.getElem_append]
   split
   .exact Ac9 d k j _
   .have:=Tx d k;simp only[A1,A3,Bo]at h;simp;omega
  .have er:Js d (k+1)=Js d k:=by rw[Js,I e]
   simp only[er]at h|-
   exact Ac9 d k j h
def A6i{a:List Int}{c:List Rw}{d:List Int}(e:c.length<=1000)(hv:a.length<=24)(hz:Vz a)(f:d.length=a.length)(g:∀r∈c,r.coef.length=a.length):WfP a c d (Fa d):=
 ⟨e,by omega,f,g,λi h=>by have:=Aa9 d d.length i h;omega,by have:=Tx d d.length;unfold Fa;omega,by rw[Ahl a _ _ (A7 _),Be];have:=Alo hz d d.length;unfold Fa;omega⟩
def A6j{a:List Int}{c:List Rw}{e:List Int}(d:Int->Int->Int)(h:WfP a c e free):WfP a c e (Hb d free):=
 ⟨h.hr,h.hv,h.hx,h.hc,λi f=>h.hf i (Tz f),by rw[Np];exact h.hfl,by have q:=h.hpo;rw[Ahl a _ _ (A7 _),Be]at q|-;rw[((Rm d free).filter _).length_eq];exact q⟩
def A6k{a d:List Int}(hz:Vz a)(hl:(Fa d).length<=24):(Fa d).length<20\/(Fa d).length<40/\∀x∈(Fa d).drop 20,∀y∈Fa d,0<=Sz a x y:=by
 refine .inr ⟨by omega,λx hx y _ =>?_⟩
 have⟨j,hj,e⟩:=R2.1 hx
 have q:=Ac9 d d.length (20+j) (by unfold Fa at hj;omega)
 have ex:(20+j:Int)<=x:=by rw[<- e];simpa[Fa]using q
 have zy:=hz y.toNat
 unfold Sz;rw[((hz x.toNat).2.2 om),Bp om om];omega
def Ahm(a:List Int)(c:List Rw)(d:List Int):Ss:={ nwS a c d (Fa d)with one:=true,once:=true}
def A0z(a:List Int)(c:List Rw)(d:List Int)(least:Int):Sd:=Hi (Ahm a c d) (Fa d).length 0 { nwD a c d with least:=least}
def Bch{a:List Int}{c:List Rw}{d:List Int}(h:WfP a c d (Fa d)):WfS (Ahm a c d):=
 have w:=A6e h
 ⟨w.hr,w.hv,w.hc,w.hf,w.hfl,w.hl,w.hh,w.hlr,w.hhr,w.hw,w.ho,w.hol⟩
def A6l(a:List Int)(c:List Rw)(d:List Int)(least:Int)(h:WfP a c d (Fa d)):
  AE 283 [.agg [.ro 1 (Av a),.ro 3 (Ha c),.ro 1 (Av d)],.i least] (bV (A0z a c d least).best):=by
 have hfl:=h.hfl;have al:=h.hv;have ak:=h.hx;have pf:=Af d;have f:=Bb9 (Av a) (Ha c) d (Af a) (Gx c) om;have i:=(Yg a c d (Fa d) h).q G0;have s:=A6f h;have e:=λv y t=>Ali (Ahm a c d) (Bch h) v y t { nwD a c d with least:=least} ⟨s.hx,s.hs⟩
 have aj:=Af (Fa d);have j:(Ahm a c d).free=Fa d:=rfl;rw[j]at e;unfold A0z;generalize am:Hi (Ahm a c d) (Fa d).length 0 { nwD a c d with least:=least}=VR at*;have⟨vx,ah,ae,u,m,ad,w⟩:=VR;have ar:=Af (nwD a c d).x;have ao:=Af (nwD a c d).sums;unfold Ahm at e;simp only[Ac6,srC]at i e;generalize nwD a c d=nd,nwS a c d (Fa d)=ns,Av (Fa d)=ai,Av a=vv,Ha c=rw,Av d=fv at*;refine Aq func283 λw0 N0=>?_;refine Y [1,2] [2] sr (J (A3p Eb ?_));refine A3o 0 1 kr rfl rfl (O2 sr) (O2 sr) (Agb 1 kr rfl (O2 sr) (Agb 2 kr rfl (Amy (λ_ =>f) func319 rfl kr sr rfl rfl sr sM sr) ?_)) (A3o 0 2 kr rfl rfl (O2 sr) (Amy (λ_ =>f) func319 rfl kr sr rfl rfl sr sM sr) (Agb 2 kr rfl (Amy (λ_ =>f) func319 rfl kr sr rfl rfl sr sM sr) ?_) (Agb 0 kr rfl (O2 sr) ?_))
 all_goals
  refine Bak 3 kr rfl (Azi (Aup _) i func322 rfl kr sr rfl rfl sr (λk o n=>by cases n) (λr g nx hR af=>?_)) ?_
  .obtain⟨v,y,t,rfl,rfl⟩:=hR;exact⟨λk n=>rfl,_,by simp<;>rfl⟩
  rintro S'⟨r,g,an,⟨v,y,t,rfl,rfl⟩,af,hS⟩;simp at hS;subst hS;refine Agb 4 kr rfl (O2 sr) (Bfk [1,5] [22,27,61] kr sr ?_);refine Y [5] [22,27,61] sr (Bn 1 sr ?_);refine D0 (e v y t) func323 rfl kr rfl rfl rfl sr (λk o n=>Fv gt gt gt n) ?_ λch aa=>aa.elim;rintro r g aq⟨rfl,rfl⟩ag;refine⟨λk n=>Kz n,_,by simp<;>rfl,?_⟩;refine Aa [5] [22,27,61] sr ?_;cases m with
  |none=>
   exact Y [4] [] Du (By sr rf)
  |some l=>
   have pl:=Af l;exact Y [4] [] Du (By Du rfl)
def grS(a:List Int)(c:List Rw)(d:List Int):Ss:=nwS a c d (Hb (Sz a) (Fa d))
def grD(a:List Int)(c:List Rw)(d:List Int):Sd:=Hi (grS a c d) (Hb (Sz a) (Fa d)).length 0 { nwD a c d with least:= -24000000}
def Ark(c:List Int)(d:List Rw)(e:List Int)(h:WfP c d e (Fa e))(hz:Vz c):
  AE 282 [.agg [.ro 1 (Av c),.ro 3 (Ha d),.ro 1 (Av e)]] (.tup [.i (grD c d e).most,.bool (grD c d e).found]):=by
 have hfl:=h.hfl;have au:=h.hv;have ar:=h.hx;have z:=Gx d;have w:=Aq6 (Av c) (Ha d) e (Af c) z om;have n:=A6j (Sz c) h;have l:=Yg c d e _ n;have ab:=A6e n;have u:=A6f n;have f:=λv xq sq=>Ali (grS c d e) ab v xq sq { nwD c d e with least:= -24000000} ⟨u.hx,u.hs⟩
 have aj:=Tu (Fa e);have ag:=Af (Hb (Sz c) (Fa e));have ai:(Av (Hb (Sz c) (Fa e))).length=(Fa e).length:=by rw[A4,Np]
 have m:(grS c d e).free=Hb (Sz c) (Fa e):=rfl;rw[m]at f;have s:=λq=>All 100 q (Fa e) 321 [] [V.rp (V.agg [.ro 1 (Av c),.ro 3 (Ha d),.ro 1 (Av e)])] (Sz c) (A6k hz h.hfl) (λa ha b hb=>Aa5 (args:=[.i a,.i b]) (us:=[]) (vs:=[V.rp (V.agg [.ro 1 (Av c),.ro 3 (Ha d),.ro 1 (Av e)])]) (r:=.i (Sz c a b)) (Bcd c (Ha d) (Av e) z (Af e) a b (h.hf a ha) (h.hf b hb)) func321 kr rfl)
 unfold grD;generalize av:Hi (grS c d e) (Hb (Sz c) (Fa e)).length 0 { nwD c d e with least:= -24000000}=VR at*;have⟨vx,al,af,x,ah,ad,y⟩:=VR;unfold grS at f;simp only[Ac6,srC]at l f;generalize nwD c d e=nd,nwS c d e (Hb (Sz c) (Fa e))=ns,Av (Hb (Sz c) (Fa e))=ao at*;have ay:=A4 (Fa e);generalize t:Av (Fa e)=aa at*;generalize Av c=vv,Ha d=rw,Av e=fv at*;refine Aq func282 λw0 N0=>?_;refine Y [1] [1] sr (Bn 1 sr ?_);refine M5 100 w func319 rfl kr rfl rfl rfl sr Du sr (Aa [1,4] [1,100] sr ?_);have ae:=F8 (show aa.all V.pureE=true by rw[<- t];exact Af _);refine Bw 1 [1,4] [100] Du (Bn 2 sr ?_);refine D0 (s _) func320 rfl kr rfl rfl rfl sr (λk o i=>B5 gt i) ?_ λch g=>g.elim;rintro r j aw⟨rfl,rfl⟩am;refine⟨λk i=>Jq i,_,by simp<;>rfl,?_⟩;refine Aa [1,4] [1,100] sr (Bw 100 [1,4] [] Du (Bn 2 sr ?_));refine D0 l func322 rfl kr rfl rfl rfl sr (λk o i=>by cases i) ?_ λch g=>g.elim;rintro r j ax⟨v,xq,sq,rfl,rfl⟩ak;refine⟨λk i=>rfl,_,by simp<;>rfl,?_⟩;refine Aa [5] [22,27,61] sr (A9 [] sr (Bn 1 sr ?_));refine D0 (f v xq sq) func323 rfl kr rfl rfl rfl sr (λk o i=>Fv gt gt gt i) ?_ λch g=>g.elim;rintro r j aq⟨rfl,rfl⟩an;refine⟨λk i=>Kz i,_,by simp<;>rfl,?_⟩;refine Aa [5] [22,27,61] sr (Do [(0,[]),(1,[]),(2,[]),(4,[]),(5,[]),(6,[]),(3,[]),(8,[]),(7,[]),(9,[])] [2,3] [] Eb kr sr ?_);exact By sr (rfl)
def A6m(c:List Int)(a:List Rw)(d:List Int):V:=
 if Ac5 c a d≠0 then .tup [.nils,.i 0,.i (Ac5 c a d)]
 else if a.any (λr=>decide (r.mx<r.mn))=true then .tup [.nils,.i 0,.i 14]
 else if(grD c a d).found=false then .tup [.nils,.i 0,.i 14]
 else .tup [bV (A0z c a d (grD c a d).most).best,.i (grD c a d).most,.i 0]
def A6n{a:List Int}{c:List Rw}{d:List Int}(h:Ac5 a c d=0)(f:Vz a):WfP a c d (Fa d):=by
 unfold Ac5 at h
 split at h
 .omega
 .rename_i h1
  split at h
  .omega
  .rename_i h2
   split at h
   .omega
   .rename_i g
    exact A6i om om f om (λr i=>by
     by_cases e:r.coef.length=a.length
     .exact e
     .exact absurd (Ew.2 ⟨r,i,by simpa using e⟩) g)
def A00(c:List Int)(a:List Rw)(e:List Int)(hl:c.length<=1000)(hv:Vz c)(hz:a.length<=1000/\e.length<=1000):
  Kb gv prog 246 [.agg [.ro 1 (Av c),.ro 3 (Ha a),.ro 1 (Av e)]] (λr=>r=A6m c a e):=by
 have t:=Bb8 c a e ⟨by omega,hz.1,hz.2⟩;have i:=λh=>Ark c a e (A6n h hv) hv
 have d:=λh=>A6l c a e (grD c a e).most (A6n h hv)
 have pv:=Af c;have o:=Gx a;have n:=Af e;have aa:=λ(k:Nat)(h:k<a.length)=>Aba h
 have ak:=N9 a;unfold A6m;generalize Ac5 c a e=ze at*;generalize(A0z c a e (grD c a e).most).best=fb at*;generalize grD c a e=gd at*;have pb:=Ae7 fb;have⟨gx,ag,ab,w,ad,ae,x⟩:=gd;simp only at i d|-;generalize Av c=vv at*;generalize Ha a=rw at*;generalize Av e=fv at*;refine B0 func246 λw0 N0 hG=>?_;refine Y [1] [1] sr (J (J (Ak (Ay 1 sr ?_))));refine I7 hG t func281 rfl kr sM rfl rfl rfl sr sM sr (Aa [1,5] [1] sr ?_);refine Y [1,5,13] [1] sr ?_
 refine Au (λh1=>?_) λh1=>Ae ?_
 .exact Y [2,3,4] [] sr (Ao (Ab sr (by rw[Ad (sG h1)])))
 have j:ze=0:=sG h1
 rw[I (sG j)];refine J (Y [1,16,17,18] [1] sr (Ah (Bu (λk nx=>⟨[(1,V.bp 1 (0) 3 0 0),(16,V.ro 3 rw),(17,V.i rw.length),(18,V.i k)],[(1,{ v:=0,sz:=3,ty:=326,es:=[V.agg [V.ro 1 vv,V.ro 3 rw,V.ro 1 fv]]})],nx,39⟩) (λk=>(a.take k).any (λr=>decide (r.mx<r.mn))=false) a.length _ rfl Z ?_)));intro k nx hk hI;refine Y [1,16,17,18,19] [1] sr (J ?_)
 refine Au (λh2=>Ae ?_) λh2=>?_
 .have g:k<a.length:=by simp at h2;omega
  have u:k<rw.length:=om;have ga:=aa k g;have Ee:=A5 (k:=k) om;have s:=λh=>Oc (f:=λr:Rw=>decide (r.mx<r.mn)) g hI h
  have m:=λh=>Sf (f:=λr:Rw=>decide (r.mx<r.mn)) g h
  rw[Cs g]at ga;generalize a[k]=r at*;have⟨cf,aj,ai⟩:=r;simp only at ga s m;have ah:=Af cf;generalize Av cf=cv at*;refine J (Ah (Y [1,7,16,17,18] [1,7] (by simp[ga,u]<;>rfl) (Y [1,16,17,18,26] [1] sr ?_)))
  refine Au (λz=>?_) λz=>Ae ?_
  .exact Y [2,3,4] [] sr (Ao (Ab sr (by rw[Ad (m (sG z))])))
  refine Ba [1,16,17,18] [1] (by simp[Ee]<;>rfl) ?_;exact⟨g,s (sG z),_,Z⟩
 .refine A6 ?_;have af:k=a.length:=sO h2
  rw[af,Be]at hI;rw[I (by rw[hI];simp)];refine J (Ak (Ay 1 sr ?_));refine Ac (i j) func282 ?_;refine Aa [1,8,9] [1] sr ?_;refine J (Y [1,8,34] [1] sr ?_)
  refine Au (λy=>?_) λy=>Ae ?_
  .exact Y [2,3,4] [] sr (Ao (Ab sr (by rw[Ad (sG y)])))
  rw[I (sG y)];replace d:=d j;cases fb with
  |none=>
   simp only[bV]at d|-;refine J (Ak (Ay 2 sr ?_));refine Ac d func283 ?_;refine Aa [2,3,4] [] sr ?_;exact Ao (Ab sr rfl)
  |some l=>
   have pl:=Af l;simp only[bV]at d|-;refine J (Ak (Ay 2 sr ?_));refine Ac d func283 ?_;refine Aa [2,3,4] [] sr ?_;exact Ao (Ab Du rfl)
def Ib(n k:Nat)(f:Nat->Bool)(a:k<n)(c:((List.range n).take k).any f=false)(d:f k=false):((List.range n).take (k+1)).any f=false:=
 Oc (sG a) c (sG d)
def Nq{f:Nat->Bool}(a:k<n)(c:f k=true):(List.range n).any f=true:=Ew.2 ⟨k,Hq.2 a,c⟩
def Ajn(pool:List Pit)(id:Int):Int:=Ia (λp=>decide (p.id=id)) pool 0
def A01(giv:List Int):Bool:=(List.range giv.length).any λi=>decide (giv.getD i 0∈giv.take i)
def Ahn(len:Int)(rs:List Ru)(pool:List Pit)(en:List (Int × Int))(giv:List Int):Int:=
 if Aq4 len rs pool en≠0 then Aq4 len rs pool en else if giv.any (λid=>decide (Ajn pool id<0))=true then 6 else if A01 giv=true then 7 else 0
def An2(len:Int)(rs:List Ru)(pool:List Pit)(en:List (Int × Int))(giv a:List Int)(n:Int)(hs:Tt len rs=0)(hp:J5 pool n=0)(aq:pool.length<=18)(he:en.length<=400)(hg:giv.length<=1000)
  (an:a.length=pool.length)(al:∀v∈a,-1000000<=v/\v<=1000000):
  Xr gv prog 184 [Rh len rs,.ro 9 (C5 pool),.ro 2 (Bd en),.ro 1 (Av giv),.ro 1 (Av a)] [] (Alc (Ahn len rs pool en giv) (Uo a rs) (U9 len rs pool en (pool.length+Gd rs)) (Qq rs pool)):=by
 have e:=Ant len rs pool en a n hs hp aq he an al;have u:=Aa3 pool;have ak:=λk x=>Sc (giv.take k) x
 have pl:=Cx pool;have pr:=Dr rs;have pe:=Bc en;have pv:=Af a;have pg:=Af giv;have ai:=λ(k:Nat)(h:k<giv.length)=>Dn h
 have aw:=A4 giv;have ao:=λk=>(show Av (giv.take k)=(Av giv).take k by simp[Av,Pq])
 have ah:=λk=>Af (giv.take k)
 have pX:=Af (Uo a rs);have pR:=Gx (U9 len rs pool en (pool.length+Gd rs));have pF:=Af (Qq rs pool);have lF:=A4 (Qq rs pool);unfold Rh at e|-;unfold Alc Aq5 Aw6 Ahn;unfold Alc Aq5 Aw6 at e;simp only[ao]at ak ah;change∀id,AQ 245 [.ro 9 (C5 pool),.i id] (.i (Ajn pool id))at u;generalize Av (Uo a rs)=xv at*;generalize Ha (U9 len rs pool en (pool.length+Gd rs))=cv at*;generalize Av (Qq rs pool)=fv at*;generalize(Qq rs pool).length=fl at*;generalize Aq4 len rs pool en=am at*;generalize Ajn pool=pX at*;generalize Av a=vv at*;generalize az:Av giv=c at*;generalize Bd en=ev at*;generalize C5 pool=ar at*;generalize Hu rs=rv at*
 by_cases hE:am=0
 .subst hE;simp only[if_true,ne_eq,not_true_eq_false,if_false]at e|-;generalize l:(if(giv.any λid=>decide (pX id<0))=true then(6:Int)else if A01 giv=true then 7 else 0)=ee;refine H9 func184 λw0 N0 g hG=>?_;refine Y [1,2,3,4,5,10] [5,10] sr (Bn 4 sr ?_);refine Ra hG e func244 rfl kr rfl rfl rfl sr (λk o j=>by cases j) ?_;rintro r ae s⟨v,rfl,rfl⟩aj;refine⟨λk j=>rfl,_,by simp<;>rfl,?_⟩;refine Aa [1,3,10,12,13] [10,12,78] sr (J (A9 [27] sr ?_));refine A0 rfl (λh1=>absurd h1 sm) (λh1=>Ae (J (Y [1,3,10,12,30,31,32] [10,12,78] sr (Ah (Bu (λk nx=>⟨[(1,V.ro 9 ar),(3,V.ro 1 c),(10,V.bp 10 (g+1) 3 0 0),(12,V.bp 12 (s+8) 3 0 0),(30,V.ro 1 c),(31,.i c.length),(32,.i k)],[(10,⟨g+1,3,326,[V.agg [.nils,.nils,.nils]]⟩),(12,⟨s+8,3,326,[V.agg [.ro 1 xv,.ro 3 cv,.sl 78 v 1 fl]]⟩),(78,⟨v,1,3,fv⟩)],nx,57⟩) (λk=>(giv.take k).any (λid=>decide (pX id<0))=false) giv.length _ rfl Z ?_)))));intro k nx j hI;refine Y [1,3,10,12,30,31,32,33] [10,12,78] sr (J ?_)
  refine Cu (λh2=>?_) λh2=>?_
  .have d:k<giv.length:=by simp at h2;omega
   have t:k<c.length:=om;have ga:=ai k d;have Ee:=A5 (k:=k) om;have z:=λh=>Oc (f:=λid=>decide (pX id<0)) d hI h
   have y:=λh=>Sf (f:=λid=>decide (pX id<0)) d h
   rw[Cs d]at ga;generalize giv[k]=id at*;have aa:=u id;refine J (Ah (Y [1,3,10,12,15,30,31,32] [10,12,78] (by simp[ga,t]<;>rfl) (Bn 2 sr ?_)));refine Bq hG aa func245 ?_;refine Aa [1,3,10,12,30,31,32,39] [10,12,78] sr ?_
   refine C1 (λh3=>?_) λh3=>?_
   .refine Y [10,11] [10] sr ?_;rw[Ad (y (sG h3))]at l;subst l;exact Db g (Ea (A8 _ _) sr (outs0:=[]) (by rw[I dC];exact⟨rfl,rfl⟩) (λk o j=>by cases j))
   refine Ba [1,3,10,12,30,31,32] [10,12,78] (by simp[Ee]<;>rfl) ?_;exact⟨d,z (sG h3),_,Z⟩
  .refine A6 ?_;have ab:k=giv.length:=sO h2
   rw[ab,Be]at hI;rw[I (by rw[hI];simp)]at l;refine J (Y [3,10,12,42,43,44] [10,12,78] sr (Ah (Bu (λk nx=>⟨[(3,V.ro 1 c),(10,V.bp 10 (g+1) 3 0 0),(12,V.bp 12 (s+8) 3 0 0),(42,V.ro 1 c),(43,.i c.length),(44,.i k)],[(10,⟨g+1,3,326,[V.agg [.nils,.nils,.nils]]⟩),(12,⟨s+8,3,326,[V.agg [.ro 1 xv,.ro 3 cv,.sl 78 v 1 fl]]⟩),(78,⟨v,1,3,fv⟩)],nx,57⟩) (λk=>((List.range giv.length).take k).any (λi=>decide (giv.getD i 0∈giv.take i))=false) giv.length _ rfl Z ?_)));intro m ay ax w;refine Y [3,10,12,42,43,44,45] [10,12,78] sr (J ?_)
   refine Cu (λh4=>?_) λh4=>?_
   .have d:m<giv.length:=by simp at h4;omega
    have t:m<c.length:=om;have ga:=ai m d;have Ee:=A5 (k:=m) om;have z:=λh=>Ib giv.length m (λi=>decide (giv.getD i 0∈giv.take i)) d w h
    have y:=λh=>Nq (f:=λi=>decide (giv.getD i 0∈giv.take i)) d h
    have ad:=ak m (giv.getD m 0);have ag:=ah m;have af:m<=c.length:=om;generalize av:giv.getD m 0=id at*;have au:min m c.length=m:=om;refine J (Ah (Y [3,10,12,16,17,42,43,44] [10,12,78] (by simp[ga,t]<;>rfl) (Bn 4 (by simp[af]<;>rfl) ?_)));refine Ac ad func63 ?_;refine Aa [3,10,12,42,43,44,53] [10,12,78] sr ?_
    refine C1 (λh5=>?_) λh5=>?_
    .refine Y [10,11] [10] sr ?_;have hD:A01 giv=true:=by unfold A01;exact y (sG h5)
     rw[Ad hD]at l;subst l;exact Db g (Ea (A8 _ _) sr (outs0:=[]) (by rw[I dC];exact⟨rfl,rfl⟩) (λk o j=>by cases j))
    refine Ba [3,10,12,42,43,44] [10,12,78] (by simp[Ee]<;>rfl) ?_;exact⟨d,z (sG h5),_,Z⟩
   .refine A6 ?_;have ab:m=giv.length:=sO h4
    rw[ab,Bi (by simp)]at w;have hD:A01 giv=false:=by unfold A01;exact w
    rw[I (by rw[hD];simp)]at l;subst l;refine Y [10,11] [10,78] sr ?_;exact Db g (Ea (A8 _ _) sr (outs0:=[(78,⟨v,1,3,fv⟩)]) (by rw[Ad rfl];exact⟨v,rfl,rfl⟩) (λk o j=>B5 gt j))
 .simp only[I hE]at e;simp only[ne_eq,hE,not_false_eq_true,if_true,if_false];refine H9 func184 λw0 N0 g hG=>?_;refine Y [1,2,3,4,5,10] [5,10] sr (Bn 4 sr ?_);refine Ra hG e func244 rfl kr rfl rfl rfl sr (λk o j=>by cases j) ?_;rintro r ae s⟨rfl,rfl⟩aj;refine⟨λk j=>j,_,by simp<;>rfl,?_⟩;refine Aa [1,3,10,12,13] [10,12] sr ?_;refine J (A9 [27] sr ?_)
  refine A0 rfl (λh1=>?_) λh1=>absurd h1 (sG hE)
  .refine Y [10,11] [10] sr ?_;exact Db g (Ea (A8 _ _) sr (outs0:=[]) ⟨rfl,rfl⟩ (λk o j=>by cases j))
instance:Inhabited Pit:=⟨⟨0,[],0,0,0,0,0,0,[]⟩⟩
def Arl{l:List Pit}(h:k<l.length):Hj (C5 l) k=some (.agg (l.getD k default).cs):=by rw[Cs h];exact I8 h
def A6o(pool:List Pit)(id:Int):Nat:=(Ajn pool id).toNat
def Y9(pool:List Pit)(a giv:List Int):Nat->List Int
 |0=>a
 |k+1=>(Y9 pool a giv k).set (A6o pool (giv.getD k 0)) 1
def Aho(pool:List Pit)(a giv:List Int):∀k,(Y9 pool a giv k).length=a.length
 |0=>rfl
 |k+1=>by rw[Y9,Hs,Aho pool a giv k]
def Bgi(pool:List Pit)(a giv:List Int)(k:Nat):Bool:=decide ((Y9 pool a giv k).getD (A6o pool (giv.getD k 0)) 0=0)
def Ada(x:List Int)(pool:List Pit):Nat->List Int
 |0=>[]
 |k+1=>if x.getD k 0=1 then Ada x pool k++[(pool.getD k default).id]else Ada x pool k
def Ahp(x:List Int)(pool:List Pit):∀k,(Ada x pool k).length<=k
 |0=>A7 _
 |k+1=>by have:=Ahp x pool k;rw[Ada];split<;>simp<;>omega
def Alp{c:Code}(d sz:Nat)(ty:TypeId)(h:AW P w0 N0 c Q { S with objs:=(d,⟨S.nx,sz,ty,[]⟩)::S.objs,nx:=S.nx+1}):AW P w0 N0 c Q S:=
 Uz (λ_ _ _ _⟨_,hr⟩=>⟨_,hr.addRow d sz ty⟩) h
def A6p(c:List Int)(a:List Rw)(d:List Int):Int:=
 if Ac5 c a d≠0 then Ac5 c a d
 else if a.any (λr=>decide (r.mx<r.mn))=true then 14
 else if(grD c a d).found=false then 14 else 0
def Xy(a:List Int)(c:List Rw)(d:List Int):List Int:=((A0z a c d (grD a c d).most).best).getD []
def Axi(a:List Int)(c:List Rw)(d:List Int):Prop:=
 Ac5 a c d=0->c.any (λr=>decide (r.mx<r.mn))=false->(grD a c d).found=true->∃b,(A0z a c d (grD a c d).most).best=some b/\b.length=a.length
def Auz(a:List Int)(c:List Rw)(d:List Int)(h:Axi a c d):
  (A6p a c d≠0/\A6m a c d=.tup [.nils,.i 0,.i (A6p a c d)])\/
  (A6p a c d=0/\(Xy a c d).length=a.length/\A6m a c d=.tup [.ro 1 (Av (Xy a c d)),.i (grD a c d).most,.i 0]):=by
 unfold A6p A6m
 by_cases h1:Ac5 a c d≠0
 .left;simp only[Ad h1];exact⟨h1,trivial⟩
 .simp only[I h1]
  by_cases h2:c.any (λr=>decide (r.mx<r.mn))=true
  .left;simp only[Ad h2];exact⟨by decide,trivial⟩
  .simp only[I h2]
   by_cases e:(grD a c d).found=false
   .left;simp only[Ad e];exact⟨by decide,trivial⟩
   .right
    have⟨b,g,f⟩:=h (sG h1) (sG h2) (sG e);simp only[I e];unfold Xy;rw[g];exact⟨trivial,f,rfl⟩
def shE(a:List Int)(c:List Rw)(pool:List Pit)(d giv:List Int):Int:=
 if(List.range giv.length).any (Bgi pool d giv)=true then 14 else A6p a c (Y9 pool d giv giv.length)
def shT(a:List Int)(c:List Rw)(pool:List Pit)(d giv:List Int):List Int:=Ada (Xy a c (Y9 pool d giv giv.length)) pool pool.length
def Ahq(e:Int)(l:List Int):V:=if e=0 then .tup [.ro 1 (Av l),.i 0]else .tup [.nils,.i e]
def Au0(a:List Int)(c:List Rw)(d:List Int)(pool:List Pit)(giv:List Int)(v:Nat)(hl:a.length<=1000)(hv:Vz a)(hr:c.length<=1000)(hx:d.length=a.length)(bh:pool.length<=a.length)(hg:giv.length<=1000)
  (af:∀id∈giv,0<=Ajn pool id)(ao:Axi a c (Y9 pool d giv giv.length)):
  Xr gv prog 185 [.agg [.ro 1 (Av a),.ro 3 (Ha c),.sl 78 v 1 d.length],.ro 9 (C5 pool),.ro 1 (Av giv)] [(78,⟨v,1,3,Av d⟩)]
   (λr aj=>r=Ahq (shE a c pool d giv) (shT a c pool d giv)/\∃q es,aj= [(78,⟨q,1,3,es⟩)]):=by
 have z:=Aa3 pool;change∀id,AQ 245 [.ro 9 (C5 pool),.i id] (.i (Ajn pool id))at z;have y:=λid=>(Aw0 (λp:Pit=>decide (p.id=id)) pool 0).2.1
 change∀id,Ajn pool id<_ at y;have i:=A00 a c (Y9 pool d giv giv.length) hl hv ⟨hr,by rw[Aho];omega⟩;have an:=Auz a c _ ao;have al:=Aho pool d giv;have a6:∀k,Y9 pool d giv (k+1)=(Y9 pool d giv k).set (A6o pool (giv.getD k 0)) 1:=λk=>rfl
 have ay:Y9 pool d giv 0=d:=rfl;have a9:∀k,Bgi pool d giv k=decide ((Y9 pool d giv k).getD (A6o pool (giv.getD k 0)) 0=0):=λk=>rfl
 unfold Ahq shE shT;generalize bd:Y9 pool d giv=g at*;generalize Bgi pool d giv=bg at*;have pl:=Cx pool;have pv:=Af a;have pr:=Gx c;have pg:=Af giv;have a1:=λ(k:Nat)(h:k<giv.length)=>Dn h
 have bn:=A4 giv;have a2:=λ(k:Nat)(h:k<pool.length)=>Arl h
 have bi:=E4 pool;generalize Av a=vv at*;generalize Ha c=rw at*;generalize Av giv=ab at*;generalize bj:C5 pool=t at*;refine H9 func185 λw0 N0 s hG=>?_;refine Y [1,2,3] [3,78] sr (J (Y [1,3,17,18,19] [3,78] sr (Ah (Bu (λk nx=>⟨[(1,V.ro 9 t),(3,V.bp 3 s 3 0 0),(17,.ro 1 ab),(18,.i ab.length),(19,V.i k)],[(3,⟨s,3,326,[V.agg [V.ro 1 vv,V.ro 3 rw,V.sl 78 v 1 d.length]]⟩),(78,⟨v,1,3,Av (g k)⟩)],nx,65⟩) (λk=>((List.range giv.length).take k).any bg=false) giv.length _ rfl (by simp only[ay];exact Z) ?_))));intro k nx hk hI;refine Y [1,3,17,18,19,20] [3,78] sr (J ?_)
 refine Cu (λh1=>?_) λh1=>?_
 .have e:k<giv.length:=by simp at h1;omega
  have n:k<ab.length:=om;have ga:=a1 k e;have Ee:=A5 (k:=k) om;have au:=λh=>Ib giv.length k bg e hI h
  have az:=λh=>Nq (f:=bg) e h
  have a5:=Gz af e 0;have ad:=a6 k;have u:=a9 k;unfold A6o at ad u;have ae:=z (giv.getD k 0);have bf:=y (giv.getD k 0);generalize giv.getD k 0=id at*;generalize Ajn pool id=px at*;obtain⟨pn,rfl⟩:=Cr a5;simp only[Dh]at ad u;have bc:=al k;have a4:pn<(g k).length:=om;have am:pn<d.length:=om;have gp:=Dn a4;have ah:=A4 (g k);have aw:=Wb (g k) pn 1;generalize bb:Av (g k)=ag at*;have ak:ag.length=d.length:=om;refine J (Ah (Y [1,3,9,17,18,19] [3,78] (by simp[ga,n]<;>rfl) (Bn 2 sr ?_)));refine Bq hG ae func245 ?_;refine Aa [1,3,10,17,18,19] [3,78] sr ?_;refine J (A9 [31] (by simp[gp,am]<;>rfl) ?_)
  refine C1 (λh2=>?_) λh2=>?_
  .refine Y [6,7] [78] sr ?_;have hA:=az (by rw[u];simpa using h2);simp only[hA,if_true];exact Db s (Ea (A8 _ _) sr ⟨by simp,v,ag,rfl⟩ (λk o hk=>B5 gt hk))
  refine Ba [1,3,17,18,19] [3,78] (by simp[gp,am]<;>rfl) (Cw [] (by simp[Ee]<;>rfl) ?_);exact⟨e,au (by rw[u];simpa using h2),_,by rw[ad,aw];exact Z⟩
 .refine A6 ?_;have w:k=giv.length:=sO h1
  rw[w,Bi (by simp)]at hI;simp only[hI,F4,if_false];rw[w];have l:=Af (g giv.length);have ah:(Av (g giv.length)).length=d.length:=by rw[A4];exact al _
  generalize a0:Av (g giv.length)=bk at*;refine Bw 78 [1,3] [3] (by simp[l,ah]<;>rfl) ?_
  rcases an with⟨ai,aa⟩|⟨he,be,aa⟩
  .rw[aa]at i;refine Bn 1 sr ?_;refine Bq hG i func246 ?_;refine Aa [1,11,13] [] sr ?_;refine J (A9 [44] sr ?_);refine A0 rfl (λh3=>?_) λh3=>absurd h3 (sG ai);refine Y [6,7] [] sr ?_;refine Alp 78 1 3 ?_;exact Db s (Ea (A8 _ _) sr ⟨by rw[I ai],_,[],rfl⟩ (λk o hk=>B5 (by simp[Eng.get];rfl) hk))
  rw[aa]at i;have a8:=λ(k:Nat)(h:k<(Xy a c (g giv.length)).length)=>Dn h
  have bm:=A4 (Xy a c (g giv.length));have bq:=Af (Xy a c (g giv.length));have ar:∀k,Ada (Xy a c (g giv.length)) pool (k+1)=if(Xy a c (g giv.length)).getD k 0=1 then Ada (Xy a c (g giv.length)) pool k++[(pool.getD k default).id]else Ada (Xy a c (g giv.length)) pool k:=λk=>rfl
  have a3:=Ahp (Xy a c (g giv.length)) pool;have av:Ada (Xy a c (g giv.length)) pool 0= []:=rfl;simp only[he,if_true];generalize Ada (Xy a c (g giv.length)) pool=tk at*;generalize Xy a c (g giv.length)=xb at*;generalize Av xb=xv at*;refine Bn 1 sr ?_;refine Bq hG i func246 ?_;refine Aa [1,11,13] [] sr ?_;refine J (A9 [44] sr ?_);refine A0 rfl (λh3=>absurd h3 sm) (λh3=>Ae (Y [1,11,14] [] sr (J (Y [11,14,46,47,48] [] sr ?_))));refine Fz 14 100 1 3 [11,14,46,47,48] [100] sr sr ?_;refine Ah ?_
  refine C3 (λx:Nat × Nat × Nat=>⟨[(11,.ro 1 xv),(14,.sl 100 x.2.1 1 (tk x.1).length),(46,.ro 9 t),(47,.i t.length),(48,V.i (x.1:Nat))],[(100,⟨x.2.1,1,3,Av (tk x.1)⟩)],x.2.2,65⟩)
   (λx=>x.1<=pool.length) (λx=>pool.length-x.1) (0,_,_) (Cg _) (by simp only[av];exact Z) ?_
  rintro⟨j,qv,bl⟩ax;simp only at ax|-;refine Y [11,14,46,47,48,49] [100] sr (J ?_)
  refine Cu (λh4=>?_) λh4=>?_
  .have e:j<pool.length:=by simp at h4;omega
   have n:j<t.length:=om;have ga:=a2 j e;have Ee:=A5 (k:=j) om;have hs:=ar j;have bo:=a3 j;have a7:j<xb.length:=om;have gx:=a8 j a7;have ba:j<xv.length:=om;unfold Pit.cs at ga;generalize pool.getD j default=p at*;have pm:=D7 p.m;generalize tk j=Lk at*;have aq:Lk.length+1<=maxLen/\(Lk.length+1)*8<=140737488355328:=⟨Ag (show Lk.length+1<=1001 by omega) dc,by omega⟩;refine J (Ah (Y [11,14,15,16,46,47,48] [16,100] (by simp[ga,n]<;>rfl) (Y [11,14,16,46,47,48,57] [16,100] (by simp[gx,ba]<;>rfl) ?_)))
   refine C1 (λh5=>?_) λh5=>?_
   .rw[Ad (sG h5)]at hs;refine Ba [11,14,46,47,48] [100] (by simp[aq]<;>rfl) (Cw [] (by simp[Ee]<;>rfl) ?_);exact⟨(j+1,_,_),e,by simp only;omega,by simp only[hs,Xh,A1,A3,Bo];exact Z⟩
   rw[I (sG h5)]at hs;refine Ba [11,14,46,47,48] [100] (by simp[Ee]<;>rfl) ?_;exact⟨(j+1,_,_),e,by simp only;omega,by simp only[hs];exact Z⟩
  .refine A6 ?_;have w:j=pool.length:=sO h4
   subst w;have pL:=Af (tk pool.length);have lL:=A4 (tk pool.length);refine Bw 100 [14] [] (by simp[pL,lL]<;>rfl) (Y [6,7] [] sr ?_);refine Alp 78 1 3 ?_;exact Db s (Ea (A8 _ _) sr ⟨rfl,_,[],rfl⟩ (λk o hk=>B5 (by simp[Eng.get];rfl) hk))
def A6q(len:Int)(rs:List Ru)(pool:List Pit)(en:List (Int × Int))(giv a:List Int):Int:=
 if Ahn len rs pool en giv≠0 then Ahn len rs pool en giv else shE (Uo a rs) (U9 len rs pool en (pool.length+Gd rs)) pool (Qq rs pool) giv
def An3(len:Int)(rs:List Ru)(pool:List Pit)(en:List (Int × Int))(giv a:List Int):List Int:=
 shT (Uo a rs) (U9 len rs pool en (pool.length+Gd rs)) pool (Qq rs pool) giv
def A6r{len:Int}{rs:List Ru}{pool:List Pit}{en:List (Int × Int)}{giv:List Int}(h:Ahn len rs pool en giv=0):∀id∈giv,0<=Ajn pool id:=by
 unfold Ahn at h
 split at h
 .omega
 .split at h
  .omega
  .rename_i h2;intro id a
   by_cases e:Ajn pool id<0
   .exact absurd (Ew.2 ⟨id,a,by simpa using e⟩) h2
   .omega
def A6s(len:Int)(rs:List Ru)(pool:List Pit)(en:List (Int × Int))(giv a:List Int)(n:Int)(hs:Tt len rs=0)(hp:J5 pool n=0)(ae:pool.length+Gd rs<=1000)(hz:Vz (Uo a rs))(he:en.length<=400)(hg:giv.length<=1000)
  (i:a.length=pool.length)(u:∀v∈a,-1000000<=v/\v<=1000000)
  (x:Axi (Uo a rs) (U9 len rs pool en (pool.length+Gd rs)) (Y9 pool (Qq rs pool) giv giv.length))(e:pool.length<=18):
  Kb gv prog 124 [Rh len rs,.ro 9 (C5 pool),.ro 2 (Bd en),.ro 1 (Av giv),.ro 1 (Av a)] (λr=>r=Ahq (A6q len rs pool en giv a) (An3 len rs pool en giv a)):=by
 have c:=An2 len rs pool en giv a n hs hp e he hg i u;have g:=λh=>A6r (len:=len) (rs:=rs) (pool:=pool) (en:=en) (giv:=giv) h
 have ad:=(Ae6 hs).2.2.1
 have z:(U9 len rs pool en (pool.length+Gd rs)).length<=1000:=by
  have h1:=Aq2 len rs pool (pool.length+Gd rs) (Oa en (pool.map Pit.id)) (Oa en (pool.map Pit.id)).length e;have h2:(Oa en (pool.map Pit.id)).length<=400:=by unfold Oa;exact Ag (H1 _ _) (Ag (Ac2 en) he)
  unfold U9;omega
 have af:(Uo a rs).length=pool.length+Gd rs:=by unfold Uo;simp[i]
 have m:=λv h=>Au0 (Uo a rs) (U9 len rs pool en (pool.length+Gd rs)) (Qq rs pool) pool giv v om hz z (by rw[Aq3];omega) om hg (g h) x
 have pl:=Cx pool;have pr:=Dr rs;have pe:=Bc en;have pv:=Af a;have pg:=Af giv;unfold A6q An3;unfold Alc Aq5 Aw6 at c;unfold Rh at c|-;generalize shE (Uo a rs) (U9 len rs pool en (pool.length+Gd rs)) pool (Qq rs pool) giv=se,shT (Uo a rs) (U9 len rs pool en (pool.length+Gd rs)) pool (Qq rs pool) giv=sT,Av (Uo a rs)=xv,Ha (U9 len rs pool en (pool.length+Gd rs))=cv,Av (Qq rs pool)=fv,(Qq rs pool).length=fl,Ahn len rs pool en giv=w,Av a=vv,Av giv=ab,Bd en=ev at*;generalize C5 pool=ag at*;generalize Hu rs=rv at*
 by_cases s:w=0
 .subst s;simp only[if_true,ne_eq,not_true_eq_false,if_false]at c|-;refine B0 func124 λw0 N0 t=>?_;refine Y [1,2,3,4,5] [5] sr (J (Ak (Ay 5 sr ?_)));refine Ra t c func184 rfl kr rfl rfl rfl sr (λk o d=>by cases d) ?_;rintro r f y⟨v,rfl,rfl⟩j;refine⟨λk d=>rfl,_,by simp<;>rfl,?_⟩;refine Aa [1,3,12,13] [12,78] sr (J (Y [1,3,12,13,24] [12,78] sr ?_));refine A0 rfl (λh1=>absurd h1 sm) (λh1=>Ae (J (Ak (Ay 3 sr ?_))));refine Ra t (m v rfl) func185 rfl kr rfl rfl rfl sr (λk o d=>B5 gt d) ?_;rintro r f ah⟨rfl,q,es,rfl⟩aa;unfold Ahq
  by_cases l:se=0
  .subst l;simp only[if_true];have pT:=Af sT;refine⟨λk d=>Jq d,_,by simp<;>rfl,?_⟩;exact Aa [10,11] [] sr (Ao (Ab Du rfl))
  .simp only[I l];refine⟨λk d=>Jq d,_,by simp<;>rfl,?_⟩;exact Aa [10,11] [] sr (Ao (Ab sr rfl))
 .simp only[I s]at c;unfold Ahq;simp only[ne_eq,s,not_false_eq_true,if_true,if_false];refine B0 func124 λw0 N0 t=>?_;refine Y [1,2,3,4,5] [5] sr (J (Ak (Ay 5 sr ?_)));refine Ra t c func184 rfl kr rfl rfl rfl sr (λk o d=>by cases d) ?_;rintro r f y⟨rfl,rfl⟩j;refine⟨λk d=>rfl,_,by simp<;>rfl,?_⟩;refine Aa [1,3,12,13] [12] sr (J (Y [1,3,12,13,24] [12] sr ?_))
  refine A0 rfl (λh1=>?_) λh1=>absurd h1 (sG s)
  .exact Y [10,11] [] sr (Ao (Ab sr rf))
structure Te where
 elig:List Int
 steps:List (Int × Int)
 pend:Int
 w:List Nat
 draw:Int
 stop:Int
def teV(t:Te)(a c:V):V:=.agg [.ro 1 (Av t.elig),a,.i t.pend,c,.int .u64 t.draw,.i t.stop]
def Te.v(t:Te):V:=teV t (.ro 2 (Bd t.steps)) (.ro 1 (Cb t.w))
def vTe(t:Te):t.v=V.agg [.ro 1 (Av t.elig),.ro 2 (Bd t.steps),.i t.pend,.ro 1 (Cb t.w),.int .u64 t.draw,.i t.stop]:=rfl
structure teOk(t:Te):Prop where
 el:t.elig.length<=1000
 sl:t.steps.length<=1000
 wl:t.w.length<=1000
 wd:Ks t.w 100000
def Alq(n:Nat):(Gv n).all Mc=true:=by
 rw[Ar];intro x a;simp only[Gv,A2,Bl]at a;obtain⟨k,_,rfl⟩:=a;rfl
def Axj{a:Nat}{x y:Ob}{l:List (Nat × Ob)}(h1:Eng.get l a=some x)(h2:Eng.get l b=some y)(c:Eng.get [(a,x),(b,y)] k=some o):Eng.get l k=some o:=by
 simp only[Eng.get]at c
 split at c
 .rename_i e;subst e;cases c;exact h1
 .split at c
  .rename_i e;subst e;cases c;exact h2
  .cases c
def Alr(t:Te)(h:teOk t):
  Qv prog 196 [t.v] [] (λr f=>∃q1 q2,r=teV t (.sl 101 q1 2 t.steps.length) (.sl 18 q2 1 t.w.length)/\f= [(101,⟨q1,2,121,Bd t.steps⟩),(18,⟨q2,1,30,Cb t.w⟩)]) (λ_ =>False):=by
 have he:=h.el;have ae:=h.sl;have af:=h.wl;have g:=Aec (Av t.elig) (Af _) (Tu _) (by rw[A4];omega);have m:=Abc (Bd t.steps) (Bc _) (flatP _) (by rw[Ei];omega);have j:=λ(n:Nat)(h:(Gv n).length<=100000)=>Aed (Gv n) (F9 n) (Alq n) h
 have aa:=λ(k:Nat)(u:k<t.w.length)=>h.wd _ (Aw u)
 have pe:=Af t.elig;have ps:=Bc t.steps;have pw:=B1 t.w;have ls:=Ei t.steps;have lw:=H5 t.w;have hq:=λ(k:Nat)(h:k<t.w.length)=>Ky h
 have hg:=λ(k:Nat)(h:k<t.w.length)=>Q0 h
 have y:(t.w.length:Int)<=9223372036854775807:=om;have z:24*(t.w.length:Int)<=281474976710656:=om;unfold Te.v teV;generalize Av t.elig=ev,Bd t.steps=sv,Cb t.w=c at*;refine Ec func196 λw0 N0 a=>?_;refine Y [1,2] [1,2] sr (Y [1,2,3] [1,2,3] sr (Bn 2 sr ?_));refine Ac g func135 ?_;refine Aa [1,2,3] [1,2,3] sr (Bn 2 sr ?_);refine M5 101 m func136 rfl kr rfl rfl rfl sr Du sr ?_;refine Aa [1,2,3] [1,2,3,101] sr ?_;refine Y [1,2,3] [1,2,3,18,101] (by simp[y,z,lw]<;>rfl) (J (Y [2,3,21,22,23] [2,3,18,101] sr (Ah (Bu (λk nx=>⟨[(2,V.bp 2 (a+1) 6 0 0),(3,V.bp 3 (a+2+1) 6 0 0),(21,V.ro 1 c),(22,V.i c.length),(23,V.i k)],[(2,⟨a+1,6,51,[V.agg [V.nils,V.nils,V.i 0,V.nils,V.int .u64 0,V.i 0]]⟩),(3,⟨a+2+1,6,51,[V.agg [V.ro 1 ev,V.sl 101 (a+2+3+5+2) 2 sv.length,V.i t.pend,V.sl 18 (a+2+3+5+5+3) 1 t.w.length,V.int .u64 t.draw,V.i t.stop]]⟩),(18,⟨(a+2+3+5+5+3),1,30,E9 c .nils k⟩),(101,⟨(a+2+3+5+2),2,121,sv⟩)],nx,36⟩) (λk=>True) t.w.length _ trivial (by rw[H3,lw];exact Z) ?_))));intro k nx u hI;have ad:=I3 c .nils k om;refine Y [2,3,21,22,23,24] [2,3,18,101] sr (J ?_)
 refine Cu (λh1=>?_) λh1=>?_
 .have d:k<t.w.length:=by simp at h1;omega
  have l:k<c.length:=om;have ga:=hq k d;have gg:=hg k d;have Ee:=A5 (k:=k) om;have e:=j _ (show(Gv t.w[k]).length<=100000 by have:=aa k d;simpa[Gv]using this);have pn:=F9 t.w[k];change Hj c k=some (.ro 1 (Gv t.w[k]))at ga;generalize Gv t.w[k]=nv at*;have i:=I5 c .nils k om gg;have x:Hj (E9 c .nils k) k=some .nils:=I4 c _ k om;have s:(E9 c .nils k).length=t.w.length:=om;generalize E9 c .nils k=row at*;refine J (Ah (Y [2,3,4,5,21,22,23] [2,3,18,101] (by simp[ga,l]<;>rfl) ?_));refine Di [(0,[]),(2,[]),(3,[]),(4,[]),(1,[]),(5,[]),(6,[])] Eb kr ?_;refine Ci 3 sr ?_;refine B4 (λhg=>e) func138 ?_;refine Dj [2,3,21,22,23] [2,3,18,101] (by simp[d,x,i]<;>rfl) ?_;refine Cw [] (by simp[Ee]<;>rfl) ?_;exact⟨d,trivial,_,Z⟩
 .refine A6 ?_;have ab:k=t.w.length:=sO h1
  rw[ab,Jm c .nils t.w.length oM];refine Y [2] [2,18,101] sr ?_;exact Db a (Ea (A8 _ _) sr ⟨(a+2+3+5+2),(a+2+3+5+5+3),by rw[ls],rfl⟩ (λk o u=>Axj gt gt u))
def Ahr{l:List V}{x:V}(h:l[k]? =some x):l.set k x=l:=by
 apply La;intro i;rw[Lb]
 by_cases e:k=i
 .subst e;rw[Ad rfl,Ad ((Al.1 h).1),h]
 .rw[I e]
def Als(t:Te)(h:teOk t):AE 140 [t.v] t.v:=by
 have j:=Alr t h;have ae:=h.wl;have y:=λ(k:Nat)(f:k<t.w.length)=>h.wd _ (Aw f)
 have c:=λ(n:Nat)(hn:(B2 n).length<=100000)=>Aas (B2 n) (Cp n) om
 simp only[C4]at c;change∀n,_ ->AE 178 [.ro 1 (Gv n)] (.ro 1 (Gv n))at c;have pe:=Af t.elig;have ps:=Bc t.steps;have m:=B1 t.w;have ls:=Ei t.steps;have s:=H5 t.w;have hq:=λ(k:Nat)(h:k<t.w.length)=>Ky h
 have hg:=λ(k:Nat)(h:k<t.w.length)=>Q0 h
 unfold Te.v teV at*;generalize Av t.elig=ev,Bd t.steps=sv,Cb t.w=wv at*;refine Aq func140 λw0 N0=>?_;refine Y [1,2] [1,2] sr (Bn 1 sr ?_);refine D0 j func196 rfl kr rfl rfl rfl sr (λk o f=>by cases f) ?_ λch l=>l.elim;rintro r aa i⟨q1,x,rfl,rfl⟩ab;refine⟨λk f=>rfl,_,by simp<;>rfl,?_⟩;refine Aa [2,3] [2,3,18,101] sr (J (A9 [9,10,11] sr (Ah (Bu (λk nx=>⟨[(2,V.bp 2 1 6 0 0),(3,V.bp 3 (i+2) 6 0 0),(9,V.sl 18 x 1 t.w.length),(10,V.i t.w.length),(11,V.i k)],[(2,⟨1,6,51,[V.agg [V.nils,V.nils,V.i 0,V.nils,V.int .u64 0,V.i 0]]⟩),(3,⟨i+2,6,51,[V.agg [V.ro 1 ev,V.sl 101 q1 2 t.steps.length,V.i t.pend,V.sl 18 x 1 t.w.length,V.int .u64 t.draw,V.i t.stop]]⟩),(18,⟨x,1,30,wv⟩),(101,⟨q1,2,121,sv⟩)],nx,24⟩) (λk=>True) t.w.length _ trivial Z ?_))));intro k nx f hI;refine Y [2,3,9,10,11,12] [2,3,18,101] sr (J ?_)
 refine Cu (λh1=>?_) λh1=>?_
 .have a:k<t.w.length:=by simp at h1;omega
  have d:k<wv.length:=om;have u:=hq k a;have gg:=hg k a;have Ee:=A5 (k:=k) om;have e:=c t.w[k] (y k a);have pn:=F9 t.w[k];change Hj wv k=some (.ro 1 (Gv t.w[k]))at u;generalize Gv t.w[k]=nv at*;have g:=Ahr gg;refine J (Ah (Y [2,3,4,5,9,10,11] [2,3,18,101] (by simp[u,a]<;>rfl) ?_));refine Di [(0,[]),(2,[]),(3,[]),(4,[]),(1,[]),(5,[]),(6,[])] Eb kr (Ci 3 sr ?_);refine B4 (λhg=>e) func178 ?_;refine Dj [2,3,9,10,11] [2,3,18,101] Du ?_;refine Cw [] Du ?_;exact⟨a,trivial,_,Z⟩
 .refine A6 ?_;refine Y [2] [2,18,101] sr ?_;have ad:=F8 ps;have z:=F8 m;refine Bw 101 [2] [2,18] Du (Bw 18 [2] [2] Du ?_);exact By Du (rfl)
end Go.Proofs.YtnoignhlamifmaaGreatDoor
