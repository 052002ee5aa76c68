/- Resuming, part 3. No condition. -/
import Derived.Test.YtnoignhlamifmaaGreatDoorE2
import Derived.Test.YtnoignhlamifmaaGreatDoorProg
import Derived.Shelf.Strings.Shaped
import Derived.Shelf.Sort.Plain
import Derived.Shelf.Strings.Replace
import Derived.Shelf.Unicode.DecodeSlow
import Derived.Shelf.Slices.Cells
import Derived.Shelf.SlSortCmp.Median1
import Derived.Shelf.SlSortCmp.ReverseRange1
import Derived.Lib.AppendIntMem
import Derived.Shelf.Slices.In.SortNone
set_option maxHeartbeats 8000000
set_option linter.all false
set_option maxRecDepth 10000
open Go.Proofs.Tryz
namespace Go.Proofs.YtnoignhlamifmaaGreatDoor
open Go.Eng
abbrev AE(f:Nat)(l:List V)(v:V):Prop:=AC prog f l (λr=>r=v)
end Go.Proofs.YtnoignhlamifmaaGreatDoor
namespace Go.Eng.Limb
variable {k n:Nat}
def Ei(l:List Nat):Prop:=∀x∈l,x<4294967296
def Bd:List Nat->Nat
 |[]=>0
 |x::r=>x+4294967296*Bd r
def N6:List Nat->List Nat
 |[]=>[]
 |x::r=>if N6 r=[]then(if x=0 then []else [x])else x::N6 r
def Ahn:∀(a:List Nat),N6 (a++[0])=N6 a
 |[]=>by simp[N6]
 |x::a=>by simp[N6,Ahn a]
def Aho(y:Nat)(h:y≠0):∀(a:List Nat),N6 (a++[y])=a++[y]
 |[]=>by simp[N6,h]
 |x::a=>by simp[N6,Aho y h a]
def Mh:∀(l:List Nat),(N6 l).length<=l.length
 |[]=>by simp[N6]
 |x::r=>by
  have:=Mh r;rw[N6]
  split
  .split<;>simp
  .simp;omega
def B0(n:Nat):List Nat:=if h:n=0 then []else n%4294967296::B0 (n/4294967296)
 termination_by n
 decreasing_by omega
def Ep:B0 0=[]:=by rw[B0];simp
def L4(h:n≠0):B0 n=n%4294967296::B0 (n/4294967296):=by rw[B0];simp[h]
def Lh:∀(l:List Nat),Ei l->N6 l=B0 (Bd l)
 |[],_=>by simp[N6,Bd,Ep]
 |x::r,h=>by
  have hx:=h x sm;rw[N6,Bd,(Lh r (λy e=>h y Gi))]
  by_cases c:Bd r=0
  .rw[c,Ep]
   by_cases d:x=0
   .subst d;simp[Ep]
   .rw[Ab rfl,I d,L4 om];rw[show(x+4294967296*0)%4294967296=x by omega,show(x+4294967296*0)/4294967296=0 by omega,Ep]
  .have a:B0 (Bd r)≠[]:=by rw[L4 c];simp
   rw[I a,L4 (n:=x+4294967296*Bd r) om];rw[show(x+4294967296*Bd r)%4294967296=x by omega,show(x+4294967296*Bd r)/4294967296=Bd r by omega]
def C6(n:Nat):Bd (B0 n)=n:=by
 induction n using Nat.strongRecOn with
 |_ n ih=>
  by_cases h:n=0
  .subst h;simp[Ep,Bd]
  .rw[L4 h,Bd,ih _ om];omega
def Ct(n:Nat):Ei (B0 n):=by
 induction n using Nat.strongRecOn with
 |_ n ih=>
  by_cases h:n=0
  .subst h;simp[Ep,Ei]
  .rw[L4 h];intro x a
   rcases Bu.1 a with h1|h1
   .omega
   .exact ih _ om x h1
def Cm:Nat->Nat->List Nat
 |0,_=>[]
 |k+1,v=>v%4294967296::Cm k (v/4294967296)
@[simp]def Abv:∀(k v:Nat),(Cm k v).length=k
 |0,_=>rfl
 |k+1,v=>by simp[Cm,Abv k]
def Pr:∀(k v:Nat),Ei (Cm k v)
 |0,_=>by simp[Cm,Ei]
 |k+1,v=>by
  intro x a
  rcases Bu.1 a with h|h
  .rw[h];exact Dd _ dc
  .exact Pr k _ x h
def T8:∀(k v:Nat),Bd (Cm k v)=v%4294967296^k
 |0,v=>by simp[Cm,Bd,Tf]
 |k+1,v=>by
  rw[Cm,Bd,T8 k,Cd,Bf (4294967296^k) 4294967296,Xy]
def Aon:∀(l:List Nat),Ei l->Cm l.length (Bd l)=l
 |[],_=>rfl
 |x::r,h=>by
  have hx:=h x sm;rw[Ax,Cm,Bd,show(x+4294967296*Bd r)%4294967296=x by omega,show(x+4294967296*Bd r)/4294967296=Bd r by omega,Aon r (λy a=>h y Gi)]
def Arf:∀(k v i:Nat),i<k->(Cm k v)[i]?=some (v/4294967296^i%4294967296)
 |0,_,_,h=>by omega
 |k+1,v,0,_=>by simp[Cm]
 |k+1,v,i+1,h=>by
  rw[Cm,Hb,Arf k _ i om,Cy,Cd,Bf]
def Adz:∀(k v:Nat),Cm (k+1) v=Cm k v++[v/4294967296^k%4294967296]
 |0,v=>by simp[Cm]
 |k+1,v=>by
  rw[Cm,Adz k,Cm,Cy,Cd,Bf];rfl
def Ad0:∀(k v i:Nat),i<=k->(Cm k v).take i=Cm i v
 |_,_,0,_=>by simp[Cm]
 |0,_,i+1,h=>by omega
 |k+1,v,i+1,h=>by rw[Cm,I6,Ad0 k _ i om,Cm]
def Al4:∀(k v i:Nat),i<=k->(Cm k v).drop i=Cm (k-i) (v/4294967296^i)
 |k,v,0,_=>by simp
 |0,_,i+1,h=>by omega
 |k+1,v,i+1,h=>by
  rw[Cm,List.drop_succ_cons,Al4 k _ i om,Cy,Cd,Bf,Nat.add_sub_add_right]
def Wl(k v:Nat):Cm k (v%4294967296^k)=Cm k v:=by
 have:=Aon (Cm k v) (Pr k v)
 rwa[Abv,T8]at this
def Abw(k m v:Nat):Cm (k+m) v=Cm k v++Cm m (v/4294967296^k):=by
 have h2:=Al4 (k+m) v k om;rw[show k+m-k=m by omega]at h2;rw[<-(Ad0 (k+m) v k om),<-h2,Ga]
def A1e{v:Nat}(h:v<4294967296^k):N6 (Cm k v)=B0 v:=by
 rw[Lh _ (Pr k v),T8,Bl h]
def Ahp(k m a b:Nat)(c:a<4294967296^k):Cm k a++Cm m b=Cm (k+m) (a+4294967296^k*b):=by
 have hp:0<4294967296^k:=F9 dc;rw[Abw,Ma _ _ hp,Gh c,Dn,<-Wl k (a+4294967296^k*b),M2,Wl]
def Aoo:∀(l:List Nat),Ei l->Bd l<4294967296^l.length
 |[],_=>by simp[Bd]
 |x::r,h=>by
  have hx:=h x sm;rw[Bd,Ax,Cd];have:4294967296*(Bd r+1)<=4294967296*4294967296^r.length:=Em _ (Aoo r (λy a=>h y Gi));rw[Bf (4294967296^r.length)];omega
def Qb:∀(a b:List Nat),Bd (a++b)=Bd a+4294967296^a.length*Bd b
 |[],b=>by simp[Bd]
 |x::a,b=>by
  simp only[Cj,Bd,Qb a b,Ax,Cd];rw[Ee,<-B7,Bf 4294967296 (4294967296^a.length)];omega
def Rh(n:Nat):B0 n=Cm (B0 n).length n:=by
 have:=Aon (B0 n) (Ct n);rw[C6]at this;exact this.symm
def K7(n:Nat):n<4294967296^(B0 n).length:=by
 have:=Aoo (B0 n) (Ct n)
 rwa[C6]at this
def Wm:B0 n=[]↔n=0:=by
 constructor
 .intro h;have:=C6 n;rw[h]at this;simpa[Bd]using this.symm
 .rintro rfl;exact Ep
def Yh:∀(k n:Nat),(B0 n).length=k+1->4294967296^k<=n
 |0,n,h=>by
  rcases Eu n with a|a
  .subst a;rw[Ep]at h;simp at h
  .rw[Vl];exact a
 |k+1,n,h=>by
  have a:n≠0:=by rintro rfl;rw[Ep]at h;simp at h
  rw[L4 a,Ax]at h;exact Ae (By 4294967296 (Yh k (n/4294967296) om)) (Fo n 4294967296)
variable {d:Nat}
def Bhm{u v a W:Nat}(c:0<a)(hu:u<(d+1)*W)(f:a*W<=v):u/v<=d/a:=by
 rw[Gw c];have h1:=Fo u v;have h2:u/v*(a*W)<=u/v*v:=Em _ f;have e:u/v*a*W<(d+1)*W:=by rw[B7];omega
 have:=Jo e;omega
def Bhn{u v c a W:Nat}(hW:0<W)(hu:c*W<=u)(i:v<(a+1)*W)(f:u/v<a)(e:0<v):c/a<=u/v+1:=by
 have d:=Fe (B5 _) f
 rcases Cz (u/v+1) (c/a)with h|h
 .exfalso
  have h1:=(Gw d).1 h
  have h2:u<(u/v+1)*v:=by
   have:=I8 u e
   rwa[Bf]at this
  have h3:(u/v+2)*a*W<=c*W:=By _ h1;have h4:(u/v+1)*v<=(u/v+1)*((a+1)*W):=Em _ (Ig i)
  have j:(u/v+2)*a*W<(u/v+1)*(a+1)*W:=by
   rw[B7 (u/v+1)];omega
  have g:=Jo j;generalize u/v=q at g f;rw[Ca,Ee,Ca]at g;omega
 .exact h
def Arg(a x y:Nat):Nat->Nat->Nat->Nat
 |0,d,_=>d
 |m+1,d,r=>if 4294967296<=d\/r*4294967296+y<d*x then(if 4294967296<=r+a then d-1 else Arg a x y m (d-1) (r+a))else d
def Bb3{a x y c:Nat}(ha:2147483648<=a)(ab:a<4294967296)(hx:x<4294967296)(hy:y<4294967296)(j:c<(a+1)*4294967296):
  ∀(m d r:Nat),d*a+r=c->r<4294967296->4294967296<=r+m*a->min ((c*4294967296+y)/(a*4294967296+x)) 4294967295<=d->Arg a x y m d r=min ((c*4294967296+y)/(a*4294967296+x)) 4294967295:=by
 have g:0<a*4294967296+x:=om
 have f:∀d r,d*a+r=c->(d<=(c*4294967296+y)/(a*4294967296+x)↔d*x<=r*4294967296+y):=λd r h=>by
  rw[Gw g,Ee,<-B7,<-h,Ca];omega
 generalize(c*4294967296+y)/(a*4294967296+x)=q at f|-;intro m
 induction m with
 |zero=>intro d r _ hr s _;omega
 |succ m ih=>
  intro d r t hr s hq;have o:=f d r t;rw[Arg]
  split
  .rename_i hc
   have z:0<d:=by
    rcases Eu d with l|l
    .subst l;omega
    .exact l
   obtain⟨e,rfl⟩:∃e,d=e+1:=⟨d-1,by omega⟩;rw[Nt];have u:e*a+(r+a)=c:=by rw[<-t,Ca];omega
   have n:min q 4294967295<=e:=by
    rcases Cz e (min q 4294967295)with h|h
    .exfalso
     have h1:e+1<=q:=om;have h2:=o.1 h1;omega
    .exact h
   split
   .rename_i i;have k:=f e (r+a) u
    have aa:e<4294967296:=by
     rcases Cz e 4294967296 with h|h
     .exact h
     .exfalso
      have:=By a h;rw[Ca]at j;omega
    have h3:e*x<=(r+a)*4294967296+y:=by
     have h4:e*x<=4294967296*4294967296:=Iq om om;have h5:4294967296*4294967296<=(r+a)*4294967296:=By _ i;omega
    have:=k.2 h3;omega
   .rename_i i;exact ih e (r+a) u om (by rw[Ca]at s;omega) n
  .rename_i hc;have w:d<4294967296:=om;have:=o.2 om;omega
def A5d{c a:Nat}(b1:2147483648*4294967296<=a)(b2:a<4294967296*4294967296)(b3:c<(a+1)*4294967296):
  Arg (a/4294967296) (a%4294967296) (c%4294967296) 3 (c/4294967296/(a/4294967296)) (c/4294967296%(a/4294967296))=min (c/a) 4294967295:=by
 have i:2147483648<=a/4294967296:=om;have f:a/4294967296<4294967296:=om;have g:c/4294967296<(a/4294967296+1)*4294967296:=om
 have h:=Bb3 (x:=a%4294967296) (y:=c%4294967296) i f om om g 3 (c/4294967296/(a/4294967296)) (c/4294967296%(a/4294967296)) (by
   have:=G5 (c/4294967296) (a/4294967296);rw[Bf]at this;exact this) (Rc (Dd (c/4294967296) (show 0<a/4294967296 by omega)) f) (Ae (show 4294967296<=3*(a/4294967296)by omega) (Vv _ _)) (by
   have e:c/4294967296*4294967296+c%4294967296=c:=om;rw[e,(Ux a 4294967296)];refine Ae (Nat.min_le_left _ _) ?_;rw[Gw (show 0<a/4294967296 by omega),Gw (show 0<4294967296 by decide)];have:=Fo c a;have h2:c/a*(a/4294967296*4294967296)<=c/a*a:=Em _ (Fo _ _);rw[<-B7]at h2;exact Ae h2 this)
 have e:c/4294967296*4294967296+c%4294967296=c:=om;rw[e,(Ux a 4294967296)]at h;exact h
def Avk{u v:Nat}(hn:2<=n)(s:4294967296^n<=2*v)(j:v<4294967296^n)(hu:u<v*4294967296)(d:Nat)
  (i:d=Arg (v/4294967296^(n-1)) (v/4294967296^(n-2)%4294967296) (u/4294967296^(n-2)%4294967296) 3 (u/4294967296^(n-1)/(v/4294967296^(n-1))) (u/4294967296^(n-1)%(v/4294967296^(n-1)))):
  d<4294967296/\(d=u/v\/d=u/v+1):=by
 obtain⟨k,rfl⟩:∃k,n=k+2:=⟨n-2,by omega⟩;rw[show k+2-1=k+1 by omega,show k+2-2=k by omega]at i;have m:0<4294967296^k:=F9 dc;have o:4294967296^(k+1)=4294967296^k*4294967296:=Cd ..;have t:4294967296^(k+2)=4294967296^k*4294967296*4294967296:=by rw[Cd,Cd]
 rw[o,<-Cy,<-Cy]at i;rw[t]at s j;clear o t;generalize 4294967296^k=W at*
 have h:0<v:=by
  rcases Eu v with l|l
  .subst l;omega
  .exact l
 obtain⟨a,f⟩:∃a,a=v/W:=⟨_,rfl⟩;obtain⟨g,c⟩:∃g,g=u/W:=⟨_,rfl⟩;rw[<-f,<-c]at i;have w:a*W<=v:=by rw[f];exact Fo v W
 have r:v<(a+1)*W:=by have:=I8 v m;rw[<-f,Bf]at this;exact this
 have y:g*W<=u:=by rw[c];exact Fo u W
 have a4:u<(g+1)*W:=by have:=I8 u m;rw[<-c,Bf]at this;exact this
 have z:2147483648*4294967296<=a:=by
  have:W*(2147483648*4294967296)<W*(a+1):=by
   have h1:=s;have h2:W*4294967296*4294967296=2*(W*(2147483648*4294967296)):=by rw[B7 W,<-B7 2,Bf 2 W,B7]
   rw[Bf W (a+1)];omega
  exact Nat.le_of_lt_succ (M3 this)
 have b2:a<4294967296*4294967296:=by
  have h1:a*W<4294967296*4294967296*W:=by rw[Bf (4294967296*4294967296) W,<-B7];omega
  exact Jo h1
 have hq:u/v<4294967296:=by rw[C2 h,Bf];exact hu
 have b3:g<(a+1)*4294967296:=by
  have h1:g*W<(a+1)*4294967296*W:=by
   have:v*4294967296<=(a+1)*W*4294967296:=By _ (Ig r);have e:(a+1)*W*4294967296=(a+1)*4294967296*W:=by rw[B7,Bf W,B7]
   omega
  exact Jo h1
 have c1:=Bhm om a4 w;have c2:=Bhn m y r om h;rw[i,(A5d z b2 b3)];omega
variable {b' c' s:Nat}
def Wn(v P:Nat):v%(P*4294967296)=v%P+P*(v/P%4294967296):=Xy
def A5e{x v u P c b y:Nat}(h:x+d*(v%P)=u%P+P*(c+b))(j:y+(d*(v/P%4294967296)+c)%4294967296+b=u/P%4294967296+4294967296*b'):
  (x+P*y)+d*(v%(P*4294967296))=u%(P*4294967296)+P*4294967296*((d*(v/P%4294967296)+c)/4294967296+b'):=by
 rw[Wn,Wn];generalize v/P%4294967296=a,u/P%4294967296=f at*;have hp:=G5 (d*a+c) 4294967296;generalize(d*a+c)/4294967296=q,(d*a+c)%4294967296=r at*;have h1:P*y+P*r+P*b=P*f+P*(4294967296*b'):=by rw[<-Ee,<-Ee,j,Ee]
 have h2:P*(4294967296*q)+P*r=P*(d*a)+P*c:=by rw[<-Ee,hp,Ee]
 have e:d*(v%P+P*a)=d*(v%P)+P*(d*a):=by rw[Ee,O4]
 have g:P*(c+b)=P*c+P*b:=Ee ..;have i:P*4294967296*(q+b')=P*(4294967296*q)+P*(4294967296*b'):=by rw[B7,Ee,Ee]
 rw[e,i];rw[g]at h;omega
def A5f{x v u P c y:Nat}(h:x+P*c=u%P+v%P)(a:y+4294967296*c'=u/P%4294967296+v/P%4294967296+c):
  (x+P*y)+P*4294967296*c'=u%(P*4294967296)+v%(P*4294967296):=by
 rw[Wn,Wn];generalize v/P%4294967296=d,u/P%4294967296=e at*;have h1:P*y+P*(4294967296*c')=P*e+P*d+P*c:=by rw[<-Ee,<-Ee,<-Ee,a]
 rw[B7];omega
def A5g{a P:Nat}(c:0<P)(hs:0<s):(a%P*s)/P<s/\a%(P*4294967296)*s=a%P*s+P*(a/P%4294967296*s):=by
 constructor
 .rw[C2 c,Bf s P];exact Hg (Dd _ c) hs
 .rw[Wn,Ca,B7]
variable {m:Nat}
def Oo(k:Nat):0<4294967296^k:=F9 dc
def A5h{b t:Nat}(f:t=b/4294967296^n)(h1:2147483648<=t*2^s)(h2:t*2^s<4294967296)(hs:s<=32):
  4294967296^(n+1)<=2*(b*2^s)/\b*2^s<4294967296^(n+1):=by
 have j:=Oo n;rw[Cd];generalize 4294967296^n=P at*;have c:t*P<=b:=by rw[f];exact Fo b P
 have d:b<(t+1)*P:=by have:=I8 b j;rw[<-f,Bf]at this;exact this
 have k:0<2^s:=F9 dc;obtain⟨e,m⟩:∃e,4294967296=2^s*e:=⟨2^(32-s),by rw[<-He,show s+(32-s)=32 by omega]⟩
 have i:(t+1)*2^s<=4294967296:=by
  rw[m,Bf]at h2|-;exact Em _ (M3 h2)
 generalize 2^s=S at*
 constructor
 .have a:t*P*S<=b*S:=By _ c;have h:P*2147483648<=P*(t*S):=Em _ h1;have g:t*P*S=P*(t*S):=by rw[Bf t P,B7]
  rw[g]at a;have l:P*4294967296=2*(P*2147483648):=by rw[O4]
  rw[l];exact Em 2 (Ae h a)
 .have a:=Hg d k;have h:P*((t+1)*S)<=P*4294967296:=Em _ i;have g:(t+1)*P*S=P*((t+1)*S):=by rw[Bf (t+1) P,B7]
  omega
def A5i{V R P q u:Nat}(c:0<P)(e:0<V)(i:R<V*(P*4294967296))(d:u=R/P)(a:q=u/V):
  u<V*4294967296/\q<4294967296/\q*V<=u/\R=q*V*P+((u-q*V)*P+R%P)/\(u-q*V)*P+R%P<V*P:=by
 have h1:u<V*4294967296:=by
  rw[d,C2 c,B7,Bf 4294967296 P];exact i
 have h2:q*V<=u:=by rw[a];exact Fo u V
 have f:u<(q+1)*V:=by have:=I8 u e;rw[<-a,Bf]at this;exact this
 have g:q<4294967296:=by
  rw[a,C2 e,Bf];exact h1
 have h5:u*P+R%P=R:=by rw[d];exact Ux R P
 have h6:=Dd R c
 refine⟨h1,g,h2,?_,?_⟩
 .rw[Nat.sub_mul];have:q*V*P<=u*P:=By _ h2;omega
 .have j:u-q*V<V:=by rw[Ca]at f;omega
  have h:(u-q*V+1)*P<=V*P:=By _ j;rw[Ca]at h;omega
def Bb4{a b S Q R:Nat}(f:0<S)(g:0<b)(h:a*S=Q*(b*S)+R)(e:R<b*S):Q=a/b/\R/S=a%b:=by
 have h1:a*S=S*(Q*b)+R:=by rw[h];congr 1;rw[Bf b S,O4]
 have h2:S∣R:=by
  refine(Nat.dvd_add_right (Nat.dvd_mul_right S (Q*b))).1 ?_;rw[<-h1];exact Nat.dvd_mul_left S a
 obtain⟨r,rfl⟩:=h2
 have c:a=Q*b+r:=by
  rw[<-Ee,Bf a S]at h1;exact Nat.eq_of_mul_eq_mul_left f h1
 have d:r<b:=by rw[Bf b S]at e;exact M3 e
 constructor
 .rw[c,Bf Q b,Nat.mul_add_div g,Gh d,Eb]
 .rw[Kx _ f,c,Bf Q b,Nat.mul_add_mod,Bl d]
def A5j{j R w:Nat}(hj:j+n<=m)(c:w<4294967296^n)(d:R<4294967296^(j+n)):
  Cm j R++Cm n w++Cm (m-j-n) (R/4294967296^(j+n))=Cm m (w*4294967296^j+R%4294967296^j):=by
 have h1:=Ahp j n (R%4294967296^j) w (Dd _ (Oo j));rw[Wl]at h1;rw[h1,Gh d]
 have h2:R%4294967296^j+4294967296^j*w<4294967296^(j+n):=by
  have:=Dd R (Oo j);have a:4294967296^j*(w+1)<=4294967296^j*4294967296^n:=Em _ c;rw[Ee,<-He]at a;generalize 4294967296^j=J,4294967296^(j+n)=K at*;generalize J*w=L at*;omega
 rw[Ahp _ _ _ _ h2,Vm,Eb,show j+n+(m-j-n)=m by omega,O3,Bf]
open Go.Eng
variable {i:Nat}
def Bm{x:Int}(h1: -9223372036854775808<=x)(h2:x<9223372036854775808):IntKind.i64.wrap x=x:=by
 rw[IntKind.wrap_i64];omega
def A4(h:(k:Int)<9223372036854775807):IntKind.i64.wrap ((k:Int)+1)=((k+1:Nat):Int):=by
 rw[Bm om oM];omega
def wrap_u32(n:Nat):IntKind.u32.wrap (n:Int)=((n%4294967296:Nat):Int):=by rw[IntKind.wrap_u32];omega
def wrap_u64(h:n<18446744073709551616):IntKind.u64.wrap (n:Int)=(n:Int):=by rw[IntKind.wrap_u64];omega
def Abx(n:Nat):(n:Int).fdiv (2^min 32 IntKind.u64.bits)=((n/4294967296:Nat):Int):=by
 show(n:Int).fdiv 4294967296=_
 rw[B4 _ om];omega
abbrev Aby(n:Nat):V:=.int .u32 (n:Int)
abbrev Az(l:List Nat):List V:=l.map Aby
def Af(l:List Nat):(Az l).all V.pureE=true:=by
 rw[Ao];intro v a;obtain⟨s,_,rfl⟩:=Bc.1 a;rfl
def Gf(l:List Nat)(i:Nat):Nat:=match l[i]? with|some x=>x|none=>0
def Avl(l:List Nat)(k:Nat)(h:k<l.length):Gz (Az l) k=some (.int .u32 (Gf l k)):=by
 rw[C0,Bj,Gf,Ah h];rfl
def Arh{v:Nat}(h:i<k):Gf (Cm k v) i=v/4294967296^i%4294967296:=by
 unfold Gf;rw[Arf k v i h]
def Abz{v:Nat}(h:i<k):Gz (Az (Cm k v)) i=some (.int .u32 ((v/4294967296^i%4294967296:Nat):Int)):=by
 rw[Avl _ _ (sG h),Arh h]
def Rv(x y:Nat):Int:=if x<y then -1 else if y<x then 1 else 0
def Ahq{a b P:Nat}(hP:0<P)(h:a/(P*4294967296)=b/(P*4294967296))(hl:a/P%4294967296<b/P%4294967296):a<b:=by
 rw[<-Cy,<-Cy]at h;have h1:a/P<b/P:=om
 rcases Cz a b with h2|h2
 .exact h2
 .have:=Nat.div_le_div_right (c:=P) h2;omega
def Avm{a b P:Nat}(h:a/(P*4294967296)=b/(P*4294967296))(hl:a/P%4294967296=b/P%4294967296):a/P=b/P:=by
 rw[<-Cy,<-Cy]at h;omega
def Yi(a b:Nat)(c:a<2^64/\b<2^64):bits .or .u64 a b=((a|||b:Nat):Int):=by
 have d:BitVec.ofInt 64 (a:Int)=BitVec.ofNat 64 a:=sm;have e:BitVec.ofInt 64 (b:Int)=BitVec.ofNat 64 b:=sm;have h1:=O5 c.1 c.2
 show IntKind.u64.wrap ((BitVec.ofInt 64 (a:Int)|||BitVec.ofInt 64 (b:Int)).toNat:Int)=_
 rw[d,e,Nk,Dj,Dj,Bl c.1,Bl c.2,IntKind.wrap_u64];omega
def Avn{x y:Nat}(h:x<2^k):y*2^k|||x=y*2^k+x:=by
 have:=Hh (i:=k) (b:=x) h y;rw[Bf]at this;exact this.symm
def E7(h:n<4294967296^m):(B0 n).length<=m:=by
 rw[<-A1e h];have:=Mh (Cm m n)
 rwa[Abv]at this
variable {vq:Nat}{done:List Nat}
def Ari(x:Nat)(r:List Nat)(k:Nat):Gf (x::r) (k+1)=Gf r k:=by simp[Gf]
def Al5:∀(l:List Nat)(k:Nat),k<l.length->Bd (l.take (k+1))=Bd (l.take k)+Gf l k*4294967296^k
 |x::r,0,_=>by simp[Bd,Gf]
 |x::r,k+1,h=>by
  have:=Al5 r k (sG h);rw[Ari,I6,Bd,this,I6,Bd,Cd,Ee,<-B7,<-B7,Bf 4294967296 (Gf r k),Sc (Gf r k)];omega
def P8(l:List Nat)(k:Nat)(h:l.length<=k):Bd (l.take k)=Bd l:=by rw[Ba h]
def Avo(n:Nat):Bd (List.replicate n 0)=0:=by
 induction n with
 |zero=>rfl
 |succ n ih=>simp[Gm,Bd,ih]
def Q1{a b:List Nat}(h:Ei a)(k:Ei b):Ei (a++b):=λx c=>by
 rcases Cc.1 c with h1|h1
 .exact h x h1
 .exact k x h1
def Ps{l:List Nat}(h:Ei l)(i:Nat):Gf l i<4294967296:=by
 unfold Gf
 split
 .rename_i x a;exact h x (Ar a)
 .omega
def A5k{a b c x y T P:Nat}(h:T+c*P=a+b)(z:Nat)(d:z=x+y+c):(T+z%4294967296*P)+z/4294967296*(P*4294967296)=(a+x*P)+(b+y*P):=by
 have h1:z%4294967296*P+z/4294967296*(P*4294967296)=z*P:=by
  rw[Bf P 4294967296,<-B7,<-Ca]
  congr 1
  omega
 have h2:z*P=x*P+y*P+c*P:=by rw[d,Ca,Ca]
 omega
def A5l{l:List Nat}(h:l.length<=k):Bd (l.take (k+1))=Bd (l.take k)+Gf l k*4294967296^k:=by
 have:Gf l k=0:=by unfold Gf;rw[Eg h]
 rw[this,P8 _ _ h,P8 _ _ om];omega
def Ri(l:List Nat)(k:Nat):Bd (l.take (k+1))=Bd (l.take k)+Gf l k*4294967296^k:=by
 by_cases h:k<l.length
 .exact Al5 l k h
 .exact A5l om
def Ll(done:List Nat)(n:Nat):List V:=Az (done++List.replicate n 0)
def Ab0(h:done.length=k):Gz (Ll done (n+1)) k=some (.int .u32 0):=by
 rw[C0,Ll,Bj,Bn om,h,F4,Gm];rfl
def Ab1(h:done.length=k)(z:Nat):(Ll done (n+1)).set k (.int .u32 (z:Int))=Ll (done++[z]) n:=by
 subst h;simp only[Ll,Az,Cg,Gm,Br];rw[Fl _ _ (by simp)];simp
def Wo:(Ll done n).length=done.length+n:=by simp[Ll]
def Arj(n:Nat):Ll [] n=List.replicate n (.int .u32 0):=by simp[Ll,Aby]
def Af7{x y:Nat}(h:x+y<18446744073709551616):IntKind.u64.wrap ((x:Int)+(y:Int))=((x+y:Nat):Int):=by
 rw[<-Du];exact wrap_u64 h
def Ark:∀(q:List Nat)(m z:Nat),m<q.length->Bd (q.set m z)+Gf q m*4294967296^m=Bd q+z*4294967296^m
 |x::q,0,z,_=>by simp[Bd,Gf];omega
 |x::q,m+1,z,h=>by
  have:=Ark q m z (sG h);have e:Gf (x::q) (m+1)=Gf q m:=by simp[Gf]
  rw[e,R9,Bd,Bd,Cd,<-B7,<-B7];omega
def A1f{q:List Nat}(h:m<q.length):Gz (Ll q n) m=some (.int .u32 (Gf q m)):=by
 rw[C0,Ll,Bj,Bt h,Gf,Ah h];rfl
def A1g{q:List Nat}(h:m<q.length)(z:Nat):(Ll q n).set m (.int .u32 (z:Int))=Ll (q.set m z) n:=by
 simp only[Ll,Az,Cg];rw[List.set_append_left _ _ (sG h),O6]
def A1h{q:List Nat}(h:Ei q)(m:Nat){z:Nat}(hz:z<4294967296):Ei (q.set m z):=λx a=>by
 rcases Fz a with h1|h1
 .exact h x h1
 .omega
def A5m{vs x y c t u T a:Nat}(h:d+c*a=T)(hs:vs+u*a=d+t%4294967296*a)(e:t=x*y+u+c):
  vs+t/4294967296*(a*4294967296)=T+x*y*a:=by
 have h1:t%4294967296*a+t/4294967296*(a*4294967296)=t*a:=by
  rw[Bf a 4294967296,<-B7,<-Ca]
  congr 1
  omega
 have h2:t*a=x*y*a+u*a+c*a:=by rw[e,Ca,Ca]
 omega
def Bb5{x y u c:Nat}(hx:x<4294967296)(hy:y<4294967296)(hu:u<4294967296)(hc:c<4294967296):x*y+u+c<18446744073709551616:=by
 have:x*y<=4294967295*4294967295:=Iq om om;omega
def Mi(x:Int):IntKind.u64.wrap x=x%18446744073709551616:=by rw[IntKind.wrap_u64]
def Al6(x:Int):IntKind.u32.wrap x=x%4294967296:=by rw[IntKind.wrap_u32]
def Bgy(x:Int):x.fdiv (2^min 63 IntKind.u64.bits)=x/9223372036854775808:=by
 show x.fdiv 9223372036854775808=_
 rw[B4 _ om]
def Bkv{x y c:Nat}(hx:x<4294967296)(hy:y<4294967296)(hc:c<=1):
  ∃z c':Nat,IntKind.u32.wrap (IntKind.u64.wrap (IntKind.u64.wrap ((x:Int)-(c:Int))-(y:Int)))=z/\
   (IntKind.u64.wrap (IntKind.u64.wrap ((x:Int)-(c:Int))-(y:Int))).fdiv (2^min 63 IntKind.u64.bits)=c'/\z<4294967296/\c'<=1/\z+y+c=x+4294967296*c':=by
 simp only[Bgy,Mi,Al6]
 by_cases h:y+c<=x
 .refine⟨x-y-c,0,?_,?_,?_,?_,?_⟩<;>omega
 .refine⟨x+4294967296-y-c,1,?_,?_,?_,?_,?_⟩<;>omega
def Bho(x c:Nat):IntKind.u64.wrap (IntKind.u64.wrap ((x:Int)-(c:Int))-((0:Nat):Int))=IntKind.u64.wrap ((x:Int)-(c:Int)):=by
 simp only[Mi];omega
def A1i{D a b c x y z P:Nat}(h:D+b=a+c*P)(d:z+y+c=x+4294967296*c'):(D+z*P)+(b+y*P)=(a+x*P)+c'*(P*4294967296):=by
 have h1:z*P+y*P+c*P=x*P+c'*(P*4294967296):=by
  rw[<-Ca,<-Ca,d,Ca,Bf 4294967296 c',B7,Bf 4294967296 P]
 omega
def A5n{D a b c P:Nat}(h:D+b=a+c*P)(hD:D<P)(hc:c<=1)(d:b<=a):c=0/\D=a-b:=by
 have:c=0\/c=1:=om
 rcases this with rfl|rfl
 .omega
 .omega
def Bhp{r x:Nat}(hr:r<4294967296)(a:x<4294967296):bits .or .u64 (IntKind.u64.wrap ((r:Int)*2^min (32:Int).toNat IntKind.u64.bits)) (x:Int)=((r*4294967296+x:Nat):Int):=by
 have e:IntKind.u64.wrap ((r:Int)*2^min (32:Int).toNat IntKind.u64.bits)=((r*4294967296:Nat):Int):=by
  show IntKind.u64.wrap ((r:Int)*4294967296)=_
  rw[Mi];omega
 rw[e,Yi (r*4294967296) x ⟨by omega,by omega⟩];exact congrArg Nat.cast (Avn (k:=32) a)
def Bb6{r x:Nat}(hr:r<4294967296)(a:x<4294967296):bits .or .u64 (x:Int) (IntKind.u64.wrap ((r:Int)*2^min (32:Int).toNat IntKind.u64.bits))=((r*4294967296+x:Nat):Int):=by
 have e:IntKind.u64.wrap ((r:Int)*2^min (32:Int).toNat IntKind.u64.bits)=((r*4294967296:Nat):Int):=by
  show IntKind.u64.wrap ((r:Int)*4294967296)=_
  rw[Mi];omega
 rw[e,Yi x (r*4294967296) ⟨by omega,by omega⟩,Xz];exact congrArg Nat.cast (Avn (k:=32) a)
def A5o{A P x r t:Nat}(c:0<d)(f:r=A/(P*4294967296)%d)(g:x=A/P%4294967296)(h:t=r*4294967296+x):
  t%d=A/P%d/\(d<4294967296->t/d<4294967296)/\A/P/d=A/(P*4294967296)/d*4294967296+t/d/\r<d:=by
 have e:A/P=A/(P*4294967296)*4294967296+x:=by
  rw[<-Cy,g];omega
 generalize A/(P*4294967296)=Y at*;have a:r<d:=by rw[f];exact Dd _ c
 have i:A/P=d*(Y/d*4294967296)+t:=by
  rw[e,h]
  conv=>lhs;rw[<-(G5 Y d)]
  rw[<-f,Ca,B7];omega
 have j:x<4294967296:=by rw[g];exact Dd _ dc
 refine⟨by rw[i,Nat.mul_add_mod],λ_=>?_,by rw[i,Nat.mul_add_div c],a⟩;rw[C2 c,h,Bf 4294967296 d];have:(r+1)*4294967296<=d*4294967296:=By _ a;omega
def Al7{q Q:Nat}(hq:q<4294967296):Cm (k+1) (Q*4294967296+q)=q::Cm k Q:=by
 simp only[Cm]
 congr 1
 .omega
 .congr 1;omega
def Arl(a b:Nat):(a:Int).tdiv (b:Int)=((a/b:Nat):Int):=by rw[<-Int.ofNat_tdiv]
def Arm(a b:Nat):(a:Int).tmod (b:Int)=((a%b:Nat):Int):=by rw[<-Int.ofNat_tmod]
def Aop{r x:Nat}(c:r<4294967296)(a:x<4294967296):bits .or .u64 (IntKind.u64.wrap ((r:Int)*2^min 32 IntKind.u64.bits)) (x:Int)=((r*4294967296+x:Nat):Int):=Bhp c a
def A5p{r x:Nat}(c:r<4294967296)(a:x<4294967296):bits .or .u64 (x:Int) (IntKind.u64.wrap ((r:Int)*2^min 32 IntKind.u64.bits))=((r*4294967296+x:Nat):Int):=Bb6 c a
def A1j(a b:Nat)(c:a<2^32/\b<2^32):bits .or .u32 a b=((a|||b:Nat):Int):=by
 have d:BitVec.ofInt 32 (a:Int)=BitVec.ofNat 32 a:=sm;have e:BitVec.ofInt 32 (b:Int)=BitVec.ofNat 32 b:=sm;have h1:=O5 c.1 c.2
 show IntKind.u32.wrap ((BitVec.ofInt 32 (a:Int)|||BitVec.ofInt 32 (b:Int)).toNat:Int)=_
 rw[d,e,Nk,Dj,Dj,Bl c.1,Bl c.2,IntKind.wrap_u32];omega
def A5q{a c t:Nat}(l:a<4294967296)(hs:s<32)(j:c<2^s)(h:t=a*2^s):
  t<18446744073709551616/\c|||t%4294967296=c+t%4294967296/\c+t%4294967296<4294967296/\t/4294967296<2^s:=by
 obtain⟨e,o,i⟩:∃e,4294967296=e*2^s/\0<e:=⟨2^(32-s),by rw[<-He,show 32-s+s=32 by omega],F9 dc⟩
 have hS:2^s<=2147483648:=by
  have:2^s<=2^31:=Dv dc om;exact this
 have f:0<2^s:=F9 dc;have m:t%4294967296=a%e*2^s:=by rw[h,o,Nat.mul_mod_mul_right]
 have k:a%e*2^s|||c=a%e*2^s+c:=Avn j
 have g:(a%e+1)*2^s<=e*2^s:=By _ (Dd a i);have n:a*2^s<4294967296*2^s:=Hg l f;rw[Xz,m,k]
 refine⟨by omega,by omega,?_,?_⟩
 .rw[Ca]at g;omega
 .rw[C2 dc,h,Bf (2^s)];exact n
def A5r{A c t:Nat}(e:c=A%4294967296^k*2^s/4294967296^k)(f:t=A/4294967296^k%4294967296*2^s)(d:c+t%4294967296<4294967296)(i:t/4294967296<4294967296):
  Cm (k+2) (A%4294967296^(k+1)*2^s)=Cm k (A%4294967296^k*2^s)++[c+t%4294967296,t/4294967296]:=by
 have a:0<4294967296^k:=F9 dc
 have j:A%4294967296^(k+1)*2^s=A%4294967296^k*2^s+4294967296^k*t:=by
  rw[Cd,Xy,Ca,B7,f]
 rw[Abw k 2,j];have h:(A%4294967296^k*2^s+4294967296^k*t)/4294967296^k=c+t:=by rw[Ma _ _ a,e]
 have g:Cm k (A%4294967296^k*2^s+4294967296^k*t)=Cm k (A%4294967296^k*2^s):=by
  rw[<-Wl k (_ +_),M2,Wl]
 rw[h,g]
 congr 1
 simp only[Cm]
 congr 1
 .omega
 .congr 1;omega
def A5s{A c:Nat}(a:c=A%4294967296^k*2^s/4294967296^k)(d:c<4294967296):Cm (k+1) (A%4294967296^k*2^s)=Cm k (A%4294967296^k*2^s)++[c]:=by
 rw[Adz,<-a,Bl d]
def A5t{A P:Nat}(hs:s<32):(A/P%4294967296+A/(P*4294967296)%4294967296*4294967296)/2^s%4294967296=A/2^s/P%4294967296:=by
 rw[<-Cy,Cy A (2^s) P,Bf (2^s) P,<-Cy];generalize A/P=X;obtain⟨e,c⟩:∃e,4294967296=e*2^s:=⟨2^(32-s),by rw[<-He,show 32-s+s=32 by omega]⟩;have a:0<2^s:=F9 dc;have h1:X=X%4294967296+X/4294967296%4294967296*4294967296+X/4294967296/4294967296*(4294967296*4294967296):=om
 have h2:X/4294967296/4294967296*(4294967296*4294967296)=2^s*(X/4294967296/4294967296*e*4294967296):=by
  conv=>lhs;rhs;lhs;rw[c]
  rw[B7 e,<-B7,O4]
 conv=>rhs;rw[h1,h2,Ma _ _ a,Nat.add_mul_mod_self_right]
def A5u{x:Nat}(hs:s<=64):(x:Int).fdiv (2^min (s:Int).toNat IntKind.u64.bits)=((x/2^s:Nat):Int):=by
 rw[show(s:Int).toNat=s by omega,G6 (show s<=IntKind.u64.bits from hs),B4 _ (Int.le_of_lt (Int.pow_pos dc))];rw[Uy,Vw];rfl
def A5v{x:Nat}(hs:s<=64)(h:x*2^s<18446744073709551616):IntKind.u64.wrap ((x:Int)*2^min (s:Int).toNat IntKind.u64.bits)=((x*2^s:Nat):Int):=by
 rw[show(s:Int).toNat=s by omega,G6 (show s<=IntKind.u64.bits from hs)];rw[show((x:Int)*2^s)=((x*2^s:Nat):Int)by rw[Fq,Vw];rfl];exact wrap_u64 h
def A1k{x:Nat}(hs:s<=64):(x:Int).fdiv (2^min s IntKind.u64.bits)=((x/2^s:Nat):Int):=A5u hs
def A1l{x:Nat}(hs:s<=64)(h:x*2^s<18446744073709551616):IntKind.u64.wrap ((x:Int)*2^min s IntKind.u64.bits)=((x*2^s:Nat):Int):=A5v hs h
variable {pre:List V}
def A5w{x y c:Nat}(hx:x<4294967296)(hy:y<4294967296)(hc:c<=1):
  ∃z c':Nat,IntKind.u32.wrap (IntKind.u64.wrap (IntKind.u64.wrap ((x:Int)-(y:Int))-(c:Int)))=z/\
   (IntKind.u64.wrap (IntKind.u64.wrap ((x:Int)-(y:Int))-(c:Int))).fdiv (2^min 63 IntKind.u64.bits)=c'/\z<4294967296/\c'<=1/\z+y+c=x+4294967296*c':=by
 simp only[Bgy,Mi,Al6]
 by_cases h:y+c<=x
 .refine⟨x-y-c,0,?_,?_,?_,?_,?_⟩<;>omega
 .refine⟨x+4294967296-y-c,1,?_,?_,?_,?_,?_⟩<;>omega
def M4(pre:List V)(n U:Nat)(post:List V)(k x:Nat):List V:=pre++(Az (Cm k x++Cm (n+1-k) (U/4294967296^k))++post)
def Ahr{post:List V}{U x:Nat}(h:k<=n+1):(M4 pre n U post k x).length=pre.length+(n+1)+post.length:=by
 simp[M4];omega
def Ad1{post:List V}{U:Nat}:M4 pre n U post 0 0=pre++(Az (Cm (n+1) U)++post):=by simp[M4,Cm]
def Arn{post:List V}{U x:Nat}:M4 pre n U post (n+1) x=pre++(Az (Cm (n+1) x)++post):=by simp[M4,Cm]
def Aro{post:List V}{U x:Nat}(h:k<=n):Gz (M4 pre n U post k x) (pre.length+k)=some (Aby (U/4294967296^k%4294967296)):=by
 obtain⟨m,a⟩:∃m,n+1-k=m+1:=⟨n-k,by omega⟩;rw[C0,M4,a,Bn om,Uz,Bt sm,Bj,Bn sm,Abv,F4,Cm];rfl
def Arp{post:List V}{U x z:Nat}(h:k<=n)(c:x<4294967296^k)(e:z<4294967296):
  (M4 pre n U post k x).set (pre.length+k) (Aby z)=M4 pre n U post (k+1) (x+4294967296^k*z):=by
 obtain⟨m,d⟩:∃m,n+1-k=m+1:=⟨n-k,by omega⟩
 have h1:Cm (k+1) (x+4294967296^k*z)=Cm k x++[z]:=by
  rw[<-Ahp k 1 x z c];simp only[Cm,Bl e]
 have h2:U/4294967296^k/4294967296=U/4294967296^(k+1):=by rw[Cy,Cd]
 rw[M4,M4,d,h1,Fl _ _ om,Uz,Cm,h2,show n+1-(k+1)=m by omega];have a:(Az (Cm k x)).length=k:=sm;simp only[Az,Cg,Br,B6,Cj,D8]at a|-;rw[Fl _ _ om,a,F4,K8]
def A5x{x z P:Nat}(hx:x<P)(a:z<4294967296):x+P*z<P*4294967296:=by
 have:P*(z+1)<=P*4294967296:=Em _ a;rw[Ee]at this;omega
def Aoq(n U G:Nat):Nat:=if G<=U then U-G else U+4294967296^(n+1)-G
def A5y{U V g x c b z:Nat}(d:U<4294967296^(n+1))(l:V<4294967296^n)(hx:x<4294967296^n)(m:x+g*(V%4294967296^n)=U%4294967296^n+4294967296^n*(c+b))
  (a:z+c+b=U/4294967296^n%4294967296+4294967296*b')(k:z<4294967296)(j:b'<=1):x+4294967296^n*z=Aoq n U (g*V)/\(b'=0↔g*V<=U):=by
 rw[Bl l]at m;have e:4294967296^(n+1)=4294967296^n*4294967296:=Cd ..;rw[Aoq,e];rw[e]at d;have i:0<4294967296^n:=F9 dc;generalize 4294967296^n=P at*;have h:U/P<4294967296:=by rw[C2 i,Bf];exact d
 rw[Bl h]at a;have hd:=G5 U P;generalize U/P=q,U%P=r,g*V=G at*;have h1:P*z+P*(c+b)=P*q+P*(4294967296*b'):=by rw[<-Ee,<-Ee,<-Hm,a]
 have o:b'=0\/b'=1:=om
 rcases o with rfl|rfl
 .rw[Ab om];omega
 .have h2:c+b>q:=om;have f:P*(q+1)<=P*(c+b):=Em _ h2;rw[Ee]at f;rw[I om];omega
def A5z{U W x c z:Nat}(g:U<4294967296^(n+1))(k:W<4294967296^n)(f:x<4294967296^n)(h:x+4294967296^n*c=U%4294967296^n+W%4294967296^n)
  (a:z=(U/4294967296^n%4294967296+c)%4294967296):x+4294967296^n*z=(U+W)%4294967296^(n+1):=by
 rw[Bl k]at h;rw[Cd]at g|-;have d:0<4294967296^n:=F9 dc;generalize 4294967296^n=P at g f h a d|-;have j:U/P<4294967296:=by rw[C2 d,Bf];exact g
 rw[Bl j]at a;have i:=G5 U P;generalize U/P=q at i a;generalize U%P=r at i h;have e:U+W=x+P*(q+c):=by rw[Ee];omega
 rw[e,Xy,M2,Bl f,Ma _ _ d,Gh f,Dn,a]
def Ab2(m n j R:Nat):List V:=Az (Cm (m-j-n) (R/4294967296^(j+(n+1))))
def Bhq{j R:Nat}(h:j+n<=m):Az (Cm (m+1) R)=M4 (Az (Cm j R)) n (R/4294967296^j) (Ab2 m n j R) 0 0:=by
 rw[Ad1,Ab2,show m+1=j+((n+1)+(m-j-n))by omega,Abw,Abw];simp only[Az,Cg];rw[Cy,<-He]
def Bb7{j R U w:Nat}(h:j+n<=m)(a:w<4294967296^(n+1))(c:R<4294967296^(j+(n+1))):
  M4 (Az (Cm j R)) n U (Ab2 m n j R) (n+1) w=Az (Cm (m+1) (w*4294967296^j+R%4294967296^j)):=by
 have:=A5j (m:=m+1) (n:=n+1) (j:=j) (R:=R) (w:=w) om a c;rw[Arn,<-this,Ab2,show m+1-j-(n+1)=m-j-n by omega];simp only[Az,Cg,B6]
def Avp{post:List V}{U w:Nat}:M4 pre n U post (n+1) w=M4 pre n w post 0 0:=by rw[Arn,Ad1]
def Aye{R:Nat}(h:n<=m+1):(Az (Cm (m+1) R)).take n=Az (Cm n R):=by
 rw[Az,<-Tx,Ad0 _ _ _ h]
def Bb8{u V w:Nat}(hV:0<V)(c:d=u/V)(a:w=u-u/V*V):¬u<d*V/\Aoq n u (d*V)=w:=by
 have h1:=Fo u V;rw[<-c]at h1 a;exact⟨by omega,by rw[Aoq,Ab h1,a]⟩
def Bb9{u V w:Nat}(j:0<V)(a:V<4294967296^n)(i:d=u/V+1)(h:w=u-u/V*V):
  u<d*V/\Aoq n u (d*V)<4294967296^(n+1)/\(Aoq n u (d*V)+V)%4294967296^(n+1)=w/\w<V:=by
 have h1:=Fo u V;have h2:=I8 u j;have e:d*V=u/V*V+V:=by rw[i,Ca,Xu]
 have g:V*(u/V+1)=u/V*V+V:=by rw[Bf,Ca,Xu]
 rw[g]at h2;have f:4294967296^(n+1)=4294967296^n*4294967296:=Cd ..;rw[Aoq,e];generalize u/V*V=Q at h1 h2 h|-;have c:V<4294967296^(n+1):=by rw[f];omega
 clear f a;generalize 4294967296^(n+1)=M at c|-;rw[I om];refine⟨by omega,by omega,?_,by omega⟩;rw[show u+M-(Q+V)+V=w+M by omega,Nat.add_mod_right,Bl om]
def Bca{A S Q q V R P a:Nat}(c:A*S=Q*(P*4294967296)*V+R)(d:R=q*V*P+a):A*S=(Q*4294967296+q)*P*V+a:=by
 rw[c,d,Ca,Ca,<-Hm]
 congr 1
 congr 1
 .rw[Bf P 4294967296,<-B7 Q]
 .rw[B7,B7,Bf V P]
def A1m{post:List V}{U:Nat}:((M4 pre n U post 0 0).drop pre.length).take (n+1)=Az (Cm (n+1) U):=by
 rw[Ad1,X0,Qo];simp
def Ab3(M i Q:Nat):List V:=List.replicate i (.int .u32 0)++Az (Cm (M-i) Q)
def A50{M Q:Nat}(h:i<=M):(Ab3 M i Q).length=M:=by simp[Ab3];omega
def A1n{M Q:Nat}:Ab3 M 0 Q=Az (Cm M Q):=by simp[Ab3]
def A51{M Q:Nat}:Ab3 M M Q=List.replicate M (.int .u32 0):=by simp[Ab3,Cm]
def A52{M Q:Nat}:Gz (Ab3 M (i+1) Q) i=some (.int .u32 0):=by
 rw[C0,Ab3,Bt sm,Hd,Ab om]
def A53{M Q q:Nat}(h:i+1<=M)(c:q<4294967296):(Ab3 M (i+1) Q).set i (.int .u32 (q:Int))=Ab3 M i (Q*4294967296+q):=by
 have a:M-i=(M-(i+1))+1:=om;rw[Ab3,Ab3,a,Al7 c,List.replicate_succ',B6,Fl _ _ (by simp)];simp
structure RI where
 neg:Bool
 mag:List Nat
def sgn(b:Bool)(n:Nat):Int:=if b=true then -(n:Int)else n
def RI.val(a:RI):Int:=sgn a.neg (Bd a.mag)
def RI.v(a:RI):V:=.agg [.bool a.neg,.ro 1 (Az a.mag)]
structure RI.ok(a:RI)(k:Nat):Prop where
 lim:Ei a.mag
 len:a.mag.length<=k
def nI(z:Int):RI:=⟨decide (z<0),B0 z.natAbs⟩
def Pd(z:Int):Nat:=(B0 z.natAbs).length
def I9(z:Int):(nI z).val=z:=by
 simp only[RI.val,nI,C6,sgn]
 by_cases h:z<0
 .rw[Ab (sG h)];omega
 .rw[I (sG h)];omega
def Hp{z:Int}(h:Pd z<=k):(nI z).ok k:=⟨Ct _,h⟩
def Yj(b:Bool)(n:Nat):(sgn b n).natAbs=n:=by unfold sgn;split<;>simp
def Bcb(b:Bool)(n:Nat):decide (sgn b n<0)=(b&& !decide (n=0)):=by
 unfold sgn;rw[Nl]
 cases b
 .simp
 .simp only[if_true,decide_eq_true_iff,Bool.true_and,Ht,decide_eq_false_iff_not];omega
def RI.abs(a:RI):a.val.natAbs=Bd a.mag:=Yj _ _
def RI.sz{a:RI}(h:a.ok k):Pd a.val<=k:=by
 rw[Pd,RI.abs];have:=Mh a.mag;rw[Lh a.mag h.lim]at this;exact Ae this h.len
def Bhr(b:Bool)(n:Nat):(nI (sgn b n)).v=.agg [.bool (b&& !decide (n=0)),.ro 1 (Az (B0 n))]:=by
 rw[nI,RI.v];simp only[Yj,Bcb]
def G8(z:Int):Int:=if z<0 then -1 else if 0<z then 1 else 0
def cmpI(a b:Int):Int:=if a<b then -1 else if b<a then 1 else 0
def A54(b:Bool)(n:Nat):G8 (sgn b n)=if b=true then -Rv n 0 else Rv n 0:=by
 unfold G8 sgn Rv;cases b<;>simp<;>(repeat' split)<;>omega
def Bcc(b c:Bool)(n m:Nat)(h1:¬G8 (sgn b n)<G8 (sgn c m))(h2:¬G8 (sgn c m)<G8 (sgn b n)):cmpI (sgn b n) (sgn c m)=G8 (sgn b n)*Rv n m:=by
 unfold cmpI G8 sgn Rv at*;cases b<;>cases c<;>simp at*<;>(repeat' split at h1)<;>(repeat' split at h2)<;>(repeat' split)<;>omega
def Bcd(b:Bool)(n m:Nat):sgn b n+sgn b m=sgn b (n+m):=by unfold sgn;cases b<;>simp<;>omega
def Bce{b c:Bool}(h:b≠c)(hm:m<=n):sgn b n+sgn c m=sgn b (n-m):=by unfold sgn;cases b<;>cases c<;>simp at*<;>omega
def A55{b c:Bool}(h:b≠c)(hm:n<=m):sgn b n+sgn c m=sgn c (m-n):=by unfold sgn;cases b<;>cases c<;>simp at*<;>omega
def Ayf(b c:Bool)(n m:Nat):sgn b n*sgn c m=sgn (b != c) (n*m):=by unfold sgn;cases b<;>cases c<;>simp[Int.neg_mul,X1,Fq]
def Bcf(b:Bool)(n:Nat):sgn (!b) n= -sgn b n:=by unfold sgn;cases b<;>simp
def Oq{a b j:Nat}(h1:(B0 a).length<=i)(h2:(B0 b).length<=j):(B0 (a*b)).length<=i+j:=by
 refine E7 ?_;have d:=K7 b
 rcases Eu (a*b)with h|h
 .rw[h];exact F9 dc
 .refine Cp (Nat.mul_lt_mul_of_lt_of_le (K7 a) (Ig d) (F9 dc)) ?_
  .rw[<-He];exact Dv dc om
def Af8{a b j:Nat}(h1:(B0 a).length<=i)(h2:(B0 b).length<=j):(B0 (a+b)).length<=max i j+1:=by
 refine E7 ?_;have a1:=K7 a;have b1:=K7 b;have d:4294967296^(B0 a).length<=4294967296^max i j:=Dv dc om;have c:4294967296^(B0 b).length<=4294967296^max i j:=Dv dc om;rw[Cd];generalize 4294967296^max i j=P at d c|-;omega
def Va{a b:Nat}(h:a<=b):(B0 a).length<=(B0 b).length:=E7 (Fe h (K7 b))
def Lm{l:List Nat}(h:Ei l):(B0 (Bd l)).length<=l.length:=by rw[<-Lh l h];exact Mh l
structure RR where
 num:RI
 den:List Nat
def RR.v(a:RR):V:=.agg [.bool a.num.neg,.ro 1 (Az a.num.mag),.ro 1 (Az a.den)]
def vRR(a:RR):a.v=V.agg [.bool a.num.neg,.ro 1 (Az a.num.mag),.ro 1 (Az a.den)]:=rfl
def RR.val(a:RR):Rat:=mkRat a.num.val (Bd a.den)
structure RR.ok(a:RR)(k:Nat):Prop where
 num:a.num.ok k
 lim:Ei a.den
 len:a.den.length<=k
def nR(q:Rat):RR:=⟨nI q.num,B0 q.den⟩
def Q2(q:Rat):Nat:=max (Pd q.num) ((B0 q.den).length)
def M5(q:Rat):(nR q).val=q:=by simp[RR.val,nR,I9,C6,Rat.mkRat_self]
def N7{q:Rat}(h:Q2 q<=k):(nR q).ok k:=⟨Hp (by unfold Q2 at h;omega),Ct _,by unfold Q2 at h;show(B0 q.den).length<=k;omega⟩
def Wp(b:Bool)(n d:Nat)(h:d≠0):(mkRat (sgn b n) d).num=sgn b (n/n.gcd d)/\(mkRat (sgn b n) d).den=d/n.gcd d:=by
 rw[mkRat,dif_neg h,Rat.normalize_eq];simp only[Yj];refine⟨?_,trivial⟩;unfold sgn
 cases b
 .simp
 .simp only[if_true];rw[Int.neg_ediv_of_dvd (Int.natCast_dvd_natCast.2 (U0 n d)),<-Uy]
def Bkw(b:Bool)(n d:Nat)(h:d≠0):nR (mkRat (sgn b n) d)=⟨nI (sgn b (n/n.gcd d)),B0 (d/n.gcd d)⟩:=by
 have⟨h1,h2⟩:=Wp b n d h;rw[nR,h1,h2]
def RR.p(a:RR):RR:=if Bd a.den=0 then⟨⟨false,[]⟩,B0 1⟩else a
def Aor:B0 1=[1]:=by rw[L4 dC];simp[Ep]
def RR.p_val(a:RR):a.p.val=a.val:=by
 unfold RR.p
 split
 .rename_i h;rw[RR.val,RR.val,h];simp[RI.val,sgn,Bd,X2,Sf]
 .rfl
def RR.p_ne(a:RR):Bd a.p.den≠0:=by
 unfold RR.p
 split
 .simp only[C6];decide
 .assumption
def RR.p_ok{a:RR}(h:a.ok k)(c:1<=k):a.p.ok k:=by
 unfold RR.p
 split
 .exact⟨⟨by simp[Ei],by simp⟩,Ct _,by rw[Aor];simpa using c⟩
 .exact h
def Ad2{b:Bool}(h:d≠0)(h1:(B0 n).length<=k)(h2:(B0 d).length<=k):Q2 (mkRat (sgn b n) d)<=k:=by
 have⟨c,a⟩:=Wp b n d h;rw[Q2,c,a,Pd,Yj];have a1:=Va (G7 n (n.gcd d));have a2:=Va (G7 d (n.gcd d));omega
def RR.sz{a:RR}(h:a.ok k)(d:1<=k):Q2 a.val<=k:=by
 rw[<-RR.p_val];have c:=RR.p_ok h d;exact Ad2 (RR.p_ne a) (Ae (Lm c.num.lim) c.num.len) (Ae (Lm c.lim) c.len)
def A56{f d:Int}{a c:Nat}(h1:a≠0)(h2:c≠0):mkRat f a<mkRat d c↔f*c<d*a:=by
 rw[Rat.mkRat_eq_div,Rat.mkRat_eq_div,Rat.div_lt_iff (Rat.natCast_pos.2 (Ie h1))]
 have e:(d:Rat)/(c:Rat)*(a:Rat)=((d:Rat)*(a:Rat))/(c:Rat):=by
  rw[Rat.div_def,Rat.div_def,Rat.mul_assoc,Rat.mul_comm _ (a:Rat),<-Rat.mul_assoc]
 rw[e,Rat.lt_div_iff (Rat.natCast_pos.2 (Ie h2))];rw[<-Rat.intCast_natCast,<-Rat.intCast_natCast,<-Rat.intCast_mul,<-Rat.intCast_mul,Rat.intCast_lt_intCast]
def Ot(p q:Rat):Int:=if p<q then -1 else if q<p then 1 else 0
def Ayg{e d:Int}{a c:Nat}(h1:a≠0)(h2:c≠0):Ot (mkRat e a) (mkRat d c)=cmpI (e*c) (d*a):=by
 unfold Ot cmpI;simp only[A56 h1 h2,A56 h2 h1]
def Afg(q:Rat):Int:=Ot q 0
def A57{n:Int}(h:d≠0):Afg (mkRat n d)=G8 n:=by
 have e:(0:Rat)=mkRat 0 1:=by rw[Sf]
 rw[Afg,e,Ayg h dC];unfold cmpI G8;simp
variable {α:Type}
def Ap(l:List Int):List V:=l.map (V.int .i64)
@[simp]def A0(l:List Int):(Ap l).length=l.length:=by simp[Ap]
def Fr{l:List Int}(h:k<l.length):Gz (Ap l) k=some (.i l[k]):=by rw[C0];simp[Ap,h]
def Ac(l:List Int):(Ap l).all V.pureE=true:=by
 rw[Ao];intro x a;simp only[Ap,Bc]at a;obtain⟨n,_,rfl⟩:=a;rfl
def M6(f:α->Int):List α->Int
 |[]=>0
 |x::r=>if f x≠0 then f x else M6 f r
def Pt(f:α->Int){l:List α}(h:k<l.length):M6 f (l.drop k)=if f l[k]≠0 then f l[k]else M6 f (l.drop (k+1)):=by
 rw[Bo h,M6]
def A58(f:α->Bool){l:List α}(h:k<l.length):(l.drop k).any f=(f l[k]||(l.drop (k+1)).any f):=by
 rw[Bo h,Zv]
def T9{f:α->Int}:∀ {l:List α},M6 f l=0->∀x∈l,f x=0
 |[],_,x,a=>by cases a
 |y::r,h,x,a=>by
  rw[M6]at h
  split at h
  .rename_i c;exact absurd h c
  .rename_i c
   rcases Bu.1 a with e|e
   .subst e;exact Classical.not_not.1 c
   .exact T9 h x e
def Wq:List Int->Bool
 |[]=>true
 |[_]=>true
 |a::b::r=>decide (a<b)&&Wq (b::r)
def Avq{l:List Int}(h:k+1<l.length):Wq (l.drop k)=(decide (l[k]'(by omega)<l[k+1])&&Wq (l.drop (k+1))):=by
 rw[Bo (by omega:k<l.length),Bo h,Wq]
def A1o{l:List Int}(h:l.length<=k+1):Wq (l.drop k)=true:=by
 have:(l.drop k).length<=1:=by simp;omega
 match hd:l.drop k,this with
 |[],_=>rfl
 |[_],_=>rfl
structure Gr where
 pts:List Int
 pri:List Int
def Gr.v(g:Gr):V:=.agg [.ro 1 (Ap g.pts),.ro 1 (Ap g.pri)]
def Ahs(p w:Int):Bool:=decide (p< -1000)||decide (1000<p)||decide (w<1)||decide (1000<w)
def Tm:List Int->List Int->Bool
 |p::ps,w::a=>Ahs p w||Tm ps a
 |_,_=>false
def Arq:∀ {l m:List Int}{k:Nat}(h1:k<l.length)(h2:k<m.length),Tm (l.drop k) (m.drop k)=(Ahs l[k] m[k]||Tm (l.drop (k+1)) (m.drop (k+1))):=by
 intro l m k h1 h2;rw[Bo h1,Bo h2,Tm]
def L5(g:Gr):Int:=
 if 21<g.pts.length then 5 else if g.pts.length=0 then 20 else if g.pri.length≠g.pts.length then 1
 else if Tm g.pts g.pri=true then 3 else if Wq g.pts=false then 23 else 0
def Aht:∀ {l m:List Int},l.length=m.length->Tm l m=false->(∀p∈l,-1000<=p/\p<=1000)/\∀w∈m,1<=w/\w<=1000
 |[],[],_,_=>by simp
 |p::ps,w::c,d,h=>by
  rw[Tm,E8]at h;have⟨h1,h2⟩:=Aht (l:=ps) (m:=c) (sG d) h.2;simp[Ahs]at h
  refine⟨λx a=>?_,λx a=>?_⟩
  .rcases Bu.1 a with e|e
   .subst e;omega
   .exact h1 x e
  .rcases Bu.1 a with e|e
   .subst e;omega
   .exact h2 x e
structure Gr.ok(g:Gr):Prop where
 len:g.pts.length<=21
 pos:0<g.pts.length
 same:g.pri.length=g.pts.length
 pts:∀p∈g.pts,-1000<=p/\p<=1000
 pri:∀w∈g.pri,1<=w/\w<=1000
 ord:Wq g.pts=true
def Kn{g:Gr}(h:L5 g=0):g.ok:=by
 unfold L5 at h
 (repeat' split at h)<;>try omega
 rename_i h1 h2 h3 d e;have⟨a,c⟩:=Aht (l:=g.pts) (m:=g.pri) om (sG d);exact⟨by omega,by omega,by omega,a,c,by simpa using e⟩
def B9(w:List Nat):List V:=w.map λn=>.ro 1 (Az (B0 n))
@[simp]def Ib(w:List Nat):(B9 w).length=w.length:=by simp[B9]
def Li{w:List Nat}(h:k<w.length):Gz (B9 w) k=some (.ro 1 (Az (B0 w[k]))):=by rw[C0];simp[B9,h]
def Bx(w:List Nat):(B9 w).all V.pureE=true:=by
 rw[Ao];intro x a;simp only[B9,Bc]at a;obtain⟨n,_,rfl⟩:=a;simpa[V.pureE]using Af (B0 n)
def Gj:List Nat->Nat
 |[]=>0
 |w::r=>w+Gj r
def Nq:List Int->List Nat->Int
 |p::ps,w::r=>w*p+Nq ps r
 |_,_=>0
def Tn:List Int->List Nat->Int
 |p::ps,w::r=>w*p*p+Tn ps r
 |_,_=>0
abbrev Mo:=List (List Int)
def Eo(m:Mo):List V:=m.map λr=>.ro 1 (Ap r)
@[simp]def Mj(m:Mo):(Eo m).length=m.length:=by simp[Eo]
def Ua{m:Mo}(h:k<m.length):Gz (Eo m) k=some (.ro 1 (Ap m[k])):=by rw[C0];simp[Eo,h]
def D0(m:Mo):(Eo m).all V.pureE=true:=by
 rw[Ao];intro x a;simp only[Eo,Bc]at a;obtain⟨n,_,rfl⟩:=a;simpa[V.pureE]using Ac n
def moV(m:Mo):V:=.agg [.ro 1 (Eo m)]
def Ako:List Int->Int
 |[]=>0
 |x::r=>x+Ako r
def Akp(x:Int):Bool:=decide (x<1)||decide (1000<x)
def Ad3(c:Nat)(r:List Int):Int:=if r.length≠c then 1 else if r.any Akp=true then 3 else if Ako r≠1000 then 19 else 0
def Y1(m:Mo):Nat:=match m with|[]=>0|r::_=>r.length
def L6(m:Mo)(n:Int):Int:=
 if n<1\/21<n\/(m.length:Int)≠n then 1
 else if Y1 m<2\/6<Y1 m then 3 else M6 (Ad3 (Y1 m)) m
def A1p{l:List Int}(h:k<l.length):Ako (l.drop k)=l[k]+Ako (l.drop (k+1)):=by rw[Bo h,Ako]
structure moOk(m:Mo)(n:Nat):Prop where
 len:m.length=n
 pos:0<n
 le:n<=21
 two:2<=Y1 m
 six:Y1 m<=6
 row:∀r∈m,r.length=Y1 m/\(∀x∈r,1<=x/\x<=1000)/\Ako r=1000
def Ab4{m:Mo}(h:L6 m n=0):moOk m n:=by
 unfold L6 at h
 (repeat' split at h)<;>try omega
 rename_i h1 h2;refine⟨by omega,by omega,by omega,by omega,by omega,λr e=>?_⟩;have a:=T9 h r e;unfold Ad3 at a
 (repeat' split at a)<;>try omega
 rename_i h4 d h6;refine⟨by omega,λx c=>?_,by omega⟩;have:=Tg.1 (by simpa using d:r.any Akp=false) x c;simp[Akp]at this;omega
def Ub(q:Rat):Rat:=if q<0 then -q else q
def Uc(q:Rat):List Int->Nat->Nat->Rat->Nat
 |[],_,b,_=>b
 |p::r,i,b,l=>if Ub (p-q)<l then Uc q r (i+1) i (Ub (p-q))else Uc q r (i+1) b l
def Ahu(a:List Int)(q:Rat):Nat:=match a with
 |[]=>0
 |p::r=>Uc q r 1 0 (Ub (p-q))
def Avr(q:Rat){l:List Int}(h:k<l.length)(i b:Nat)(d:Rat):Uc q (l.drop k) i b d=if Ub (l[k]-q)<d then Uc q (l.drop (k+1)) (i+1) i (Ub (l[k]-q))else Uc q (l.drop (k+1)) (i+1) b d:=by
 rw[Bo h,Uc]
def Ahv(q:Rat):∀(l:List Int)(i b:Nat)(d:Rat),b<i->Uc q l i b d<i+l.length
 |[],i,b,d,h=>by simpa[Uc]using h
 |p::r,i,b,d,h=>by
  rw[Uc]
  split
  .have:=Ahv q r (i+1) i (Ub (p-q)) om;simp;omega
  .have:=Ahv q r (i+1) b d om;simp;omega
def Bcg{a:List Int}(q:Rat)(h:0<a.length):Ahu a q<a.length:=by
 cases a with
 |nil=>simp at h
 |cons p r=>have:=Ahv q r 1 0 (Ub (p-q)) om;simp[Ahu];omega
def nIb(z:Int):Bool:=decide (z<0)
def nIl(z:Int):List V:=Az (B0 z.natAbs)
def Avs(z:Int):(nI z).v=.agg [.bool (nIb z),.ro 1 (nIl z)]:=rfl
def Ws(z:Int):(nIl z).all V.pureE=true:=Af _
def nRl(q:Rat):List V:=nIl q.num
def nRd(q:Rat):List V:=Az (B0 q.den)
def nRb(q:Rat):Bool:=nIb q.num
def Y2(q:Rat):(nR q).v=.agg [.bool (nRb q),.ro 1 (nRl q),.ro 1 (nRd q)]:=rfl
def Jl(q:Rat):(nRl q).all V.pureE=true:=Af _
def Jm(q:Rat):(nRd q).all V.pureE=true:=Af _
def A59:nIb 0=false:=rfl
def A6a:nIl 0=[]:=by simp[nIl,Ep,Az]
def Gx(n:Nat):List V:=Az (B0 n)
def F7(n:Nat):(Gx n).all V.pureE=true:=Af _
def Yk{w:List Nat}(h:k<w.length):Gj (w.take (k+1))=Gj (w.take k)+w[k]:=by
 have c:∀(a:List Nat)(x:Nat),Gj (a++[x])=Gj a+x:=by
  intro a x;induction a with
  |nil=>simp[Gj]
  |cons y a ih=>simp only[Cj,Gj,ih];omega
 rw[Av h,c]
def Al8{l:List Int}{w:List Nat}(h1:k<l.length)(h2:k<w.length):Nq (l.take (k+1)) (w.take (k+1))=Nq (l.take k) (w.take k)+w[k]*l[k]:=by
 have c:∀(a:List Int)(b:List Nat)(x:Int)(y:Nat),a.length=b.length->Nq (a++[x]) (b++[y])=Nq a b+y*x:=by
  intro a;induction a with
  |nil=>intro b x y h;cases b with
   |nil=>simp[Nq]
   |cons _ _=>simp at h
  |cons p a ih=>intro b x y h;cases b with
   |nil=>simp at h
   |cons q b=>simp only[Cj,Nq,ih b x y (sG h)];omega
 rw[Av h1,Av h2,c _ _ _ _ (by simp;omega)]
def Al9{l:List Int}{w:List Nat}(h1:k<l.length)(h2:k<w.length):Tn (l.take (k+1)) (w.take (k+1))=Tn (l.take k) (w.take k)+w[k]*l[k]*l[k]:=by
 have c:∀(a:List Int)(b:List Nat)(x:Int)(y:Nat),a.length=b.length->Tn (a++[x]) (b++[y])=Tn a b+y*x*x:=by
  intro a;induction a with
  |nil=>intro b x y h;cases b with
   |nil=>simp[Tn]
   |cons _ _=>simp at h
  |cons p a ih=>intro b x y h;cases b with
   |nil=>simp at h
   |cons q b=>simp only[Cj,Tn,ih b x y (sG h)];omega
 rw[Av h1,Av h2,c _ _ _ _ (by simp;omega)]
end Go.Eng.Limb
namespace Go.Proofs.YtnoignhlamifmaaGreatDoor
open Go.Eng
@[simp]def Bm4:Yz prog 2=some .i64/\Hz prog 3=some 1/\En prog 3=some false/\Ds prog 3=some (.i 0)/\Sv prog 3=some 1/\Iw prog 3=some 8/\Yz prog 3=some .i64/\Hz prog 4=some 1/\En prog 4=some false/\Ds prog 4=some (.bool false)/\Ax2 prog 4=true/\Ds prog 5=some (.int .u8 0)/\Sv prog 5=some 1/\Iw prog 5=some 1/\Yz prog 5=some .u8/\Hz prog 9=some 1/\En prog 9=some false/\Ds prog 9=some (.str [])/\Sv prog 9=some 1/\Aa4 prog 9=true/\Yz prog 9=none/\Hz prog 22=some 1/\En prog 22=some false/\Fw prog 22=some 203:=ka
@[simp]def Bms:Hz prog 24=some 2/\En prog 24=some true/\Ds prog 24=some (.agg [.i 0,.nils])/\Bi prog 24 0=some (0,1,false)/\Bi prog 24 1=some (1,1,false)/\Ej prog 24=true/\Hz prog 25=some 1/\En prog 25=some false/\Ds prog 25=some (.nils)/\Sv prog 25=some 1/\Iw prog 25=some 24/\Fw prog 25=some 3/\Hz prog 27=some 2/\En prog 27=some true/\Ds prog 27=some (.agg [.nils,.nils])/\Sv prog 27=some 2/\Bi prog 27 0=some (0,1,false)/\Bi prog 27 1=some (1,1,false)/\Ej prog 27=true/\Hz prog 28=some 1/\En prog 28=some false/\Fw prog 28=some 447/\Hz prog 30=some 1/\En prog 30=some false:=ka
@[simp]def Bmt:Ds prog 30=some (.nils)/\Sv prog 30=some 1/\Iw prog 30=some 24/\Fw prog 30=some 164/\Hz prog 32=some 2/\En prog 32=some true/\Ds prog 32=some (.agg [.bool false,.nils])/\Sv prog 32=some 2/\Bi prog 32 0=some (0,1,false)/\Bi prog 32 1=some (1,1,false)/\Ej prog 32=true/\Hz prog 34=some 3/\En prog 34=some true/\Ds prog 34=some (.agg [.bool false,.nils,.nils])/\Sv prog 34=some 3/\Bi prog 34 0=some (0,2,true)/\Bi prog 34 1=some (2,1,false)/\Ej prog 34=true/\Hz prog 36=some 18/\En prog 36=some true/\Ds prog 36=some (.agg [.i 0,.nils,.nils,.nils,.nils,.i 0,.bool false,.nils,.nils,.i 0,.bool false,.nils,.nils,.i 0,.bool false,.nils,.nils,.i 0])/\Sv prog 36=some 18/\Bi prog 36 0=some (0,2,true)/\Bi prog 36 1=some (2,2,true):=ka
@[simp]def Blx:Bi prog 36 2=some (4,1,false)/\Bi prog 36 3=some (5,1,false)/\Bi prog 36 4=some (6,3,true)/\Bi prog 36 5=some (9,1,false)/\Bi prog 36 6=some (10,3,true)/\Bi prog 36 7=some (13,1,false)/\Bi prog 36 8=some (14,3,true)/\Bi prog 36 9=some (17,1,false)/\Ej prog 36=true/\Hz prog 37=some 1/\En prog 37=some false/\Fw prog 37=some 111/\Hz prog 38=some 1/\En prog 38=some false/\Fw prog 38=some 150/\Hz prog 39=some 1/\En prog 39=some false/\Fw prog 39=some 310/\Hz prog 41=some 3/\En prog 41=some true/\Ds prog 41=some (.agg [.i 0,.i 0,.i 0])/\Bi prog 41 0=some (0,1,false)/\Bi prog 41 1=some (1,1,false)/\Bi prog 41 2=some (2,1,false):=ka
@[simp]def Bmu:Ej prog 41=true/\Hz prog 42=some 1/\En prog 42=some false/\Yz prog 42=some .u64/\Hz prog 44=some 30/\En prog 44=some true/\Ds prog 44=some (.agg [.i 0,.i 0,.i 0,.nils,.nils,.nils,.nils,.i 0,.bool false,.nils,.nils,.i 0,.bool false,.nils,.nils,.i 0,.bool false,.nils,.nils,.i 0,.nils,.nils,.nils,.nils,.i 0,.i 0,.i 0,.i 0,.i 0,.int .u64 0])/\Sv prog 44=some 30/\Bi prog 44 0=some (0,1,false)/\Bi prog 44 1=some (1,1,false)/\Bi prog 44 2=some (2,18,true)/\Bi prog 44 3=some (20,1,false)/\Bi prog 44 4=some (21,1,false)/\Bi prog 44 5=some (22,1,false)/\Bi prog 44 6=some (23,1,false)/\Bi prog 44 7=some (24,1,false)/\Bi prog 44 8=some (25,1,false)/\Bi prog 44 9=some (26,3,true)/\Bi prog 44 10=some (29,1,false)/\Ej prog 44=true/\Fw prog 62=some 79/\Hz prog 47=some 1/\En prog 47=some false/\Fw prog 47=some 121:=ka
@[simp]def Bmv:Hz prog 48=some 1/\En prog 48=some false/\Fw prog 48=some 30/\Hz prog 49=some 1/\En prog 49=some false/\Hz prog 51=some 6/\En prog 51=some true/\Ds prog 51=some (.agg [.nils,.nils,.i 0,.nils,.int .u64 0,.i 0])/\Sv prog 51=some 6/\Bi prog 51 0=some (0,1,false)/\Bi prog 51 1=some (1,1,false)/\Bi prog 51 2=some (2,1,false)/\Bi prog 51 3=some (3,1,false)/\Bi prog 51 4=some (4,1,false)/\Bi prog 51 5=some (5,1,false)/\Ej prog 51=true/\Hz prog 52=some 1/\En prog 52=some false/\Fw prog 52=some 75/\Hz prog 53=some 1/\En prog 53=some false/\Fw prog 53=some 77/\Hz prog 55=some 12/\En prog 55=some true:=ka
@[simp]def Bmw:Ds prog 55=some (.agg [.i 0,.i 0,.i 0,.i 0,.nils,.nils,.i 0,.nils,.int .u64 0,.i 0,.nils,.nils])/\Sv prog 55=some 12/\Bi prog 55 0=some (0,1,false)/\Bi prog 55 1=some (1,1,false)/\Bi prog 55 2=some (2,1,false)/\Bi prog 55 3=some (3,1,false)/\Bi prog 55 4=some (4,6,true)/\Bi prog 55 5=some (10,1,false)/\Bi prog 55 6=some (11,1,false)/\Ej prog 55=true/\Hz prog 75=some 5/\En prog 75=some true/\Ds prog 75=some (.agg [.i 0,.nils,.i 0,.str [],.bool false])/\Sv prog 75=some 5/\Iw prog 75=some 64/\Bi prog 75 0=some (0,1,false)/\Bi prog 75 1=some (1,1,false)/\Bi prog 75 2=some (2,1,false)/\Bi prog 75 3=some (3,1,false)/\Bi prog 75 4=some (4,1,false)/\Ej prog 75=true/\Hz prog 77=some 4/\En prog 77=some true/\Ds prog 77=some (.agg [.i 0,.i 0,.i 0,.i 0]):=ka
@[simp]def Bmx:Sv prog 77=some 4/\Iw prog 77=some 32/\Bi prog 77 0=some (0,1,false)/\Bi prog 77 1=some (1,1,false)/\Bi prog 77 2=some (2,1,false)/\Bi prog 77 3=some (3,1,false)/\Ald prog 77=some [0,0,0,0]/\Hz prog 79=some 11/\En prog 79=some true/\Ds prog 79=some (.agg [.i 0,.i 0,.i 0,.nils,.i 0,.str [],.bool false,.i 0,.i 0,.i 0,.i 0])/\Sv prog 79=some 11/\Iw prog 79=some 112/\Bi prog 79 0=some (0,1,false)/\Bi prog 79 1=some (1,1,false)/\Bi prog 79 2=some (2,5,true)/\Bi prog 79 3=some (7,4,true)/\Ej prog 79=true/\Hz prog 203=some 5/\En prog 203=some true/\Ds prog 203=some (.agg [.i 0,.i 0,.i 0,.i 0,.str []]):=ka
@[simp]def Bmy:Sv prog 203=some 5/\Bi prog 203 0=some (0,1,false)/\Bi prog 203 1=some (1,1,false)/\Bi prog 203 2=some (2,1,false)/\Bi prog 203 3=some (3,1,false)/\Bi prog 203 4=some (4,1,false)/\Hz prog 148=some 1/\En prog 148=some false/\Fw prog 148=some 9/\Hz prog 150=some 17/\En prog 150=some true/\Ds prog 150=some (.agg [.i 0,.i 0,.i 0,.str [],.nils,.nils,.i 0,.i 0,.nils,.i 0,.str [],.i 0,.i 0,.i 0,.i 0,.nils,.i 0])/\Sv prog 150=some 17/\Bi prog 150 0=some (0,1,false)/\Bi prog 150 1=some (1,1,false)/\Bi prog 150 2=some (2,1,false)/\Bi prog 150 3=some (3,1,false)/\Bi prog 150 4=some (4,1,false)/\Bi prog 150 5=some (5,1,false)/\Bi prog 150 6=some (6,1,false)/\Bi prog 150 7=some (7,1,false)/\Bi prog 150 8=some (8,1,false)/\Bi prog 150 9=some (9,1,false)/\Bi prog 150 10=some (10,1,false):=ka
@[simp]def Bkx:Bi prog 150 11=some (11,1,false)/\Bi prog 150 12=some (12,1,false)/\Bi prog 150 13=some (13,1,false)/\Bi prog 150 14=some (14,1,false)/\Bi prog 150 15=some (15,1,false)/\Bi prog 150 16=some (16,1,false)/\Ej prog 150=true/\Hz prog 121=some 2/\En prog 121=some true/\Ds prog 121=some (.agg [.i 0,.i 0])/\Sv prog 121=some 2/\Iw prog 121=some 16/\Bi prog 121 0=some (0,1,false)/\Bi prog 121 1=some (1,1,false)/\Ej prog 121=true/\Ald prog 121=some [0,0]/\Hz prog 107=some 1/\En prog 107=some false/\Fw prog 107=some 25/\Hz prog 109=some 1/\En prog 109=some true/\Ds prog 109=some (.agg [.nils])/\Sv prog 109=some 1/\Bi prog 109 0=some (0,1,false):=ka
@[simp]def Bl7:Ej prog 109=true/\Hz prog 111=some 9/\En prog 111=some true/\Ds prog 111=some (.agg [.i 0,.str [],.i 0,.i 0,.i 0,.i 0,.i 0,.i 0,.nils])/\Sv prog 111=some 9/\Iw prog 111=some 96/\Bi prog 111 0=some (0,1,false)/\Bi prog 111 1=some (1,1,false)/\Bi prog 111 2=some (2,1,false)/\Bi prog 111 3=some (3,1,false)/\Bi prog 111 4=some (4,1,false)/\Bi prog 111 5=some (5,1,false)/\Bi prog 111 6=some (6,1,false)/\Bi prog 111 7=some (7,1,false)/\Bi prog 111 8=some (8,1,true)/\Ej prog 111=true/\Hz prog 164=some 1:=ka
@[simp]def Bl8:En prog 164=some false/\Ds prog 164=some (.int .u32 0)/\Sv prog 164=some 1/\Iw prog 164=some 4/\Yz prog 164=some .u32/\Fw prog 45=some 5/\Adl prog 45=true/\Hz prog 205=some 1/\En prog 205=some false/\Ds prog 205=some (.nili)/\Sv prog 205=some 1/\Iw prog 205=some 16/\Hz prog 221=some 1/\En prog 221=some false/\Hz prog 273=some 2/\En prog 273=some true/\Ds prog 273=some (.agg [.i 0,.i 0])/\Sv prog 273=some 2/\Bi prog 273 0=some (0,1,false)/\Bi prog 273 1=some (1,1,false)/\Ej prog 273=true/\Hz prog 276=some 1/\En prog 276=some false/\Ds prog 278=some (.agg [.i 0,.i 0,.nilf]):=ka
@[simp]def Bky:Bi prog 278 0=some (0,2,true)/\Bi prog 278 1=some (2,1,false)/\Ej prog 278=true/\Ds prog 280=some (.agg [.i 0,.i 0,.nilf,.str []])/\Nx prog 280=true/\Bi prog 280 0=some (0,3,true)/\Bi prog 280 1=some (3,1,false)/\Ej prog 280=true/\Ds prog 282=some (.agg [.i 0,.i 0,.nilf])/\Nx prog 282=true/\Bi prog 282 0=some (0,3,true)/\Ej prog 282=true/\Ds prog 283=some (.agg [.i 0,.i 0,.nilf])/\Nx prog 283=true/\Bi prog 283 0=some (0,3,true)/\Ej prog 283=true/\Ds prog 284=some (.agg [.i 0,.i 0,.nilf])/\Nx prog 284=true/\Bi prog 284 0=some (0,3,true)/\Ej prog 284=true/\Ds prog 286=some (.agg [.i 0,.i 0,.nilf,.i 0])/\Nx prog 286=true/\Bi prog 286 0=some (0,3,true)/\Bi prog 286 1=some (3,1,false):=ka
@[simp]def Bl9:Ej prog 286=true/\Hz prog 288=some 3/\En prog 288=some true/\Ds prog 288=some (.agg [.i 0,.i 0,.i 0])/\Nx prog 288=true/\Bi prog 288 0=some (0,2,true)/\Bi prog 288 1=some (2,1,false)/\Ej prog 288=true/\Ds prog 290=some (.agg [.i 0])/\Nx prog 290=true/\Bi prog 290 0=some (0,1,false)/\Ej prog 290=true/\Ds prog 291=some (.agg [.i 0])/\Nx prog 291=true/\Bi prog 291 0=some (0,1,false)/\Ej prog 291=true/\Hz prog 293=some 0/\En prog 293=some true/\Nx prog 293=true/\Ej prog 293=true/\Hz prog 300=some 5/\En prog 300=some true/\Ds prog 300=some (.agg [.str [],.str [],.str [],.str [],.str []])/\Sv prog 300=some 5:=ka
@[simp]def Bma:Auy prog 300=some (5,1)/\Fw prog 300=none/\Hz prog 310=some 2/\En prog 310=some true/\Ds prog 310=some (.agg [.i 0,.i 0])/\Sv prog 310=some 2/\Bi prog 310 0=some (0,1,false)/\Bi prog 310 1=some (1,1,false)/\Yz prog 102=some .u64/\Hz prog 324=some 1/\En prog 324=some false/\Fw prog 324=some 418/\Hz prog 326=some 3/\En prog 326=some true/\Ds prog 326=some (.agg [.nils,.nils,.nils])/\Sv prog 326=some 3/\Bi prog 326 0=some (0,1,false)/\Bi prog 326 1=some (1,1,false)/\Bi prog 326 2=some (2,1,false)/\Ej prog 326=true/\Hz prog 412=some 5/\En prog 412=some true/\Ds prog 412=some (.agg [.i 0,.nils,.nils,.i 0,.i 0])/\Sv prog 412=some 5:=ka
@[simp]def Bkz:Bi prog 412 0=some (0,2,true)/\Bi prog 412 1=some (2,1,false)/\Bi prog 412 2=some (3,1,false)/\Bi prog 412 3=some (4,1,false)/\Ej prog 412=true/\Hz prog 418=some 3/\En prog 418=some true/\Ds prog 418=some (.agg [.nils,.i 0,.i 0])/\Sv prog 418=some 3/\Iw prog 418=some 40/\Bi prog 418 0=some (0,1,false)/\Bi prog 418 1=some (1,1,false)/\Bi prog 418 2=some (2,1,false)/\Ej prog 418=true/\Fw prog 442=some 205/\Hz prog 447=some 2/\En prog 447=some true/\Ds prog 447=some (.agg [.i 0,.i 0])/\Sv prog 447=some 2/\Iw prog 447=some 16/\Bi prog 447 0=some (0,1,false)/\Bi prog 447 1=some (1,1,false)/\Ej prog 447=true/\Ald prog 447=some [0,0]:=ka
@[simp]def Bmb:Ds prog 455=some (.agg [.nils,.nils,.nils,.nils,.bool false,.bool false,.nils,.i 0,.nils,.nils,.nils,.i 0,.nils,.i 0,.nils,.i 0,.bool false])/\Bi prog 455 0=some (0,3,true)/\Bi prog 455 1=some (3,1,false)/\Bi prog 455 2=some (4,1,false)/\Bi prog 455 3=some (5,1,false)/\Bi prog 455 4=some (6,1,false)/\Bi prog 455 5=some (7,1,false)/\Bi prog 455 6=some (8,1,false)/\Bi prog 455 7=some (9,1,false)/\Bi prog 455 8=some (10,1,false)/\Bi prog 455 9=some (11,1,false)/\Bi prog 455 10=some (12,1,false)/\Bi prog 455 11=some (13,1,false)/\Bi prog 455 12=some (14,1,false)/\Bi prog 455 13=some (15,1,false)/\Bi prog 455 14=some (16,1,false)/\Ej prog 455=true:=ka
open Go.Eng.Limb
variable {P:Program}{args:List V}{f:FuncId}
def _root_.Go.Eng.AC.relaxP{a:V}(h:AC P f args (λr=>Bh r a)):AC P f args (λr=>r=a):=
 λw N xs h1 h2 c=>(h w N xs h1 h2 c).mono λ_ _⟨x,_,he,hR,hp,hb⟩=>⟨x,a,he,rfl,hR.1 _ _ _ hp,hb⟩
def Jt:prog.follows .mixedOrders=true:=by kernel_rfl
def A6b(l:List Nat):AE 69 [.ro 1 (Az l)] (.ro 1 (Az (N6 l))):=by
 refine K6 0 rfl λf=>?_;unfold maxLen at f;simp only[Db]at f;refine Ai func69 λw0 N0=>?_;refine Y [0] [] sr (J (Ad (If (λp:List Nat×Nat=>⟨[(0,.ro 1 (Az p.1))],[],p.2,21⟩) (λp=>N6 p.1=N6 l/\p.1.length<=l.length) (λp=>p.1.length) (l,_) ⟨rfl,A2 _⟩ Z ?_)));rintro⟨b,nx⟩⟨j,d⟩;simp only at j d
 rcases List.eq_nil_or_concat b with rfl|⟨a,x,rfl⟩
 .refine J (Y [0,14] [] sr ?_);refine Nf ?_;refine A3 (Y [2] [] sr ?_);refine Bv sr ?_;rw[<-j];simp[N6]
 simp only[List.concat_eq_append,Aq,Ax,Bg]at j d|-;have e:Az (a++[x])=Az a++[.int .u32 (x:Int)]:=sm;rw[e];have c:(Az a).length=a.length:=sm;have o:IntKind.i64.wrap (a.length:Int)=a.length:=Bm om om;have n:Gz (Az a++[V.int .u32 (x:Int)]) a.length=some (.int .u32 x):=by rw[<-c];exact Ahf
 have i:(Az a++[V.int .u32 (x:Int)]).take a.length=Az a:=by rw[<-c];simp
 generalize g:Az a=av at c n i;have k:(a.length:Int)<(a.length:Int)+1:=om;have h:(a.length:Int)<=(a.length:Int)+1:=om;refine J (Y [0,14] [] C1 ?_)
 refine Bk (λh1=>?_) λh1=>?_
 .have m:x=0:=by simp at h1;omega
  subst m;refine Ad (A6 [0] [] C1 ?_);refine⟨(a,nx+12+6),⟨by rw[<-j,Ahn],by simp only;omega⟩,by simp,?_⟩;simp only[g];exact Z
 .have m:x≠0:=by simp at h1;omega
  refine A3 (Y [2] [] sr ?_);refine Bv sr ?_;rw[<-j,Aho x m,e,g]
def Ir(l:List Nat)(h:Ei l):AE 69 [.ro 1 (Az l)] (.ro 1 (Az (B0 (Bd l)))):=by
 rw[<-Lh l h];exact A6b l
def Q3(l:List Nat)(h:Ei l):(B0 (Bd l)).length<=l.length:=by rw[<-Lh l h];exact Mh l
def Pu:maxLen=9223372036854775807:=by decide
def Ab5(l:List Nat)(h:Ei l)(hl:l.length<=1099511627776):AE 178 [.ro 1 (Az l)] (.ro 1 (Az (B0 (Bd l)))):=by
 have d:=Ir l h;have hp:=Af (B0 (Bd l));have c:=Af l;have e:=Q3 l h;have a:(Az (B0 (Bd l))).length=(B0 (Bd l)).length:=sm;have h1:(Az (B0 (Bd l))).length<=maxLen:=by rw[a,Pu];omega
 have h2:(Az (B0 (Bd l))).length*4<=140737488355328:=om;generalize Az (B0 (Bd l))=rv at d hp h1 h2 a;refine Ai func178 λw0 N0=>?_;refine Y [0] [] sr (Au 1 sr ?_);refine Aw d func69 ?_;exact Ak [2] [5] (by simp[h1,h2]<;>rfl) (Bq 5 [2] [] C1 (Bv sr rf))
def Ahw(n:Nat)(hn:n<18446744073709551616):AE 160 [.int .u64 n] (.ro 1 (Az (B0 n))):=by
 have a:=Ir [n%4294967296,n/4294967296] (by intro x d;simp at d;omega);have e:Bd [n%4294967296,n/4294967296]=n:=by simp[Bd];omega
 rw[e]at a;have hp:=Af (B0 n);simp only[Az,Br,Ci,Aby]at a;show AC _ _ _ (λr=>r=V.ro 1 (List.map Aby (B0 n)))
 generalize List.map Aby (B0 n)=r at a hp|-;have c:=wrap_u32 n;have Sk:IntKind.u32.wrap ((n:Int).fdiv (2^min 32 IntKind.u64.bits))=((n/4294967296:Nat):Int):=by rw[Abx,wrap_u32];omega
 generalize((n%4294967296:Nat):Int)=lo at a c;generalize((n/4294967296:Nat):Int)=hi at a Sk;refine Ai func160 λw0 N0=>?_;refine Y [0] [] sr (Au 6 C1 ?_);refine L0 8 [8] [] sr (Aw a func69 ?_);exact Ak [2] [] sr (Bv sr rfl)
def Ad4(o l2:List Nat)(h1:Ei o)(h2:Ei l2):AC prog 36 [.ro 1 (Az o),.ro 1 (Az l2)] (λr=>r=.i (Rv (Bd o) (Bd l2))):=by
 refine K6 0 rfl λaa=>?_;refine K6 1 rfl λae=>?_;have l:=Ir o h1;have f:=Ir l2 h2;have ad:=Q3 o h1;have u:=Q3 l2 h2;have ai:=Af o;have ag:=Af l2;rw[Db,Pu]at aa ae;generalize Bd o=a at l ad|-;generalize Bd l2=b at f u|-;have ea:=Rh a;have eb:=Rh b;have ga:=K7 a;have gb:=K7 b;have na:=λk=>Yh k a
 have nb:=λk=>Yh k b
 generalize(B0 a).length=n at ea ga na ad;generalize(B0 b).length=m at eb gb nb u;rw[ea]at l;rw[eb]at f;have c:(Az (Cm n a)).length=n:=sm;have e:(Az (Cm m b)).length=m:=sm;have z:=λi(h:i<n)=>Abz (v:=a) h
 have ab:=λi(h:i<m)=>Abz (v:=b) h
 generalize Az (Cm n a)=av at l c z;generalize Az (Cm m b)=bv at f e ab;refine Ai func36 λw0 N0=>?_;refine Y [0,1] [] sr (Au 1 sr ?_);refine Aw l func69 ?_;refine C3 1 sr (Aw f func69 ?_);refine Ak [0,1] [] sr (J (Y [0,1,14] [] C1 ?_));have t:∀i j:Nat,i<=j->4294967296^i<=4294967296^j:=λi j h=>Dv dc h
 refine A1 (λh1=>?_) λh1=>?_
 .refine Y [4] [] sr (Aj (Aa sr ?_));have g:=sO h1
  obtain⟨k,rfl⟩:∃k,m=k+1:=⟨m-1,by omega⟩;rw[Rv,Ab (Cp ga (Ae (t n k om) (nb k rfl)))]
 have ak:=sO h1
 refine J (Y [0,1,19] [] C1 ?_)
 refine A1 (λh2=>?_) λh2=>?_
 .refine Y [4] [] sr (Aj (Aa sr ?_));have g:=sO h2
  obtain⟨k,rfl⟩:∃k,n=k+1:=⟨n-1,by omega⟩;have q3:=Cp gb (Ae (t m k om) (na k rfl));rw[Rv,I (Nat.not_lt.2 (Ig q3)),Ab q3]
 have aj:n=m:=sO h2
 subst aj;obtain⟨w1,Ec,af⟩:∃x:Int,IntKind.i64.wrap ((n:Int)-1)=x/\x=(n:Int)-1:=⟨_,rfl,Bm om om⟩;refine J (Y [0,1,5] [] C1 (Ad (Gn (λp:Nat×Nat=>[(5,.i ((p.1:Int)-1))]) (λ_=>[]) (λp=>p.2) (λp=>p.1<=n/\a/4294967296^p.1=b/4294967296^p.1) (λp=>p.1) (n,_) ⟨A2 _,by rw[Gh ga,Gh gb]⟩ (by simp only[af];exact Z) ?_)));rintro⟨k,nx⟩⟨hk,s⟩;simp only at hk s;refine J ?_;cases k with
 |zero=>
  refine Y [0,1,5,24] [] sr (Nf ?_);refine A3 (Y [4] [] sr ?_);refine Aj (Aa sr ?_);have:=sG s
  subst this;simp[Rv]
 |succ k=>
  have gA:=z k om;have gB:=ab k om;have e1:((k+1:Nat):Int)-1=(k:Int):=om;have g:(k:Int)<n:=om;have hw:IntKind.i64.wrap ((k:Int)-1)=(k:Int)-1:=Bm om om;have hP:=Oo k;rw[Cd]at s;have r1:=λh=>Ahq hP s h
  have r2:=λh=>Ahq hP s.symm h
  have r3:=λh=>Avm s h
  generalize ah:4294967296^k=P at*;generalize a/P%4294967296=x at gA r1 r2 r3;generalize b/P%4294967296=y at gB r1 r2 r3;rw[e1];refine Y [0,1,5,24] [] sr (Aff ?_);refine J (Ad (J (I3 [0,3,4,3,3,1,7,2] [0,1,5,35] [] sr C1 ?_)))
  refine A1 (λh4=>?_) λh4=>?_
  .refine Y [4] [] sr (Aj (Aa sr ?_));have d:=sO h4
   rw[Rv,Ab (r1 d)]
  refine I3 [0,3,4,3,3,1,7,2] [0,1,5,44] [] sr C1 ?_
  refine A1 (λh5=>?_) λh5=>?_
  .refine Y [4] [] sr (Aj (Aa sr ?_));have d:=sO h5
   have:=r2 d;rw[Rv,I om,Ab this]
  refine A6 [0,1,5] [] C1 ?_;have d:x=y:=by simp at h4 h5;omega
  exact⟨(k,_),⟨by simp only;omega,by simp only;rw[ah];exact r3 d⟩,by simp,Z⟩
def Avt(g l2:List Nat)(h1:Ei g)(h2:Ei l2)(aa:g.length<=1099511627776)(a9:l2.length<=1099511627776):AE 302 [.ro 1 (Az g),.ro 1 (Az l2)] (.ro 1 (Az (B0 (Bd g+Bd l2)))):=by
 have au:=Ir g h1;have ak:=Ir l2 h2
 have a7:(B0 (Bd g)).length<=1099511627776:=by
  rw[<-Lh g h1];exact Ae (Mh g) aa
 have a5:(B0 (Bd l2)).length<=1099511627776:=by
  rw[<-Lh l2 h2];exact Ae (Mh l2) a9
 have ai:=Ct (Bd g);have ag:=Ct (Bd l2);have aj:=C6 (Bd g);have az:=C6 (Bd l2);generalize B0 (Bd g)=m1 at au a7 ai aj;generalize B0 (Bd l2)=m2 at ak a5 ag az;rw[<-aj,<-az];have b0:=Af m1;have bz:=Af m2;have al:=Af g;have ax:=Af l2;refine Ai func302 λw0 N0=>?_;refine Y [0,1] [] sr (Au 1 sr ?_);refine Aw au func69 ?_;refine C3 1 sr (Aw ak func69 ?_);refine Ak [0,1] [] sr ?_
 refine Ye (λp:List Nat×List Nat=>⟨[(0,.ro 1 (Az p.1)),(1,.ro 1 (Az p.2))],[],50,63⟩) (λp=>Ei p.1/\Ei p.2/\p.2.length<=p.1.length/\p.1.length<=1099511627776/\Bd m1+Bd m2=Bd p.1+Bd p.2) ?_ ?_
 .refine Y [0,1,17] [] sr ?_
  refine A1 (λh1=>?_) λh1=>?_
  .refine A6 [0,1] [] sr ?_;exact⟨(m2,m1),⟨ag,ai,by simp at h1;simp only;omega,a5,O3 _ _⟩,Wg rfl rfl rfl sy⟩
  .exact⟨(m1,m2),⟨ai,ag,by simp at h1;simp only;omega,a7,rfl⟩,Kp [0,1] [] rfl rfl rfl sy⟩
 rintro⟨a,b⟩⟨ha,hb,ao,bl,hT⟩;simp only at ha hb ao bl hT;rw[hT];have o:(Az a).length=a.length:=sm;have a2:(Az b).length=b.length:=sm;have am:=λk h=>Avl a k h
 have a1:=λk h=>Avl b k h
 obtain⟨s1,aa,bw⟩:∃s:Int,IntKind.i64.wrap ((a.length:Int)+1)=s/\s=((a.length+1:Nat):Int):=⟨_,rfl,A4 om⟩;have br:4*s1<=281474976710656:=om;have bq:s1<=9223372036854775807:=om;have bb:0<=s1:=om;have m:s1.toNat=a.length+1:=om;have be:=Af a;have ba:=Af b;generalize Az a=av at o am be;generalize Az b=bv at a2 a1 ba;refine Y [0,1,5] [23] (by simp[o,aa,br,bq,bb]<;>rfl) (A5 [6] sr (J (A5 [25,26] C1 (Ad ?_))))
 refine If (λp:List Nat×Nat×Nat=>⟨[(0,.ro 1 av),(1,.ro 1 bv),(5,.sl 23 53 1 s1.toNat),(6,.int .u64 p.2.1),(25,.i a.length),(26,.i p.1.length)],[(23,⟨53,1,164,Ll p.1 (a.length+1-p.1.length)⟩)],p.2.2,63⟩)
  (λp=>p.1.length<=a.length/\Ei p.1/\p.2.1<=1/\Bd p.1+p.2.1*4294967296^p.1.length=Bd (a.take p.1.length)+Bd (b.take p.1.length)) (λp=>a.length-p.1.length) ([],0,_) ⟨by simp,by simp[Ei],by simp,by simp[Bd]⟩ (by simp[m,Arj];exact Z) ?_
 rintro⟨done,c,nx⟩⟨hd,ah,hc,hI⟩;simp only at hd ah hc hI;refine Y [0,1,5,6,25,26,27] [23] sr (J ?_)
 refine Bk (λh2=>?_) λh2=>?_
 .have an:done.length<a.length:=by simp at h2;omega
  obtain⟨n,hn⟩:∃n,a.length+1-done.length=n+1:=⟨a.length-done.length,by omega⟩;have ad:=am done.length an;have e:=Ab0 (done:=done) (k:=done.length) (n:=n) rfl;obtain⟨k,hk⟩:∃k,done.length=k:=⟨_,rfl⟩;rw[hk]at ad e an hn hI;have bd:=Ps ha k;have bg:=Ps hb k;have aq:=Ri a k;have aw:=Ri b k;have a6:¬k<b.length->Gf b k=0:=λh=>by unfold Gf;rw[Eg oM]
  have a4:=a1 k;have d:=λz=>Ab1 (done:=done) (k:=k) (n:=n) hk z
  have f:(Ll done (n+1)).length=a.length+1:=by rw[Wo];omega
  have bk:=A4 (k:=k) om;simp only[hk,hn];generalize Gf a k=x at ad bd aq;generalize Gf b k=y at a4 bg aw a6;have a3:IntKind.u64.wrap (x:Int)=x:=wrap_u64 om;have ar:IntKind.u64.wrap (y:Int)=y:=wrap_u64 om;obtain⟨z1,bm,u⟩:∃z:Int,IntKind.u64.wrap ((x:Int)+(c:Int))=z/\z=((x+c:Nat):Int):=⟨_,rfl,Af7 om⟩;obtain⟨z2,bf,j⟩:∃z:Int,IntKind.u64.wrap (z1+(y:Int))=z/\z=((x+y+c:Nat):Int):=⟨_,rfl,by rw[u,Af7 oM];congr 1;omega⟩;have t:k<av.length:=om;have ae:(k:Int)<(a.length:Int)+1:=om;generalize bx:Ll done (n+1)=ro at e f d|-;refine J (Ad (Y [0,1,5,6,7,25,26] [23] sr (Y [0,1,5,7,8,25,26] [23] (by simp[ad,t,a3,bm]<;>rfl) ?_)))
  refine Lc ⟨[(0,.ro 1 av),(1,.ro 1 bv),(5,.sl 23 53 1 s1.toNat),(7,.i k),(8,.int .u64 z2),(25,.i a.length),(26,.i k)],[(23,⟨53,1,164,ro⟩)],nx+30,63⟩ ?_ ?_
  .refine A5 [39] (by simp[a2]<;>rfl) ?_
   refine A1 (λh3=>?_) λh3=>?_
   .have ab:k<b.length:=by simp at h3;omega
    have a8:k<bv.length:=om;refine A6 [0,1,5,7,8,25,26] [23] (by simp[a4 ab,a8,ar,bf]<;>rfl) ?_;exact⟨rfl,Kp [0,1,5,7,8,25,26] [23] rfl rfl rfl sy⟩
   .have ab:¬k<b.length:=by simp at h3;omega
    have bo:=a6 ab;have bh:z1=z2:=by rw[u,j,bo];congr 1
    rw[bh];exact⟨rfl,Kp [0,1,5,7,8,25,26] [23] rfl rfl rfl sy⟩
  have a0:IntKind.u32.wrap z2=(((x+y+c)%4294967296:Nat):Int):=by rw[j,wrap_u32]
  have ay:z2.fdiv (2^min 32 IntKind.u64.bits)=(((x+y+c)/4294967296:Nat):Int):=by rw[j,Abx]
  have i:=d ((x+y+c)%4294967296);generalize bt:(x+y+c)%4294967296=lo at a0 i;generalize bj:(x+y+c)/4294967296=hi at ay;refine Y [0,1,5,8,25,26] [23] (by simp[e,a0,i,m,ae]<;>rfl) (A6 [0,1,5,6,25,26] [23] (by simp[ay]<;>rfl) (Cs [] (by simp[bk]<;>rfl) ?_))
  refine⟨(done++[lo],hi,nx+30+6+3+2),⟨by simp;omega,Q1 ah (by intro q hq;simp at hq;omega),by simp only;omega,?_⟩,by simp;omega,?_⟩
  .simp only[Aq,Ax,Bg,hk,Qb,Bd];have:=A5k hI (x+y+c) rfl;rw[bt,bj]at this;rw[aq,aw,Cd];rw[Bf (4294967296^k)];omega
  .have bn:((k+1:Nat):Int)=(k:Int)+1:=om;have bu:a.length+1-(k+1)=n:=om;simp only[Aq,Ax,Bg,hk,bu,m,Dn,bn];exact Z
 .refine A3 ?_;have l:done.length=a.length:=sO h2
  have e:=Ab0 (done:=done) (k:=a.length) (n:=0) l;have d:=Ab1 (done:=done) (k:=a.length) (n:=0) l c;have f:(Ll done 1).length=a.length+1:=by rw[Wo];omega
  have ae:(a.length:Int)<(a.length:Int)+1:=om;have bc:IntKind.u32.wrap (c:Int)=(c:Int):=by rw[wrap_u32];omega
  have af:=Ir (done++[c]) (Q1 ah (by intro q hq;simp at hq;omega))
  have bp:Bd (done++[c])=Bd a+Bd b:=by
   rw[l,Bb,P8 b _ ao]at hI;rw[Qb,l,<-hI];simp only[Bd,Vm,Eb];rw[Bf (4294967296^a.length) c]
  rw[bp]at af;have bs:Ll (done++[c]) 0=Az (done++[c]):=by simp[Ll]
  have w:=Af (done++[c]);rw[show a.length+1-done.length=0+1 by omega];simp only[Dn]at e d|-;rw[bs]at d;generalize Az (done++[c])=fin at d af w;have bi:fin.length=a.length+1:=by rw[<-d,Hy,f]
  generalize Ll done 1=ro at e d f|-;refine Y [5] [23] (by simp[o,e,d,m,ae,bc]<;>rfl) (Au 1 sr ?_);refine L0 23 [61] [] (by simp[w,bi]<;>rfl) ?_;refine Ge [4] [] af func69 ?_;refine Bv sr ?_;rfl
def Aot(l1 l2:List Nat)(h1:Ei l1)(h2:Ei l2)(al:l1.length<=1099511627776)(bw:l2.length<=1099511627776):AE 216 [.ro 1 (Az l1),.ro 1 (Az l2)] (.ro 1 (Az (B0 (Bd l1*Bd l2)))):=by
 have ao:=Ir l1 h1;have am:=Ir l2 h2
 have cg:(B0 (Bd l1)).length<=1099511627776:=by
  rw[<-Lh l1 h1];exact Ae (Mh l1) al
 have cd:(B0 (Bd l2)).length<=1099511627776:=by
  rw[<-Lh l2 h2];exact Ae (Mh l2) bw
 have ha:=Ct (Bd l1);have hb:=Ct (Bd l2);have az:=C6 (Bd l1);have bd:=C6 (Bd l2);generalize B0 (Bd l1)=a at ao cg ha az;generalize B0 (Bd l2)=b at am cd hb bd;rw[<-az,<-bd];have b7:=Af a;have b5:=Af b;have a1:=Af l1;have a9:=Af l2;have ay:(Az a).length=a.length:=sm;have ad:(Az b).length=b.length:=sm;have a2:=λk h=>Avl a k h
 have bg:=λk h=>Avl b k h
 obtain⟨s1,al,ch⟩:∃s:Int,IntKind.i64.wrap ((a.length:Int)+(b.length:Int))=s/\s=((a.length+b.length:Nat):Int):=⟨_,rfl,by rw[Bm om oM];omega⟩;have cf:4*s1<=281474976710656:=om;have ce:s1<=9223372036854775807:=om;have b0:0<=s1:=om;have aa:s1.toNat=a.length+b.length:=om;generalize Az a=av at ao ay a2 b7;generalize Az b=bv at am ad bg b5;refine Ai func216 λw0 N0=>?_;refine Y [0,1] [] sr (Au 1 sr ?_);refine Aw ao func69 ?_;refine C3 1 sr (Aw am func69 ?_);refine Ak [0,1] [] sr (Y [0,1,5] [21] (by simp[ay,ad,al,cf,ce,b0]<;>rfl) (J (Y [1,5,22,23,24] [21] (by simp[ay]<;>rfl) (Ad ?_))))
 refine Gn (λp:Nat×List Nat×Nat=>[(24,.i p.1)]) (λp=>[(21,⟨12,1,164,Ll p.2.1 (a.length-p.1)⟩)]) (λp=>p.2.2)
  (λp=>p.1<=a.length/\p.2.1.length=p.1+b.length/\Ei p.2.1/\Bd p.2.1=Bd (a.take p.1)*Bd b) (λp=>a.length-p.1) (0,List.replicate b.length 0,100) ⟨by simp,by simp,by intro x hx;simp at hx;omega,by simp[Avo,Bd]⟩ ?_ ?_
 .have bz:Ll (List.replicate b.length 0) (a.length-0)=List.replicate s1.toNat (.int .u32 0):=by
   rw[Ll,aa,List.replicate_append_replicate];simp[Aby,O3]
  simp only[bz];exact Kp [1,5,22,23,24] [21] rfl rfl rfl sy
 rintro⟨i,q,nx⟩⟨hi,hq,ax,hI⟩;simp only at hi hq ax hI;refine Y [1,5,22,23,24,25] [21] sr (J ?_)
 refine Bk (λh1=>?_) λh1=>?_
 .have a4:i<a.length:=by simp at h1;omega
  obtain⟨n,hn⟩:∃n,a.length-i=n+1:=⟨a.length-i-1,by omega⟩;have a3:=a2 i a4;have bb:=Ps ha i;have a5:=Ri a i;have b8:=A4 (k:=i) om;have bc:i<av.length:=om;generalize Gf a i=x at a3 bb a5;have bk:IntKind.u64.wrap (x:Int)=x:=wrap_u64 om;rw[hn];refine J (Ad (Y [1,5,6,7,22,23,24] [21] (by simp[a3,bc]<;>rfl) (Y [1,5,6,7,8,22,23,24] [21] sr ?_)))
  refine Ye (λp:List Nat×Nat×Nat=>⟨[(1,.ro 1 bv),(5,.sl 21 12 1 s1.toNat),(6,.i i),(8,.int .u64 p.2.1),(22,.ro 1 av),(23,.i a.length),(24,.i i)],[(21,⟨12,1,164,Ll p.1 (n+1)⟩)],p.2.2,72⟩)
   (λp=>p.1.length=i+b.length/\Ei p.1/\p.2.1<4294967296/\Bd p.1+p.2.1*4294967296^(i+b.length)=Bd q+x*Bd b*4294967296^i) ?_ ?_
  .refine Y [1,5,6,7,8,22,23,24,29,30,31] [21] (by simp[ad]<;>rfl) (Ad ?_)
   refine Gn (λp:Nat×List Nat×Nat×Nat=>[(8,.int .u64 p.2.2.1),(31,.i p.1)]) (λp=>[(21,⟨12,1,164,Ll p.2.1 (n+1)⟩)]) (λp=>p.2.2.2)
    (λp=>p.1<=b.length/\p.2.1.length=i+b.length/\Ei p.2.1/\p.2.2.1<4294967296/\Bd p.2.1+p.2.2.1*4294967296^(i+p.1)=Bd q+x*Bd (b.take p.1)*4294967296^i) (λp=>b.length-p.1) (0,q,0,_) ⟨by simp,by simp only;omega,ax,by simp,by simp[Bd]⟩ (by simp;exact Z) ?_
   rintro⟨j,l,c,bh⟩⟨hj,f,d,hc,o⟩;simp only at hj f d hc o;refine Y [1,5,6,7,8,22,23,24,29,30,31,32] [21] sr (J ?_)
   refine Bk (λh2=>?_) λh2=>?_
   .have br:j<b.length:=by simp at h2;omega
    have bo:=bg j br;have bi:=Ps hb j;have a8:=Ri b j;have ca:=A4 (k:=j) om;have bq:j<bv.length:=om;generalize Gf b j=y at bo bi a8;have a6:IntKind.u64.wrap (y:Int)=y:=wrap_u64 om;obtain⟨m,hm⟩:∃m,i+j=m:=⟨_,rfl⟩;have aw:m<l.length:=om;have ah:=A1f (q:=l) (n:=n+1) aw;have a0:=Ps d m;have w:=λz=>A1g (q:=l) (n:=n+1) aw z
    have be:=λz=>Ark l m z aw
    have b9:=λ(z:Nat)(hz:z<4294967296)=>A1h d m hz
    have ab:(Ll l (n+1)).length=a.length+b.length:=by rw[Wo];omega
    generalize Gf l m=u at ah a0 be;have bl:IntKind.u64.wrap (u:Int)=u:=wrap_u64 om;have ci:=Bb5 bb bi a0 hc;obtain⟨z1,cb,bu⟩:∃z:Int,IntKind.u64.wrap ((x:Int)*(y:Int))=z/\z=((x*y:Nat):Int):=⟨_,rfl,by rw[<-Fq];exact wrap_u64 om⟩;obtain⟨z2,b3,bt⟩:∃z:Int,IntKind.u64.wrap (z1+(u:Int))=z/\z=((x*y+u:Nat):Int):=⟨_,rfl,by rw[bu,Af7 oM]⟩;obtain⟨z3,bx,aj⟩:∃z:Int,IntKind.u64.wrap (z2+(c:Int))=z/\z=((x*y+u+c:Nat):Int):=⟨_,rfl,by rw[bt,Af7 oM]⟩;obtain⟨mi,af,bn⟩:∃z:Int,IntKind.i64.wrap ((i:Int)+(j:Int))=z/\z=(m:Int):=⟨_,rfl,by rw[Bm om oM];omega⟩;have ag:0<=mi/\mi<(a.length:Int)+b.length:=om;have ae:mi.toNat=m:=om;have bf:IntKind.u32.wrap z3=(((x*y+u+c)%4294967296:Nat):Int):=by rw[aj,wrap_u32]
    have ba:z3.fdiv (2^min 32 IntKind.u64.bits)=(((x*y+u+c)/4294967296:Nat):Int):=by rw[aj,Abx]
    have bj:=o;rw[hm]at bj;have au:=A5m (x:=x) (y:=y) (t:=x*y+u+c) bj (be _) rfl;have g:=w ((x*y+u+c)%4294967296);have ai:=b9 ((x*y+u+c)%4294967296) (Dd _ om);have a7:(x*y+u+c)/4294967296<4294967296:=om;generalize(x*y+u+c)%4294967296=lo at bf g ai au;generalize(x*y+u+c)/4294967296=hi' at ba au a7;generalize an:Ll l (n+1)=ro at ah ab g|-;refine J (Ad (Y [1,5,6,7,8,9,10,22,23,24,29,30,31] [21] (by simp[bo,bq]<;>rfl) (Y [1,5,6,7,9,11,22,23,24,29,30,31] [21] (by simp[bk,a6,bl,cb,b3,bx,af,ag,ae,ah,aa]<;>rfl) (Y [1,5,6,7,11,22,23,24,29,30,31] [21] (by simp[af,ag,ae,ah,bf,g]<;>rfl) (A6 [1,5,6,7,8,22,23,24,29,30,31] [21] (by simp[ba]<;>rfl) (Cs [] (by simp[ca]<;>rfl) ?_))))))
    refine⟨(j+1,l.set m lo,hi',bh+1+5+16+8+3+2),⟨br,by rw[Hy];exact f,ai,a7,?_⟩,by simp only;omega,?_⟩
    .simp only;rw[<-Hm i j 1,hm,Cd,au,a8];rw[Ee,Ca,<-hm,He]
     have e:x*(y*4294967296^j)*4294967296^i=x*y*(4294967296^i*4294967296^j):=by
      rw[<-B7 x y,B7 (x*y),Bf (4294967296^j)]
     rw[e];omega
    .have aq:((j+1:Nat):Int)=(j:Int)+1:=om;simp only[aq,aa];exact Z
   .refine A3 ?_;have b6:j=b.length:=sO h2
    subst b6;rw[Bb]at o;exact⟨(l,c,bh+1),⟨f,d,hc,o⟩,Kp [1,5,6,8,22,23,24] [21] rfl rfl rfl sy⟩
  rintro⟨l,c,b2⟩⟨f,d,hc,o⟩;simp only at f d hc o;have b1:IntKind.u32.wrap (c:Int)=(c:Int):=by rw[wrap_u32];omega
  obtain⟨mi,af,bn⟩:∃z:Int,IntKind.i64.wrap ((i:Int)+(b.length:Int))=z/\z=((i+b.length:Nat):Int):=⟨_,rfl,by rw[Bm om oM];omega⟩;have ag:0<=mi/\mi<(a.length:Int)+b.length:=om;have ae:mi.toNat=i+b.length:=om;have bp:=Ab0 (done:=l) (k:=i+b.length) (n:=n) f;have w:=Ab1 (done:=l) (k:=i+b.length) (n:=n) f c;have bm:(Ll l (n+1)).length=a.length+b.length:=by rw[Wo];omega
  generalize an:Ll l (n+1)=ro at bp bm w|-;refine A6 [1,5,22,23,24] [21] (by simp[ad,af,ag,ae,bp,w,b1,aa]<;>rfl) (Cs [] (by simp[b8]<;>rfl) ?_)
  refine⟨(i+1,l++[c],b2+9+2),⟨a4,by simp;omega,Q1 d (by intro z hz;simp at hz;omega),?_⟩,by simp only;omega,?_⟩
  .simp only;rw[Qb,f,a5,Ca,<-hI];simp only[Bd,Vm,Eb];rw[Bf (4294967296^(i+b.length)) c,o,B7 x,B7 x,Bf (Bd b)]
  .have aq:((i+1:Nat):Int)=(i:Int)+1:=om;have cc:a.length-(i+1)=n:=om;simp only[aq,aa,cc];exact Z
 .refine A3 ?_;have b4:i=a.length:=sO h1
  subst b4;rw[Bb]at hI;have ar:=Ir q ax;rw[hI]at ar;have ak:=Af q;have bs:(Az q).length=a.length+b.length:=sG hq
  have an:Ll q (a.length-a.length)=Az q:=by simp[Ll]
  rw[an];generalize Az q=fin at ar ak bs;refine Au 1 sr ?_;refine L0 21 [70] [] (by simp[ak,bs,aa]<;>rfl) ?_;refine Ge [4] [] ar func69 ?_;refine Bv sr ?_;rfl
def nils_ro(sz:Nat):Bh .nils (.ro sz []):=⟨λ_ _ _ h=>h.nils_ro sz,λ_=>rfl⟩
def Ab6(a b:Nat):Rv a b<0↔a<b:=by unfold Rv;split<;>(try split)<;>omega
def Avu(a b:Nat):V:=if b<=a then .tup [.ro 1 (Az (B0 (a-b))),.bool true]else .tup [.ro 1 [],.bool false]
def Avv(f l2:List Nat)(h1:Ei f)(h2:Ei l2)(be:f.length<=1099511627776)(bc:l2.length<=1099511627776):AC prog 303 [.ro 1 (Az f),.ro 1 (Az l2)] (λr=>r=Avu (Bd f) (Bd l2)):=by
 refine AC.relaxP ?_;have ae:=Ir f h1;have aa:=Ir l2 h2;have bp:=Ae (Q3 f h1) be;have bl:=Ae (Q3 l2 h2) bc;have ak:=Ct (Bd f);have ah:=Ct (Bd l2);have u:=C6 (Bd f);have af:=C6 (Bd l2);have i:=Ad4 _ _ ak ah;have d:Bd l2<=Bd f->(B0 (Bd l2)).length<=(B0 (Bd f)).length:=λh=>E7 (Fe h (K7 _))
 generalize B0 (Bd f)=a at ae bp ak u i d;generalize B0 (Bd l2)=b at aa bl ah af i d;rw[<-u,<-af]at d|-;clear u af;have a8:=Af a;have a6:=Af b;have aq:=Af f;have ay:=Af l2;have am:(Az a).length=a.length:=sm;have a2:(Az b).length=b.length:=sm;have ar:=λk h=>Avl a k h
 have a1:=λk h=>Avl b k h
 have bo:4*(a.length:Int)<=281474976710656:=om;have bn:(a.length:Int)<=9223372036854775807:=om;generalize Az a=av at ae am ar a8 i;generalize Az b=bv at aa a2 a1 a6 i;refine Ai func303 λw0 N0=>?_;refine Y [0,1] [] sr (Au 1 sr ?_);refine Aw ae func69 ?_;refine C3 1 sr (Aw aa func69 ?_);refine Ak [0,1] [] sr (J (Au 2 sr ?_));refine Ge [0,1,17] [] i func36 ?_
 refine A1 (λh3=>?_) λh3=>?_
 .have e:Bd a<Bd b:=by simpa[Ab6]using h3
  refine Y [4,5] [] sr (Aj (Aa sr ?_));rw[Avu,I om];exact Bh.tup (.cons (nils_ro 1) (.cons (Bh.refl _) .nil))
 have al:Bd b<=Bd a:=by simpa[Ab6]using h3
 have bf:=d al;refine Y [0,1,6] [20] C1 (Y [0,1,6,7] [20] sr (J (Y [0,1,6,7,22,23] [20] C1 (Ad ?_))))
 refine Gn (λp:List Nat×Nat×Nat=>[(7,.int .u64 p.2.1),(23,.i p.1.length)]) (λp=>[(20,⟨14,1,164,Ll p.1 (a.length-p.1.length)⟩)]) (λp=>p.2.2)
  (λp=>p.1.length<=a.length/\Ei p.1/\p.2.1<=1/\Bd p.1+Bd (b.take p.1.length)=Bd (a.take p.1.length)+p.2.1*4294967296^p.1.length) (λp=>a.length-p.1.length) ([],0,_) ⟨by simp,by simp[Ei],by simp,by simp[Bd]⟩ (by simp[Arj];exact Z) ?_
 rintro⟨done,c,nx⟩⟨hd,l,hc,hI⟩;simp only at hd l hc hI;refine Y [0,1,6,7,22,23,24] [20] sr (J ?_)
 refine Bk (λh4=>?_) λh4=>?_
 .have e:done.length<a.length:=by simp at h4;omega
  obtain⟨n,hn⟩:∃n,a.length-done.length=n+1:=⟨a.length-done.length-1,by omega⟩;have ad:=ar done.length e;have an:=Ab0 (done:=done) (k:=done.length) (n:=n) rfl;obtain⟨k,hk⟩:∃k,done.length=k:=⟨_,rfl⟩;rw[hk]at ad an e hn hI;have a0:=Ps ak k;have a3:=Ps ah k;have au:=Ri a k;have ax:=Ri b k;have ba:¬k<b.length->Gf b k=0:=λh=>by unfold Gf;rw[Eg om]
  have a9:=a1 k;have m:=λz=>Ab1 (done:=done) (k:=k) (n:=n) hk z
  have a7:(Ll done (n+1)).length=a.length:=by rw[Wo];omega
  have bj:=A4 (k:=k) om;simp only[hk,hn];generalize Gf a k=x at ad a0 au;generalize Gf b k=y at a9 a3 ax ba;have⟨z,c',ao,ai,bs,bd,bh⟩:=Bkv a0 a3 hc;have a4:IntKind.u64.wrap (x:Int)=x:=wrap_u64 om;have aw:IntKind.u64.wrap (y:Int)=y:=wrap_u64 om;obtain⟨t1,o⟩:∃t:Int,IntKind.u64.wrap ((x:Int)-(c:Int))=t:=⟨_,rfl⟩;have az:=Bho x c;rw[o]at ao ai az;obtain⟨t2,g⟩:∃t:Int,IntKind.u64.wrap (t1-(y:Int))=t:=⟨_,rfl⟩;rw[g]at ao ai;have s:k<av.length:=om;have bg:(k:Int)<(a.length:Int):=om;generalize bt:Ll done (n+1)=ro at an a7 m|-;refine J (Ad (Y [0,1,6,7,8,22,23] [20] sr (Y [0,1,6,8,9,22,23] [20] (by simp[ad,s,a4,o]<;>rfl) ?_)))
  refine Lc ⟨[(0,.ro 1 av),(1,.ro 1 bv),(6,.sl 20 14 1 a.length),(8,.i k),(9,.int .u64 t2),(22,.i a.length),(23,.i k)],[(20,⟨14,1,164,ro⟩)],nx+30,54⟩ ?_ ?_
  .refine Y [0,1,6,8,9,22,23,36] [20] C1 ?_
   refine A1 (λh5=>?_) λh5=>?_
   .have ab:k<b.length:=by simp at h5;omega
    have bb:k<bv.length:=om;refine A6 [0,1,6,8,9,22,23] [20] (by simp[a9 ab,bb,aw,g]<;>rfl) ?_;exact⟨rfl,Kp [0,1,6,8,9,22,23] [20] rfl rfl rfl sy⟩
   .have ab:¬k<b.length:=by simp at h5;omega
    have bm:=ba ab;have bi:t1=t2:=by rw[<-g,bm,az]
    rw[bi];exact⟨rfl,Kp [0,1,6,8,9,22,23] [20] rfl rfl rfl sy⟩
  have aj:=m z;refine Y [0,1,6,9,22,23] [20] (by simp[an,ao,aj,bg]<;>rfl) (A6 [0,1,6,7,22,23] [20] (by simp[ai]<;>rfl) (A6 [0,1,6,7,22,23] [20] (by simp[bj]<;>rfl) ?_))
  refine⟨(done++[z],c',nx+30+6+3+2),⟨by simp;omega,Q1 l (by intro q hq;simp at hq;omega),bd,?_⟩,by simp;omega,?_⟩
  .simp only[Aq,Ax,Bg,hk,Qb,Bd];have:=A1i hI bh;rw[au,ax,Cd,Bf (4294967296^k) (z+_)];simpa using this
  .have bk:((k+1:Nat):Int)=(k:Int)+1:=om;have br:a.length-(k+1)=n:=om;simp only[Aq,Ax,Bg,hk,br,Dn,bk];exact Z
 .refine A3 ?_;have j:done.length=a.length:=sO h4
  rw[j,Bb,P8 b _ bf]at hI;have e:=Aoo done l;rw[j]at e;have⟨_,hD⟩:=A5n hI e hc al;have ag:=Ir done l;rw[hD]at ag;have bq:Ll done (a.length-done.length)=Az done:=by simp[Ll,j]
  have w:=Af done;have a5:(Az done).length=a.length:=sG j
  rw[bq];generalize Az done=fin at ag w a5;refine Au 1 sr ?_;refine L0 20 [52] [] (by simp[w,a5]<;>rfl) ?_;refine Ge [4,5] [] ag func69 ?_;refine Aj (Aa sr ?_);rw[Avu,Ab al];exact Bh.refl _
def Avw(n A d:Nat)(hA:A<4294967296^n)(hd:0<d)(ah:d<4294967296)(hn:n<=1099511627776):AE 179 [.ro 1 (Az (Cm n A)),.int .u32 d] (.tup [.ro 1 (Az (B0 (A/d))),.int .u32 ((A%d:Nat):Int)]):=by
 have aa:=λk(h:k<n)=>Abz (v:=A) h
 have c:(Az (Cm n A)).length=n:=sm;generalize Az (Cm n A)=av at aa c;have al:4*(n:Int)<=281474976710656:=om;have ak:(n:Int)<=9223372036854775807:=om;have f:IntKind.u64.wrap (d:Int)=d:=wrap_u64 om;have y:d≠0:=om;obtain⟨w1,Ec,af⟩:∃x:Int,IntKind.i64.wrap ((n:Int)-1)=x/\x=(n:Int)-1:=⟨_,rfl,Bm om om⟩;refine Ai func179 λw0 N0=>?_;refine Y [0,1] [] sr (Y [0,1,6] [12] C1 (A5 [7] sr (J (A5 [8] C1 (Ad ?_)))))
 refine Gn (λp:Nat×Nat=>[(7,.int .u64 ((A/4294967296^p.1%d:Nat):Int)),(8,.i ((p.1:Int)-1))]) (λp=>[(12,⟨4,1,164,List.replicate p.1 (.int .u32 0)++Az (Cm (n-p.1) (A/4294967296^p.1/d))⟩)]) (λp=>p.2)
  (λp=>p.1<=n) (λp=>p.1) (n,_) (A2 _) (by simp only[af,Gh hA,Nat.zero_mod,F4,Nat.zero_div,Cm,Ci,Do];exact Z) ?_
 rintro⟨k,nx⟩hk;simp only at hk;refine J ?_;cases k with
 |zero=>
  simp only[Vl,Nat.div_one,Mz,Qy,D8];have j:=Ir (Cm n (A/d)) (Pr _ _);have e:A/d<4294967296^n:=Fe (G7 _ _) hA;rw[T8,Bl e]at j;have g:=Af (Cm n (A/d));have w:(Az (Cm n (A/d))).length=n:=sm
  have z:IntKind.u32.wrap ((A%d:Nat):Int)=((A%d:Nat):Int):=by
   have:=Dd A hd;rw[wrap_u32];omega
  generalize Az (Cm n (A/d))=fin at j g w;generalize((A%d:Nat):Int)=rest at z|-;refine Y [0,1,6,7,8,17] [12] sr (Nf ?_);refine A3 (Au 1 sr ?_);refine L0 12 [7,40] [] C1 (Aw j func69 ?_);refine Ak [4,5] [] C1 ?_;refine Bv sr rfl
 |succ k=>
  have gA:=aa k om;have e1:((k+1:Nat):Int)-1=(k:Int):=om;have e:(k:Int)<n:=om;have hw:IntKind.i64.wrap ((k:Int)-1)=(k:Int)-1:=Bm om om;have⟨D1,D2,D3,D4⟩:=A5o (A:=A) (P:=4294967296^k) (d:=d) hd rfl rfl rfl;have i:=D2 ah;have ag:A/4294967296^k%4294967296<4294967296:=Dd _ dc;clear D2;rw[<-Cd]at D1 i D3 D4
  have a:∀q,q=(A/4294967296^(k+1)%d*4294967296+A/4294967296^k%4294967296)/d->(List.replicate (k+1) (V.int .u32 0)++Az (Cm (n-(k+1)) (A/4294967296^(k+1)/d))).set k (.int .u32 (q:Int))=List.replicate k (.int .u32 0)++Az (Cm (n-k) (A/4294967296^k/d)):=by
   intro q hq;have aj:n-k=(n-(k+1))+1:=om;rw[aj,D3,<-hq,Al7 (by rw[hq];exact i),List.replicate_succ',B6,Fl _ _ (by simp)];simp
  have s:Gz (List.replicate (k+1) (V.int .u32 0)++Az (Cm (n-(k+1)) (A/4294967296^(k+1)/d))) k=some (.int .u32 0):=by
   rw[C0,Bt sm,Hd,Ab oM]
  have ae:(List.replicate (k+1) (V.int .u32 0)++Az (Cm (n-(k+1)) (A/4294967296^(k+1)/d))).length=n:=by simp;omega
  generalize List.replicate (k+1) (V.int .u32 0)++Az (Cm (n-(k+1)) (A/4294967296^(k+1)/d))=ro at a s ae|-;generalize A/4294967296^(k+1)%d=r,A/4294967296^k%4294967296=x at*;have m:=Aop (r:=r) (x:=x) om ag;have o:IntKind.u64.wrap (x:Int)=x:=wrap_u64 om;obtain⟨t,ht⟩:∃t,r*4294967296+x=t:=⟨_,rfl⟩;rw[ht]at D1 i a m;have ai:=Arl t d;have ab:=Arm t d;rw[D1]at ab;have l:=a _ rfl;clear a;generalize t/d=q at*;have u:IntKind.u64.wrap (q:Int)=q:=wrap_u64 om;have ad:IntKind.u32.wrap (q:Int)=q:=by rw[wrap_u32];omega
  rw[e1];refine Y [0,1,6,7,8,17] [12] sr ?_;refine Aff ?_;refine J (Ad (Y [0,1,6,8,9] [12] C1 (A5 [] (by simp[s,e,f,y,ai,u,ad,l]<;>rfl) (A6 [0,1,6,7,8] [12] (by simp[f,y,ab]<;>rfl) (Cs [] (by simp[hw]<;>rfl) ?_)))));exact⟨(k,_),by simp only;omega,by simp,Z⟩
variable {k n s:Nat}
def bitLen(n:Nat):Nat:=if n=0 then 0 else n.log2+1
def Ama(n:Nat):n<2^bitLen n:=by
 unfold bitLen
 split
 .subst n;decide
 .exact Nat.lt_log2_self
def Ud(h:n≠0):2^(bitLen n-1)<=n:=by
 rw[bitLen,I h];exact Nat.log2_self_le h
def A1q(h1:2^k<=n)(h2:n<2^(k+1)):bitLen n=k+1:=by
 have c:n≠0:=by intro h;subst h;have:=F9 (n:=k) (show 0<2 by decide);omega
 rw[bitLen,I c]
 congr 1
 have a:=(Nat.le_log2 c).2 h1;have b:=(Nat.log2_lt c).2 h2;omega
def Aac(h:2^k<=n):bitLen n=k+bitLen (n/2^k):=by
 have c:0<2^k:=F9 dc;have d:n/2^k≠0:=by have:=Nat.div_pos h c;omega
 have a:=Ud d;have b:=Ama (n/2^k);obtain⟨m,e⟩:∃m,bitLen (n/2^k)=m+1:=⟨(n/2^k).log2,by rw[bitLen,I d]⟩;rw[e]at a b|-;simp only[Nt]at a
 rw[A1q (k:=m+k)]
 .omega
 .rw[He];exact(Gw c).1 a
 .rw[show m+k+1=m+1+k by omega,He];exact(C2 c).1 b
def Bck:∀v:Nat,v<256->∃b:UInt8,Gz ([0,1,2,2,3,3,3,3,4,4,4,4,4,4,4,4,5,5,5,5,5,5,5,5,5,5,5,5,5,5,5,5,6,6,6,6,6,6,6,6,6,6,6,6,6,6,6,6,6,6,6,6,6,6,6,6,6,6,6,6,6,6,6,6,7,7,7,7,7,7,7,7,7,7,7,7,7,7,7,7,7,7,7,7,7,7,7,7,7,7,7,7,7,7,7,7,7,7,7,7,7,7,7,7,7,7,7,7,7,7,7,7,7,7,7,7,7,7,7,7,7,7,7,7,7,7,7,7,8,8,8,8,8,8,8,8,8,8,8,8,8,8,8,8,8,8,8,8,8,8,8,8,8,8,8,8,8,8,8,8,8,8,8,8,8,8,8,8,8,8,8,8,8,8,8,8,8,8,8,8,8,8,8,8,8,8,8,8,8,8,8,8,8,8,8,8,8,8,8,8,8,8,8,8,8,8,8,8,8,8,8,8,8,8,8,8,8,8,8,8,8,8,8,8,8,8,8,8,8,8,8,8,8,8,8,8,8,8,8,8,8,8,8,8,8,8,8,8,8,8,8,8,8,8,8,8]:List UInt8) v=some b/\b.toNat=bitLen v:=by
 have h:∀v:Fin 256,Gz ([0,1,2,2,3,3,3,3,4,4,4,4,4,4,4,4,5,5,5,5,5,5,5,5,5,5,5,5,5,5,5,5,6,6,6,6,6,6,6,6,6,6,6,6,6,6,6,6,6,6,6,6,6,6,6,6,6,6,6,6,6,6,6,6,7,7,7,7,7,7,7,7,7,7,7,7,7,7,7,7,7,7,7,7,7,7,7,7,7,7,7,7,7,7,7,7,7,7,7,7,7,7,7,7,7,7,7,7,7,7,7,7,7,7,7,7,7,7,7,7,7,7,7,7,7,7,7,7,8,8,8,8,8,8,8,8,8,8,8,8,8,8,8,8,8,8,8,8,8,8,8,8,8,8,8,8,8,8,8,8,8,8,8,8,8,8,8,8,8,8,8,8,8,8,8,8,8,8,8,8,8,8,8,8,8,8,8,8,8,8,8,8,8,8,8,8,8,8,8,8,8,8,8,8,8,8,8,8,8,8,8,8,8,8,8,8,8,8,8,8,8,8,8,8,8,8,8,8,8,8,8,8,8,8,8,8,8,8,8,8,8,8,8,8,8,8,8,8,8,8,8,8,8,8,8,8]:List UInt8) v.val=some (UInt8.ofNat (bitLen v.val))/\(UInt8.ofNat (bitLen v.val)).toNat=bitLen v.val:=dc;exact λv a=>⟨_,h ⟨v,a⟩⟩
def Ayh{k:IntKind}(hs:s<=k.bits)(x:Nat):(x:Int).fdiv (2^min s k.bits)=((x/2^s:Nat):Int):=by
 rw[G6 hs,B4 _ (Int.le_of_lt (Int.pow_pos dc))];rw[Uy,Vw];rfl
def Arr(x:Nat)(t:x<4294967296):AE 232 [.int .u32 x] (.i (bitLen x:Nat)):=by
 have i:∀v:Nat,v<256->∃b:UInt8,Gz ([0,1,2,2,3,3,3,3,4,4,4,4,4,4,4,4,5,5,5,5,5,5,5,5,5,5,5,5,5,5,5,5,6,6,6,6,6,6,6,6,6,6,6,6,6,6,6,6,6,6,6,6,6,6,6,6,6,6,6,6,6,6,6,6,7,7,7,7,7,7,7,7,7,7,7,7,7,7,7,7,7,7,7,7,7,7,7,7,7,7,7,7,7,7,7,7,7,7,7,7,7,7,7,7,7,7,7,7,7,7,7,7,7,7,7,7,7,7,7,7,7,7,7,7,7,7,7,7,8,8,8,8,8,8,8,8,8,8,8,8,8,8,8,8,8,8,8,8,8,8,8,8,8,8,8,8,8,8,8,8,8,8,8,8,8,8,8,8,8,8,8,8,8,8,8,8,8,8,8,8,8,8,8,8,8,8,8,8,8,8,8,8,8,8,8,8,8,8,8,8,8,8,8,8,8,8,8,8,8,8,8,8,8,8,8,8,8,8,8,8,8,8,8,8,8,8,8,8,8,8,8,8,8,8,8,8,8,8,8,8,8,8,8,8,8,8,8,8,8,8,8,8,8,8,8,8]:List UInt8) v=some b/\((b.toNat:Nat):Int)=bitLen v/\IntKind.u8.wrap (v:Int)=v/\IntKind.i64.wrap ((b.toNat:Nat):Int)=bitLen v:=λv c=>by
  have⟨b,h1,h2⟩:=Bck v c;have:=b.toNat_lt;exact⟨b,h1,by omega,by rw[IntKind.wrap_u8];omega,by rw[h2,Bm om oM]⟩
 have f:=Ayh (k:=.u32) (s:=16) dc x;have e:∀x:Nat,(x:Int).fdiv (2^min 8 IntKind.u32.bits)=((x/256:Nat):Int):=λx=>Ayh (k:=.u32) (s:=8) dc x
 have m:=e (x/65536)
 have z:∀v,v<4294967296->bitLen v<=32:=λv c=>by
  rcases Cz 32 (bitLen v)with h|h
  .have w:v≠0:=by rintro rfl;revert h;decide
   have:=Ud w;have:2^32<=2^(bitLen v-1):=Dv dc om;omega
  .exact h
 have u:=z x t;refine Ai func232 λw0 N0=>?_;refine Y [0,2] [] sr ?_
 refine Ye (λp:Nat×Nat=>⟨[(0,.int .u32 p.1),(2,.i p.2)],[],10,19⟩) (λp=>p.1<65536/\bitLen x=p.2+bitLen p.1) ?_ ?_
 .refine Y [0,2,4] [] sr ?_
  refine A1 (λh1=>?_) λh1=>?_
  .have h2:65536<=x:=by simp at h1;omega
   refine Y [0] [] C1 (Cs [2] sr ?_);exact⟨(x/65536,16),⟨by simp only;omega,Aac (k:=16) h2⟩,Wg rfl rfl rfl sy⟩
  .have h2:x<65536:=by simp at h1;omega
   exact⟨(x,0),⟨h2,by simp⟩,Kp [0,2] [] rfl rfl rfl sy⟩
 rintro⟨v,b⟩⟨c,a⟩;simp only at c a;have d:IntKind.i64.wrap ((b:Int)+8)=((b+8:Nat):Int):=by rw[Bm om oM];omega
 refine Ye (λp:Nat×Nat=>⟨[(0,.int .u32 p.1),(2,.i p.2)],[],20,19⟩) (λp=>p.1<256/\bitLen x=p.2+bitLen p.1) ?_ ?_
 .refine Y [0,2,8] [] sr ?_
  refine A1 (λh1=>?_) λh1=>?_
  .have h2:256<=v:=by simp at h1;omega
   refine Y [0,2] [] C1 (Cs [] C1 ?_);refine⟨(v/256,b+8),⟨by simp only;omega,?_⟩,Wg rfl rfl rfl sy⟩;have:bitLen v=8+bitLen (v/256):=Aac (k:=8) h2;simp only;omega
  .have h2:v<256:=by simp at h1;omega
   exact⟨(v,b),⟨h2,a⟩,Kp [0,2] [] rfl rfl rfl sy⟩
 clear c a d;clear v b;rintro⟨v,b⟩⟨c,a⟩;simp only at c a;have⟨y,n,l,o,j⟩:=i v c;have g:IntKind.i64.wrap ((b:Int)+(bitLen v:Int))=(bitLen x:Int):=by rw[Bm om oM];omega
 rw[l]at j;exact Y [2] [] (by simp[n,o,j,l,g]<;>rfl) (Bv sr rf)
def A1r(x:Nat)(a:x<4294967296):AE 234 [.int .u32 x] (.i ((32-bitLen x:Nat):Int)):=by
 have d:=Arr x a
 have hb:bitLen x<=32:=by
  rcases Cz 32 (bitLen x)with h|h
  .have c:x≠0:=by rintro rfl;revert h;decide
   have:=Ud c;have:2^32<=2^(bitLen x-1):=Dv dc om;omega
  .exact h
 have e:IntKind.i64.wrap (32-(bitLen x:Int))=((32-bitLen x:Nat):Int):=by rw[Bm om oM];omega
 generalize bitLen x=q at*;refine Ai func234 λw0 N0=>?_;refine Y [0] [] sr (Au 1 sr ?_);refine Aw d func232 ?_;exact Ak [2] [] C1 (Bv sr rfl)
variable {m q:Nat}
def A1s(l:List Nat):(Az l).all Ih=true:=by
 simp only[Ao,Bc];rintro v⟨x,_,rfl⟩;rfl
def Ayi(n A s:Nat)(hn:n<=1099511627776)(hs:s<32)(hA:A<4294967296^n):ACO prog 235 [.ro 1 (Az (Cm n A)),.i s] 1 164 (λF es=>F=(λd q=>.sl d q 1 (n+1))/\es=Az (Cm (n+1) (A*2^s))):=by
 have ah:=λk(h:k<n)=>Abz (v:=A) h
 have f:(Az (Cm n A)).length=n:=sm;generalize Az (Cm n A)=av at ah f;obtain⟨s1,al,a3⟩:∃s:Int,IntKind.i64.wrap ((n:Int)+1)=s/\s=((n+1:Nat):Int):=⟨_,rfl,A4 om⟩;have au:4*s1<=281474976710656:=om;have aq:s1<=9223372036854775807:=om;have a0:0<=s1:=om;have ak:s1.toNat=n+1:=om;refine Kf func235 λw0 N0=>?_;refine Y [0,1] [] sr (Y [0,1,5] [12] (by simp[f,al,au,aq,a0]<;>rfl) ?_);rw[ak];refine J (Y [1,5,13,14,15] [12] C1 (Ad ?_))
 refine Gn (λp:Nat×Nat=>[(15,.i p.1)]) (λp=>[(12,⟨4,1,164,Az (Cm (p.1+1) (A%4294967296^p.1*2^s))++List.replicate (n-p.1) (.int .u32 0)⟩)]) (λp=>p.2)
  (λp=>p.1<=n) (λp=>n-p.1) (0,_) (B5 _) (by simp[Cm,Tf,Gm,Aby];exact Z) ?_
 rintro⟨k,nx⟩hk;simp only at hk;refine Y [1,5,13,14,15,16] [12] sr (J ?_)
 refine Bk (λh1=>?_) λh1=>?_
 .have g:k<n:=by simp at h1;omega
  obtain⟨m,hm⟩:∃m,n-k=m+1:=⟨n-k-1,by omega⟩;have gA:=ah k g;have hP:=Oo k;have aj:A/4294967296^k%4294967296<4294967296:=Dd _ dc;obtain⟨c,hc⟩:∃c,c=A%4294967296^k*2^s/4294967296^k:=⟨_,rfl⟩
  have a1:c<2^s:=by
   rw[hc];exact(A5g (a:=A) (s:=2^s) hP (F9 dc)).1
  obtain⟨t,ht⟩:∃t,t=A/4294967296^k%4294967296*2^s:=⟨_,rfl⟩;have⟨D1,D2,D3,D4⟩:=A5q aj hs a1 ht
  have hS:2^s<=2147483648:=by
   have:2^s<=2^31:=Dv dc om;exact this
  have hD:=A5r hc ht D3 om;have am:=A5s hc om;rw[am];have u:=A1l (s:=s) (x:=A/4294967296^k%4294967296) om (by rw[<-ht];exact D1);have i:IntKind.u64.wrap ((A/4294967296^k%4294967296:Nat):Int)=((A/4294967296^k%4294967296:Nat):Int):=wrap_u64 om;rw[<-ht]at u;generalize A/4294967296^k%4294967296=x at gA u i;have ay:IntKind.u32.wrap (t:Int)=((t%4294967296:Nat):Int):=wrap_u32 t
  have an:IntKind.u32.wrap ((t:Int).fdiv (2^min 32 IntKind.u64.bits))=((t/4294967296:Nat):Int):=by
   rw[Abx,wrap_u32];congr 1;omega
  have aa:=A1j c (t%4294967296) ⟨by omega,Dd _ dc⟩;rw[D2]at aa;generalize t%4294967296=lo,t/4294967296=hi at*;have ar:¬(s:Int)<0:=om;have az:=A4 (k:=k) om
  have j:Gz (Az (Cm k (A%4294967296^k*2^s)++[c])++List.replicate (n-k) (V.int .u32 0)) k=some (.int .u32 c):=by
   rw[C0,Bt sm,Bj,Bn (by simp)];simp
  have l:Gz (Az (Cm k (A%4294967296^k*2^s)++[c])++List.replicate (n-k) (V.int .u32 0)) (k+1)=some (.int .u32 0):=by
   rw[C0,Bn sm,Hd,Ab (by simp;omega)]
  have y:(Az (Cm k (A%4294967296^k*2^s)++[c])++List.replicate (n-k) (V.int .u32 0)).length=n+1:=by simp;omega
  have w:((Az (Cm k (A%4294967296^k*2^s)++[c])++List.replicate (n-k) (V.int .u32 0)).set k (.int .u32 ((c+lo:Nat):Int))).set (k+1) (.int .u32 (hi:Int))=Az (Cm (k+2) (A%4294967296^(k+1)*2^s))++List.replicate (n-(k+1)) (V.int .u32 0):=by
   rw[hD,hm,show n-(k+1)=m by omega];have hl:(List.map Aby (Cm k (A%4294967296^k*2^s))).length=k:=sm;simp only[Az,Cg,Br,Ci,B6,Cj,D8,Gm];rw[Fl _ _ om,hl,F4,K8,Fl _ _ om,hl,show k+1-k=1 by omega];simp
  generalize Az (Cm k (A%4294967296^k*2^s)++[c])++List.replicate (n-k) (V.int .u32 0)=ro at l j y w|-;obtain⟨ae,e⟩:∃r,ro.set k (.int .u32 ((c+lo:Nat):Int))=r:=⟨_,rfl⟩;have ag:ae.length=n+1:=by rw[<-e];simpa using y
  rw[e]at w
  have af:Gz ae (k+1)=some (.int .u32 0):=by
   rw[<-e,C0,Ip om,<-C0,l]
  generalize((c+lo:Nat):Int)=z at*;have a2:k<n:=g;have ax:(k:Int)<(n:Int)+1:=om;have ab:(k:Int)<(n:Int):=om;obtain⟨k1,o⟩:∃k1:Int,IntKind.i64.wrap ((k:Int)+1)=k1:=⟨_,rfl⟩;have ao:k1=((k+1:Nat):Int):=by rw[<-o,az]
  have aw:0<=k1/\k1<(n:Int)+1:=om;have ai:k1.toNat=k+1:=om;refine J (Ad (Y [1,5,6,7,13,14,15] [12] (by simp[gA,f,ab]<;>rfl) (Y [1,5,6,8,13,14,15] [12] (by simp[i,u,ar]<;>rfl) (A5 [] (by simp[j,ax,ay,aa,e]<;>rfl) (A6 [1,5,13,14,15] [12] (by simp[o,aw,ai,an,af,w]<;>rfl) (Cs [] (by simp[o]<;>rfl) ?_))))));exact⟨(k+1,_),by simp only;omega,by simp only;omega,by simp only[ao];exact Z⟩
 .have g:k=n:=by simp at h1;omega
  subst g;refine A3 ?_;rw[Bl hA,F4,Qy,Do];have ad:=A1s (Cm (k+1) (A*2^s));generalize Az (Cm (k+1) (A*2^s))=fin at ad;refine Y [4] [12] sr ?_;exact Aj (Hv 12 rfl rfl rfl ad sr ⟨rfl,rfl⟩)
def A6c{v z:Nat}(d:z=v/4294967296^k%4294967296)(a:q=m+1):(Az (Cm k v)++List.replicate q (V.int .u32 0)).set k (.int .u32 (z:Int))=Az (Cm (k+1) v)++List.replicate m (V.int .u32 0):=by
 subst a;have c:(Az (Cm k v)).length=k:=sm;rw[Fl _ _ om,c,F4,Gm,K8,Adz,d];simp
def A6d{v:Nat}(a:q=m+1):Gz (Az (Cm k v)++List.replicate q (V.int .u32 0)) k=some (.int .u32 0):=by
 subst a;rw[C0,Bn sm,Hd,Ab (by simp)]
def Bhs(n A s:Nat)(hn:n<=1099511627776)(hs:s<32)(hA:A<4294967296^n):AE 239 [.ro 1 (Az (Cm n A)),.i s] (.ro 1 (Az (Cm n (A/2^s)))):=by
 have j:=λk(h:k<n)=>Abz (v:=A) h
 have a:(Az (Cm n A)).length=n:=sm;generalize Az (Cm n A)=av at j a;have au:4*(n:Int)<=281474976710656:=om;have ar:(n:Int)<=9223372036854775807:=om;refine Ai func239 λw0 N0=>?_;refine Y [0,1] [] sr (Y [0,1,5] [11] C1 (J (A5 [12,13,14] C1 (Ad ?_))))
 refine Gn (λp:Nat×Nat=>[(14,.i p.1)]) (λp=>[(11,⟨3,1,164,Az (Cm p.1 (A/2^s))++List.replicate (n-p.1) (.int .u32 0)⟩)]) (λp=>p.2)
  (λp=>p.1<=n) (λp=>n-p.1) (0,_) (B5 _) (by simp[Cm];exact Z) ?_
 rintro⟨k,nx⟩hk;simp only at hk;refine Y [0,1,5,12,13,14,15] [11] sr (J ?_)
 refine Bk (λh1=>?_) λh1=>?_
 .have g:k<n:=by simp at h1;omega
  obtain⟨m,hm⟩:∃m,n-k=m+1:=⟨n-k-1,by omega⟩;have gA:=j k g;have gB:=j (k+1);have ak:A/4294967296^k%4294967296<4294967296:=Dd _ dc;have al:A/4294967296^(k+1)%4294967296<4294967296:=Dd _ dc;have o:=A5t (A:=A) (P:=4294967296^k) (s:=s) hs;rw[<-Cd]at o
  have ao:¬k+1<n->A/4294967296^(k+1)%4294967296=0:=λh=>by
   have:n=k+1:=om;rw[this]at hA;rw[Gh hA]
  have f:=A6d (k:=k) (v:=A/2^s) hm;have d:=λz hz=>A6c (k:=k) (v:=A/2^s) (z:=z) hz hm
  rw[<-o]at d;have af:(Az (Cm k (A/2^s))++List.replicate (n-k) (V.int .u32 0)).length=n:=by simp;omega
  generalize Az (Cm k (A/2^s))++List.replicate (n-k) (V.int .u32 0)=ro at f d af|-;clear o;generalize A/4294967296^k%4294967296=x,A/4294967296^(k+1)%4294967296=y at*;have aa:IntKind.u64.wrap (x:Int)=x:=wrap_u64 om;have ah:IntKind.u64.wrap (y:Int)=y:=wrap_u64 om;have w:=A5p (r:=y) (x:=x) al ak;obtain⟨t,ht⟩:∃t,x+y*4294967296=t:=⟨_,rfl⟩;rw[O3,ht]at w;rw[ht]at d;have ae:=A1k (s:=s) (x:=t) om;have l:=wrap_u32 (t/2^s);have e:=d _ rfl;generalize t/2^s%4294967296=z at e l;generalize((t/2^s:Nat):Int)=tz at ae l;have ay:¬(s:Int)<0:=om;have ax:=A4 (k:=k) om;obtain⟨u,c⟩:∃u:Int,IntKind.i64.wrap ((k:Int)+1)=u:=⟨_,rfl⟩;have aq:u=((k+1:Nat):Int):=by rw[<-c,ax]
  have ag:(k:Int)<n:=om;refine J (Ad (Y [0,1,5,6,7,12,13,14] [11] (by simp[gA,a,ag]<;>rfl) (Y [0,1,5,6,8,12,13,14] [11] C1 ?_)))
  refine Lc ⟨[(0,.ro 1 av),(1,.i s),(5,.sl 11 3 1 n),(6,.i k),(8,.int .u64 t),(12,.ro 1 av),(13,.i n),(14,.i k)],[(11,⟨3,1,164,ro⟩)],nx+40,44⟩ ?_ ?_
  .refine A5 [25] C1 ?_
   refine A1 (λh3=>?_) λh3=>?_
   .have i:k+1<n:=by simp at h3;omega
    have an:=gB i;have aw:0<=u/\u<n:=om;have aj:u.toNat=k+1:=om;refine A6 [0,1,5,6,8,12,13,14] [11] (by simp[c,aw,aj,an,a,ah,w]<;>rfl) ?_;exact⟨rfl,Kp [0,1,5,6,8,12,13,14] [11] rfl rfl rfl sy⟩
   .have i:¬k+1<n:=by simp at h3;omega
    have az:=ao i;have ai:x=t:=om;rw[ai];exact⟨rfl,Kp [0,1,5,6,8,12,13,14] [11] rfl rfl rfl sy⟩
  refine A6 [0,1,5,12,13,14] [11] (by simp[f,ag,ae,ay,l,e]<;>rfl) (Cs [] (by simp[c]<;>rfl) ?_);have am:n-(k+1)=m:=om;exact⟨(k+1,_),by simp only;omega,by simp only;omega,by simp only[aq,am];exact Z⟩
 .have g:k=n:=by simp at h1;omega
  subst g;refine A3 ?_;rw[F4,Qy,Do];have ab:=Af (Cm k (A/2^s));have ad:(Az (Cm k (A/2^s))).length=k:=sm;generalize Az (Cm k (A/2^s))=fin at ab ad;refine Au 1 sr ?_;refine L0 11 [43] [] (by simp[ab,ad]<;>rfl) ?_;refine Ak [4] [] sr ?_;exact Bv sr rfl
def Bht(n u v:Nat):Nat:=Arg (v/4294967296^(n-1)) (v/4294967296^(n-2)%4294967296) (u/4294967296^(n-2)%4294967296) 3 (u/4294967296^(n-1)/(v/4294967296^(n-1))) (u/4294967296^(n-1)%(v/4294967296^(n-1)))
def A6e(F:Nat->Nat->Nat->Nat)(cb:Nat->Nat->Bool)(ah:Nat->Bool)(uv vv:List V)(N M i1 i2:Int)(k a x y th tl ad d0 r0:Nat)(j:Gz uv k=some (.int .u32 y))(az:Gz uv (k+1)=some (.int .u32 tl))(ay:Gz uv (k+2)=some (.int .u32 th))
  (i:Gz vv k=some (.int .u32 x))(ae:Gz vv (k+1)=some (.int .u32 a))(a8:a<4294967296)(a7:2147483648<=a)(a6:x<4294967296)(a1:y<4294967296)
  (u:IntKind.i64.wrap (N-1)=i1)(g:IntKind.i64.wrap (N-2)=i2)(b1:0<=i1/\i1<N/\i1<M)(b2:0<=i2/\i2<N/\i2<M)(n1:i1.toNat=k+1)(n2:i2.toNat=k)
  (e:((uv.length:Nat):Int)=M)(c:((vv.length:Nat):Int)=N)(b3:0<=N/\N<M)(n3:N.toNat=k+2)(wa:IntKind.u64.wrap (a:Int)=a)(wx:IntKind.u64.wrap (x:Int)=x)(wy:IntKind.u64.wrap (y:Int)=y)
  (a5:IntKind.u64.wrap (th:Int)=th)(a0:IntKind.u64.wrap (tl:Int)=tl)(an:bits .or .u64 (IntKind.u64.wrap ((th:Int)*2^min 32 IntKind.u64.bits)) (tl:Int)=(ad:Int))(ai:a≠0)
  (hq:(ad:Int).tdiv (a:Int)=d0)(hr:(ad:Int).tmod (a:Int)=r0)(aq:IntKind.u64.wrap (d0:Int)=d0)(a2:d0<18446744073709551616)(av:r0<4294967296)
  (hF:∀m d r,F (m+1) d r=if cb d r=true then(if ah (r+a)=true then d-1 else F m (d-1) (r+a))else d)(a3:∀d r,cb d r=true↔(4294967296<=d\/r*4294967296+y<d*x))(ag:∀z,ah z=true↔4294967296<=z):
  AE 236 [.ro 1 uv,.ro 1 vv] (.int .u64 (F 3 d0 r0:Nat)):=by
 refine Ai func236 λw0 N0=>?_;refine Y [0,1] [] sr (A5 [5] C1 ?_);refine I3 [0,3,6,4,3,3,10,4] [0,1,5,6] [] sr C1 (A5 [7] C1 (Y [0,1,5,7,8] [] C1 (J (Ad ?_))));refine Gn (λp:Nat×Nat×Nat×Nat=>[(7,.int .u64 p.1),(8,.int .u64 p.2.1)]) (λ_=>[]) (λp=>p.2.2.2) (λp=>p.1<18446744073709551616/\p.2.1<4294967296/\4294967296<=p.2.1+p.2.2.1*a/\F p.2.2.1 p.1 p.2.1=F 3 d0 r0) (λp=>p.2.2.1) (d0,r0,3,_) ⟨a2,av,by simp only;omega,rfl⟩ Z ?_;rintro⟨d,r,m,nx⟩⟨hd,af,hm,hE⟩;simp only at hd af hm hE;cases m with
 |zero=>omega
 |succ m=>
 rw[<-hE];rw[hF];have n:=a3 d r;have s:=ag (r+a);have w:(d:Int).fdiv (2^min 32 IntKind.u64.bits)=((d/4294967296:Nat):Int):=Abx d;obtain⟨ra,o⟩:∃ra:Int,ra=((r+a:Nat):Int):=⟨_,rfl⟩;have ab:ra.fdiv (2^min 32 IntKind.u64.bits)=(((r+a)/4294967296:Nat):Int):=by rw[o];exact Abx (r+a)
 have a4:IntKind.u64.wrap ((r:Int)+(a:Int))=ra:=by rw[o,<-Du];exact wrap_u64 om
 have f:=Aop (r:=r) (x:=y) af a1
 have wd:1<=d->IntKind.u64.wrap ((d:Int)-1)=((d-1:Nat):Int):=λh=>by
  rw[show(d:Int)-1=((d-1:Nat):Int)by omega];exact wrap_u64 om
 refine J ?_
 refine Lc ⟨[(0,.ro 1 uv),(1,.ro 1 vv),(5,.i N),(7,.int .u64 d),(8,.int .u64 r),(62,.bool (cb d r))],[],nx+40,77⟩ ?_ ?_
 .by_cases ao:4294967296<=d
  .have aa:¬d/4294967296=0:=om;generalize d/4294967296=dq at w aa;refine(H6 [0,9,12,6,9,3,18,5] sr ?_);refine B8 4 C1 (B8 6 C1 ?_);refine B8 6 C1 ?_;refine B8 6 C1 ?_;refine C5 [0,1,5,7,8,62] [] sr ?_;have l:cb d r=true:=n.2 (.inl ao);rw[l];exact⟨rfl,Kp [0,1,5,7,8,62] [] rfl rfl rfl sy⟩
  .have hz:d/4294967296=0:=om;rw[hz]at w
   have au:d*x<18446744073709551616:=by
    have:d*x<=4294967295*4294967295:=Iq om om;omega
   have t:IntKind.u64.wrap ((d:Int)*(x:Int))=((d*x:Nat):Int):=by rw[<-Fq];exact wrap_u64 au
   have l:cb d r=decide (((r*4294967296+y:Nat):Int)<((d*x:Nat):Int)):=by
    rw[Nl,n,decide_eq_true_iff];omega
   rw[l];obtain⟨dx,aj⟩:∃dx:Int,dx=((d*x:Nat):Int):=⟨_,rfl⟩;obtain⟨ry,al⟩:∃ry:Int,ry=((r*4294967296+y:Nat):Int):=⟨_,rfl⟩;rw[<-aj]at t|-;rw[<-al]at f|-;refine(H6 [0,9,12,6,9,3,18,5] sr ?_);refine B8 4 C1 ?_;refine B8 6 C1 ?_;refine B8 6 (by simp[g,b2,n2,e,j]<;>rfl) ?_;refine B8 6 (by simp[wx,wy,f,t]<;>rfl) ?_;refine C5 [0,1,5,7,8,62] [] sr ?_;exact⟨rfl,Kp [0,1,5,7,8,62] [] rfl rfl rfl sy⟩
 refine Bk (λh1=>?_) λh1=>?_
 .have ax:=n.1 h1;rw[Ab h1]
  have ar:1<=d:=by
   rcases Eu d with h0|h0
   .subst h0;simp at ax
   .exact h0
  have am:=wd ar;refine Ad (Y [0,1,5,7,8] [] (by simp[am]<;>rfl) (A5 [] (by simp[u,b1,n1,c,ae,wa,a4]<;>rfl) ?_))
  by_cases ak:4294967296<=r+a
  .obtain⟨q,aw⟩:∃q:Int,q=(((r+a)/4294967296:Nat):Int):=⟨_,rfl⟩;have aa:¬q=0:=om;rw[<-aw]at ab;rw[Ab (s.2 ak)];refine A5 [75] (by simp[ab,aa]<;>rfl) ?_;refine Ek ?_;refine A3 ?_;exact Y [4] [] sr (Bv sr rf)
  .have hz:(((r+a)/4294967296:Nat):Int)=0:=om;rw[hz]at ab;rw[I (λh=>ak (s.1 h))];refine A5 [75] (by simp[ab]<;>rfl) ?_;refine Ce ?_
   refine⟨(d-1,r+a,m,nx+40+3+9+3),⟨by simp only;omega,by simp only;omega,?_,rfl⟩,by simp only;omega,?_⟩
   .simp only;rw[Ca]at hm;omega
   .simp only[<-o];exact Kp [0,1,5,7,8] [] rfl rfl rfl sy
 .rw[I (by simp[h1])];refine A3 ?_;exact Y [4] [] sr (Bv sr rf)
def Bhu(n u v:Nat)(hn:2<=n)(a2:n<=1099511627776)(hv:4294967296^n<=2*v)(t:v<4294967296^n)(hu:u<4294967296^(n+1)):
  AE 236 [.ro 1 (Az (Cm (n+1) u)),.ro 1 (Az (Cm n v))] (.int .u64 (Bht n u v:Nat)):=by
 obtain⟨k,rfl⟩:∃k,n=k+2:=⟨n-2,by omega⟩;have hP:=Oo k;have aa:=Abz (k:=k+2+1) (v:=u) (i:=k) om;have ab:=Abz (k:=k+2+1) (v:=u) (i:=k+1) om;have o:=Abz (k:=k+2+1) (v:=u) (i:=k+2) om;have w:=Abz (k:=k+2) (v:=v) (i:=k) om;have l:=Abz (k:=k+2) (v:=v) (i:=k+1) om;have az:(Az (Cm (k+2+1) u)).length=k+3:=sm;have ay:(Az (Cm (k+2) v)).length=k+2:=sm;generalize Az (Cm (k+2+1) u)=uv,Az (Cm (k+2) v)=vv at*;rw[Bht,show k+2-1=k+1 by omega,show k+2-2=k by omega];have e1:4294967296^(k+1)=4294967296^k*4294967296:=Cd ..;have e2:4294967296^(k+2)=4294967296^(k+1)*4294967296:=Cd ..;have e3:4294967296^(k+2+1)=4294967296^(k+2)*4294967296:=Cd ..;rw[e3]at hu;clear e3;generalize 4294967296^(k+2)=P2 at hv t hu o e2;generalize 4294967296^(k+1)=j at ab l e1 e2|-;generalize 4294967296^k=P0 at aa w e1 hP|-;have ae:0<j:=om;have al:0<P2:=om;have s:v/j<4294967296:=by rw[C2 ae,Bf,<-e2];exact t
 have am:2147483648<=v/j:=by
  rw[Gw ae];omega
 have e:u/j=u/P2*4294967296+u/j%4294967296:=by
  rw[e2,<-Cy u j];omega
 have ad:u/P2<4294967296:=by
  rw[C2 al,Bf];exact hu
 rw[Bl ad]at o;rw[Bl s]at l;have ar:u/j%4294967296<4294967296:=Dd _ dc;have aj:v/P0%4294967296<4294967296:=Dd _ dc;have ao:u/P0%4294967296<4294967296:=Dd _ dc;clear e1 e2 hv t hu hP ae al;generalize v/j=a at l s am|-;generalize u/j%4294967296=tl at ab e ar;generalize u/P2=th at o e ad;generalize u/j=c at e|-;generalize v/P0%4294967296=x at w aj|-;generalize u/P0%4294967296=y at aa ao|-;have g:c<18446744073709551616:=om;obtain⟨i1,ak,aq⟩:∃x:Int,IntKind.i64.wrap (((k+2:Nat):Int)-1)=x/\x=((k+1:Nat):Int):=⟨_,rfl,by rw[Bm om oM];omega⟩;obtain⟨i2,ag,ai⟩:∃x:Int,IntKind.i64.wrap (((k+2:Nat):Int)-2)=x/\x=(k:Int):=⟨_,rfl,by rw[Bm om oM];omega⟩;have b1:0<=i1/\i1<((k+2:Nat):Int)/\i1<((k+3:Nat):Int):=om;have b2:0<=i2/\i2<((k+2:Nat):Int)/\i2<((k+3:Nat):Int):=om;have n1:i1.toNat=k+1:=om;have n2:i2.toNat=k:=om;obtain⟨N,hN⟩:∃N:Int,((k+2:Nat):Int)=N:=⟨_,rfl⟩;obtain⟨M,hM⟩:∃M:Int,((k+3:Nat):Int)=M:=⟨_,rfl⟩;have ah:((uv.length:Nat):Int)=M:=om;have an:((vv.length:Nat):Int)=N:=om;have b3:0<=N/\N<M:=om;have n3:N.toNat=k+2:=om;rw[hN]at ak ag b1 b2;rw[hM]at b1 b2;clear hN hM az ay aq ai;have f:∀z:Nat,z<18446744073709551616->IntKind.u64.wrap (z:Int)=z:=λz h=>wrap_u64 h
 have af:=Aop (r:=th) (x:=tl) ad ar;rw[<-e]at af;have aw:a≠0:=om;have hq:=Arl c a;have hr:=Arm c a;have au:=f (c/a) (Fe (G7 _ _) g);have a0:c/a<18446744073709551616:=Fe (G7 _ _) g;have av:c%a<4294967296:=Rc (Dd _ om) s;generalize c/a=d0,c%a=r0 at*;refine A6e (Arg a x y) (λd r=>decide (4294967296<=d\/r*4294967296+y<d*x)) (λz=>decide (4294967296<=z)) uv vv N M i1 i2 k a x y th tl c d0 r0 aa ab o w l s am aj ao ak ag b1 b2 n1 n2 ah an b3 n3 (f a om) (f x om) (f y om) (f th om) (f tl om) af aw hq hr au a0 av (λm d r=>?_) (λd r=>by simp only[decide_eq_true_iff]) (λz=>by simp only[decide_eq_true_iff]);simp only[decide_eq_true_iff,Arg]
def Bcl(d v off:Nat)(pre post:List V)(n U W g:Nat)(ho:pre.length=off)(hn:n<=1099511627776)(hU:U<4294967296^(n+1))(hW:W<4294967296^n)(hg:g<4294967296):
  Q0 prog 237 [.ss d v 1 off (n+1),.ro 1 (Az (Cm n W)),.int .u64 g] [(d,⟨v,1,164,M4 pre n U post 0 0⟩)] (λr q=>r=.bool (decide (U<g*W))/\q=[(d,⟨v,1,164,M4 pre n U post (n+1) (Aoq n U (g*W))⟩)]) (λ_=>False):=by
 have aq:=λk(h:k<n)=>Abz (v:=W) h
 have ae:(Az (Cm n W)).length=n:=sm;generalize Az (Cm n W)=wv at aq ae;refine Ed func237 λw0 N0 a3=>?_;refine Y [0,1,2] [d] sr (Y [0,1,2,7,8] [d] sr (J (Y [0,1,2,7,8,14,15,16] [d] C1 (Ad ?_))))
 refine If (λp:Nat×Nat×Nat×Nat×Nat=>⟨[(0,.ss d v 1 off (n+1)),(1,.ro 1 wv),(2,.int .u64 g),(7,.int .u64 p.2.2.1),(8,.int .u64 p.2.2.2.1),(14,.ro 1 wv),(15,.i n),(16,.i p.1)],[(d,⟨v,1,164,M4 pre n U post p.1 p.2.1⟩)],p.2.2.2.2,67⟩)
  (λp=>p.1<=n/\p.2.1<4294967296^p.1/\p.2.2.1<4294967296/\p.2.2.2.1<=1/\p.2.1+g*(W%4294967296^p.1)=U%4294967296^p.1+4294967296^p.1*(p.2.2.1+p.2.2.2.1)/\a3<=p.2.2.2.2) (λp=>n-p.1) (0,0,0,0,_) ⟨by simp,by simp,by simp,by simp,by simp[Tf],by simp only;omega⟩ Z ?_
 rintro⟨k,x,c,b,nx⟩⟨hk,hx,hc,hb,hI,bb⟩;simp only at hk hx hc hb hI bb;refine Y [0,1,2,7,8,14,15,16,17] [d] sr (J ?_);have e:=Aro (pre:=pre) (post:=post) (U:=U) (x:=x) hk;have ai:=Ahr (pre:=pre) (post:=post) (U:=U) (x:=x) (show k<=n+1 by omega);have ad:=λz(hz:z<4294967296)=>Arp (pre:=pre) (post:=post) (U:=U) hk hx hz
 rw[ho]at e ad;have ah:U/4294967296^k%4294967296<4294967296:=Dd _ dc
 refine Bk (λh1=>?_) λh1=>?_
 .have am:k<n:=by simp at h1;omega
  have a1:=aq k am;have a2:W/4294967296^k%4294967296<4294967296:=Dd _ dc;obtain⟨wk,aj⟩:∃y,y=W/4294967296^k%4294967296:=⟨_,rfl⟩;obtain⟨uk,l⟩:∃y,y=U/4294967296^k%4294967296:=⟨_,rfl⟩;rw[<-aj]at a1 a2;rw[<-l]at e ah
  have a8:g*wk+c<18446744073709551616:=by
   have:g*wk<=4294967295*4294967295:=Iq om om;omega
  obtain⟨m1,a5,ak⟩:∃z:Int,IntKind.u64.wrap ((g:Int)*(wk:Int))=z/\z=((g*wk:Nat):Int):=⟨_,rfl,by rw[<-Fq];exact wrap_u64 om⟩;obtain⟨p,hp,al⟩:∃z:Int,IntKind.u64.wrap (m1+(c:Int))=z/\z=((g*wk+c:Nat):Int):=⟨_,rfl,by rw[ak,<-Du];exact wrap_u64 om⟩;obtain⟨c',a4,ax⟩:∃z:Nat,p.fdiv (2^min 32 IntKind.u64.bits)=z/\z=(g*wk+c)/4294967296:=⟨_,by rw[al];exact Abx _,rfl⟩;obtain⟨lo,a6,az⟩:∃z:Nat,IntKind.u32.wrap p=z/\z=(g*wk+c)%4294967296:=⟨_,by rw[al];exact wrap_u32 _,rfl⟩;have bc:c'<4294967296:=om;have bd:lo<4294967296:=om;have ab:IntKind.u64.wrap (uk:Int)=uk:=wrap_u64 om;have av:IntKind.u64.wrap (wk:Int)=wk:=wrap_u64 om;have aw:IntKind.u64.wrap (lo:Int)=lo:=wrap_u64 om;have⟨z,b',j,i,w,an,ag⟩:=A5w ah bd hb;obtain⟨t1,af⟩:∃t:Int,IntKind.u64.wrap ((uk:Int)-(lo:Int))=t:=⟨_,rfl⟩;rw[af]at j i;obtain⟨t2,s⟩:∃t:Int,IntKind.u64.wrap (t1-(b:Int))=t:=⟨_,rfl⟩;rw[s]at j i;have a:=ad z w;have ao:=A5x hx w;have f:=A5e (x:=x) (d:=g) (v:=W) (u:=U) (P:=4294967296^k) (c:=c) (b:=b) (y:=z) (b':=b') hI (by rw[<-aj,<-l,<-az];exact ag);rw[<-aj,<-ax]at f;rw[<-Cd]at f ao;obtain⟨x',a0⟩:∃x',x'=x+4294967296^k*z:=⟨_,rfl⟩;rw[<-a0]at a f ao;obtain⟨k1,ar⟩:∃k1:Int,IntKind.i64.wrap ((k:Int)+1)=k1:=⟨_,rfl⟩;have a7:k1=((k+1:Nat):Int):=by rw[<-ar,(A4 (k:=k) om)]
  have ba:(k:Int)<n:=om;have m:(k:Int)<(n:Int)+1:=om;clear aj l az ax a0 ak al hI ad aq a8;have aa:off+k<(M4 pre n U post k x).length:=by rw[ai];omega
  generalize M4 pre n U post k x=ro at e a aa|-;clear ai;refine J (Ad (Y [0,1,2,7,8,9,10,14,15,16] [d] C1 (Y [0,1,2,8,9,11,14,15,16] [d] C1 (Y [0,1,2,7,8,9,11,14,15,16] [d] C1 (Y [0,1,2,7,9,12,14,15,16] [d] C1 (Y [0,1,2,7,12,14,15,16] [d] C1 (A6 [0,1,2,7,8,14,15,16] [d] C1 (A6 [0,1,2,7,8,14,15,16] [d] C1 ?_))))))));refine⟨(k+1,x',c',b',_),⟨by simp only;omega,ao,bc,an,f,?_⟩,by simp only;omega,by simp only[a7];exact Z⟩;simp only;omega
 .have am:k=n:=by simp at h1;omega
  subst am;obtain⟨uk,l⟩:∃y,y=U/4294967296^k%4294967296:=⟨_,rfl⟩;rw[<-l]at e ah;have⟨z,b',j,i,w,an,ag⟩:=A5w ah hc hb;have ab:IntKind.u64.wrap (uk:Int)=uk:=wrap_u64 om;obtain⟨t1,af⟩:∃t:Int,IntKind.u64.wrap ((uk:Int)-(c:Int))=t:=⟨_,rfl⟩;rw[af]at j i;obtain⟨t2,s⟩:∃t:Int,IntKind.u64.wrap (t1-(b:Int))=t:=⟨_,rfl⟩;rw[s]at j i;have a:=ad z w;have⟨E1,E2⟩:=A5y (z:=z) (b':=b') hU hW hx hI (by rw[<-l];exact ag) w an;rw[E1]at a
  have ay:(!decide ((b':Int)=0))=decide (U<g*W):=by
   rw[Nl];simp only[Ht,decide_eq_false_iff_not,decide_eq_true_iff];omega
  obtain⟨bz,a9⟩:∃bz:Int,(b':Int)=bz:=⟨_,rfl⟩;rw[a9]at i ay;rw[<-ay];generalize M4 pre k U post (k+1) (Aoq k U (g*W))=fin at a|-;have aa:off+k<(M4 pre k U post k x).length:=by rw[ai];omega
  generalize M4 pre k U post k x=ro at e a aa|-;clear ai ad E1 hI l ag;have m:(k:Int)<(k:Int)+1:=om;refine A3 (Y [0,1,13] [d] C1 (Y [13] [d] C1 (Y [6] [d] (by simp[i]<;>rfl) ?_)))
  refine Aj (Ara sy ?_ (λk o hk=>B2 ?_ hk))
  .simp[results237]
  .simp
def Bcm(d v off:Nat)(pre post:List V)(n U W:Nat)(ho:pre.length=off)(hn:n<=1099511627776)(hU:U<4294967296^(n+1))(hW:W<4294967296^n):
  Q0 prog 238 [.ss d v 1 off (n+1),.ro 1 (Az (Cm n W))] [(d,⟨v,1,164,M4 pre n U post 0 0⟩)] (λr q=>r=.tup []/\q=[(d,⟨v,1,164,M4 pre n U post (n+1) ((U+W)%4294967296^(n+1))⟩)]) (λ_=>False):=by
 have ag:=λk(h:k<n)=>Abz (v:=W) h
 have aa:(Az (Cm n W)).length=n:=sm;generalize Az (Cm n W)=wv at ag aa;refine Ed func238 λw0 N0 au=>?_;refine Y [0,1,4] [d] sr (J (Y [0,1,4,8,9,10] [d] C1 (Ad ?_)))
 refine If (λp:Nat×Nat×Nat×Nat=>⟨[(0,.ss d v 1 off (n+1)),(1,.ro 1 wv),(4,.int .u64 p.2.2.1),(8,.ro 1 wv),(9,.i n),(10,.i p.1)],[(d,⟨v,1,164,M4 pre n U post p.1 p.2.1⟩)],p.2.2.2,42⟩)
  (λp=>p.1<=n/\p.2.1<4294967296^p.1/\p.2.2.1<=1/\p.2.1+4294967296^p.1*p.2.2.1=U%4294967296^p.1+W%4294967296^p.1/\au<=p.2.2.2) (λp=>n-p.1) (0,0,0,_) ⟨by simp,by simp,by simp,by simp[Tf],by simp only;omega⟩ Z ?_
 rintro⟨k,x,c,nx⟩⟨hk,hx,hc,hI,a0⟩;simp only at hk hx hc hI a0;refine Y [0,1,4,8,9,10,11] [d] sr (J ?_);have e:=Aro (pre:=pre) (post:=post) (U:=U) (x:=x) hk;have w:=Ahr (pre:=pre) (post:=post) (U:=U) (x:=x) (show k<=n+1 by omega);have j:=λz(hz:z<4294967296)=>Arp (pre:=pre) (post:=post) (U:=U) hk hx hz
 rw[ho]at e j;have ak:U/4294967296^k%4294967296<4294967296:=Dd _ dc
 refine Bk (λh1=>?_) λh1=>?_
 .have ae:k<n:=by simp at h1;omega
  have aq:=ag k ae;have ar:W/4294967296^k%4294967296<4294967296:=Dd _ dc;obtain⟨wk,ah⟩:∃y,y=W/4294967296^k%4294967296:=⟨_,rfl⟩;obtain⟨l,f⟩:∃y,y=U/4294967296^k%4294967296:=⟨_,rfl⟩;rw[<-ah]at aq ar;rw[<-f]at e ak;obtain⟨m1,aw,ab⟩:∃z:Int,IntKind.u64.wrap ((l:Int)+(wk:Int))=z/\z=((l+wk:Nat):Int):=⟨_,rfl,by rw[<-Du];exact wrap_u64 om⟩;obtain⟨p,hp,ad⟩:∃z:Int,IntKind.u64.wrap (m1+(c:Int))=z/\z=((l+wk+c:Nat):Int):=⟨_,rfl,by rw[ab,<-Du];exact wrap_u64 om⟩;obtain⟨c',av,ay⟩:∃z:Nat,p.fdiv (2^min 32 IntKind.u64.bits)=z/\z=(l+wk+c)/4294967296:=⟨_,by rw[ad];exact Abx _,rfl⟩;obtain⟨z,hz,t⟩:∃z:Nat,IntKind.u32.wrap p=z/\z=(l+wk+c)%4294967296:=⟨_,by rw[ad];exact wrap_u32 _,rfl⟩;have a1:c'<=1:=om;have s:z<4294967296:=om;have am:IntKind.u64.wrap (l:Int)=l:=wrap_u64 om;have al:IntKind.u64.wrap (wk:Int)=wk:=wrap_u64 om;have a:=j z s;have af:=A5x hx s;have g:=A5f (x:=x) (v:=W) (u:=U) (P:=4294967296^k) (c:=c) (y:=z) (c':=c') hI (by rw[<-ah,<-f];omega);rw[<-Cd]at g af;obtain⟨x',ao⟩:∃x',x'=x+4294967296^k*z:=⟨_,rfl⟩;rw[<-ao]at a g af;obtain⟨k1,ai⟩:∃k1:Int,IntKind.i64.wrap ((k:Int)+1)=k1:=⟨_,rfl⟩;have ax:k1=((k+1:Nat):Int):=by rw[<-ai,(A4 (k:=k) om)]
  have az:(k:Int)<n:=om;have m:(k:Int)<(n:Int)+1:=om;clear ah f t ay ao ab ad hI j ag;have i:off+k<(M4 pre n U post k x).length:=by rw[w];omega
  generalize M4 pre n U post k x=ro at e a i|-;clear w;refine J (Ad (Y [0,1,4,5,6,8,9,10] [d] C1 (Y [0,1,5,7,8,9,10] [d] C1 (Y [0,1,7,8,9,10] [d] C1 (A6 [0,1,4,8,9,10] [d] C1 (A6 [0,1,4,8,9,10] [d] C1 ?_))))));refine⟨(k+1,x',c',_),⟨by simp only;omega,af,a1,g,?_⟩,by simp only;omega,by simp only[ax];exact Z⟩;simp only;omega
 .have ae:k=n:=by simp at h1;omega
  subst ae;obtain⟨l,f⟩:∃y,y=U/4294967296^k%4294967296:=⟨_,rfl⟩;rw[<-f]at e ak;obtain⟨z,hz,t⟩:∃z:Nat,IntKind.u32.wrap ((l:Int)+(c:Int))=z/\z=(l+c)%4294967296:=⟨_,by rw[<-Du];exact wrap_u32 _,rfl⟩;have s:z<4294967296:=om;have an:IntKind.u32.wrap (c:Int)=c:=by rw[wrap_u32];omega
  have a:=j z s;have E1:=A5z (z:=z) hU hW hx hI (by rw[<-f];exact t);rw[E1]at a;generalize M4 pre k U post (k+1) _ =fin at a|-;have i:off+k<(M4 pre k U post k x).length:=by rw[w];omega
  generalize M4 pre k U post k x=ro at e a i|-;clear w j E1 hI f t;have m:(k:Int)<(k:Int)+1:=om;refine A3 (A6 [] [d] C1 ?_);exact⟨by simp only;omega,.tup [],[(d,⟨v,1,164,fin⟩)],by simp[results238],λk o hk=>B2 gt hk,rfl,rfl⟩
def Bhv(n A s:Nat)(d:n<=1099511627776)(hs:s<32)(c:A<4294967296^n):AE 235 [.ro 1 (Az (Cm n A)),.i s] (.ro 1 (Az (Cm (n+1) (A*2^s)))):=by
 refine(Ayi n A s d hs c).ac (λF es⟨hF,he⟩=>⟨_,?_,rfl⟩);subst hF he;have hp:=Af (Cm (n+1) (A*2^s));have a:(Az (Cm (n+1) (A*2^s))).length=n+1:=sm;generalize Az (Cm (n+1) (A*2^s))=r at hp a|-;simp[AS.viewT,AS.view,AS.elems,AS.viewC,hp,a,Eng.get]
def Avx(m n A W:Nat)(hn:2<=n)(hm:m<=1099511627776)(cu:n<=m)(hA:A<4294967296^m)(ag:4294967296^(n-1)<=W)(hW:W<4294967296^n):
  AE 180 [.ro 1 (Az (Cm m A)),.ro 1 (Az (Cm n W))] (.tup [.ro 1 (Az (B0 (A/W))),.ro 1 (Az (B0 (A%W)))]):=by
 obtain⟨k,rfl⟩:∃k,n=k+1:=⟨n-1,by omega⟩;rw[Nt]at ag;have aj:(Az (Cm m A)).length=m:=sm;have bh:(Az (Cm (k+1) W)).length=k+1:=sm;have af:=Abz (k:=k+1) (v:=W) (i:=k) om;have a7:=Oo k
 have a4:W/4294967296^k<4294967296:=by
  rw[C2 a7,Bf,<-Cd];exact hW
 rw[Bl a4]at af;have ay:W/4294967296^k≠0:=by have:=Nat.div_pos ag a7;omega
 obtain⟨t,ht⟩:∃t,t=W/4294967296^k:=⟨_,rfl⟩;rw[<-ht]at af a4 ay;have c:=A1r t a4;have b9:=Ud ay;have b2:=Ama t;obtain⟨s,hs⟩:∃s,s=32-bitLen t:=⟨_,rfl⟩
 have cv:1<=bitLen t/\bitLen t<=32:=by
  constructor
  .rw[bitLen,I ay];omega
  .rcases Cz 32 (bitLen t)with h|h
   .have:2^32<=2^(bitLen t-1):=Dv dc om;omega
   .exact h
 rw[<-hs]at c;have y:s<32:=om
 have be:2147483648<=t*2^s:=by
  have h1:2^(bitLen t-1)*2^s=2147483648:=by rw[<-He,show bitLen t-1+s=31 by omega]
  rw[<-h1];exact By _ b9
 have bt:t*2^s<4294967296:=by
  have h1:2^bitLen t*2^s=4294967296:=by rw[<-He,show bitLen t+s=32 by omega]
  rw[<-h1];exact Hg b2 (F9 dc)
 have⟨aq,a⟩:=A5h (n:=k) ht be bt om;have aa:=Bhv (k+1) W s om y hW;have ai:=Ayi m A s hm y hA;have a2:0<2^s:=F9 dc
 have cx:2^s<=2147483648:=by
  have:2^s<=2^31:=Dv dc om;exact this
 have ao:0<W:=Cp a7 ag;obtain⟨V,hV⟩:∃V,V=W*2^s:=⟨_,rfl⟩;obtain⟨R0,a6⟩:∃R0,R0=A*2^s:=⟨_,rfl⟩;rw[<-hV]at aq a aa;rw[<-a6]at ai;have a8:0<V:=by rw[hV];exact Nat.mul_pos ao a2
 have cf:R0<V*4294967296^(m-k):=by
  have e:4294967296^m=4294967296^k*4294967296^(m-k):=by rw[<-He,show k+(m-k)=m by omega]
  rw[a6,hV];have h1:A*2^s<4294967296^k*4294967296^(m-k)*2^s:=by rw[<-e];exact Hg hA a2
  have h2:4294967296^k*4294967296^(m-k)*2^s<=W*4294967296^(m-k)*2^s:=By _ (By _ ag);rw[Sc W]at h2;exact Cp h1 h2
 have f:(Az (Cm (k+1+1) V)).take (k+1)=Az (Cm (k+1) V):=Aye om;have bj:(Az (Cm (k+1+1) V)).length=k+2:=sm;have aw:=Af (Cm m A);have ar:=Af (Cm (k+1) W);have b3:=Af (Cm (k+1) V);generalize Az (Cm (k+1) W)=bv at bh af aa ar;generalize Az (Cm m A)=av at aj ai aw;generalize ck:Az (Cm (k+1+1) V)=b4 at aa f bj;obtain⟨i1,a1,bs⟩:∃x:Int,IntKind.i64.wrap (((k+1:Nat):Int)-1)=x/\x=(k:Int):=⟨_,rfl,by rw[Bm om oM];omega⟩;obtain⟨N,hN⟩:∃N:Int,N=((k+1:Nat):Int):=⟨_,rfl⟩;rw[<-hN]at a1;have l:((bv.length:Nat):Int)=N:=om;have b1:0<=i1/\i1<N:=om;have n1:i1.toNat=k:=om;have bf:N.toNat=k+1:=om;have ba:0<=N/\N<=((b4.length:Nat):Int):=om;obtain⟨q0,br,cm⟩:∃x:Int,IntKind.i64.wrap ((m:Int)-N)=x/\x=((m-(k+1):Nat):Int):=⟨_,rfl,by rw[Bm om oM];omega⟩;obtain⟨q1,cl,cp⟩:∃x:Int,IntKind.i64.wrap (q0+1)=x/\x=((m-k:Nat):Int):=⟨_,rfl,by rw[Bm om oM];omega⟩;have ci:4*q1<=281474976710656:=om;have bx:q1<=9223372036854775807:=om;have b8:0<=q1:=om;have b7:q1.toNat=m-k:=om;refine Ai func180 λw0 N0=>?_;refine Y [0,1] [] sr (Au 6 (by simp[l,a1,b1,n1,af]<;>rfl) ?_);refine Aw c func234 ?_;refine Ak [0,1,6] [] sr ?_;refine Au 2 sr ?_;refine Aw aa func235 ?_;refine Ak [0,1,6,7] [] (by simp[l,ba,bf,f]<;>rfl) ?_;refine Au 2 sr ?_;refine K5 28 ai func235 rfl kr rfl rfl rfl sr (by simp[AS.views,AS.view,AS.viewC]<;>rfl) sr ?_;refine Ak [0,1,6,7,8] [28] sr ?_;refine Y [0,6,7,8,9] [28] (by simp[l]<;>rfl) (Y [0,6,7,8,9,10] [28,36] (by simp[aj,br,cl,ci,bx,b8]<;>rfl) (J (Y [6,7,8,9,10,11] [28,36] (by simp[aj,br]<;>rfl) ?_)));rw[b7];refine Ad ?_;clear af aa ai c bj f ba a1 bs b1 n1 aw ar aj bh l
 refine Gn (λp:Nat×Nat×Nat×Nat=>[(11,.i ((p.1:Int)-1))]) (λp=>[(28,⟨19,1,164,Az (Cm (m+1) p.2.2.1)⟩),(36,⟨29,1,164,Ab3 (m-k) p.1 p.2.1⟩)]) (λp=>p.2.2.2)
  (λp=>p.1<=m-k/\p.2.2.1<V*4294967296^p.1/\A*2^s=p.2.1*4294967296^p.1*V+p.2.2.1) (λp=>p.1) (m-k,0,R0,_) ⟨A2 _,cf,by simp only[My,Dn];exact a6.symm⟩ (by
   have e:q0=((m-k:Nat):Int)-1:=om;simp only[<-e,A51];exact Z) ?_
 rintro⟨i,Q,R,nx⟩⟨hi,hR,hI⟩;simp only at hi hR hI;refine J ?_;cases i with
 |zero=>
  rw[Vl,Gs]at hR hI;rw[hV]at hI hR;have⟨E1,E2⟩:=Bb4 a2 ao hI hR;have hq:=Ir (Cm (m-k) Q) (Pr _ _)
  have bw:Q<4294967296^(m-k):=by
   rw[E1,C2 ao];have e:4294967296^m=4294967296^(m-k)*4294967296^k:=by rw[<-He,show m-k+k=m by omega]
   rw[e]at hA;exact Cp hA (Em _ ag)
  rw[show Bd (Cm (m-k) Q)=A/W by rw[T8,Bl bw,E1]]at hq;have ah:R<4294967296^(k+1):=by rw[<-hV]at hR;exact Rc hR a
  have b6:=Bhs (k+1) R s om y ah;have bd:=Ir (Cm (k+1) (R/2^s)) (Pr _ _);rw[show Bd (Cm (k+1) (R/2^s))=A%W by rw[T8,Bl (Fe (G7 _ _) ah),E2]]at bd;have bc:=Aye (m:=m) (n:=k+1) (R:=R) om;have ae:(Az (Cm (m+1) R)).length=m+1:=sm;have bo:=Af (Cm (m+1) R);have a3:=Af (Cm (m-k) Q);have an:(Az (Cm (m-k) Q)).length=m-k:=sm;have cd:=Af (Cm (k+1) R);have ca:=Af (Cm (k+1) (R/2^s));have b5:0<=N/\N<=(m:Int)+1:=om;simp only[A1n];refine Y [6,7,8,9,10,11,42] [28,36] sr ?_;refine Nf ?_;refine A3 ?_;generalize Az (Cm (m-k) Q)=qv at hq a3 an|-
  have bp:(Az (Cm (m+1) R)).map (Go.Eng.V.frz 36 29 1 qv)=Az (Cm (m+1) R):=by
   simp only[Az,K9];rfl
  generalize Az (Cm (m+1) R)=rv at ae bo bc bp|-;refine Bq 36 [6,8,9,10] [28] (by simp[a3,an,Eng.get]<;>rfl) ?_;rw[bp];refine Bq 28 [6,8,9,10] [] (by simp[bo,ae,Eng.get]<;>rfl) (J (H6 [0,10] sr ?_));refine B8 1 sr ?_;refine B1 (λhg=>hq) func69 ?_;refine B8 4 (by simp[b5,bf,ae,bc]<;>rfl) ?_;refine B1 (λhg=>b6) func239 ?_;refine B1 (λhg=>bd) func69 ?_;refine C5 [4,5] [] sr ?_;exact Bv sr rfl
 |succ j=>
  have hP:=Oo j;rw[Cd]at hR hI;obtain⟨u,hu⟩:∃u,u=R/4294967296^j:=⟨_,rfl⟩;obtain⟨q,hq⟩:∃q,q=u/V:=⟨_,rfl⟩;have⟨D1,D2,D3,D4,D5⟩:=A5i hP a8 hR hu hq;obtain⟨w,hw⟩:∃w,w=u-q*V:=⟨_,rfl⟩;rw[<-hw]at D4 D5;obtain⟨R',bu⟩:∃R',R'=w*4294967296^j+R%4294967296^j:=⟨_,rfl⟩;rw[<-bu]at D4 D5;have cb:=Bca hI D4
  have a0:u<4294967296^(k+1+1):=by
   have:V*4294967296<=4294967296^(k+1)*4294967296:=By _ (Ig a);rw[<-Cd]at this;exact Cp D1 this
  have bl:j+(k+1)<=m:=om;have z:=Bhq (m:=m) (n:=k+1) (j:=j) (R:=R) bl
  have ah:R<4294967296^(j+(k+1+1)):=by
   have h1:V*(4294967296^j*4294967296)<=4294967296^(k+1)*(4294967296^j*4294967296):=By _ (Ig a);have h2:4294967296^(k+1)*(4294967296^j*4294967296)=4294967296^(j+(k+1+1)):=by rw[<-Cd,<-He];congr 1;omega
   rw[h2]at h1;exact Cp hR h1
  have cg:w<4294967296^(k+1+1):=Fe (by rw[hw];exact Aa2 _ _) a0;have g:=λU=>Bb7 (m:=m) (n:=k+1) (j:=j) (R:=R) (U:=U) bl cg ah
  rw[<-bu]at g;rw[<-hu]at z;obtain⟨d,hd⟩:∃d,d=Bht (k+1) u V:=⟨_,rfl⟩;have al:=Bhu (k+1) u V hn om aq a a0;rw[<-hd]at al;have⟨F1,F2⟩:=Avk (n:=k+1) hn aq a D1 d hd;have ax:(Az (Cm j R)).length=j:=sm;have ad:=A1m (pre:=Az (Cm j R)) (post:=Ab2 m (k+1) j R) (n:=k+1) (U:=u);have ae:=Ahr (pre:=Az (Cm j R)) (post:=Ab2 m (k+1) j R) (n:=k+1) (U:=u) (x:=0) (show 0<=k+1+1 by omega);have am:(Az (Cm (m+1) R)).length=m+1:=sm;rw[z]at am;rw[ax]at ad ae;have bn:=Bcl 28 19 j (Az (Cm j R)) (Ab2 m (k+1) j R) (k+1) u V d ax om a0 a F1;have bm:=λU hU=>Bcm 28 19 j (Az (Cm j R)) (Ab2 m (k+1) j R) (k+1) U V ax om hU a
  have ak:=λU x=>Avp (pre:=Az (Cm j R)) (post:=Ab2 m (k+1) j R) (n:=k+1) (U:=U) (w:=x)
  have bz:=Af (Cm (k+1+1) u);simp only[];rw[z];have e1:((j+1:Nat):Int)-1=(j:Int):=om;rw[e1];obtain⟨j1,au,cn⟩:∃x:Int,IntKind.i64.wrap ((j:Int)+N)=x/\x=((j+(k+1):Nat):Int):=⟨_,rfl,by rw[Bm om oM];omega⟩;obtain⟨j2,az,cr⟩:∃x:Int,IntKind.i64.wrap (j1+1)=x/\x=((j+(k+1)+1:Nat):Int):=⟨_,rfl,by rw[Bm om oM];omega⟩;have c1:(j:Int)<=j2/\j2<=(m:Int)+1:=om;have c2:j2.toNat-j=k+1+1:=om;have c3:j+(k+1+1)<=m+1:=om;refine Y [6,7,8,9,10,11,42] [28,36] sr ?_;refine Aff ?_;refine J (Ad (Au 8 (by simp[au,az,c1,c2]<;>rfl) ?_));refine Aab al func236 rfl kr rfl rfl rfl sr (by simp[AS.views,AS.view,AS.elems,Eng.get,am,c3,ad,bz]) rfl sr ?_;refine Ak [6,7,8,9,10,11,12] [28,36] sr ?_;have cj:∀x:Nat,x<4294967296->IntKind.u32.wrap (x:Int)=x:=λx h=>by rw[wrap_u32];omega
  have bg:=cj q D2;have cz:V=V:=rfl
  refine Ye (λp:Nat=>⟨[(6,.i s),(7,.ro 1 (Az (Cm (k+1) V))),(8,.sl 28 19 1 (m+1)),(9,.i N),(10,.sl 36 29 1 (m-k)),(11,.i j),(12,.int .u64 q)],[(28,⟨19,1,164,Az (Cm (m+1) R')⟩),(36,⟨29,1,164,Ab3 (m-k) (j+1) Q⟩)],p,88⟩) (λp=>True) ?_ ?_
  .refine Au 9 (by simp[au,az,c1,c2]<;>rfl) ?_;refine Dx bn func237 rfl kr rfl rfl rfl sr (λk o hk=>B2 gt hk) ?_ λch a5=>a5.elim;rintro r bk ct⟨rfl,rfl⟩cq;refine⟨λk hk=>J4 hk,_,by simp<;>rfl,?_⟩;refine Ak [6,7,8,9,10,11,12,63] [28,36] sr ?_
   rcases F2 with F2|F2
   .have⟨G1,G2⟩:=Bb8 (n:=k+1) (w:=w) a8 F2 (by rw[hw,hq]);rw[G2,g];refine Ce ?_;have a9:d=q:=by rw[F2,hq]
    rw[a9];exact⟨_,trivial,Kp [6,7,8,9,10,11,12] [28,36] rfl rfl rfl (A2 _)⟩
   .have⟨G1,G2,G3,G4⟩:=Bb9 (n:=k+1) (w:=w) a8 a F2 (by rw[hw,hq]);have ab:=bm _ G2;rw[G3,g]at ab;rw[ak];have a9:d=q+1:=by rw[F2,hq]
    have wd:IntKind.u64.wrap ((d:Int)-1)=(q:Int):=by rw[show(d:Int)-1=(q:Int)by omega];exact wrap_u64 om
    refine Ek ?_;refine Y [6,7,8,9,10,11,12] [28,36] (by simp[wd]<;>rfl) (Ik 8 (by simp[au,az,c1,c2]<;>rfl) ?_);refine Dx ab func238 rfl kr rfl rfl rfl sr (λk o hk=>B2 gt hk) ?_ λch a5=>a5.elim;rintro r bk cy⟨rfl,rfl⟩co;refine⟨λk hk=>J4 hk,_,by simp<;>rfl,?_⟩;refine Ak [6,7,8,9,10,11,12] [28,36] sr ?_;exact⟨_,trivial,Z⟩
  rintro cw -;have bi:A*2^s=(Q*4294967296+q)*4294967296^j*V+R':=cb;obtain⟨Q',ce⟩:∃Q',Q'=Q*4294967296+q:=⟨_,rfl⟩;have bq:=A53 (M:=m-k) (i:=j) (Q:=Q) hi D2;have b0:=A52 (M:=m-k) (i:=j) (Q:=Q);have cc:=A50 (M:=m-k) (i:=j+1) (Q:=Q) hi;rw[<-ce]at bq bi;have Ec:IntKind.i64.wrap ((j:Int)-1)=(j:Int)-1:=Bm om om;have c0:(j:Int)<((m-k:Nat):Int):=om;have bb:j<m-k:=om;refine A6 [6,7,8,9,10,11] [28,36] (by simp[bb,b0,bg,bq]<;>rfl) (Cs [] (by simp[Ec]<;>rfl) ?_);exact⟨(j,Q',R',_),⟨by simp only;omega,by rw[Bf V]at*;simpa[Bf]using D5,bi⟩,by simp,Z⟩
variable {b:Nat}
def Wt(n:Nat):V:=.ro 1 (Az (B0 n))
def Aou(a b:Nat):V:=if b=0 then .tup [.ro 1 [],.ro 1 [],.bool false]else .tup [Wt (a/b),Wt (a%b),.bool true]
def A6f(h:(B0 b).length=1):B0 b=[b]/\b<4294967296/\b≠0:=by
 have h1:=K7 b;have h2:=Yh 0 b h;rw[h]at h1;simp only[Nat.pow_one,Vl]at h1 h2;have a:b≠0:=om;refine⟨?_,h1,a⟩;rw[L4 a,Bl h1,Gh h1,Ep]
def Ue(i l2:List Nat)(h1:Ei i)(h2:Ei l2)(af:i.length<=1099511627776):AE 120 [.ro 1 (Az i),.ro 1 (Az l2)] (Aou (Bd i) (Bd l2)):=by
 refine AC.relaxP ?_;have ad:=Ir i h1;have x:=Ir l2 h2;have g:=Ae (Q3 i h1) af;have y:=Af i;have s:=Af l2;obtain⟨a,ha⟩:∃a,a=Bd i:=⟨_,rfl⟩;obtain⟨b,hb⟩:∃b,b=Bd l2:=⟨_,rfl⟩;rw[<-ha]at ad g|-;rw[<-hb]at x|-;clear ha hb;have k:=Ad4 _ _ (Ct a) (Ct b);rw[C6,C6]at k;have n:=Ab5 (B0 a) (Ct a) g;rw[C6]at n;have f:=Af (B0 a);have l:=Af (B0 b);have m:(Az (B0 b)).length=(B0 b).length:=sm;refine Ai func120 λw0 N0=>?_;refine Y [0,1] [] sr (Au 1 sr ?_);refine Aw ad func69 ?_;refine C3 1 sr (Aw x func69 ?_);obtain⟨bv,c⟩:∃bv,bv=Az (B0 b):=⟨_,rfl⟩;obtain⟨av,e⟩:∃av,av=Az (B0 a):=⟨_,rfl⟩;rw[<-e,<-c]at k;rw[<-e]at n f;rw[<-c]at l m;rw[<-e,<-c];refine Ak [0,1] [] sr (J (A5 [17] (by simp[m]<;>rfl) ?_))
 refine A1 (λh3=>?_) λh3=>?_
 .have j:b=0:=by
   have:(B0 b).length=0:=by simp at h3;simp[h3]
   exact Wm.1 (Ag.1 this)
  refine Y [4,5,6] [] sr ?_;refine Aj (Aa sr ?_);rw[Aou,Ab j];exact Bh.tup (.cons (nils_ro 1) (.cons (nils_ro 1) (.cons (Bh.refl _) .nil)))
 have u:(B0 b).length≠0:=by intro h;rw[Ag]at h;simp[h]at h3
 have j:b≠0:=by rintro rfl;rw[Ep]at u;simp at u
 have ab:Aou a b=.tup [Wt (a/b),Wt (a%b),.bool true]:=by rw[Aou,I j]
 rw[ab];refine J (Au 2 sr ?_);refine Ge [0,1,21] [] k func36 ?_
 refine A1 (λh4=>?_) λh4=>?_
 .have z:a<b:=by simpa[Ab6]using h4
  refine Au 1 sr ?_;refine Ge [4,5,6] [] n func178 ?_;refine Aj (Aa sr ?_);rw[Gh z,Bl z,Wt,Wt,Ep,<-e];exact Bh.tup (.cons (nils_ro 1) (.cons (Bh.refl _) (.cons (Bh.refl _) .nil)))
 have ai:b<=a:=by simpa[Ab6]using h4
 refine J (Y [0,1,26] [] (by simp[m]<;>rfl) ?_)
 refine A1 (λh5=>?_) λh5=>?_
 .have ae:(B0 b).length=1:=by simp at h5;omega
  have⟨ah,ak,_⟩:=A6f ae;have d:=Avw (B0 a).length a b (K7 a) om ak g;rw[<-Rh,<-e]at d;rw[ah]at c;have al:Gz bv 0=some (.int .u32 b):=by rw[c];rfl
  have o:bv.length=1:=by rw[c];rfl
  have t:a%b<18446744073709551616:=by have:=Dd a (show 0<b by omega);omega
  have aa:=Ahw (a%b) t;have hw:=wrap_u64 t;show AW _ _ _ _ _ _
  have am:=Af (B0 (a/b));obtain⟨md,ag⟩:∃md:Int,md=((a%b:Nat):Int):=⟨_,rfl⟩;rw[<-ag]at d aa hw;refine Au 4 (by simp[al,o]<;>rfl) ?_;refine Ge [7,8] [] d func179 ?_;refine Au 3 (by simp[hw]<;>rfl) ?_;refine Aw aa func160 ?_;refine Ak [4,5,6] [] sr ?_;refine Aj (Aa sr ?_);exact Bh.refl _
 have aj:2<=(B0 b).length:=by
  have:(B0 b).length≠1:=by intro h;simp[h]at h5
  omega
 have w:=E7 (Fe ai (K7 _));have d:=Avx (B0 a).length (B0 b).length a b aj g w (K7 a) (Yh _ _ om) (K7 b);rw[<-Rh,<-Rh,<-e,<-c]at d;refine Au 2 sr ?_;refine Ge [9,10] [] d func180 ?_;refine Y [4,5,6] [] sr ?_;refine Aj (Aa sr ?_);exact Bh.refl _
def Ad5{a:Nat}(h:a<=b):(B0 a).length<=(B0 b).length:=E7 (Fe h (K7 b))
def A1t(n:Nat):(Wt n).pureV=true:=by simpa[Wt]using Af (B0 n)
def A6g(d l2:List Nat)(h1:Ei d)(h2:Ei l2)(j:d.length<=1099511627776)(g:l2.length<=1099511627776):AE 119 [.ro 1 (Az d),.ro 1 (Az l2)] (Wt (Nat.gcd (Bd d) (Bd l2))):=by
 have t:=Ab5 d h1 j;have k:=Ab5 l2 h2 g;have s:=Ae (Q3 d h1) j;have m:=Ae (Q3 l2 h2) g;have n:=Af d;have h:=Af l2;generalize Bd d=a at t s|-;generalize Bd l2=b at k m|-;refine Ai func119 λw0 N0=>?_;refine Y [0,1] [] sr (Au 1 sr ?_);refine Aw t func178 ?_;refine C3 1 sr (Aw k func178 ?_);refine Ak [0,1] [] sr (J (Ad (If (λp:Nat×Nat×Nat=>⟨[(0,.ro 1 (Az (B0 p.1))),(1,.ro 1 (Az (B0 p.2.1)))],[],p.2.2,25⟩) (λp=>(B0 p.1).length<=1099511627776/\(B0 p.2.1).length<=1099511627776/\Nat.gcd p.1 p.2.1=Nat.gcd a b) (λp=>p.2.1) (a,b,_) ⟨s,m,rfl⟩ Z ?_)));rintro⟨x,y,nx⟩⟨hx,w,u⟩;simp only at hx w u;have c:=Ue (B0 x) (B0 y) (Ct x) (Ct y) hx;rw[C6,C6]at c;have l:=Af (B0 x);have i:=Af (B0 y);have e:(Az (B0 y)).length=(B0 y).length:=sm;show AW _ _ _ _ _ ⟨[(0,.ro 1 (Az (B0 x))),(1,.ro 1 (Az (B0 y)))],[],nx,25⟩
 generalize z:Az (B0 x)=xv at c l|-;generalize aa:Az (B0 y)=yv at c i e|-;refine J (Y [0,1,14] [] C1 ?_)
 refine Bk (λh1=>?_) λh1=>?_
 .have f:y≠0:=by rintro rfl;rw[Ep]at h1;simp at h1
  have o:=Dd x (show 0<y by omega);rw[Aou,I f,Wt,Wt]at c;refine Ad (Au 2 sr ?_);refine Ge [1,6] [] c func120 ?_;refine A6 [0,1] [] sr ?_;refine⟨(y,x%y,_),⟨w,Ae (Ad5 (Ig o)) w,?_⟩,o,by simp only[aa];exact Z⟩;simp only;rw[<-u,Nat.gcd_comm y,<-Nat.gcd_rec,Nat.gcd_comm]
 .have f:y=0:=by
   have:(B0 y).length=0:=by simp at h1;simp[h1]
   exact Wm.1 (Ag.1 this)
  subst f;rw[Nat.gcd_zero_right]at u;refine A3 (Y [4] [] sr ?_);refine Bv sr ?_;rw[<-u,Wt,z]
def Aov(h:(B0 n).length=k+1):bitLen n=32*k+bitLen (n/4294967296^k):=by
 have h1:=Yh k n h;have e:4294967296^k=2^(32*k):=by rw[Nat.pow_mul]
 rw[e]at h1|-;exact Aac h1
def Ayj(l:List Nat)(h:Ei l)(hs:l.length<=1099511627776):AE 250 [.ro 1 (Az l)] (.i (bitLen (Bd l):Nat)):=by
 have j:=Ir l h;have hl:=Ae (Q3 l h) hs;have ad:=Af l;generalize Bd l=n at j hl|-;have a:(Az (B0 n)).length=(B0 n).length:=sm;refine Ai func250 λw0 N0=>?_;refine Y [0] [] sr (Au 1 sr ?_);refine Aw j func69 ?_;obtain⟨w,o⟩:∃w,w=Az (B0 n):=⟨_,rfl⟩;rw[<-o]at a|-;refine Ak [0] [] sr (J (A5 [7] (by simp[a]<;>rfl) ?_))
 refine A1 (λh1=>?_) λh1=>?_
 .have ab:n=0:=by
   have:(B0 n).length=0:=by simp at h1;simp[h1]
   exact Wm.1 (Ag.1 this)
  refine Y [2] [] sr (Aj (Aa sr ?_));rw[ab];rfl
 have ae:(B0 n).length≠0:=by intro h;rw[Ag]at h;simp[h]at h1
 obtain⟨k,y⟩:∃k,(B0 n).length=k+1:=⟨(B0 n).length-1,by omega⟩;have c:=Aov y;have d:=K7 n;rw[y]at d a hl
 have e:n/4294967296^k<4294967296:=by
  rw[C2 (Oo k),Bf,<-Cd];exact d
 have x:=Abz (k:=k+1) (v:=n) (i:=k) om;rw[Bl e,<-y,<-Rh,<-o]at x;obtain⟨t,j⟩:∃t,t=n/4294967296^k:=⟨_,rfl⟩;rw[<-j]at e x c;have s:=Arr t e
 have g:bitLen t<=32:=by
  rcases Cz 32 (bitLen t)with h|h
  .have h0:t≠0:=by rintro rfl;revert h;decide
   have:=Ud h0;have:2^32<=2^(bitLen t-1):=Dv dc om;omega
  .exact h
 clear d j;generalize bitLen t=z at s c g;rw[c];have w1:IntKind.i64.wrap ((w.length:Int)-1)=(k:Int):=by rw[Bm om oM];omega
 obtain⟨m,hm,af⟩:∃m:Int,IntKind.i64.wrap (32*(k:Int))=m/\m=((32*k:Nat):Int):=⟨_,rfl,by rw[Bm om oM];omega⟩;have w3:IntKind.i64.wrap (m+(z:Int))=((32*k+z:Nat):Int):=by rw[Bm om oM];omega
 have aa:k<w.length:=om;obtain⟨fin,u⟩:∃f:Int,f=((32*k+z:Nat):Int):=⟨_,rfl⟩;rw[<-u]at w3|-;refine Au 10 (by simp[w1,hm,aa,x]<;>rfl) ?_;refine Aw s func232 ?_;refine Ak [2] [] (by simp[w3]<;>rfl) ?_;exact Aj (Aa sr rfl)
def Bg0(x:Nat)(hx:x<4294967296):bits .or .u64 0 (IntKind.u64.wrap ((x:Int)*2^min (0:Int).toNat IntKind.u64.bits))=(x:Int):=by
 have e:IntKind.u64.wrap ((x:Int)*2^min (0:Int).toNat IntKind.u64.bits)=(x:Int):=by
  show IntKind.u64.wrap ((x:Int)*1)=_
  rw[IntKind.wrap_u64];omega
 rw[e,show(0:Int)=((0:Nat):Int)from rfl,Yi 0 x ⟨by omega,by omega⟩];simp
def Bk0(x y:Nat)(hx:x<4294967296)(hy:y<4294967296):bits .or .u64 (x:Int) (IntKind.u64.wrap ((y:Int)*2^min (32:Int).toNat IntKind.u64.bits))=((x+y*4294967296:Nat):Int):=by
 have e:IntKind.u64.wrap ((y:Int)*2^min (32:Int).toNat IntKind.u64.bits)=((y*4294967296:Nat):Int):=by
  show IntKind.u64.wrap ((y:Int)*4294967296)=_
  rw[IntKind.wrap_u64];omega
 rw[e,Yi x (y*4294967296) ⟨by omega,by omega⟩,Xz,Bf];have:=Hh (i:=32) (b:=x) om y;simp only[show(2:Nat)^32=4294967296 from rfl]at this;rw[<-this]
 congr 1
 omega
def hw0:IntKind.i64.wrap 0=0:=rfl
def Ec:IntKind.i64.wrap 1=1:=rfl
def Sk:IntKind.i64.wrap 2=2:=rfl
def Bcn(l:List Nat)(h:Ei l)(n:Nat)(ab:Bd l=n):AC prog 307 [.ro 1 (Az l)] (λr=>r=.tup (if n<18446744073709551616 then [.int .u64 n,.bool true]else [.int .u64 0,.bool false])):=by
 have ht:=Ir l h;rw[ab]at ht;have z:=Af l;have hp:=Af (B0 n);have hl:(Az (B0 n)).length=(B0 n).length:=sm
 have a:(n<18446744073709551616/\(B0 n=[]/\n=0\/(∃x,B0 n=[x]/\n=x/\x<4294967296)\/∃x y,B0 n=[x,y]/\n=x+y*4294967296/\x<4294967296/\y<4294967296))\/(¬n<18446744073709551616/\2<(B0 n).length):=by
  by_cases h0:n=0
  .subst h0;exact .inl ⟨by omega,.inl ⟨Ep,rfl⟩⟩
  rw[L4 h0]
  by_cases h1:n/4294967296=0
  .rw[h1,Ep];exact .inl ⟨by omega,.inr (.inl ⟨_,rfl,by omega,by omega⟩)⟩
  rw[L4 h1]
  by_cases h2:n/4294967296/4294967296=0
  .rw[h2,Ep];exact .inl ⟨by omega,.inr (.inr ⟨_,_,rfl,by omega,by omega,by omega⟩)⟩
  rw[L4 h2];exact .inr ⟨by omega,by simp⟩
 refine Ai func307 λw0 N0=>?_;refine Y [0] [] sr (Au 1 sr ?_);refine Ge [0] [] ht func69 ?_;refine J (Y [0,11] [] sr ?_)
 refine A1 (λh1=>?_) λh1=>?_
 .refine Y [2,3] [] sr (Aj (Aa sr ?_))
  have:¬n<18446744073709551616:=by
   rcases a with⟨_,h|⟨x,h,_⟩|⟨x,y,h,_⟩⟩|⟨h,_⟩
   .simp[h.1]at h1
   .simp[h]at h1
   .simp[h]at h1
   .exact h
  rw[I this]
 have ae:(B0 n).length<=2:=sO h1
 have aa:n<18446744073709551616:=by
  rcases a with⟨h,_⟩|⟨_,h⟩
  .exact h
  .omega
 rw[Ab aa];refine Y [0,4] [] sr (J (Y [4,12,13,14] [] sr (Ad ?_)));simp only[Db]at*;refine H5 (λk=>[(4,.int .u64 (Bd ((B0 n).take k))),(14,.i k)]) (λ_=>[]) (λk=>k<=(B0 n).length) (B0 n).length (B5 _) Z ?_;intro k nx hk hI;refine Y [4,12,13,14,15] [] sr (J ?_)
 refine Bk (λh2=>?_) λh2=>?_
 .have d:k<(B0 n).length:=by simp at h2;omega
  have af:=A4 (k:=k) om;refine J (Ad ?_)
  rcases a with⟨_,h|⟨x,h,e,t⟩|⟨x,y,h,e,t,hy⟩⟩|⟨h,_⟩
  .rw[h.1]at d;simp at d
  .have o:k=0:=by rw[h]at d;simp at d;exact d
   subst o;obtain⟨c,m,i⟩:∃c:Int,IntKind.i64.wrap 0=c/\c=0:=⟨_,rfl,rfl⟩;have j:¬c<0:=om;have f:bits .or .u64 0 (IntKind.u64.wrap ((x:Int)*2^min c.toNat IntKind.u64.bits))=x:=by rw[i];exact Bg0 x t
   have g:IntKind.u64.wrap (x:Int)=x:=wrap_u64 om;rw[h];refine Y [4,5,6,12,13,14] [] C1 (A6 [4,12,13,14] [] (by simp[Bd,m,j,g,f]<;>rfl) (A6 [4,12,13,14] [] C1 ?_));exact⟨by simp,by simp,_,by simp[Bd,Aby];exact Z⟩
  .have g:IntKind.u64.wrap (x:Int)=x:=wrap_u64 om;have s:IntKind.u64.wrap (y:Int)=y:=wrap_u64 om;rw[h]
   by_cases o:k=0
   .subst o;obtain⟨c,m,i⟩:∃c:Int,IntKind.i64.wrap 0=c/\c=0:=⟨_,rfl,rfl⟩;have j:¬c<0:=om;have f:bits .or .u64 0 (IntKind.u64.wrap ((x:Int)*2^min c.toNat IntKind.u64.bits))=x:=by rw[i];exact Bg0 x t
    refine Y [4,5,6,12,13,14] [] C1 (A6 [4,12,13,14] [] (by simp[Bd,m,j,g,f]<;>rfl) (A6 [4,12,13,14] [] (by simp[Ec]<;>rfl) ?_));exact⟨by simp,by simp,_,by simp[Bd,Aby];exact Z⟩
   .have u:k=1:=by rw[h]at d;simp at d;omega
    subst u;obtain⟨c,m,i⟩:∃c:Int,IntKind.i64.wrap 32=c/\c=32:=⟨_,rfl,rfl⟩;have j:¬c<0:=om;obtain⟨w,f,ho⟩:∃w:Int,bits .or .u64 (x:Int) (IntKind.u64.wrap ((y:Int)*2^min c.toNat IntKind.u64.bits))=w/\w=((x+y*4294967296:Nat):Int):=⟨_,rfl,by rw[i];exact Bk0 x y t hy⟩;refine Y [4,5,6,12,13,14] [] (by simp[Gz,Aby]<;>rfl) (A6 [4,12,13,14] [] (by simp[Bd,m,j,s,f]<;>rfl) (A6 [4,12,13,14] [] (by simp[Sk]<;>rfl) ?_));exact⟨by simp,by simp,_,by simp[Bd,Aby,ho,Int.mul_comm (y:Int)];exact Z⟩
  .omega
 .refine A3 ?_;refine Y [2,3] [] sr ?_;refine Aj (Aa sr ?_);have ad:k=(B0 n).length:=sO h2
  rw[ad,Bb,C6]
def Af9(b:Bool)(l:List Nat)(h:Ei l)(hs:l.length<=1099511627776):AE 215 [.bool b,.ro 1 (Az l)] ((nI (sgn b (Bd l))).v):=by
 have c:=Ab5 l h hs;have hp:=Af l;rw[Bhr];generalize Bd l=n at c|-;have a:(Az (B0 n)).length=(B0 n).length:=sm
 have f:decide (n=0)=decide ((B0 n).length=0):=by
  rw[decide_eq_decide,<-Wm,Ag]
 rw[f];obtain⟨e,d⟩:∃e,e=Az (B0 n):=⟨_,rfl⟩;rw[<-d]at c a|-;generalize(B0 n).length=k at a|-
 have g:(!decide (k=0))=decide ((0:Int)<(k:Int)):=by
  rw[Nl];simp;omega
 rw[g];generalize Az l=lv at c hp|-;refine Ai func215 λw0 N0=>?_;refine Y [0,1,4] [4] sr (Au 1 sr ?_);refine Ge [0,1,4] [4] c func178 ?_
 cases b
 .refine Y [4] [4] (by simp[a]<;>rfl) (Bv sr ?_);simp
 .refine Y [4] [4] (by simp[a]<;>rfl) (Bv sr ?_);simp
def Kr(b:Bool)(n:Nat)(hs:(B0 n).length<=1099511627776):AE 215 [.bool b,.ro 1 (Az (B0 n))] ((nI (sgn b n)).v):=by
 have:=Af9 b (B0 n) (Ct n) hs
 rwa[C6]at this
def El(z:Int):∃c a,(nI z).v=.agg [.bool c,.ro 1 a]/\a.all V.pureE=true:=⟨_,_,rfl,Af _⟩
def Avy(z:Int)(h1: -9223372036854775808<=z)(h2:z<9223372036854775808):AC prog 162 [.i z] (λr=>r=(nI z).v):=by
 have i:(B0 z.natAbs).length<=1099511627776:=Ae (E7 (m:=3) om) dc;have a:=Ahw z.natAbs om;have e:=Af (B0 z.natAbs);have f:=λb=>Kr b z.natAbs i
 by_cases hz:z<0
 .have d:=f true;rw[show sgn true z.natAbs=z by simp only[sgn,if_true];omega]at d;have⟨c,k,h,g⟩:=El z;rw[h]at d|-;obtain⟨w,j⟩:∃w:Int,IntKind.u64.wrap z=w:=⟨_,rfl⟩;have Sk:IntKind.u64.wrap (-w)=((z.natAbs:Nat):Int):=by rw[<-j,Mi,Mi];omega
  generalize Az (B0 z.natAbs)=l at a d e;generalize((z.natAbs:Nat):Int)=q at a Sk;refine Ai func162 λw0 N0=>?_;refine Y [0,2] [2] sr (J (Y [0,2,4] [2] sr ?_));refine Ek ?_;refine Au 3 C1 ?_;refine Aw a func160 ?_;refine Ge [2] [2] d func215 ?_;exact Aj (Aa sr rfl)
 .have d:=f false;rw[show sgn false z.natAbs=z by simp only[sgn];rw[I dC];omega]at d;have⟨c,k,h,g⟩:=El z;rw[h]at d|-;have Sk:IntKind.u64.wrap z=((z.natAbs:Nat):Int):=by rw[Mi];omega
  generalize Az (B0 z.natAbs)=l at a d e;generalize((z.natAbs:Nat):Int)=q at a Sk;refine Ai func162 λw0 N0=>?_;refine Y [0,2] [2] sr (J (Y [0,2,4] [2] sr ?_));refine Ce (J (Cb (C3 2 C1 ?_)));refine Aw a func160 ?_;refine Ge [2] [2] d func215 ?_;exact Aj (Aa sr rfl)
def Art(a b:Nat): -1<=Rv a b/\Rv a b<=1:=by unfold Rv;split<;>(try split)<;>omega
def Ab7(a:RI)(h:Ei a.mag):AC prog 102 [a.v] (λr=>r=.i (G8 a.val)):=by
 have⟨b,l⟩:=a;have d:=(Ad4 l [] h (by simp[Ei])).argsR (args:=[.ro 1 (Az l),.nils]) (.cons (Bh.refl _) (.cons (nils_ro 1) .nil));have hp:=Af l;rw[RI.v,RI.val,A54];simp only[Bd]at d|-;have⟨g,e⟩:=Art (Bd l) 0;generalize Rv (Bd l) 0=c at d g e|-;generalize Az l=lv at d hp|-;have f:IntKind.i64.wrap (-c)= -c:=Bm om om;refine Ai func102 λw0 N0=>?_;refine Y [1] [1] sr (Au 2 sr ?_);refine Ge [1,3] [1] d func36 ?_;refine J (Y [3,8] [] sr ?_)
 refine A1 (λh1=>?_) λh1=>?_
 .refine Y [2] [] C1 (Aj (Aa sr ?_));simp[h1]
 .refine Y [2] [] sr (Aj (Aa sr ?_));simp[h1]
def A1u(z:Int): -1<=G8 z/\G8 z<=1:=by unfold G8;split<;>(try split)<;>omega
def Bco(a b:RI)(h1:Ei a.mag)(h2:Ei b.mag):AC prog 163 [a.v,b.v] (λr=>r=.i (cmpI a.val b.val)):=by
 have j:=Ab7 a h1;have n:=Ab7 b h2;have k:=Ad4 _ _ h1 h2;have⟨p,l⟩:=a;have⟨q,m⟩:=b;simp only at h1 h2 k;have i:=Af l;have g:=Af m;have d:=Bcc p q (Bd l) (Bd m);rw[RI.v,RI.val]at j n;rw[RI.v,RI.v,RI.val,RI.val];simp only at j n|-
 have f:G8 (sgn p (Bd l))<G8 (sgn q (Bd m))->cmpI (sgn p (Bd l)) (sgn q (Bd m))= -1:=by
  unfold G8 cmpI;intro h;(repeat' split at h)<;>(repeat' split)<;>omega
 have e:G8 (sgn q (Bd m))<G8 (sgn p (Bd l))->cmpI (sgn p (Bd l)) (sgn q (Bd m))=1:=by
  unfold G8 cmpI;intro h;(repeat' split at h)<;>(repeat' split)<;>omega
 have⟨u,s⟩:=A1u (sgn p (Bd l));have⟨t,z⟩:=Art (Bd l) (Bd m);generalize G8 (sgn p (Bd l))=x at j d f e u s;generalize G8 (sgn q (Bd m))=y at n d f e;generalize cmpI (sgn p (Bd l)) (sgn q (Bd m))=w at d f e|-;generalize Rv (Bd l) (Bd m)=c at k d t z;generalize Az l=lv at j k i|-;generalize Az m=mv at n k g|-
 have hw:IntKind.i64.wrap (x*c)=x*c:=by
  have:x= -1\/x=0\/x=1:=om;rcases this with rfl|rfl|rfl<;>exact Bm om om
 refine Ai func163 λw0 N0=>?_;refine Y [2,3] [2,3] sr (J (H6 [0,6] sr ?_));refine B8 1 sr (D7 (λo=>j) func102 rfl kr rfl rfl sr rfl rfl sr sM sr ?_);refine B8 1 sr (D7 (λo=>n) func102 rfl kr rfl rfl sr rfl rfl sr sM sr ?_);refine C5 [2,3,5,6] [2,3] sr ?_;refine J (Y [2,3,5,6,13] [2,3] sr ?_)
 refine A1 (λh1=>?_) λh1=>?_
 .refine Y [4] [] sr ?_;refine Aj (Aa sr ?_);rw[f (sG h1)]
 refine J (Y [2,3,5,16] [2,3] sr ?_)
 refine A1 (λh2=>?_) λh2=>?_
 .refine Y [4] [] sr ?_;refine Aj (Aa sr ?_);rw[e (sG h2)]
 refine Au 5 sr ?_;refine Aw k func36 ?_;refine Ak [4] [] C1 ?_;refine Aj (Aa sr ?_);rw[d (sG h1) (sG h2)]
def P9(a b:RI)(h1:a.ok 274877906944)(h2:b.ok 274877906944):AE 164 [a.v,b.v] ((nI (a.val*b.val)).v):=by
 have⟨h1,i⟩:=h1;have⟨h2,j⟩:=h2;have⟨p,l⟩:=a;have⟨q,m⟩:=b;simp only at h1 h2 i j;have g:=Aot l m h1 h2 om om;have k:=Oq (Ae (Lm h1) i) (Ae (Lm h2) j);have h:=Kr (p != q) (Bd l*Bd m) om;have f:=Af l;have d:=Af m;rw[RI.v,RI.v,RI.val,RI.val];simp only;rw[Ayf];have⟨c,lw,s,o⟩:=El (sgn (p != q) (Bd l*Bd m));rw[s]at h|-;have e:=Af (B0 (Bd l*Bd m));generalize Az (B0 (Bd l*Bd m))=nv at g h e;generalize Az l=lv at g f|-;generalize Az m=mv at g d|-;have hb:∀x y:Bool,(x != y)= !(x==y):=λx y=>rfl
 refine Ai func164 λw0 N0=>?_;refine Y [2,3,4] [2,3,4] sr (J (H6 [0,1,2,1,5,1,7,1,1,1,3,2,6,1,8,4] sr ?_));refine B8 9 sr (B1 (λn=>g) func216 ?_);refine D7 (c:=true) (λn=>h) func215 rfl kr rfl rfl sr rfl rfl (by cases p<;>cases q<;>rfl) sM sr (C5 [4] [4] sr ?_);exact Bv sr rfl
def Ab8(a b:RI)(h1:a.ok 274877906944)(h2:b.ok 274877906944):AC prog 270 [a.v,b.v] (λr=>r=(nI (a.val+b.val)).v):=by
 have⟨h1,k1⟩:=h1;have⟨h2,y⟩:=h2;have⟨p,l⟩:=a;have⟨q,m⟩:=b;simp only at h1 h2 k1 y;have s:=Avt l m h1 h2 om om;have d:=Avv l m h1 h2 om om;have f:=Avv m l h2 h1 om om;have l1:=Ae (Lm h1) k1;have l2:=Ae (Lm h2) y;have l3:=Af8 l1 l2;have j:=Af l;have i:=Af m;rw[RI.v,RI.v,RI.val,RI.val];simp only;obtain⟨n,hn⟩:∃n,n=Bd l:=⟨_,rfl⟩;obtain⟨k,g⟩:∃k,k=Bd m:=⟨_,rfl⟩;rw[<-hn]at s d f l1 l3|-;rw[<-g]at s d f l2 l3|-;clear hn g;generalize Az l=lv at s d f j|-;generalize Az m=mv at s d f i|-
 by_cases h:p=q
 .subst h;rw[Bcd];have g:=Kr p (n+k) om;have⟨c,x,u,t⟩:=El (sgn p (n+k));rw[u]at g|-;have e:=Af (B0 (n+k));generalize Az (B0 (n+k))=z at s g e;refine Ai func270 λw0 N0=>?_;refine Y [2,3,4] [2,3,4] sr (J (Y [2,3,4,13] [2,3,4] sr ?_));refine Ek ?_;refine J (H6 [0,1,2,1,4,1,1,1,3,1,5,4] sr ?_);refine B8 6 sr (D7 (λhg=>s) func302 rfl kr rfl rfl sr rfl rfl sr sM sr ?_);refine D7 (λhg=>g) func215 rfl kr rfl rfl sr rfl rfl sr sM sr (C5 [4] [4] sr ?_);exact Aj (Aa sr rfl)
 .have hd:=sG h
  have w:=sG h
  refine Ai func270 λw0 N0=>?_;refine Y [2,3,4] [2,3,4] sr (J (Y [2,3,4,13] [2,3,4] C1 ?_));refine Ce (J ?_)
  by_cases o:k<=n
  .rw[Bce h o];rw[Avu,Ab o]at d;have g:=Kr p (n-k) (Ae (Va (Aa2 n k)) om);have⟨c,x,u,t⟩:=El (sgn p (n-k));rw[u]at g|-;have e:=Af (B0 (n-k));generalize Az (B0 (n-k))=z at d g e;refine Au 4 sr ?_;refine Ge [2,3,4,5,6] [2,3,4] d func303 ?_;refine Y [2,3,4,5,30] [2,3,4] sr ?_;refine Ek ?_;refine Au 3 sr ?_;refine Ge [4] [4] g func215 ?_;exact Aj (Aa sr rfl)
  .rw[A55 h oM];rw[Avu,I o]at d;rw[Avu,Ab oM]at f;have g:=Kr q (k-n) (Ae (Va (Aa2 k n)) om);have⟨c,x,u,t⟩:=El (sgn q (k-n));rw[u]at g|-;have e:=Af (B0 (k-n));generalize Az (B0 (k-n))=z at f g e;refine Au 4 sr ?_;refine Ge [2,3,4,5,6] [2,3,4] d func303 ?_;refine Y [2,3,4,5,30] [2,3,4] sr ?_;refine Ce (J (Cb (C3 4 sr ?_)));refine Ge [3,4,7] [3,4] f func303 ?_;refine Au 3 sr ?_;refine Ge [4] [4] g func215 ?_;exact Aj (Aa sr rfl)
def Ayk(a:RI)(h1:a.ok 1099511627776):AE 337 [a.v] ((nI (-a.val)).v):=by
 have⟨h1,f⟩:=h1;have⟨p,l⟩:=a;simp only at h1 f;have e:=Af9 (!p) l h1 f;have d:=Af l;rw[RI.v,RI.val];simp only;rw[Bcf]at e;have⟨c,lw,h,g⟩:=El (-sgn p (Bd l));rw[h]at e|-;generalize Az l=lv at e d|-;refine Ai func337 λw0 N0=>?_;refine Y [1,2] [1,2] sr (Au 5 sr ?_);refine Ge [2] [2] e func215 ?_;exact Bv sr rfl
def Bcp(a b:RI)(h1:a.ok 274877906944)(h2:b.ok 274877906944):AE 327 [a.v,b.v] ((nI (a.val-b.val)).v):=by
 have f:=Ayk b ⟨h2.1,Ae h2.2 dc⟩;have d:=Ab8 a (nI (-b.val)) h1 (Hp (by rw[Pd,O7];exact RI.sz h2));rw[I9,<-Sg]at d;have h:=Af a.mag;have i:=Af b.mag;have⟨c,lw,l,k⟩:=El (a.val-b.val);have⟨c2,m,g,e⟩:=El (-b.val);rw[l]at d|-;rw[g]at f d;rw[RI.v]at d|-;rw[RI.v]at f|-;generalize Az a.mag=av at d h|-;generalize Az b.mag=bv at f i|-;refine Ai func327 λw0 N0=>?_;refine Y [2,3,4] [2,3,4] sr (J (H6 [0,5] sr ?_));refine B8 2 sr (D7 (λj=>f) func337 rfl kr rfl rfl sr rfl rfl sr sM sr ?_);refine D7 (λj=>d) func270 rfl kr rfl rfl sr rfl rfl sr sM sr (C5 [4] [4] sr ?_);exact Bv sr rfl
def RR.vp(a:RR):a.v.pureV=true:=by
 simpa[RR.v]using⟨(Af a.num.mag),(Af a.den)⟩
def L7(q:Rat):∃c a d,(nR q).v=.agg [.bool c,.ro 1 a,.ro 1 d]/\a.all V.pureE=true/\d.all V.pureE=true:=⟨_,_,_,rfl,Af _,Af _⟩
def pV(a:RR):V:=.tup [a.p.num.v,.ro 1 (Az a.p.den)]
def Ng(a:RR)(h:Ei a.den):AC prog 101 [a.v] (λr=>r=pV a):=by
 refine AC.relaxP ?_;have⟨⟨b,l⟩,d⟩:=a;simp only at h;have f:=(Ad4 d [] h (by simp[Ei])).argsR (args:=[.ro 1 (Az d),.nils]) (.cons (Bh.refl _) (.cons (nils_ro 1) .nil));have hp:=Af d;have k:=Af l;have n:=Ahw 1 dc;rw[pV,RR.p,RR.v];simp only[Bd]at f|-;have j:(Rv (Bd d) 0=0)↔Bd d=0:=by unfold Rv;constructor<;>intro h<;>(repeat' split at h)<;>(repeat' split)<;>omega
 generalize Rv (Bd d) 0=c at f j;generalize m:Az d=dv at f hp|-;generalize g:Az l=lv at k|-;refine Ai func101 λw0 N0=>?_;refine Y [1,2] [1,2] sr (J (Au 2 sr ?_));refine Ge [1,2,7] [1,2] f func36 ?_
 refine A1 (λh1=>?_) λh1=>?_
 .have e:=j.1 (sG h1);rw[Ab e];simp only[RI.v];generalize Az (B0 1)=ov at n|-;refine Au 1 sr ?_;refine Aw n func160 ?_;refine Ak [2,3] [2] sr (Aj (Aa sr ?_));exact Bh.tup (.cons (Bh.agg (.cons (Bh.refl _) (.cons (nils_ro 1) .nil))) (.cons (Bh.refl _) .nil))
 .have e:¬Bd d=0:=λh=>by simp[j.2 h]at h1
  rw[I e];simp only[RI.v,m,g];refine J (Af4 (.take 0 [] (.take 2 [] (.take 1 [] (.alt 3 (.take 4 [] (.take 5 [] .done)) (.alt 4 (.take 3 [] (.take 5 [] .done)) .stop))))) Jt kr (U7 (L:=[2,3]) (M:=[2]) sr ?_));intro T o;have i:=(show T=_ by simpa using o);subst i;refine Aj (Aa sr ?_);exact Bh.refl _
def Uf(a:RI)(d:List Nat)(h1:a.ok 1099511627776)(h2:Ei d)(h3:d.length<=1099511627776)(x:Bd d≠0):AE 214 [a.v,.ro 1 (Az d)] ((nR (mkRat a.val (Bd d))).v):=by
 have⟨h1,t⟩:=h1;have⟨b,l⟩:=a;simp only at h1 t;have o:=A6g l d h1 h2 t h3;have e0:(RI.mk b l).val=sgn b (Bd l):=rfl;rw[e0,Bkw b (Bd l) (Bd d) x];have l1:=Ae (Lm h1) t;obtain⟨n,hn⟩:∃n,n=Bd l:=⟨_,rfl⟩;obtain⟨m,w⟩:∃m,m=Bd d:=⟨_,rfl⟩;have f:=Ue l (B0 (n.gcd m)) h1 (Ct _) t;have e:=Ue d (B0 (n.gcd m)) h2 (Ct _) h3;rw[C6,<-hn]at f;rw[C6,<-w]at e;rw[<-hn,<-w]at o|-;rw[<-hn]at l1;rw[<-w]at x
 have z:n.gcd m≠0:=by
  intro h;exact x (Nat.gcd_eq_zero_iff.1 h).2
 rw[Aou,I z]at f e;have u:=Kr b (n/n.gcd m) (Ae (Va (G7 _ _)) l1);have⟨c,lw,hv,aa⟩:=El (sgn b (n/n.gcd m));rw[hv]at u
 have y:(RR.mk (nI (sgn b (n/n.gcd m))) (B0 (m/n.gcd m))).v=.agg [.bool c,.ro 1 lw,.ro 1 (Az (B0 (m/n.gcd m)))]:=by
  have g:=hv;rw[RI.v]at g;injection g with g;simp only[List.cons.injEq,and_true]at g;rw[RR.v];simp only[g.1,g.2]
 rw[y];have k:=Af l;have j:=Af d;have i:=Af (B0 (n.gcd m));have s:=Af (B0 (n/n.gcd m));rw[RI.v];simp only;rw[Wt]at o;rw[Wt,Wt]at f e;generalize Az (B0 (n.gcd m))=gv at o f e i;generalize Az (B0 (n/n.gcd m))=qv at f u s;generalize Az (B0 (m/n.gcd m))=rv at e|-;generalize Az l=lv at o f k|-;generalize Az d=dv at o e j|-;generalize Az (B0 (n%n.gcd m))=x1 at f;generalize Az (B0 (m%n.gcd m))=x2 at e;refine Ai func214 λw0 N0=>?_;refine Y [1,2,4] [2,4] sr (Au 3 sr ?_);refine Ge [1,2,4,5] [2,4] o func119 ?_;refine Au 3 sr ?_;refine Ge [1,2,4,5,6] [2,4] f func120 ?_;refine Au 2 sr ?_;refine Ge [2,4,6,9] [2,4] e func120 ?_;refine Au 3 sr ?_;refine Ge [4] [4] u func215 ?_;exact Bv sr rfl
def Ug(l:List Nat)(h:Ei l)(hs:l.length<=1099511627776):AE 165 [.ro 1 (Az l)] ((nI (Bd l)).v):=by
 have a:=Af9 false l h hs;have hp:=Af l;rw[show sgn false (Bd l)=(Bd l:Int)by simp[sgn]]at a;have⟨c,lw,e,d⟩:=El (Bd l);rw[e]at a|-;generalize Az l=lv at a hp|-;refine Ai func165 λw0 N0=>?_;refine Y [0,2] [2] sr (Au 1 sr ?_);refine Ge [2] [2] a func215 ?_;exact Bv sr rfl
def Ayl(a b:RR)(h1:a.ok 137438953472)(h2:b.ok 137438953472):AE 174 [a.v,b.v] ((nR (a.val*b.val)).v):=by
 have l:=Ng a h1.lim;have k:=Ng b h2.lim;have g:=RR.p_ok h1 dc;have f:=RR.p_ok h2 dc;have z:=RR.p_val a;have e2:=RR.p_val b;have d1:=RR.p_ne a;have d2:=RR.p_ne b;rw[pV]at l k;have u:=RR.vp a;have w:=RR.vp b;have ea:=vRR a;have eb:=vRR b;rw[ea]at l u|-;rw[eb]at k w|-;rw[<-z,<-e2];generalize a.p=a',b.p=b' at*;clear z e2 h1 h2;have⟨x,d⟩:=a';have⟨y,e⟩:=b';simp only at l k d1 d2;have m:=P9 x y ⟨g.num.1,Ae g.num.2 dc⟩ ⟨f.num.1,Ae f.num.2 dc⟩;have m2:=Aot d e g.lim f.lim (Ae g.len dc) (Ae f.len dc)
 have s1:Pd (x.val*y.val)<=274877906944:=by
  rw[Pd,Sh];exact Ae (Oq (RI.sz g.num) (RI.sz f.num)) dc
 have s2:(B0 (Bd d*Bd e)).length<=274877906944:=Ae (Oq (Ae (Lm g.lim) g.len) (Ae (Lm f.lim) f.len)) dc;have h:=Uf (nI (x.val*y.val)) (B0 (Bd d*Bd e)) (Hp (Ae s1 dc)) (Ct _) (Ae s2 dc) (by rw[C6];exact J1 d1 d2);rw[I9,C6,<-Rat.mkRat_mul_mkRat]at h;show AC _ _ _ (λr=>r=(nR (mkRat x.val (Bd d)*mkRat y.val (Bd e))).v)
 generalize mkRat x.val (Bd d)*mkRat y.val (Bd e)=q at h|-;have⟨c,lw,dw,hv,ah,ae⟩:=L7 q;rw[hv]at h|-;have⟨c2,aa,o,j⟩:=El (x.val*y.val);rw[o]at m h;have i:=Af (B0 (Bd d*Bd e));have hx:=Af x.mag;have hy:=Af y.mag;have n:=Af d;have s:=Af e;have ex:x.v=.agg [.bool x.neg,.ro 1 (Az x.mag)]:=rfl;have t:y.v=.agg [.bool y.neg,.ro 1 (Az y.mag)]:=rfl;rw[ex]at l m;rw[t]at k m;clear ea eb ex t;generalize Az (B0 (Bd d*Bd e))=nv at m2 h i;generalize Az x.mag=xv,Az y.mag=yv,Az d=ab,Az e=ag,Az a.num.mag=av,Az b.num.mag=bv,Az a.den=ad,Az b.den=af at*;refine Ai func174 λw0 N0=>?_;refine Y [2,3,4] [2,3,4] sr (Au 1 sr ?_);refine Aw l func101 ?_ (hp:=by simpa using u);refine Ak [3,4,5,6] [3,4,5] sr (Au 1 sr ?_);refine Aw k func101 ?_ (hp:=by simpa using w);refine Ak [4,5,6,7,8] [4,5,7] sr (Au 2 sr ?_);refine Aw m func164 ?_;refine C3 2 sr (Aw m2 func216 ?_);refine Ge [4] [4] h func214 ?_;exact Bv sr rfl
variable {x:Int}
def Vb{y:Int}(h1:Pd x<=k)(h2:Pd y<=k):Pd (x+y)<=k+1:=by
 have h:=Af8 h1 h2;rw[Pd];refine Ae (Va (Int.natAbs_add_le x y)) ?_;rw[Nat.max_self]at h;exact h
def Aym(a b:RR)(h1:a.ok 68719476736)(h2:b.ok 68719476736):AE 304 [a.v,b.v] ((nR (a.val+b.val)).v):=by
 have p1:=Ng a h1.lim;have n:=Ng b h2.lim;have g:=RR.p_ok h1 dc;have f:=RR.p_ok h2 dc;have e1:=RR.p_val a;have e2:=RR.p_val b;have d1:=RR.p_ne a;have d2:=RR.p_ne b;rw[pV]at p1 n;have pa:=RR.vp a;have pb:=RR.vp b;have ea:=vRR a;have eb:=vRR b;rw[ea]at p1 pa|-;rw[eb]at n pb|-;rw[<-e1,<-e2];generalize a.p=a',b.p=b' at*;clear e1 e2 h1 h2;have⟨x,d⟩:=a';have⟨y,e⟩:=b';simp only at p1 n d1 d2;have l1:=Ae (Lm g.lim) g.len;have l2:=Ae (Lm f.lim) f.len;have z1:Pd (Bd d:Int)<=68719476736:=by rw[Pd,Ew];exact l1
 have z2:Pd (Bd e:Int)<=68719476736:=by rw[Pd,Ew];exact l2
 have w1:=Ug d g.lim (Ae g.len dc);have w2:=Ug e f.lim (Ae f.len dc);have m1:=P9 x (nI (Bd e)) ⟨g.num.1,Ae g.num.2 dc⟩ (Hp (Ae z2 dc));have m2:=P9 y (nI (Bd d)) ⟨f.num.1,Ae f.num.2 dc⟩ (Hp (Ae z1 dc));rw[I9]at m1 m2
 have s1:Pd (x.val*(Bd e:Int))<=137438953472:=by
  rw[Pd,Sh];exact Ae (Oq (RI.sz g.num) z2) dc
 have s2:Pd (y.val*(Bd d:Int))<=137438953472:=by
  rw[Pd,Sh];exact Ae (Oq (RI.sz f.num) z1) dc
 have m4:=Ab8 (nI (x.val*(Bd e:Int))) (nI (y.val*(Bd d:Int))) (Hp (Ae s1 dc)) (Hp (Ae s2 dc));rw[I9,I9]at m4;have m5:=Aot d e g.lim f.lim (Ae g.len dc) (Ae f.len dc);have s4:(B0 (Bd d*Bd e)).length<=274877906944:=Ae (Oq l1 l2) dc;have i:=Uf (nI (x.val*(Bd e:Int)+y.val*(Bd d:Int))) (B0 (Bd d*Bd e)) (Hp (Ae (Vb s1 s2) dc)) (Ct _) (Ae s4 dc) (by rw[C6];exact J1 d1 d2);rw[I9,C6,<-Rat.mkRat_add_mkRat x.val y.val d1 d2]at i;show AC _ _ _ (λr=>r=(nR (mkRat x.val (Bd d)+mkRat y.val (Bd e))).v)
 generalize mkRat x.val (Bd d)+mkRat y.val (Bd e)=q at i|-;have⟨c,lw,dw,hv,an,aj⟩:=L7 q;rw[hv]at i|-;have⟨c2,ae,u,l⟩:=El (x.val*(Bd e:Int));rw[u]at m1 m4;have⟨c3,af,z,w⟩:=El (y.val*(Bd d:Int));rw[z]at m2 m4;have⟨c4,am,aa,o⟩:=El (x.val*(Bd e:Int)+y.val*(Bd d:Int));rw[aa]at i m4;have⟨c5,ah,k,ab⟩:=El (Bd d:Int);rw[k]at w1 m2;have⟨c6,ao,s,m⟩:=El (Bd e:Int);rw[s]at w2 m1;have j:=Af (B0 (Bd d*Bd e));have hx:=Af x.mag;have hy:=Af y.mag;have t:=Af d;have ad:=Af e;have ex:x.v=.agg [.bool x.neg,.ro 1 (Az x.mag)]:=rfl;have ey:y.v=.agg [.bool y.neg,.ro 1 (Az y.mag)]:=rfl;rw[ex]at p1 m1;rw[ey]at n m2;clear ea eb ex ey hv u z aa k s;generalize Az (B0 (Bd d*Bd e))=nv at m5 i j;generalize Az x.mag=xv,Az y.mag=yv,Az d=ag,Az e=al,Az a.num.mag=av,Az b.num.mag=bv,Az a.den=ai,Az b.den=ak at*;refine Ai func304 λw0 N0=>?_;refine Y [2,3,4] [2,3,4] sr (Au 1 sr ?_);refine Aw p1 func101 ?_ (hp:=by simpa using pa);refine Ak [3,4,5,6] [3,4,5] sr (Au 1 sr ?_);refine Aw n func101 ?_ (hp:=by simpa using pb);refine Ak [4,5,6,7,8] [4,5,7] sr (J (H0 [(1,[]),(2,[]),(5,[]),(0,[9]),(3,[]),(6,[]),(4,[9]),(7,[]),(8,[]),(9,[]),(10,[])] Jt kr ?_));refine B8 1 sr (B1 (λh=>w2) func165 ?_);refine B8 2 sr ?_;refine B1 (λh=>m1) func164 ?_;refine B1 (λh=>w1) func165 ?_;refine B8 1 sr ?_;refine B1 (λh=>m2) func164 ?_;refine B1 (λh=>m4) func270 ?_;refine C5 [4,6,8,9] [4,9] sr ?_;refine J (H6 [1,3,0,1,4,2] sr ?_);refine B8 2 sr ?_;refine B1 (λh=>m5) func216 ?_;refine B8 1 sr ?_;refine B1 (λh=>i) func214 ?_;refine C5 [4] [4] sr ?_;exact Bv sr rfl
def S4(a b:RR)(h1:a.ok 137438953472)(h2:b.ok 137438953472):AE 104 [a.v,b.v] (.i (Ot a.val b.val)):=by
 have w:=Ng a h1.lim;have j:=Ng b h2.lim;have f:=RR.p_ok h1 dc;have e:=RR.p_ok h2 dc;have e1:=RR.p_val a;have e2:=RR.p_val b;have d1:=RR.p_ne a;have d2:=RR.p_ne b;rw[pV]at w j;have pa:=RR.vp a;have pb:=RR.vp b;have ea:=vRR a;have eb:=vRR b;rw[ea]at w pa|-;rw[eb]at j pb|-;rw[<-e1,<-e2];generalize a.p=a',b.p=b' at*;clear e1 e2 h1 h2;have⟨x,c⟩:=a';have⟨y,d⟩:=b';simp only at w j d1 d2;have z1:Pd (Bd c:Int)<=137438953472:=by rw[Pd,Ew];exact(Ae (Lm f.lim) f.len)
 have z2:Pd (Bd d:Int)<=137438953472:=by rw[Pd,Ew];exact(Ae (Lm e.lim) e.len)
 have w1:=Ug c f.lim (Ae f.len dc);have w2:=Ug d e.lim (Ae e.len dc);have t:=P9 x (nI (Bd d)) ⟨f.num.1,Ae f.num.2 dc⟩ (Hp (Ae z2 dc));have o:=P9 y (nI (Bd c)) ⟨e.num.1,Ae e.num.2 dc⟩ (Hp (Ae z1 dc));rw[I9]at t o;have s:=Bco (nI (x.val*(Bd d:Int))) (nI (y.val*(Bd c:Int))) (Ct _) (Ct _);rw[I9,I9]at s;show AC _ _ _ (λr=>r=.i (Ot (mkRat x.val (Bd c)) (mkRat y.val (Bd d))))
 rw[Ayg d1 d2];generalize cmpI (x.val*(Bd d:Int)) (y.val*(Bd c:Int))=af at s|-;have⟨c2,ad,l,h⟩:=El (x.val*(Bd d:Int));rw[l]at t s;have⟨c3,ae,n,m⟩:=El (y.val*(Bd c:Int));rw[n]at o s;have⟨c5,ah,g,u⟩:=El (Bd c:Int);rw[g]at w1 o;have⟨c6,al,k,i⟩:=El (Bd d:Int);rw[k]at w2 t;have hx:=Af x.mag;have hy:=Af y.mag;have aa:=Af c;have ab:=Af d;have ex:x.v=.agg [.bool x.neg,.ro 1 (Az x.mag)]:=rfl;have ey:y.v=.agg [.bool y.neg,.ro 1 (Az y.mag)]:=rfl;rw[ex]at w t;rw[ey]at j o;clear ea eb ex ey l n g k;generalize Az x.mag=xv,Az y.mag=yv,Az c=ag,Az d=ak,Az a.num.mag=av,Az b.num.mag=bv,Az a.den=ai,Az b.den=aj at*;refine Ai func104 λw0 N0=>?_;refine Y [2,3] [2,3] sr (Au 1 sr ?_);refine Aw w func101 ?_ (hp:=by simpa using pa);refine Ak [3,5,6] [3,5] sr (Au 1 sr ?_);refine Aw j func101 ?_ (hp:=by simpa using pb);refine Ak [5,6,7,8] [5,7] sr (J (H6 [1,2,5,1,0,1,3,1,6,1,4,1,7,3] sr ?_));refine B8 1 sr (B1 (λz=>w2) func165 ?_);refine B8 2 sr (B1 (λz=>t) func164 ?_);refine B1 (λz=>w1) func165 ?_;refine B8 1 sr ?_;refine B1 (λz=>o) func164 ?_;refine B1 (λz=>s) func163 ?_;refine C5 [4] [] sr ?_;exact Bv sr rfl
def Aru(a:RR)(h1:Ei a.den)(h2:Ei a.num.mag):AE 56 [a.v] (.i (Afg a.val)):=by
 have d:=Ng a h1;have h:=RR.p_ne a
 have c:Ei a.p.num.mag:=by
  unfold RR.p
  split
  .simp[Ei]
  .exact h2
 rw[pV]at d;have e:=RR.vp a;have f:=vRR a;rw[f]at d e|-;rw[<-(RR.p_val a)];generalize a.p=o at*;have⟨x,g⟩:=o;simp only at d h c;have m:=Ab7 x c;show AC _ _ _ (λr=>r=.i (Afg (mkRat x.val (Bd g))))
 rw[A57 h];have i:=Af x.mag;have ex:x.v=.agg [.bool x.neg,.ro 1 (Az x.mag)]:=rfl;rw[ex]at d m;clear f ex;generalize Az x.mag=xv,Az g=j,Az a.num.mag=av,Az a.den=l,G8 x.val=n at*;refine Ai func56 λw0 N0=>?_;refine Y [1] [1] sr (Au 1 sr ?_);refine Aw d func101 ?_ (hp:=by simpa using e);refine Ak [3] [3] sr (Au 1 sr ?_);refine Ge [2] [] m func102 ?_;exact Bv sr rfl
def Bcq(a:RR)(h1:a.ok 1099511627776):AE 305 [a.v] ((nR (-a.val)).v):=by
 have h:=Ng a h1.lim;have i:=RR.p_ok h1 dc;have m:=RR.p_val a;have s:=RR.p_ne a;rw[pV]at h;have l:=RR.vp a;have o:=vRR a;rw[o]at h l|-;rw[<-m];generalize a.p=a' at*;clear m h1;have⟨x,e⟩:=a';simp only at h s;have k:=Ayk x i.num;have d:=Uf (nI (-x.val)) e (Hp (by rw[Pd,O7];exact RI.sz i.num)) i.lim i.len s;rw[I9,<-Rat.neg_mkRat]at d;show AC _ _ _ (λr=>r=(nR (-mkRat x.val (Bd e))).v)
 generalize -mkRat x.val (Bd e)=q at d|-;have⟨c,lw,dw,n,aa,y⟩:=L7 q;rw[n]at d|-;have⟨c2,t,g,f⟩:=El (-x.val);rw[g]at k d;have z:=Af x.mag;have j:=Af e;have ex:x.v=.agg [.bool x.neg,.ro 1 (Az x.mag)]:=rfl;rw[ex]at h k;clear o ex n g;generalize Az x.mag=xv,Az e=u,Az a.num.mag=av,Az a.den=w at*;refine Ai func305 λw0 N0=>?_;refine Y [1,2] [1,2] sr (Au 1 sr ?_);refine Aw h func101 ?_ (hp:=by simpa using l);refine Ak [2,3,4] [2,3] sr (Au 1 sr ?_);refine Aw k func337 ?_;refine C3 1 sr (Aw d func214 ?_);exact Ak [2] [2] sr (Bv sr rfl)
def Aow(q:Rat):Q2 (-q)=Q2 q:=by rw[Q2,Q2,Rat.neg_num,Rat.neg_den,Pd,Pd,O7]
def Bcr(a b:RR)(h1:a.ok 68719476736)(h2:b.ok 68719476736):AE 272 [a.v,b.v] ((nR (a.val-b.val)).v):=by
 have i:=Bcq b ⟨⟨h2.num.1,Ae h2.num.2 dc⟩,h2.lim,Ae h2.len dc⟩;have d:=Aym a (nR (-b.val)) h1 (N7 (by rw[Aow];exact RR.sz h2 dc));rw[M5,<-Rat.sub_eq_add_neg]at d;have o:=RR.vp a;have t:=RR.vp b;have⟨c,lw,dw,l,z,w⟩:=L7 (a.val-b.val);have⟨c2,s,aa,f,e,g⟩:=L7 (-b.val);rw[l]at d|-;rw[f]at i d;have m:=vRR a;have k:=vRR b;rw[m]at d o|-;rw[k]at i t|-;have x:=Af a.num.mag;have hy:=Af b.num.mag;have h:=Af a.den;have j:=Af b.den;clear m k l f;generalize Az a.num.mag=av,Az b.num.mag=bv,Az a.den=u,Az b.den=y at*;refine Ai func272 λw0 N0=>?_;refine Y [2,3,4] [2,3,4] sr (J (H6 [0,5] sr ?_));refine B8 2 sr (B1 (λn=>i) func305 ?_);refine B1 (λn=>d) func304 ?_;exact C5 [4] [4] sr (Bv sr rfl)
def Bcs:(nR 0).v=.agg [.bool false,.ro 1 [],.ro 1 (Az (B0 1))]:=by
 have h:nR 0=⟨nI 0,B0 1⟩:=rfl;rw[h,RR.v];simp[nI,Ep]
def Bct:AE 213 [] ((nR 0).v):=by
 refine AC.relaxP ?_;have a:=Ahw 1 dc;rw[Bcs];generalize Az (B0 1)=ov at a|-;refine Ai func213 λw0 N0=>?_;refine Y [0] [0] sr (J (Cb (Aw a func160 ?_)));refine Ak [0] [0] sr (Bv sr ?_);exact Bh.agg (.cons (Bh.refl _) (.cons (nils_ro 1) (.cons (Bh.refl _) .nil)))
variable {d:Nat}
def Bcu{b:Bool}(h:d≠0):mkRat (n:Int) d=Ub (mkRat (sgn b n) d):=by
 have e:(0:Rat)=mkRat 0 1:=by rw[Sf]
 have a:mkRat (sgn b n) d<0↔sgn b n<0:=by rw[e,A56 h dC];simp
 unfold Ub
 by_cases hs:sgn b n<0
 .rw[Ab (a.2 hs),Rat.neg_mkRat]
  congr 1
  cases b
  .simp[sgn]at hs;omega
  .simp[sgn]
 .rw[I (λh=>hs (a.1 h))]
  congr 1
  cases b
  .simp[sgn]
  .simp only[sgn,if_true]at hs|-;omega
def Bcv(a:RR)(h1:a.ok 1099511627776):AE 271 [a.v] ((nR (Ub a.val)).v):=by
 have i:=Ng a h1.lim;have d:=RR.p_ok h1 dc;have m:=RR.p_val a;have k:=RR.p_ne a;rw[pV]at i;have l:=RR.vp a;have o:=vRR a;rw[o]at i l|-;rw[<-m];generalize a.p=a' at*;clear m h1;have⟨x,f⟩:=a';simp only at i k;have s:=Ug x.mag d.num.lim d.num.len;have hl:Pd (Bd x.mag:Int)<=1099511627776:=by rw[Pd,Ew];exact Ae (Lm d.num.lim) d.num.len
 have e:=Uf (nI (Bd x.mag)) f (Hp hl) d.lim d.len k;rw[I9,Bcu (b:=x.neg) k]at e;show AC _ _ _ (λr=>r=(nR (Ub (mkRat (sgn x.neg (Bd x.mag)) (Bd f)))).v)
 generalize Ub (mkRat (sgn x.neg (Bd x.mag)) (Bd f))=q at e|-;have⟨c,lw,dw,n,aa,y⟩:=L7 q;rw[n]at e|-;have⟨c2,t,h,g⟩:=El (Bd x.mag);rw[h]at s e;have z:=Af x.mag;have j:=Af f;have ex:x.v=.agg [.bool x.neg,.ro 1 (Az x.mag)]:=rfl;rw[ex]at i;clear o ex n h;generalize Az x.mag=xv,Az f=u,Az a.num.mag=av,Az a.den=w at*;refine Ai func271 λw0 N0=>?_;refine Y [1,2] [1,2] sr (Au 1 sr ?_);refine Aw i func101 ?_ (hp:=by simpa using l);refine Ak [2,3,4] [2,3] sr (Au 2 sr ?_);refine Aw s func165 ?_;refine C3 1 sr (Aw e func214 ?_);exact Ak [2] [2] sr (Bv sr rfl)
def Pv(x y:Int):V:=if y=0 then .tup [(nR 0).v,.bool false]else .tup [(nR (mkRat (x*G8 y) y.natAbs)).v,.bool true]
def Avz(y:Int):G8 y=0↔y=0:=by unfold G8;(repeat' split)<;>omega
def Arv(b c:Bool)(n m:Nat)(h:sgn c m≠0):sgn (b != c) n=sgn b n*G8 (sgn c m):=by
 have:G8 (sgn c m)=sgn c 1:=by
  unfold G8 sgn at*;cases c<;>simp at h|-<;>omega
 rw[this,Ayf,Gs]
def Ab9(a b:RI)(h1:a.ok 1099511627776)(h2:b.ok 1099511627776):AC prog 161 [a.v,b.v] (λr=>r=Pv a.val b.val):=by
 have e:=Ab7 b h2.lim;have y:=Bct;have i:=Af9 (a.neg != b.neg) a.mag h1.lim h1.len;have o:=Af a.mag;have g:=Af b.mag;have⟨p,l⟩:=a;have⟨q,m⟩:=b;simp only at i o g;have e1:(RI.mk p l).v=.agg [.bool p,.ro 1 (Az l)]:=rfl;have e2:(RI.mk q m).v=.agg [.bool q,.ro 1 (Az m)]:=rfl;have e3:(RI.mk p l).val=sgn p (Bd l):=rfl;have z:(RI.mk q m).val=sgn q (Bd m):=rfl;rw[e2,z]at e;rw[e1,e2,e3,z];have k:=Avz (sgn q (Bd m))
 by_cases d:sgn q (Bd m)=0
 .rw[Pv,Ab d];rw[k.2 d]at e;have⟨c,lw,dw,w,x,u⟩:=L7 0;rw[w]at y|-;generalize Az l=lv at o|-;generalize Az m=mv at g e|-;refine Ai func161 λw0 N0=>?_;refine Y [2,3,4] [2,3,4] sr (J (Au 1 sr ?_));refine Ge [2,3,4,8] [2,3,4] e func102 ?_;refine Ek ?_;refine J (Cb (Aw y func213 ?_));exact Ak [4,5] [4] sr (Aj (Aa sr rfl))
 .rw[Pv,I d];have s:Bd m≠0:=by intro h;rw[h]at d;exact d (by unfold sgn;split<;>rfl)
  have f:=Uf (nI (sgn (p != q) (Bd l))) m (Hp (by rw[Pd,Yj];exact Ae (Lm h1.lim) h1.len)) h2.lim h2.len s;rw[I9,Arv p q _ _ d]at f;rw[Arv p q _ _ d]at i;rw[Yj];have n:G8 (sgn q (Bd m))≠0:=λh=>d (k.1 h)
  have⟨c2,aa,t,j⟩:=El (sgn p (Bd l)*G8 (sgn q (Bd m)));rw[t]at i f;generalize mkRat (sgn p (Bd l)*G8 (sgn q (Bd m))) (Bd m)=qq at f|-;have⟨c,lw,dw,w,x,u⟩:=L7 qq;rw[w]at f|-;generalize G8 (sgn q (Bd m))=sg at e n;generalize Az l=lv at o i|-;generalize Az m=mv at g e f|-;refine Ai func161 λw0 N0=>?_;refine Y [2,3,4] [2,3,4] sr (J (Au 1 sr ?_));refine Aw e func102 ?_;refine Ak [2,3,4,8] [2,3,4] C1 (Ce (J (H0 [(0,[]),(2,[]),(5,[]),(8,[]),(1,[]),(3,[]),(4,[]),(6,[]),(7,[]),(9,[]),(10,[]),(11,[]),(12,[])] Jt kr ?_)));refine B8 8 sr (D7 (c:=true) (λhg=>i) func215 rfl kr rfl rfl sr rfl rfl (by cases p<;>cases q<;>rfl) sM sr ?_);refine B8 1 sr (D7 (λhg=>f) func214 rfl kr rfl rfl sr rfl rfl sr sM sr ?_);exact C5 [4,5] [4] sr (Aj (Aa sr rfl))
def Mk{z:Int}(h1: -18446744073709551616<=z)(h2:z<=18446744073709551616):Pd z<=3:=E7 (m:=3) om
def Aox(x y:Int):∃c a d b,Pv x y=.tup [.agg [.bool c,.ro 1 a,.ro 1 d],.bool b]/\a.all V.pureE=true/\d.all V.pureE=true:=by
 unfold Pv
 split
 .exact⟨_,_,_,_,rfl,Af _,Af _⟩
 .exact⟨_,_,_,_,rfl,Af _,Af _⟩
def Wu(x y:Int)(h1: -9223372036854775808<=x)(h2:x<9223372036854775808)(l: -9223372036854775808<=y)(s:y<9223372036854775808):AE 103 [.i x,.i y] (Pv x y):=by
 have k:=Avy x h1 h2;have h:=Avy y l s;have a:=Ab9 (nI x) (nI y) (Hp (Ae (Mk om om) dc)) (Hp (Ae (Mk om om) dc));rw[I9,I9]at a;have⟨c,lw,m,e⟩:=El x;have⟨c2,n,f,d⟩:=El y;have⟨c3,o,t,b3,g,j,i⟩:=Aox x y;rw[m]at k a;rw[f]at h a;rw[g]at a|-;refine Ai func103 λw0 N0=>?_;refine Y [0,1,4] [4] sr (Au 1 sr ?_);refine Aw k func162 ?_;refine C3 1 sr (Aw h func162 ?_);refine Ge [4,5] [4] a func161 ?_;exact Bv sr rfl
def Wv(z:Int):V:=if -9223372036854775808<=z/\z<=9223372036854775807 then .tup [.i z,.bool true]else .tup [.i 0,.bool false]
def A1v(x:Int):IntKind.i64.wrap x=(x+9223372036854775808)%18446744073709551616-9223372036854775808:=by rw[IntKind.wrap_i64]
def A6h(a:RI)(h:Ei a.mag):AC prog 274 [a.v] (λr=>r=Wv a.val):=by
 have⟨b,l⟩:=a;simp only at h;have c:=Bcn l h _ rfl;have hp:=Af l;have j:(RI.mk b l).v=.agg [.bool b,.ro 1 (Az l)]:=rfl;have i:(RI.mk b l).val=sgn b (Bd l):=rfl;rw[j,i];generalize Az l=lv at c hp|-;generalize Bd l=n at c|-
 by_cases g:n<18446744073709551616
 .rw[Ab g]at c
  cases b
  .refine Ai func274 λw0 N0=>?_;refine Y [1] [1] sr (Au 2 sr ?_);refine Ge [1,4,5] [1] c func307 ?_;refine J (Y [1,4,13] [1] sr ?_);refine Ce (J (Y [4,15] [] sr ?_));refine Ce (J (Y [4,22] [] sr ?_))
   refine A1 (λe=>?_) λe=>?_
   .refine Y [2,3] [] sr (Aj (Aa sr ?_));simp at e;rw[Wv,I (by simp only[sgn];rw[I dC];omega)]
   .simp at e;have f:IntKind.i64.wrap (n:Int)=n:=Bm om om;refine Y [2,3] [] C1 (Aj (Aa sr ?_));rw[Wv,Ab (by simp only[sgn];rw[I dC];omega)];rfl
  .have hw0:IntKind.i64.wrap (IntKind.u64.wrap (-(n:Int)))= -(n:Int)\/9223372036854775808<n:=by
    rw[A1v,Mi];omega
   refine Ai func274 λw0 N0=>?_;refine Y [1] [1] sr (Au 2 sr ?_);refine Ge [1,4,5] [1] c func307 ?_;refine J (Y [1,4,13] [1] sr ?_);refine Ce (J (Y [4,15] [] sr ?_));refine Ek ?_;refine J (Y [4,17] [] sr ?_)
   refine A1 (λd=>?_) λd=>?_
   .simp at d;refine Y [2,3] [] sr (Aj (Aa sr ?_));rw[Wv,I (by simp only[sgn,if_true];omega)]
   .simp at d;have f:=hw0.resolve_right om;refine Y [2,3] [] C1 (Aj (Aa sr ?_));rw[Wv,Ab (by simp only[sgn,if_true];omega)];rfl
 .rw[I g]at c;refine Ai func274 λw0 N0=>?_;refine Y [1] [1] sr (Au 2 sr ?_);refine Ge [1,4,5] [1] c func307 ?_;refine J (Y [1,4,13] [1] sr ?_);refine Ek ?_;refine Y [2,3] [] sr (Aj (Aa sr ?_));rw[Wv,I (by unfold sgn;split<;>omega)]
def A6i(b:Bool)(hd:0<d)(h:b=false\/n%d=0):sgn b (n/d)=sgn b n/(d:Int)/\sgn b (n%d)=sgn b n%(d:Int):=by
 cases b
 .exact⟨by simp[sgn],by simp[sgn]⟩
 .have c:=sG h
  have f:n=d*(n/d):=by have:=G5 n d;omega
  have e:=(Int.ediv_emod_unique (a:=sgn true n) (b:=(d:Int)) (r:=sgn true (n%d)) (q:=sgn true (n/d)) om).2 ⟨by
   rw[c];simp only[sgn,if_true]
   conv=>rhs;rw[f]
   rw[Fq,X1];simp,by rw[c];simp[sgn],by rw[c];simp[sgn];omega⟩
  exact⟨e.1.symm,e.2.symm⟩
def A6j(g:0<d)(h:n%d≠0):sgn true (n/d+1)=sgn true n/(d:Int)/\sgn false (d-n%d)=sgn true n%(d:Int):=by
 have e:=Dd n g;have c:=G5 n d
 have f:=(Int.ediv_emod_unique (a:=sgn true n) (b:=(d:Int)) (r:=sgn false (d-n%d)) (q:=sgn true (n/d+1)) om).2 ⟨by
   simp only[sgn,if_true];rw[I dC];generalize n/d=q at c|-;generalize n%d=r at c e|-;subst c;rw[X1,Du,Du,Fq,Int.mul_add];omega,by simp only[sgn];rw[I dC];omega,by simp only[sgn];rw[I dC];omega⟩
 exact⟨f.1.symm,f.2.symm⟩
def A1w(b:Bool)(j i e a:List V)(k:Nat)(A B:V)(c1 w:Bool)(u x:List V)(o:A=.agg [.bool c1,.ro 1 u])(t:B=.agg [.bool w,.ro 1 x])(s:AC prog 120 [.ro 1 j,.ro 1 i] (λr=>r=.tup [.ro 1 e,.ro 1 a,.bool true]))
  (l:j.all V.pureE=true)(g:i.all V.pureE=true)(c:e.all V.pureE=true)(d:a.all V.pureE=true)(hl:a.length=k)(f:b=false\/k=0)
  (z:AC prog 215 [.bool b,.ro 1 e] (λr=>r=A))(y:AC prog 215 [.bool b,.ro 1 a] (λr=>r=B)):
  AC prog 308 [.agg [.bool b,.ro 1 j],.agg [.bool false,.ro 1 i]] (λr=>r=.tup [A,B,.bool true]):=by
 subst o t;refine Ai func308 λw0 N0=>?_;refine Y [2,3,4,5] [2,3,4,5] sr (Au 4 sr ?_);refine Ge [2,3,4,5,7,8,9] [2,3,4,5] s func120 ?_;refine J (Y [2,3,4,5,7,8,20] [2,3,4,5] sr ?_);refine Ce (J ?_);have n:b=true->k=0:=λh=>f.resolve_left (by rw[h];decide)
 cases b
 all_goals
  refine Y [2,3,4,5,7,8,32] [2,3,4,5] C1 (Ek ?_);refine J (H6 [0,1,2,1,5,1,7,1,9,1,1,1,3,2,6,1,8,1,10,4] sr ?_);refine B8 8 sr (D7 (λm=>z) func215 rfl kr rfl rfl sr rfl rfl sr sM sr ?_);refine B8 1 sr (D7 (λm=>y) func215 rfl kr rfl rfl sr rfl rfl sr sM sr ?_);exact C5 [4,5,6] [4,5] sr (Aj (Aa sr rfl))
def A1x(n e i d l a s:List V)(k:Nat)(A B:V)(c1 c2:Bool)(w1 w2:List V)(x:A=.agg [.bool c1,.ro 1 w1])(z:B=.agg [.bool c2,.ro 1 w2])(y:AE 120 [.ro 1 n,.ro 1 e] (.tup [.ro 1 i,.ro 1 d,.bool true]))
  (o:n.all V.pureE=true)(c:e.all V.pureE=true)(g:i.all V.pureE=true)(h:d.all V.pureE=true)(f:l.all V.pureE=true)(m:a.all V.pureE=true)(j:s.all V.pureE=true)(hl:d.length=k)(u:k≠0)
  (ho:AE 160 [.int .u64 1] (.ro 1 l))(w:AE 302 [.ro 1 i,.ro 1 l] (.ro 1 a))(hs:AE 303 [.ro 1 e,.ro 1 d] (.tup [.ro 1 s,.bool true]))
  (m1:AE 215 [.bool true,.ro 1 a] A)(m2:AE 215 [.bool false,.ro 1 s] B):
  AE 308 [.agg [.bool true,.ro 1 n],.agg [.bool false,.ro 1 e]] (.tup [A,B,.bool true]):=by
 subst x z;refine Ai func308 λw0 N0=>?_;refine Y [2,3,4,5] [2,3,4,5] sr (Au 4 sr ?_);refine Ge [2,3,4,5,7,8,9] [2,3,4,5] y func120 ?_;refine J (Y [2,3,4,5,7,8,20] [2,3,4,5] sr ?_);refine Ce (J (Y [2,3,4,5,7,8,32] [2,3,4,5] C1 ?_));refine Ce (Au 1 sr ?_);refine Aw ho func160 ?_;refine Ge [3,4,5,7,8] [3,4,5] w func302 ?_;refine Au 3 sr ?_;refine Ge [3,4,5,7,8] [3,4,5] hs func303 ?_;refine J (H6 [0,3,4,1,3,1,5,4] sr ?_);refine B8 1 sr ?_;refine B1 (λt=>m1) func215 ?_;refine B8 3 sr ?_;refine B1 (λt=>m2) func215 ?_;refine C5 [4,5,6] [4,5] sr ?_;exact Bv sr rfl
def Bcw(a:RI)(m:List Nat)(h1:a.ok 274877906944)(h2:Ei m)(h3:m.length<=274877906944)(j:Bd m≠0):AE 308 [a.v,(RI.mk false m).v] (.tup [(nI (a.val/(Bd m:Int))).v,(nI (a.val%(Bd m:Int))).v,.bool true]):=by
 have⟨b,l⟩:=a;have⟨h1,k1⟩:=h1;simp only at h1 k1;have n:=Ue l m h1 h2 om;rw[Aou,I j,Wt,Wt]at n;have i:=Af l;have g:=Af m;have e:=Af (B0 (Bd l/Bd m));have f:=Af (B0 (Bd l%Bd m));have l1:=Ae (Lm h1) k1;have l2:=Ae (Lm h2) h3;have lq:(B0 (Bd l/Bd m)).length<=274877906944:=Ae (Va (G7 _ _)) l1;have lr:(B0 (Bd l%Bd m)).length<=274877906944:=Ae (Va (Nat.mod_le _ _)) l1;have hl:(Az (B0 (Bd l%Bd m))).length=(B0 (Bd l%Bd m)).length:=sm;have hz:(B0 (Bd l%Bd m)).length=0↔Bd l%Bd m=0:=by rw[Ag];exact Wm
 show AC _ _ [.agg [.bool b,.ro 1 (Az l)],.agg [.bool false,.ro 1 (Az m)]] (λr=>r=.tup [(nI (sgn b (Bd l)/(Bd m:Int))).v,(nI (sgn b (Bd l)%(Bd m:Int))).v,.bool true])
 by_cases k:b=false\/Bd l%Bd m=0
 .have⟨s,w⟩:=A6i b (Ie j) k;rw[<-s,<-w];have⟨x,o,c,_⟩:=El (sgn b (Bd l/Bd m));have⟨t,u,d,_⟩:=El (sgn b (Bd l%Bd m));exact A1w b _ _ _ _ _ _ _ x t o u c d n i g e f hl (k.imp id hz.2) (Kr b _ om) (Kr b _ om)
 .have hb:b=true:=by cases b<;>simp at k|-
  subst hb;have z:Bd l%Bd m≠0:=λh=>k (.inr h)
  have⟨s,w⟩:=A6j (Ie j) z;rw[<-s,<-w];have⟨x,o,c,_⟩:=El (sgn true (Bd l/Bd m+1));have⟨t,u,d,_⟩:=El (sgn false (Bd m-Bd l%Bd m));have y:=Avt (B0 (Bd l/Bd m)) (B0 1) (Ct _) (Ct _) om (by rw[Aor];decide);rw[C6,C6]at y;have hs:=Avv m (B0 (Bd l%Bd m)) h2 (Ct _) om om;rw[C6,Avu,Ab (Ig (Dd _ (Ie j)))]at hs;have l5:=Af8 lq (show(B0 1).length<=1 by rw[Aor];decide);exact A1x _ _ _ _ _ _ _ _ _ _ x t o u c d n i g e f (Af _) (Af _) (Af _) hl (λh=>z (hz.1 h)) (Ahw 1 dc) y hs (Kr true _ om) (Kr false _ (Ae (Va (Aa2 _ _)) om))
def A6k(b:Bool)(n d:Nat)(h:d≠0):(mkRat (sgn b n) d).floor=sgn b n/(d:Int):=by
 have⟨h1,h2⟩:=Wp b n d h;rw[Rat.floor_def,h1,h2];have f:n.gcd d≠0:=λe=>h (Nat.gcd_eq_zero_iff.1 e).2
 have⟨c,i⟩:=U0 n d;have⟨d',j⟩:=Nat.gcd_dvd_right n d;generalize n.gcd d=g at*;subst i j;have a:=Ie f;rw[Kx _ a,Kx _ a];have e:sgn b (g*c)=(g:Int)*sgn b c:=by unfold sgn;cases b<;>simp[X1]
 rw[e,Fq,Int.mul_ediv_mul_of_pos _ _ om]
def A1y(a:RR)(h1:a.ok 274877906944):AE 275 [a.v] ((nI a.val.floor).v):=by
 have i:=Ng a h1.lim;have j:=RR.p_ok h1 dc;have y:=RR.p_val a;have o:=RR.p_ne a;rw[pV]at i;have s:=RR.vp a;have z:=vRR a;rw[z]at i s|-;rw[<-y];generalize a.p=a' at*;clear y h1;have⟨x,d⟩:=a';simp only at i o;have w:=Ug d j.lim (Ae j.len dc)
 have n:nI (Bd d)=⟨false,B0 (Bd d)⟩:=by
  rw[nI,Ew];congr 1
 have f:=Bcw x (B0 (Bd d)) j.num (Ct _) (Ae (Lm j.lim) j.len) (by rw[C6];exact o);rw[<-n,C6]at f;show AC _ _ _ (λr=>r=(nI (mkRat (sgn x.neg (Bd x.mag)) (Bd d)).floor).v)
 rw[A6k _ _ _ o];have t:x.val=sgn x.neg (Bd x.mag):=rfl;rw[t]at f;have⟨c,lw,m,af⟩:=El (sgn x.neg (Bd x.mag)/(Bd d:Int));have⟨c3,ab,h,u⟩:=El (sgn x.neg (Bd x.mag)%(Bd d:Int));have⟨c2,aa,e,g⟩:=El (Bd d:Int);rw[m,e,h]at f;rw[e]at w;rw[m];have hx:=Af x.mag;have l:=Af d;have ex:x.v=.agg [.bool x.neg,.ro 1 (Az x.mag)]:=rfl;rw[ex]at i f;clear z ex m e h t;generalize Az x.mag=xv,Az d=ad,Az a.num.mag=av,Az a.den=ae at*;refine Ai func275 λw0 N0=>?_;refine Y [1,2] [1,2] sr (Au 1 sr ?_);refine Aw i func101 ?_ (hp:=by simpa using s);refine Ak [2,3,4] [2,3] sr (J (Af4 (.take 1 [] (.take 2 [] (.take 0 [5,6] (.take 3 [] (.take 4 [] (.take 5 [] (.take 6 [] (.take 7 [] (.alt 8 (.take 9 [] (.take 10 [] (.take 11 [] (.take 12 [] .done)))) (.alt 9 (.take 8 [] (.take 10 [] (.take 11 [] (.take 12 [] .done)))) .stop)))))))))) Jt kr ?_));refine U8 sr (Arc (λhg=>w) func165 rfl kr rfl rfl sr rfl rfl sr sM sr ?_);refine U8 sr (Arc (λhg=>f) func308 rfl kr rfl rfl sr rfl rfl sr sM sr ?_);refine U7 (L:=[2,5]) (M:=[2,5]) sr ?_;intro T hT;have k:=(show T=_ by simpa using hT);subst k;exact Y [2] [2] sr (Bv sr rf)
end Go.Proofs.YtnoignhlamifmaaGreatDoor
namespace Go.Proofs
open Go.Shelf
def Tryz.lays125_ren:Go.Shelf.Ren:=⟨λ|125=>177|128=>232|129=>233|n=>n,λ|46=>102|3=>3|51=>164|53=>42|4=>4|5=>5|9=>9|n=>n,λ|n=>n⟩
def Tryz.lays125:Go.Proofs.Lays.n125 prog lays125_ren:=Go.ly
def Tryz.bits_Len(x:Int)(w:World)(a:0<=x)(h1:x<=18446744073709551615):
  Calls prog 177 #[.int .u64 x] w λe w'=>e=.returned (.int .i64 (Lib.bitLen x.toNat))/\w'=w:=Any.bits_Len lays125 x w a h1
def Tryz.lays144_ren:Go.Shelf.Ren:=⟨λ|144=>222|143=>259|219=>295|217=>331|225=>332|224=>333|267=>334|266=>350|314=>351|n=>n,λ|9=>9|4=>4|3=>3|5=>5|46=>102|146=>476|51=>164|n=>n,λ|1=>1|n=>n⟩
def Tryz.lays144:Go.Proofs.Lays.n144 prog lays144_ren:=Go.ly
open Go.RowKit Go.Lib in
theorem Tryz.strings_Contains(s sub:ByteArray)(m:Int)(w:World)(hs:s.size<4294967281)(hm:w.cell? ⟨1,0,none⟩=some (.int .i64 m)):
  Calls prog 222 #[.string s,.string sub] w fun e w'=>e=.returned (.bool (Lib.contains s.data.toList sub.data.toList))/\w'=w:=Any.strings_Contains lays144 s sub m w hs hm
def Tryz.lays145_ren:Go.Shelf.Ren:=⟨λ|145=>217|220=>256|219=>295|217=>331|225=>332|224=>333|267=>334|266=>350|314=>351|n=>n,λ|9=>9|4=>4|59=>359|3=>3|5=>5|46=>102|146=>476|51=>164|n=>n,λ|1=>1|n=>n⟩
def Tryz.lays145:Go.Proofs.Lays.n145 prog lays145_ren:=Go.ly
open Go.RowKit Go.Lib in
theorem Tryz.strings_Cut(s sep:ByteArray)(m:Int)(w:World)(hs:s.size<4294967281)(hm:w.cell? ⟨1,0,none⟩=some (.int .i64 m)):
  Calls prog 217 #[.string s,.string sep] w fun e w'=>e=.returned (.tuple #[.string ⟨(Lib.cut s.data.toList sep.data.toList).1.toArray⟩,.string ⟨(Lib.cut s.data.toList sep.data.toList).2.1.toArray⟩,.bool (Lib.cut s.data.toList sep.data.toList).2.2])/\∃n,w'=w.drewN n:=Any.strings_Cut lays145 s sep m w hs hm
def Tryz.lays189_ren:Go.Shelf.Ren:=⟨λ|189=>117|125=>177|257=>176|128=>232|129=>233|294=>223|295=>224|296=>225|297=>226|298=>227|299=>228|216=>229|300=>230|301=>231|328=>265|329=>266|330=>267|331=>268|332=>269|215=>248|343=>301|n=>n,λ|28=>25|3=>3|46=>102|0=>0|51=>164|53=>42|4=>4|183=>364|182=>363|131=>269|5=>5|9=>9|218=>400|222=>403|228=>431|229=>432|n=>n,λ|n=>n⟩
def Tryz.lays189:Go.Proofs.Lays.n189 prog lays189_ren:=Go.ly
open Go.Sort Go.RowKit in
theorem Tryz.slices_Sort_int(blk off cap:Nat)(zs:List Int)(w:World)(hH:Holds (Value.int .i64) w blk off zs.toArray)(hblk:blk<w.heap.size)(hsz:zs.length<4611686018427387904):
  Calls prog 117 #[.slice (some ⟨blk,off,none⟩) zs.length cap] w fun e w'=>
   e=.returned (.tuple #[])/\∃n os,w'=grow (putRow (Value.int .i64) (Sort.ahead w n) blk off (zs.mergeSort fun x y=>decide (x<=y)).toArray) os:=Any.slices_Sort_int lays189 blk off cap zs w hH hblk hsz
def Tryz.lays155_ren:Go.Shelf.Ren:=⟨λ|155=>169|154=>218|138=>257|165=>258|143=>259|166=>260|197=>261|169=>262|195=>296|218=>297|240=>298|241=>299|219=>295|260=>300|276=>335|277=>336|217=>331|225=>332|224=>333|267=>334|266=>350|314=>351|n=>n,λ|9=>9|3=>3|4=>4|72=>392|0=>0|76=>394|105=>396|21=>21|5=>5|70=>390|20=>20|37=>45|75=>125|127=>430|164=>168|46=>102|119=>462|139=>465|138=>464|146=>476|51=>164|80=>398|n=>n,λ|1=>1|3=>2|4=>3|n=>n⟩
def Tryz.lays155:Go.Proofs.Lays.n155 prog lays155_ren:=Go.ly
def Tryz.Builder_Extra_155:Builder.Extra prog lays155_ren:=Go.lx
open Go.RowKit Go.Lib in
theorem Tryz.strings_ReplaceAll(s old new:ByteArray)(m:Int)(w:World)(hs:s.size<4294967281)(hm:w.cell? ⟨1,0,none⟩=some (.int .i64 m))(h1:1<=old.size)(hlen:s.size+Lib.countB s old*new.size<=140737488355328):
  Calls prog 169 #[.string s,.string old,.string new] w fun e w'=>
   e=.returned (.string ⟨(Lib.replaceAll s.data.toList old.data.toList new.data.toList).toArray⟩)/\Below w.heap.size w w':=Any.strings_ReplaceAll lays155 Builder_Extra_155 s old new m w hs hm h1 hlen
def Tryz.laysNm220_ren:Go.Shelf.Ren:=⟨λ|20=>118|n=>n,λ|22=>25|3=>3|4=>4|0=>0|n=>n,λ|n=>n⟩
def Tryz.laysNm220:Go.Proofs.Lays2.n20 prog laysNm220_ren:=Go.ly
open Go.RowKit Go.Lib Go.Sort in
theorem Tryz.slices_Compact_int(blk off cap:Nat)(zs:List Int)(w:World)(hH:Holds (Value.int .i64) w blk off zs.toArray)(hsz:zs.length<=9223372036854775807)(hcap:zs.length<=cap):
  Calls prog 118 #[.slice (some ⟨blk,off,none⟩) zs.length cap] w fun e w'=>e=.returned (.slice (some ⟨blk,off,none⟩) (Lib.compact zs).length cap)/\∃q,w'=putRow (Value.int .i64) (Sort.ahead w q) blk off (Lib.compact zs++List.replicate (zs.length-(Lib.compact zs).length) 0).toArray:=Any.slices_Compact_int laysNm220 blk off cap zs w hH hsz hcap
open Go.RowKit Go.Lib Go.Sort in
theorem Tryz.slices_Compact_int_empty(a:Option Addr)(cap:Nat)(w:World):
  Calls prog 118 #[.slice a 0 cap] w fun e w'=>e=.returned (.slice a 0 cap)/\w'=w:=Any.slices_Compact_int_empty laysNm220 a cap w
end Go.Proofs
namespace Go.Proofs.YtnoignhlamifmaaGreatDoor
open Go.Eng Go.Eng.Limb Go.RowKit Go.Sort Go.Lib
variable {N:Nat->Prop}{xs:List Value}
abbrev Bhw:Value:=.iface 241 (.agg #[.pointer (some ⟨4,125,none⟩)])
def gv:Gp where
 P:=λw=>(∃m,w.cell? ⟨1,0,none⟩=some (.int .i64 m))/\Glw 0 Bhw w
 bl:=λb=>b=0\/b=1
 stable:=by
  rintro w w'⟨⟨m,h1⟩,h2⟩hk;refine⟨⟨m,?_⟩,?_⟩
  .rw[World.cell?_of_block (hk 1 (.inr rfl))];exact h1
  .unfold Glw at h2|-;rw[World.cell?_of_block (hk 0 (.inl rfl))];exact h2
 low:=by
  rintro w⟨⟨m,h1⟩,h2⟩b(rfl|rfl)
  .exact h2.lt
  rcases Cz 1 w.heap.size with h|h
  .exact h
  .simp[World.cell?,Dp h]at h1
def Arw{w:World}{v u:V}(a:xs.length=[v,u].length)(hp:∀(i:Nat)x z,xs[i]?=some x->[v,u][i]?=some z->Pur w N x z):∃x y,xs=[x,y]/\Pur w N x v/\Pur w N y u:=by
 cases xs with
 |nil=>simp at a
 |cons x r=>cases r with
  |nil=>simp at a
  |cons y r=>cases r with
   |nil=>exact⟨x,y,rfl,hp 0 x v rfl rfl,hp 1 y u rfl rfl⟩
   |cons _ _=>simp at a
def Arx(w:World)(k:Nat):Below w.heap.size w (w.drewN k):=by
 have:=Lib.below_grow w.heap.size w (A2 _) k #[];simpa using this
def Bcx(s a:List UInt8)(hs:s.length<4294967281):Jp gv prog 217 [.str s,.str a] (λr=>r=.tup [.str (Lib.cut s a).1,.str (Lib.cut s a).2.1,.bool (Lib.cut s a).2.2]):=by
 intro w N xs h _ j hp;obtain⟨x,y,rfl,d,g⟩:=Arw j hp;cases d;cases g
 have⟨⟨m,l⟩,_⟩:=h;refine(strings_Cut ⟨s.toArray⟩ ⟨a.toArray⟩ m w (by rw[Lib.size_eq];simpa using hs) l).mono ?_;rintro e w'⟨rfl,k,rfl⟩;refine⟨_,_,rfl,rfl,.tup _ _ rfl ?_,Arx w k⟩;intro i x c d f
 rcases i with _ |_ |_ |i
 .simp at d f;subst d f;exact .str _
 .simp at d f;subst d f;exact .str _
 .simp at d f;subst d f;exact .bool _
 .simp at d
abbrev AQ(f:Nat)(l:List V)(v:V):Prop:=Jp gv prog f l (λr=>r=v)
end Go.Proofs.YtnoignhlamifmaaGreatDoor
namespace Go.Eng.Limb
open Go.Eng
structure Ru where
 kind:Int
 n:Int
 mn:Int
 mx:Int
 code:List UInt8
def Ru.cs(r:Ru):List V:=[.i r.kind,.i r.n,.i r.mn,.i r.mx,.str r.code]
def Ru.v(r:Ru):V:=.agg r.cs
def Ru.known(r:Ru):Prop:=1<=r.kind/\r.kind<=9
def Ahx(a b:Int):Int:=if a<0\/9999999<a\/b<0\/9999999<b then 3 else if b<a then 23 else 0
def Y3(n:Int):Bool:=decide (1<=n)&&decide (n<=9999999)
def Ru.fits(r:Ru):Bool:=
 if r.kind=1 then decide (r.n=0)
 else if r.kind=2\/r.kind=3 then decide (r.n=0)&&decide (r.mn=0)&&decide (r.code=[])
 else if r.kind=4 then decide (r.n=0)&&decide (r.code=[])
 else if r.kind=5\/r.kind=6 then decide (r.code=[])
 else if r.kind=7\/r.kind=8 then decide (r.mn=0)&&decide (r.mx=0)&&decide (r.code=[])
 else if r.kind=9 then decide (r.n=0)&&decide (r.mn=0)&&decide (r.mx=0)&&decide (r.code=[])
 else false
end Go.Eng.Limb
namespace Go.Proofs.YtnoignhlamifmaaGreatDoor
open Go.Eng Go.Eng.Limb
variable {α:Type}{k:Nat}{l:List UInt8}
abbrev Oc(l:List (List UInt8)):List V:=l.map V.str
def Bmc(h:k<l.length):Gz l k=some l[k]:=by rw[C0];simp[h]
def okB(c:UInt8):Bool:=(decide (65<=c.toNat)&&decide (c.toNat<=90))||(decide (48<=c.toNat)&&decide (c.toNat<=57))
def Amb(s:List UInt8):Bool:=s.all okB&&(decide (1<=s.length)&&decide (s.length<=8))
def Aft(s:List UInt8)(hs:s.length<=1000):AC prog 167 [.str s] (λr=>r=.bool (Amb s)):=by
 have m:=λ(k:Nat)(h:k<s.length)=>Bmc h
 refine Ai func167 λw0 N0=>?_;refine Y [0] [] sr (J (Y [0,3] [] sr (Ad (Ho 3 (λk=>(s.take k).all okB=true) s.length sm ?_))));intro k nx hk g;refine J (Y [0,3,7] [] sr ?_)
 refine Bk (λh1=>?_) λh1=>?_
 .have a:k<s.length:=by simp at h1;omega
  have j:=m k a;have t:=A4 (k:=k) om;have e:=Av (l:=s) (i:=k) a;have d:=As a;generalize s[k]=c at j e d;refine J (Ad (Y [0,3,31] [] (by simp[j,a]<;>rfl) ?_))
  refine A1 (λh2=>?_) λh2=>?_
  .refine Y [2] [] sr (Aj (Aa sr ?_));have:s.all okB=false:=Kc.2 ⟨c,d,by simp[okB]at h2|-;omega⟩;simp[Amb,this]
  have n:okB c=true:=by simp[okB]at h2|-;omega
  refine A6 [0,3] [] C1 ?_;exact⟨a,by rw[e,F5,g];simp[n],_,Z⟩
 .refine A3 (Y [2] [] sr ?_);refine Aj (Aa sr ?_);have f:k=s.length:=sO h1
  rw[f,Bb]at g;have u:((1:Int)<=s.length)=(1<=s.length):=by simp;omega
  have o:((s.length:Int)<=8)=(s.length<=8):=by simp;omega
  simp[Amb,g,u,o]
def Qj:Nat->List (List UInt8)->List UInt8->List (List UInt8)×Nat×Bool
 |0,done,_=>(done,0,false)
 |n+1,done,a=>
  if(Lib.cut a [46]).2.2=false then(done++[(Lib.cut a [46]).1]++List.replicate n [],done.length+1,true)
  else Qj n (done++[(Lib.cut a [46]).1]) (Lib.cut a [46]).2.1
def Bcy(p:List (List UInt8)×Nat×Bool):V:=.tup [.agg (Oc p.1),.i p.2.1,.bool p.2.2]
def Ayn(s a:List UInt8):(Lib.cut s a).2.1.length<=s.length/\(Lib.cut s a).1.length<=s.length:=by
 unfold Lib.cut
 split
 .simp only[C8,D6];omega
 .simp
def Ary:∀(n:Nat)(done:List (List UInt8))(a:List UInt8),(Qj n done a).1.length=done.length+n
 |0,done,a=>by simp[Qj]
 |n+1,done,a=>by
  rw[Qj]
  split
  .simp
  .rw[Ary n];simp;omega
def Bhx:∀(l:List α),l.length=5->∃a b c d e,l=[a,b,c,d,e]
 |[a,b,c,d,e],_=>⟨a,b,c,d,e,rfl⟩
def Aoy(g:List UInt8)(hs:g.length<=1000):Jp gv prog 166 [.str g] (λr=>r=Bcy (Qj 5 [] g)):=by
 refine Bp func166 λw0 N0 hG=>?_;refine Y [0,2] [2] sr (Y [0,2,5] [2,5] sr (J (Y [0,2,5,10] [2,5] sr (Ad ?_))))
 refine Gn (λp:List (List UInt8)×List UInt8×Nat=>[(0,.str p.2.1),(10,.i p.1.length)]) (λp=>[(5,⟨3,5,300,[.agg (Oc (p.1++List.replicate (5-p.1.length) []))]⟩)]) (λp=>p.2.2)
  (λp=>p.1.length<=5/\p.2.1.length<=1000/\Qj (5-p.1.length) p.1 p.2.1=Qj 5 [] g) (λp=>5-p.1.length) ([],g,_) ⟨by simp,hs,rfl⟩ Z ?_
 rintro⟨done,cd,nx⟩⟨hd,ah,l⟩;simp only at hd ah l;have s:(Oc (done++List.replicate (5-done.length) [])).length=5:=by simp;omega
 by_cases af:done.length<5
 .obtain⟨n,hn⟩:∃n,5-done.length=n+1:=⟨4-done.length,by omega⟩;rw[hn]at l s|-;rw[Qj]at l;have hc:=Bcx cd [46] om;have m:=Ayn cd [46];have w:(Oc (done++List.replicate (n+1) [])).take done.length=Oc done:=sm
  have t:(Oc (done++List.replicate (n+1) [])).drop (done.length+1)=Oc (List.replicate n []):=by
   have e:Oc (done++List.replicate (n+1) [])=Oc done++(V.str []::Oc (List.replicate n [])):=by simp[Gm]
   have hl:done.length+1=(Oc done++[V.str []]).length:=sm;have e2:Oc done++(V.str []::Oc (List.replicate n []))=(Oc done++[V.str []])++Oc (List.replicate n []):=sm;rw[e,e2,hl,X0]
  generalize Lib.cut cd [46]=ct at hc l m;have⟨i,tl,more⟩:=ct;simp only at hc l m;obtain⟨k,hk⟩:∃k,done.length=k:=⟨_,rfl⟩;have x:Oc (done++[i]++List.replicate n [])=Oc done++ .str i::Oc (List.replicate n []):=sm;generalize ai:Oc (done++List.replicate (n+1) [])=av at s w t|-;rw[hk]at w t af hn|-;have ag:(k:Int)<5:=om;have aa:=A4 (k:=k) om;have ab:k<=4:=om;have u:av.take k++ .str i::av.drop (k+1)=Oc (done++[i]++List.replicate n []):=by rw[w,t,x]
  have j:more=false->Bcy (Qj 5 [] g)=.tup [.agg (Oc (done++[i]++List.replicate n [])),.i (k+1:Nat),.bool true]:=λh=>by
   rw[<-l,Ab h,Bcy,hk]
  have z:more≠false->Qj n (done++[i]) tl=Qj 5 [] g:=λh=>by rw[I h]at l;exact l
  have ad:(done++[i]++List.replicate n []).length=5:=by simp;omega
  have⟨a,b,c,d,f,y⟩:=Bhx _ ad;rw[y]at u j;simp only[Oc,Br,Ci]at u j;refine Y [0,2,5,10,11] [2,5] sr (J (Aff ?_));refine J (Ad (Y [0,2,5,6,10] [2,5] sr (Au 1 sr ?_)));refine Dw hG hc func217 ?_;refine Ak [2,5,6,7,8,9,10] [2,5] sr (Y [2,5,6,8,9,10] [2,5] (by simp[ag,s,ab,u]<;>rfl) (J (Y [2,5,6,8,10,23] [2,5] sr ?_)))
  refine A1 (λh2=>?_) λh2=>?_
  .refine Y [2,3,4] [2] C1 ?_;refine Aj (Aa sr ?_);rw[j (sG h2)];have o:((k+1:Nat):Int)=(k:Int)+1:=om;rw[o]
  refine A6 [0,2,5,10] [2,5] sr (A6 [0,2,5,10] [2,5] C1 ?_)
  refine⟨(done++[i],tl,nx+1+2+9+4+2+2+2),⟨by simp;omega,by simp only;omega,?_⟩,by simp;omega,?_⟩
  .simp only[Aq,Ax,Bg,hk];rw[show 5-(k+(0+1))=n by omega];exact z (sG h2)
  .have o:((k+1:Nat):Int)=(k:Int)+1:=om;have ae:5-(k+1)=n:=om;simp only[Aq,Ax,Bg,hk,Dn,o,ae,y,Oc,Br,Ci];exact Z
 .have h5:done.length=5:=om;obtain⟨a,b,c,d,f,rfl⟩:=Bhx _ h5;rw[h5,F4,Qj]at l;refine Y [0,2,5,10,11] [2,5] sr (J (Nf ?_));refine A3 ?_;refine Y [2,3,4] [2] sr ?_;refine Aj (Aa sr ?_);rw[<-l];rfl
def Ahy:∀(n:Nat)(done:List (List UInt8))(c:List UInt8),(∀x∈done,x.length<=1000)->c.length<=1000->∀x∈(Qj n done c).1,x.length<=1000
 |0,done,c,h,_=>by simpa[Qj]using h
 |n+1,done,c,h,hc=>by
  have d:=Ayn c [46];rw[Qj]
  split
  .intro x a
   rcases Cc.1 a with a|a
   .rcases Cc.1 a with a|a
    .exact h x a
    .simp at a;subst a;omega
   .have:=(List.mem_replicate.1 a).2;subst this;simp
  .refine Ahy n _ _ (λx a=>?_) om
   rcases Cc.1 a with a|a
   .exact h x a
   .simp at a;subst a;omega
def A6l:∀(n:Nat)(done:List (List UInt8))(a:List UInt8),(Qj n done a).2.1<=done.length+n
 |0,done,a=>by simp[Qj]
 |n+1,done,a=>by
  rw[Qj]
  split
  .simp
  .have:=A6l n (done++[(Lib.cut a [46]).1]) (Lib.cut a [46]).2.1;simp at this;omega
def Qk(a:List UInt8):Bool:=decide (a.length<=24)&&((Qj 5 [] a).2.2&&((Qj 5 [] a).1.take (Qj 5 [] a).2.1).all Amb)
def Aad(e:List UInt8):Jp gv prog 105 [.str e] (λr=>r=.bool (Qk e)):=by
 refine Bp func105 λw0 N0 hG=>?_;refine Y [0] [] sr (J (Y [0,10] [] sr ?_))
 refine A1 (λh1=>?_) λh1=>?_
 .refine Y [2] [] sr (Aj (Aa sr ?_));have:¬e.length<=24:=sO h1
  simp[Qk,this]
 have aj:e.length<=24:=sO h1
 have y:=Aoy e om;have o:=Ahy 5 [] e sm om;have hn:=A6l 5 [] e;have u:=Ary 5 [] e;have g:Qk e=((Qj 5 [] e).2.2&&((Qj 5 [] e).1.take (Qj 5 [] e).2.1).all Amb):=by simp[Qk,aj]
 generalize Qj 5 [] e=p at y o hn u g;have⟨A,n,ok⟩:=p;simp only[Bg,Dn]at o hn u g;rw[Bcy]at y;simp only at y;have⟨a,b,c,d,f,hA⟩:=Bhx A u;have ad:Oc A=[.str a,.str b,.str c,.str d,.str f]:=by rw[hA];rfl
 rw[ad]at y;refine Au 1 sr ?_;refine Dw hG y func166 ?_;refine Ak [3,4,5] [3] sr (J (Y [3,4,18] [3] sr ?_))
 refine A1 (λh2=>?_) λh2=>?_
 .refine Y [2] [] sr (Aj (Aa sr ?_));have:=sG h2
  simp[g,this]
 have ag:=sG h2
 rw[ag,Bool.true_and]at g;refine Bq 3 [3,4] [] sr ?_;have ah:(n:Int)<=5:=om;refine J (Y [20,21,22] [] C1 ?_);have s:List.take n [V.str a,.str b,.str c,.str d,.str f]=Oc (A.take n):=by rw[<-ad];simp[Oc]
 have ai:(A.take n).length=n:=by simp;omega
 have m:=λ(k:Nat)(h:k<(A.take n).length)=>(show Gz (Oc (A.take n)) k=some (.str (A.take n)[k])by rw[C0,Oc,Bj,Ah h];rfl)
 have ab:∀x∈A.take n,x.length<=1000:=λx hx=>o x (Da hx)
 have w:(Oc (A.take n)).length=n:=by simp;omega
 have af:min n 5=n:=om;simp only[s,af];generalize A.take n=sl at g ai m ab w|-;generalize Oc sl=sv at m w|-;refine Ad (Ho 22 (λk=>(sl.take k).all Amb=true) n sm ?_);intro k nx hk hI;refine Y [20,21,22,23] [] sr (J ?_)
 refine Bk (λh3=>?_) λh3=>?_
 .have t:k<sl.length:=by simp at h3;omega
  have z:k<sv.length:=om;have ga:=m k t;have hw:=A4 (k:=k) om;have ae:=Av (l:=sl) (i:=k) t;have j:=As t;have aa:=Aft sl[k] (ab _ j);generalize sl[k]=x at ga ae j aa;refine J (Ad (Y [7,20,21,22] [] (by simp[ga,z]<;>rfl) (Au 1 sr ?_)));refine Ef aa func167 rfl kr rfl rfl rfl rfl rfl sr ?_;refine Ak [20,21,22,28] [] sr ?_
  refine A1 (λh4=>?_) λh4=>?_
  .refine Y [2] [] sr ?_;refine Aj (Aa sr ?_);have:=Kc.2 ⟨x,j,by simpa using h4⟩;rw[g,this]
  refine A6 [20,21,22] [] C1 ?_;exact⟨by omega,by rw[ae,F5,hI];simp;simpa using h4,_,Z⟩
 .refine A3 ?_;refine Y [2] [] sr ?_;refine Aj (Aa sr ?_);have ak:k=sl.length:=sO h3
  rw[ak,Bb]at hI;rw[g,hI]
def A1z(t:TypeId)(cs:List V):Bh (.ifc t (.agg cs)) (.dm t cs):=by
 refine⟨λw N x c=>?_,λ_=>rfl⟩;cases c with
 |ifc _ y _ _ e=>cases e with
  |agg xs _ f d a=>exact .dm t xs cs f d a
def Arz(r:Ru):TypeId:=
 if r.kind=1 then 280 else if r.kind=2 then 282 else if r.kind=3 then 283 else if r.kind=4 then 284 else if r.kind=5 then 286 else if r.kind=6 then 288 else if r.kind=7 then 290 else if r.kind=8 then 291 else 293
def Ahz(r:Ru):List V:=
 if r.kind=1 then [.i r.mn,.i r.mx,.fc 153 [] [.rp r.v],.str r.code]
 else if r.kind=2 then [.i r.mn,.i r.mx,.fn 156]
 else if r.kind=3 then [.i r.mn,.i r.mx,.fn 157]
 else if r.kind=4 then [.i r.mn,.i r.mx,.fn 158]
 else if r.kind=5 then [.i r.mn,.i r.mx,.fc 159 [] [.rp r.v],.i r.n]
 else if r.kind=6 then [.i r.mn,.i r.mx,.i r.n]
 else if r.kind=7 then [.i r.n]
 else if r.kind=8 then [.i r.n]
 else []
def Aae(r:Ru):V:=.dm (Arz r) (Ahz r)
def Ad6(a b:Int):AE 405 [.agg [.i a,.i b]] (.i (Ahx a b)):=by
 unfold Ahx;refine Ai func405 λw0 N0=>?_;refine Y [1] [1] sr (J (A5 [20] sr ?_))
 refine L3 [2] (J (Y [25] [] sr ?_))
 exact Tl [2] [2]
def Aga(n:Int):AE 58 [.i n] (.bool (Y3 n)):=by
 refine Ai func58 λw0 N0=>?_;exact Y [0] [] sr (Y [2] [] sr (Bv sr (by simp[Y3])))
def Ki(b:Bool):Int:=if b=true then 1 else 0
def Ww(b:Bool):AE 154 [.bool b] (.i (Ki b)):=by
 unfold Ki;refine Ai func154 λw0 N0=>?_;refine Y [0] [] sr (J (Y [3] [] sr ?_))
 exact Tl [2] [2]
def Bcz:U9 prog 280 "examboard/blueprint.check" 4 409 0 4:=by
 intro xs w e
 match xs,e with
 |[a,b,c,d],_=>show _ =_;kernel_rfl
def Bc0:U9 prog 282 "examboard/blueprint.check" 3 405 0 2:=by
 intro xs w d
 match xs,d with
 |[a,b,c],_=>show _ =_;kernel_rfl
def Bc1:U9 prog 283 "examboard/blueprint.check" 3 405 0 2:=by
 intro xs w d
 match xs,d with
 |[a,b,c],_=>show _ =_;kernel_rfl
def Bc2:U9 prog 284 "examboard/blueprint.check" 3 405 0 2:=by
 intro xs w d
 match xs,d with
 |[a,b,c],_=>show _ =_;kernel_rfl
def Bc3:U9 prog 286 "examboard/blueprint.check" 4 414 0 4:=by
 intro xs w e
 match xs,e with
 |[a,b,c,d],_=>show _ =_;kernel_rfl
def Bc4:U9 prog 288 "examboard/blueprint.check" 3 417 0 3:=by
 intro xs w d
 match xs,d with
 |[a,b,c],_=>show _ =_;kernel_rfl
def Bc5:U9 prog 290 "examboard/blueprint.check" 1 423 0 1:=by
 intro xs w c
 match xs,c with
 |[a],_=>show _ =_;kernel_rfl
def Bc6:U9 prog 291 "examboard/blueprint.check" 1 433 0 1:=by
 intro xs w c
 match xs,c with
 |[a],_=>show _ =_;kernel_rfl
def Bc7:U9 prog 293 "examboard/blueprint.check" 0 439 0 0:=by
 intro xs w a
 match xs,a with
 |[],_=>show _ =_;kernel_rfl
def Bhy(a b:Int)(f:V)(c:List UInt8):Jp gv prog 409 [.agg [.i a,.i b,.fc 153 [] [.rp f],.str c]] (λr=>r=.i (if Qk c=false then 2 else Ahx a b)):=by
 have d:=Aad c;generalize Qk c=q at d|-;refine Bp func409 λw0 N0 g=>?_;refine Y [1] [1] sr (J (Au 2 sr ?_));refine Dw g d func105 ?_;refine Ak [1,6] [1] sr ?_
 refine L3 [2] (Au 3 sr ?_);refine Aw (Ad6 a b) func405 ?_;exact Ak [2] [] sr (Aj (Aa sr rfl))
def Bhz(a b n:Int)(d:V):AC prog 414 [.agg [.i a,.i b,.fc 159 [] [.rp d],.i n]] (λr=>r=.i (if n<1\/10<n then 3 else Ahx a b)):=by
 refine Ai func414 λw0 N0=>?_;refine Y [1] [1] sr (J (Y [1,10] [1] sr ?_))
 refine L3 [2] (Au 3 sr ?_);refine Aw (Ad6 a b) func405 ?_;exact Ak [2] [] sr (Aj (Aa sr rfl))
def Bh0(a b n:Int):AC prog 417 [.agg [.i a,.i b,.i n]] (λr=>r=.i (if Y3 n=false\/a=0 then 3 else Ahx a b)):=by
 have c:=Aga n;generalize Y3 n=q at c|-;refine Ai func417 λw0 N0=>?_;refine Y [1] [1] sr (J (Au 2 sr ?_));refine Aw c func58 ?_;refine Ak [1,12] [1] sr ?_
 refine L3 [2] (Au 2 sr ?_);refine Aw (Ad6 a b) func405 ?_;exact Ak [2] [] sr (Aj (Aa sr rfl))
def Bh1(n:Int):AE 423 [.agg [.i n]] (.i (if Y3 n=false then 3 else 0)):=by
 have a:=Aga n;generalize Y3 n=q at a|-;refine Ai func423 λw0 N0=>?_;refine Y [1] [1] sr (J (Au 2 sr ?_));refine Aw a func58 ?_;refine Ak [6] [] sr ?_
 exact Tl [2] [2]
def Bh2(n:Int):AE 433 [.agg [.i n]] (.i (if Y3 n=false then 3 else 0)):=by
 have a:=Aga n;generalize Y3 n=q at a|-;refine Ai func433 λw0 N0=>?_;refine Y [1] [1] sr (J (Au 2 sr ?_));refine Aw a func58 ?_;refine Ak [6] [] sr ?_
 exact Tl [2] [2]
def Bh3:AE 439 [.agg []] (.i 0):=by
 refine Ai func439 λw0 N0=>?_;exact Y [] [] sr (A5 [2] sr (Bv sr rf))
def Aoz(r:Ru):Int:=
 if r.kind=1 then(if Qk r.code=false then 2 else Ahx r.mn r.mx)
 else if r.kind=2\/r.kind=3\/r.kind=4 then Ahx r.mn r.mx
 else if r.kind=5 then(if r.n<1\/10<r.n then 3 else Ahx r.mn r.mx)
 else if r.kind=6 then(if Y3 r.n=false\/r.mn=0 then 3 else Ahx r.mn r.mx)
 else if r.kind=7\/r.kind=8 then(if Y3 r.n=false then 3 else 0)
 else 0
def Amc{r:Ru}(h:r.fits=true):r.kind=1\/r.kind=2\/r.kind=3\/r.kind=4\/r.kind=5\/r.kind=6\/r.kind=7\/r.kind=8\/r.kind=9:=by
 unfold Ru.fits at h
 (repeat' split at h)<;>first|omega|cases h
def Aaf{r:Ru}(h:r.fits=true):r.known:=by
 have:=Amc h;unfold Ru.known;omega
def Bc8(r:Ru)(h:r.known):ICQ gv prog (Aae r) "examboard/blueprint.check" [] (λx=>x=.i (Aoz r)):=by
 unfold Aae Arz Ahz Aoz;have a:r.kind=1\/r.kind=2\/r.kind=3\/r.kind=4\/r.kind=5\/r.kind=6\/r.kind=7\/r.kind=8\/r.kind=9:=by unfold Ru.known at h;omega
 rcases a with e|e|e|e|e|e|e|e|e<;>simp only[e,if_true,if_false,Int.reduceEq,or_false,or_true]
 .exact⟨280,_,409,_,0,4,.inl rfl,Bcz,func409,rfl,by kernel_rfl,Bhy _ _ _ _⟩
 .exact⟨282,_,405,_,0,2,.inl rfl,Bc0,func405,rfl,by kernel_rfl,(Ad6 _ _).q gv⟩
 .exact⟨283,_,405,_,0,2,.inl rfl,Bc1,func405,rfl,by kernel_rfl,(Ad6 _ _).q gv⟩
 .exact⟨284,_,405,_,0,2,.inl rfl,Bc2,func405,rfl,by kernel_rfl,(Ad6 _ _).q gv⟩
 .exact⟨286,_,414,_,0,4,.inl rfl,Bc3,func414,rfl,by kernel_rfl,(Bhz _ _ _ _).q gv⟩
 .exact⟨288,_,417,_,0,3,.inl rfl,Bc4,func417,rfl,by kernel_rfl,(Bh0 _ _ _).q gv⟩
 .exact⟨290,_,423,_,0,1,.inl rfl,Bc5,func423,rfl,by kernel_rfl,(Bh1 _).q gv⟩
 .exact⟨291,_,433,_,0,1,.inl rfl,Bc6,func433,rfl,by kernel_rfl,(Bh2 _).q gv⟩
 .exact⟨293,_,439,_,0,0,.inl rfl,Bc7,func439,rfl,by kernel_rfl,Bh3.q gv⟩
variable {d i j n:Nat}{x:Int}
def Ml(g:Gr):AC prog 55 [g.v] (λr=>r=.i (L5 g)):=by
 have⟨a,c⟩:=g;show AC _ _ [.agg [.ro 1 (Ap a),.ro 1 (Ap c)]] _
 have hp:∀(k:Nat)(h:k<a.length),Gz (Ap a) k=some (.i a[k]):=λk h=>Fr h
 have hq:∀(k:Nat)(h:k<c.length),Gz (Ap c) k=some (.i c[k]):=λk h=>Fr h
 have t:=A0 a;have lq:=A0 c;unfold L5;simp only;generalize Ap a=pv at hp t|-;generalize Ap c=w at hq lq|-;refine Ai func55 λw0 N0=>?_;refine Y [1] [1] sr (J (Y [1,9] [1] sr ?_))
 refine Co (λh1=>?_) λh1=>D9 ?_
 .exact Y [2] [] sr (Aj (Aa sr (by rw[Ab (sO h1)])))
 rw[I (sO h1)];refine J (Y [1,13] [1] sr ?_)
 refine Co (λh2=>?_) λh2=>D9 ?_
 .exact Y [2] [] sr (Aj (Aa sr (by rw[Ab (by rw[<-t];simpa using h2)])))
 rw[I (by rw[<-t];simpa using h2)];refine J (Y [1,20] [1] sr ?_)
 refine A1 (λh3=>?_) λh3=>?_
 .exact Y [2] [] sr (Aj (Aa sr (by rw[Ab (sO h3)])))
 have ae:c.length=a.length:=sO h3
 have ad:a.length<=21:=sO h1
 rw[I oM];refine J (Y [1,22,23,24] [1] sr (Ad (H4 (λk nx=>⟨[(1,.bp 1 0 2 0 0),(22,.ro 1 pv),(23,.i a.length),(24,.i k)],[(1,⟨0,2,27,[.agg [.ro 1 pv,.ro 1 w]]⟩)],nx,71⟩) (λk=>Tm (a.drop k) (c.drop k)=Tm a c) a.length _ sm (by rw[t];exact Z) ?_)));intro k nx hk i;refine Y [1,22,23,24,25] [1] sr (J ?_)
 refine Co (λu=>D9 ?_) λu=>?_
 .have d:k<a.length:=by simp at u;omega
  have e:k<pv.length:=om;have s:k<w.length:=om;have j:=hp k d;have o:=hq k om;have hw:=A4 (k:=k) om;have f:=Arq (l:=a) (m:=c) d om;generalize a[k]=p at j f;generalize c[k]=q at o f;refine J (Ad (Y [1,3,4,22,23,24] [1] (by simp[j,e]<;>rfl) (Y [1,22,23,24,50] [1] (by simp[o,s]<;>rfl) ?_)))
  refine Co (λz=>?_) λz=>D9 ?_
  .refine Y [2] [] sr (Aj (Aa sr ?_));have:Ahs p q=true:=by simp[Ahs]at z|-;omega
   rw[Ab (by rw[<-i,f,this];rfl)]
  refine A6 [1,22,23,24] [1] C1 ?_;have:Ahs p q=false:=by simp[Ahs]at z|-;omega
  exact⟨d,by rw[<-i,f,this];rfl,_,Z⟩
 .have ab:k=a.length:=by simp at u;omega
  rw[I (by rw[<-i,ab,Cl];simp[Tm])];refine A3 (J (Y [1,5] [1] sr (Ad (H5 (λk=>[(5,.i ((k:Int)+1))]) (λ_=>[]) (λk=>Wq (a.drop k)=Wq a) a.length sm Z ?_))));intro k nx hk i;refine J (Y [1,5,56] [1] sr ?_)
  refine Bk (λh6=>?_) λh6=>?_
  .have d:k+1<a.length:=by simp at h6;omega
   have e:(k:Int)+1<(pv.length:Int):=om;have n:(k:Int)<(pv.length:Int):=om;have aa:(0:Int)<=(k:Int)+1:=om;have x:((k:Int)+1).toNat=k+1:=om;have j:=hp k om;have o:=hp (k+1) d;have hw:IntKind.i64.wrap ((k:Int)+1+1)=(k:Int)+1+1:=Bm om om;have Sk:IntKind.i64.wrap (k:Int)=(k:Int):=Bm om om;have f:=Avq (l:=a) (k:=k) d;generalize a[k]=p at j f;generalize a[k+1]=q at o f;refine J (Ad (I3 [0,1,2,1,5,1,7,2,1,1,3,2,6,1,9,3] [1,5,70] [1] sr (by simp[j,o,Sk,e,n,aa,x]<;>rfl) ?_))
   refine A1 (λh7=>?_) λh7=>?_
   .refine Y [2] [] sr ?_;refine Aj (Aa sr ?_);have:decide (p<q)=false:=by simp at h7|-;omega
    rw[Ab (by rw[<-i,f,this];rfl)]
   refine A6 [1,5] [1] (by simp[hw]<;>rfl) ?_;have:decide (p<q)=true:=by simp at h7|-;omega
   exact⟨by omega,by rw[<-i,f,this];simp,_,Z⟩
  .refine A3 ?_;refine Y [2] [] sr ?_;refine Aj (Aa sr ?_);have y:a.length<=k+1:=sO h6
   rw[I (by rw[<-i,A1o y];simp)]
def Rx(x:Int):Pv x 1=.tup [(nR x).v,.bool true]:=by
 have:mkRat (x*G8 1) (1:Int).natAbs=(x:Rat):=by
  show mkRat (x*1) 1=_
  rw[Int.mul_one,Rat.mkRat_one]
 rw[Pv,I dc,this]
def Q4(h1: -18446744073709551616<=x)(h2:x<=18446744073709551616):Q2 (x:Rat)<=3:=by
 have:=Mk h1 h2;have hd:(B0 (x:Rat).den).length<=3:=by rw[Rat.den_intCast,Aor];decide
 rw[Q2,Rat.num_intCast];omega
def Vc{z:Int}(h:d≠0)(h1:Pd z<=k)(h2:(B0 d).length<=k):Q2 (mkRat z d)<=k:=by
 have e:sgn (decide (z<0)) z.natAbs=z:=by unfold sgn;split<;>rename_i h<;>simp at h<;>omega
 have:=Ad2 (b:=decide (z<0)) (n:=z.natAbs) h h1 h2
 rwa[e]at this
def Mm{y:Int}(h1:Pd x<=i)(h2:Pd y<=j):Pd (x*y)<=i+j:=by
 rw[Pd,Sh];exact Oq h1 h2
def Yl(h:(B0 n).length<=k):Pd (n:Int)<=k:=by rw[Pd,Ew];exact h
def Agb{q:Rat}(h:Q2 q<=k):Pd q.num<=k:=by unfold Q2 at h;omega
def Ym{q:Rat}(h:Q2 q<=k):(B0 q.den).length<=k:=by unfold Q2 at h;omega
def Ao0{a b:Rat}(h1:Q2 a<=i)(h2:Q2 b<=j):Q2 (a+b)<=i+j+1:=by
 rw[Rat.add_def'];refine Vc (J1 a.den_nz b.den_nz) ?_ (Ae (Oq (Ym h1) (Ym h2)) om);exact Vb (Mm (Agb h1) (Yl (Ym h2))) (Ae (Mm (Agb h2) (Yl (Ym h1))) om)
def Ayo{a b:Rat}(h1:Q2 a<=i)(h2:Q2 b<=j):Q2 (a*b)<=i+j:=by
 rw[Rat.mul_def'];exact Vc (J1 a.den_nz b.den_nz) (Mm (Agb h1) (Agb h2)) (Oq (Ym h1) (Ym h2))
def Ayp{a b:Rat}(h1:Q2 a<=i)(h2:Q2 b<=j):Q2 (a-b)<=i+j+1:=by
 rw[Rat.sub_eq_add_neg];exact Ao0 h1 (by rw[Aow];exact h2)
def Bc9{a:Rat}(h:Q2 a<=i):Q2 (Ub a)<=i:=by
 unfold Ub;split
 .rw[Aow];exact h
 .exact h
def Ar0(p:Int)(hp: -1000<=p/\p<=1000)(q:RR)(c:q.ok 34359738368):AE 242 [.i p,q.v] ((nR (Ub (p-q.val))).v):=by
 have k:=Wu p 1 om om dc dc;rw[Rx]at k;have d:=Q4 (x:=p) om om;have h:(nR (p:Rat)).ok 68719476736:=N7 (Ae d dc);have hs:=Bcr (nR p) q h ⟨⟨c.num.1,Ae c.num.2 dc⟩,c.lim,Ae c.len dc⟩;have t:(nR ((p:Rat)-q.val)).ok 1099511627776:=N7 (Ae (Ayp d (RR.sz c dc)) dc);have g:=Bcv (nR ((p:Rat)-q.val)) t;rw[M5]at g hs;have e:=vRR q;have a:=Af q.num.mag;have f:=Af q.den;rw[e]at hs|-;clear e t;have⟨c1,l1,d1,j,i,o⟩:=L7 (p:Rat);have⟨c2,l2,d2,l,s,m⟩:=L7 ((p:Rat)-q.val);have⟨c3,l3,d3,n,u,w⟩:=L7 (Ub ((p:Rat)-q.val));rw[j]at k hs;rw[l]at hs g;rw[n]at g|-;generalize Az q.num.mag=qa at hs a|-;generalize Az q.den=qb at hs f|-;refine Ai func242 λw0 N0=>?_;refine Y [0,3,4] [3,4] sr (Au 1 sr ?_);refine Aw k func103 ?_;refine Ak [3,4,5] [3,4,5] sr (Au 2 sr ?_);refine Aw hs func272 ?_;refine Ge [4] [4] g func271 ?_;exact Bv sr rfl
variable {c:Nat}
def A6m{r:List Int}(h:r.length≠c):Ad3 c r=1:=by unfold Ad3;rw[Ab h]
def To(m:Mo)(n:Int):AE 106 [moV m,.i n] (.i (L6 m n)):=by
 have hn:=λ(k:Nat)(h:k<m.length)=>Ua h
 have hl:=Mj m;unfold moV L6;generalize Eo m=s at hn hl|-;refine Ai func106 λw0 N0=>?_;refine Y [1,2] [2] sr (J (Y [2,23] [2] sr ?_))
 refine A1 (λh1=>?_) λh1=>?_
 .exact Y [4] [] sr (Aj (Aa sr (by rw[Ab (sO h1)])))
 have ag:1<=n/\n<=21/\(m.length:Int)=n:=sO h1
 rw[I oM];have i:0<m.length:=om;have g0:=hn 0 i;have ae:0<s.length:=om
 have hc:Y1 m=m[0].length:=by
  cases m with
  |nil=>simp at i
  |cons r m=>rfl
 rw[hc];have li:=A0 m[0];generalize Ap m[0]=iv at g0 li;generalize ai:m[0].length=a at li|-;refine Y [2,5] [2] (by simp[g0,ae]<;>rfl) (J (A5 [34] sr ?_))
 refine A1 (λh2=>?_) λh2=>?_
 .exact Y [4] [] sr (Aj (Aa sr (by rw[Ab (sO h2)])))
 have af:2<=a/\a<=6:=sO h2
 rw[I oM];refine J (Y [5,36,37,38] [] sr (Ad (Ho 38 (λk=>M6 (Ad3 a) (m.drop k)=M6 (Ad3 a) m) m.length sm ?_)));intro k nx hk e;refine Y [5,36,37,38,39] [] sr (J ?_)
 refine Bk (λh3=>?_) λh3=>?_
 .have f:k<m.length:=by simp at h3;omega
  have g:k<s.length:=om;have gk:=hn k f;have hw:=A4 (k:=k) om;rw[Pt _ f]at e;generalize m[k]=r at gk e;have hr:=λ(j:Nat)(h:j<r.length)=>Fr h
  have lr:=A0 r;generalize Ap r=rv at gk hr lr;refine J (Ad (Y [5,7,36,37,38] [] (by simp[gk,g]<;>rfl) (J (A5 [45] sr ?_))))
  refine A1 (λw=>?_) λw=>?_
  .refine Y [4] [] sr ?_;refine Aj (Aa sr ?_);have:Ad3 a r=1:=A6m (sO w);rw[<-e,Ab (by rw[this];decide),this]
  have ah:r.length=a:=sO w
  refine Y [5,7,8,36,37,38] [] sr (J (Y [5,8,36,37,38,46,47,48] [] sr (Ad ?_)))
  refine Gn (λt:Nat×Nat×Int=>[(8,.i t.2.2),(48,.i (t.1:Nat))]) (λ_=>[]) (λt=>t.2.1)
   (λt=>t.1<=r.length/\0<=t.2.2/\t.2.2<=1000*t.1/\(r.drop t.1).any Akp=r.any Akp/\t.2.2+Ako (r.drop t.1)=Ako r) (λt=>r.length-t.1) (0,_,0) ⟨by simp,by simp,by simp,by simp,by simp⟩ (by rw[lr];exact Z) ?_
  rintro⟨j,aj,sm⟩⟨i1,i2,i3,c,l⟩;simp only at i1 i2 i3 c l|-;refine Y [5,8,36,37,38,46,47,48,49] [] sr (J ?_)
  refine Bk (λh5=>?_) λh5=>?_
  .have y:j<r.length:=by simp at h5;omega
   have ab:j<rv.length:=om;have gj:=hr j y;have u:=A4 (k:=j) om;rw[A58 _ y]at c;rw[A1p y]at l;generalize r[j]=x at gj c l;refine J (Ad (Y [5,8,10,36,37,38,46,47,48] [] (by simp[gj,ab]<;>rfl) (J (A5 [57] sr ?_))))
   refine A1 (λh6=>?_) λh6=>?_
   .refine Y [4] [] sr ?_;refine Aj (Aa sr ?_);have o:Akp x=true:=by simp[Akp]at h6|-;omega
    have:Ad3 a r=3:=by unfold Ad3;rw[I om,Ab (by rw[<-c,o];rfl)]
    rw[<-e,Ab (by rw[this];decide),this]
   have o:Akp x=false:=by simp[Akp]at h6|-;omega
   have hx:1<=x/\x<=1000:=by simp[Akp]at o;omega
   have z:IntKind.i64.wrap (sm+x)=sm+x:=Bm om om;refine A6 [5,8,36,37,38,46,47,48] [] (by simp[z]<;>rfl) (Cs [] (by simp[u]<;>rfl) ?_);exact⟨(j+1,_,sm+x),⟨by simp only;omega,by simp only;omega,by simp only;omega,by rw[<-c,o];rfl,by simp only;omega⟩,by simp only;omega,Z⟩
  .refine A3 ?_;have aa:j=r.length:=sO h5
   rw[aa,Cl]at c l;simp only[List.any_nil,Ako]at c l;refine Y [5,36,37,38,63] [] sr ?_
   have d:Ad3 a r=if Ako r≠1000 then 19 else 0:=by
    unfold Ad3;rw[I om,I (by rw[<-c];decide)]
   refine A1 (λh7=>?_) λh7=>?_
   .refine Y [4] [] sr ?_;refine Aj (Aa sr ?_);have:Ad3 a r=19:=by rw[d,Ab (sO h7)]
    rw[<-e,Ab (by rw[this];decide),this]
   have:Ad3 a r=0:=by rw[d,I (sO h7)]
   refine A6 [5,36,37,38] [] (by simp[hw]<;>rfl) ?_;exact⟨f,by rw[<-e,this];rfl,_,Z⟩
 .refine A3 ?_;refine Y [4] [] sr ?_;refine Aj (Aa sr ?_);have ad:k=m.length:=sO h3
  rw[<-e,ad,Cl];rfl
def Ao1(m:Mo):AC prog 62 [moV m] (λr=>r=.i (Y1 m:Nat)):=by
 have i:=λ(k:Nat)(h:k<m.length)=>Ua h
 have l:=Mj m;unfold moV
 by_cases e:0<m.length
 .have d:=i 0 e
  have j:Y1 m=m[0].length:=by
   cases m with
   |nil=>simp at e
   |cons r m=>rfl
  rw[j];have g:=A0 m[0];generalize Ap m[0]=iv at d g;generalize Eo m=f at d l|-;have a:0<f.length:=om;have c:f≠[]:=by intro h;rw[h]at a;simp at a
  refine Ai func62 λw0 N0=>?_;refine Y [1] [1] sr (J (Y [1,6] [1] sr ?_));refine Ce ?_;exact Y [2] [] (by simp[d,a]<;>rfl) (Aj (Aa sr (by rw[g])))
 .have:m=[]:=by cases m with
   |nil=>rfl
   |cons r m=>simp at e
  subst this;refine Ai func62 λw0 N0=>?_;refine Y [1] [1] C1 (J (Y [1,6] [1] sr ?_));refine Ek ?_;exact Y [2] [] sr (Aj (Aa sr rf))
structure Pit where
 id:Int
 code:List UInt8
 fam:Int
 st:Int
 wo:Int
 se:Int
 pt:Int
 ky:Int
 m:Mo
def Pit.cs(p:Pit):List V:=[.i p.id,.str p.code,.i p.fam,.i p.st,.i p.wo,.i p.se,.i p.pt,.i p.ky,.ro 1 (Eo p.m)]
def Pit.v(p:Pit):V:=.agg p.cs
def C7(l:List Pit):List V:=l.map Pit.v
@[simp]def Er(l:List Pit):(C7 l).length=l.length:=by simp[C7]
def Jg{l:List Pit}(h:k<l.length):Gz (C7 l) k=some l[k].v:=by rw[C0];simp[C7,h]
def Cw(l:List Pit):(C7 l).all V.pureE=true:=by
 rw[Ao];intro x a;simp only[C7,Bc]at a;obtain⟨n,_,rfl⟩:=a;rfl
def Bk1(a c g d e f:Int):Bool:=
 (decide (a<0)||decide (9999999<a))||((decide (c<0)||decide (9999999<c))||((decide (g<0)||decide (2000<g))||((decide (d<1)||decide (2000<d))||((decide (e<1)||decide (5<e))||((decide (f<0)||decide (10<f)))))))
def Av0(n:Int)(p:Pit):Int:=
 if Qk p.code=false then 2 else if Bk1 p.fam p.st p.wo p.se p.pt p.ky=true then 3 else L6 p.m n
def Akq(p:Pit)(n:Int):Jp gv prog 59 [p.v,.i n] (λr=>r=.i (Av0 n p)):=by
 have g:=Aad p.code;have c:=To p.m n;have⟨id,code,d,l,u,o,t,s,m⟩:=p;unfold Av0 Bk1 Pit.v Pit.cs;simp only at g c|-;have ev:moV m=.agg [.ro 1 (Eo m)]:=rfl;have x:=D0 m;rw[ev]at c;generalize Eo m=mv at c x|-;generalize L6 m n=me at c|-;generalize Qk code=cv at g|-;refine Bp func59 λw0 N0 y=>?_;refine Y [1,2] [2] sr (J (Au 2 sr ?_));refine Dw y g func105 ?_;refine Ak [1,2,8] [2] sr ?_
 refine L3 [4] (J (Ad (J (Y [1,2,9] [2] sr ?_))))
 refine Bk (λh=>?_) λh=>?_
 .have e:(decide (d<0)||decide (9999999<d))=true:=sG h
  refine Ek ?_;exact Y [4] [] sr (Aj (Aa sr (by rw[Ab (by rw[e];rfl)])))
 have e:(decide (d<0)||decide (9999999<d))=false:=sG h
 refine Y [1,2,9] [2] sr ?_
 refine Bk (λh=>?_) λh=>?_
 .have f:(decide (l<0)||decide (9999999<l))=true:=sG h
  refine Ek ?_;exact Y [4] [] sr (Aj (Aa sr (by rw[Ab (by rw[e,f];rfl)])))
 have f:(decide (l<0)||decide (9999999<l))=false:=sG h
 refine Y [1,2,9] [2] sr ?_
 refine Bk (λh=>?_) λh=>?_
 .have i:(decide (u<0)||decide (2000<u))=true:=sG h
  refine Ek ?_;exact Y [4] [] sr (Aj (Aa sr (by rw[Ab (by rw[e,f,i];rfl)])))
 have i:(decide (u<0)||decide (2000<u))=false:=sG h
 refine Y [1,2,9] [2] sr ?_
 refine Bk (λh=>?_) λh=>?_
 .have j:(decide (o<1)||decide (2000<o))=true:=sG h
  refine Ek ?_;exact Y [4] [] sr (Aj (Aa sr (by rw[Ab (by rw[e,f,i,j];rfl)])))
 have j:(decide (o<1)||decide (2000<o))=false:=sG h
 refine Y [1,2,9] [2] sr ?_
 refine Bk (λh=>?_) λh=>?_
 .have k:(decide (t<1)||decide (5<t))=true:=sG h
  refine Ek ?_;exact Y [4] [] sr (Aj (Aa sr (by rw[Ab (by rw[e,f,i,j,k];rfl)])))
 have k:(decide (t<1)||decide (5<t))=false:=sG h
 refine A6 [1,2,9] [2] sr ?_
 refine A1 (λh=>?_) λh=>?_
 .have w:(decide (s<0)||decide (10<s))=true:=sG h
  exact Y [4] [] sr (Aj (Aa sr (by rw[Ab (by rw[e,f,i,j,k,w];rfl)])))
 have w:(decide (s<0)||decide (10<s))=false:=sG h
 rw[I (by rw[e,f,i,j,k,w];decide)];refine Au 3 sr ?_;refine Ge [4] [] c func106 ?_;exact Aj (Aa sr rfl)
def Uh(a:Int):List Int->Bool
 |[]=>true
 |x::r=>Y3 x&&decide (a<x)&&Uh x r
def Q5(l:List Pit):List Int:=l.map Pit.id
def Kh(l:List Pit)(n:Int):Int:=if 18<l.length then 5 else if Uh 0 (Q5 l)=false then 23 else M6 (Av0 n) l
def Ah0(l:List Int)(k:Nat):Int:=if k=0 then 0 else(l[k-1]?).getD 0
def A10{l:List Int}(h:k<l.length)(p:Int):Uh p (l.drop k)=(Y3 l[k]&&decide (p<l[k])&&Uh l[k] (l.drop (k+1))):=by
 rw[Bo h,Uh]
def Nh(l:List Pit)(n:Int):Jp gv prog 29 [.ro 9 (C7 l),.i n] (λr=>r=.i (Kh l n)):=by
 have hn:=λ(k:Nat)(h:k<l.length)=>Jg h
 have hl:=Er l;have ag:=λ(p:Pit)=>Akq p n
 unfold Kh;generalize C7 l=lv at hn hl|-;refine Bp func29 λw0 N0 hG=>?_;refine Y [0,1] [] sr (J (Y [0,1,12] [] sr ?_))
 refine A1 (λh1=>?_) λh1=>?_
 .exact Y [4] [] sr (Aj (Aa sr (by rw[Ab (sO h1)])))
 have ai:l.length<=18:=sO h1
 rw[I oM];refine J (Y [0,1,13,14,15] [] sr (Ad (H4 (λk nx=>⟨[(0,.ro 9 lv),(1,.i n),(13,.ro 9 lv),(14,.i l.length),(15,.i k)],[],nx,53⟩) (λk=>Uh (Ah0 (Q5 l) k) ((Q5 l).drop k)=Uh 0 (Q5 l)) l.length _ (by simp[Ah0]) (by rw[hl];exact Z) ?_)));intro k nx hk a;refine Y [0,1,13,14,15,16] [] sr (J ?_)
 refine Co (λh2=>D9 ?_) λh2=>?_
 .have d:k<l.length:=by simp at h2;omega
  have j:k<lv.length:=om;have gk:=hn k d;have hw:=A4 (k:=k) om;have ah:(Q5 l).length=l.length:=by simp[Q5]
  rw[A10 oM]at a;have aa:(Q5 l)[k]'(by omega)=l[k].id:=by simp[Q5]
  have e:Ah0 (Q5 l) (k+1)=l[k].id:=by
   unfold Ah0;rw[I om,show k+1-1=k by omega,Ah om,aa];rfl
  rw[aa]at a;have g:=Aga l[k].id;have er:l[k].v=.agg [.i l[k].id,.str l[k].code,.i l[k].fam,.i l[k].st,.i l[k].wo,.i l[k].se,.i l[k].pt,.i l[k].ky,.ro 1 (Eo l[k].m)]:=rfl;rw[er]at gk;have i:Y3 l[k].id=true->0<l[k].id:=λh=>by simp[Y3]at h;omega
  generalize Y3 l[k].id=nb at g a i;generalize l[k].id=ab,l[k].code=x1,l[k].fam=x2,l[k].st=x3,l[k].wo=x4,l[k].se=x5,l[k].pt=x6,l[k].ky=x7,Eo l[k].m=x8 at*;refine J (Ad (Y [0,1,5,6,13,14,15] [6] C1 ?_));have t:IntKind.i64.wrap (-1)= -1:=Bm om om
  rcases Eu k with rfl|aj
  .cases nb with
   |false=>
    refine J (H0 [(0,[]),(1,[]),(2,[]),(3,[]),(4,[]),(5,[]),(6,[]),(7,[]),(8,[]),(10,[]),(11,[]),(12,[]),(13,[]),(14,[]),(9,[]),(15,[]),(16,[]),(17,[]),(18,[])] Jt kr ?_);refine B8 2 sr ?_;refine D7 (λhg=>g) func58 rfl kr rfl rfl sr rfl rfl sr sm sr ?_;refine B8 8 sR ?_;refine C5 [0,1,13,14,15,38] [] C1 ?_;refine Lq rfl (λf=>?_) sA;refine Y [4] [] sr ?_;refine Aj (Aa sr ?_);rw[Ab (by rw[<-a];rfl)]
   |true=>
    have ad:0<ab:=i rfl;refine J (H0 [(0,[]),(1,[]),(2,[]),(3,[]),(4,[]),(5,[]),(6,[]),(7,[]),(8,[]),(10,[]),(11,[]),(12,[]),(13,[]),(14,[]),(9,[]),(15,[]),(16,[]),(17,[]),(18,[])] Jt kr ?_);refine B8 2 sr ?_;refine D7 (λhg=>g) func58 rfl kr rfl rfl sr rfl rfl sr sm sr ?_;refine B8 8 sR ?_;refine C5 [0,1,13,14,15,38] [] C1 ?_;refine Lq rfl sA λf=>D9 (A6 [0,1,13,14,15] [] sR ?_);exact⟨d,by rw[<-a,e];simp[Ah0,ad],_,Z⟩
  .have s:(0:Int)<(k:Int):=om;have x:(1:Int)<=(k:Int):=om;have y:IntKind.i64.wrap ((k:Int)-1)=(k:Int)-1:=Bm om om;have u:(0:Int)<=(k:Int)-1:=om;have w:(k:Int)-1<(lv.length:Int):=om;have o:((k:Int)-1).toNat=k-1:=om;have gp:=hn (k-1) om
   have af:Ah0 (Q5 l) k=l[k-1].id:=by
    unfold Ah0;rw[I om,Ah oM];simp[Q5]
   rw[af]at a;have ep:l[k-1].v=.agg [.i l[k-1].id,.str l[k-1].code,.i l[k-1].fam,.i l[k-1].st,.i l[k-1].wo,.i l[k-1].se,.i l[k-1].pt,.i l[k-1].ky,.ro 1 (Eo l[k-1].m)]:=rfl;rw[ep]at gp;generalize l[k-1].id=ip at*;cases nb with
   |false=>
    refine J (H6 [0,9,10,5,9,1,15,4] sr ?_);refine B8 2 sr ?_;refine D7 (λhg=>g) func58 rfl kr rfl rfl sr rfl rfl sr sm sr ?_;refine B8 8 sR ?_;refine C5 [0,1,13,14,15,38] [] (by simp[y,w,o,x,gp]<;>rfl) ?_;refine Ek ?_;refine Y [4] [] sr ?_;refine Aj (Aa sr ?_);rw[Ab (by rw[<-a];rfl)]
   |true=>
    refine J (H6 [0,9,10,5,9,1,15,4] sr ?_);refine B8 2 sr ?_;refine D7 (λhg=>g) func58 rfl kr rfl rfl sr rfl rfl sr sm sr ?_;refine B8 8 sR ?_;refine C5 [0,1,13,14,15,38] [] (by simp[y,w,o,x,gp]<;>rfl) ?_
    refine A1 (λf=>?_) λf=>?_
    .have ak:ab<=ip:=by simp at f;omega
     refine Y [4] [] sr ?_;refine Aj (Aa sr ?_);rw[Ab (by rw[<-a];simp;intro h;omega)]
    have ae:ip<ab:=sO f
    refine A6 [0,1,13,14,15] [] (by simp[hw]<;>rfl) ?_;exact⟨d,by rw[<-a,e];simp[ae],_,Z⟩
 .refine A3 ?_;have z:k=l.length:=sO h2
  have ah:(Q5 l).length=l.length:=by simp[Q5]
  rw[z,Hs oM]at a;rw[I (by rw[<-a];simp[Uh])];refine J (Y [1,40,41,42] [] sr (Ad (Ho 42 (λk=>M6 (Av0 n) (l.drop k)=M6 (Av0 n) l) l.length sm ?_)));clear a z hk;intro k nx hk a;refine Y [1,40,41,42,43] [] sr (J ?_)
  refine Bk (λh4=>?_) λh4=>?_
  .have d:k<l.length:=by simp at h4;omega
   have j:k<lv.length:=om;have gk:=hn k d;have hw:=A4 (k:=k) om;rw[Pt _ d]at a;have c:=ag l[k];have er:l[k].v=.agg [.i l[k].id,.str l[k].code,.i l[k].fam,.i l[k].st,.i l[k].wo,.i l[k].se,.i l[k].pt,.i l[k].ky,.ro 1 (Eo l[k].m)]:=rfl;have pm:=D0 l[k].m;rw[er]at gk c;generalize Av0 n l[k]=pe at c a;generalize Eo l[k].m=mv at gk c pm;refine J (Ad (Y [1,8,40,41,42] [8] (by simp[gk,j]<;>rfl) (Au 2 sr ?_)));refine Jk [1,9,40,41,42] [] hG c func59 ?_;refine Y [1,9,40,41,42,50] [] sr ?_
   refine A1 (λh5=>?_) λh5=>?_
   .exact Y [4] [] sr (Aj (Aa sr (by rw[<-a,Ab (sG h5)])))
   refine A6 [1,40,41,42] [] (by simp[hw]<;>rfl) ?_;exact⟨d,by rw[<-a,I (sG h5)],_,Z⟩
  .refine A3 ?_;refine Y [4] [] sr ?_;refine Aj (Aa sr ?_);have z:k=l.length:=sO h4
   rw[<-a,z,Cl];rfl
@[simp]def Bmd:Ds prog 293=some (.agg []):=by kernel_rfl
def Amd(r:Ru):V:=
 if r.kind=1 then .dm 280 [.i r.mn,.i r.mx,.fc 153 [] [.rp r.v],.str r.code]
 else if r.kind=2 then .ifc 282 (.agg [.i r.mn,.i r.mx,.fn 156])
 else if r.kind=3 then .ifc 283 (.agg [.i r.mn,.i r.mx,.fn 157])
 else if r.kind=4 then .ifc 284 (.agg [.i r.mn,.i r.mx,.fn 158])
 else if r.kind=5 then .dm 286 [.i r.mn,.i r.mx,.fc 159 [] [.rp r.v],.i r.n]
 else if r.kind=6 then .ifc 288 (.agg [.i r.mn,.i r.mx,.i r.n])
 else if r.kind=7 then .ifc 290 (.agg [.i r.n])
 else if r.kind=8 then .ifc 291 (.agg [.i r.n])
 else if r.kind=9 then .ifc 293 (.agg [])
 else .nili
def Ar1{r:Ru}(h:r.known):Bh (Amd r) (Aae r):=by
 have a:r.kind=1\/r.kind=2\/r.kind=3\/r.kind=4\/r.kind=5\/r.kind=6\/r.kind=7\/r.kind=8\/r.kind=9:=by unfold Go.Eng.Limb.Ru.known at h;omega
 unfold Amd Aae Arz Ahz;rcases a with e|e|e|e|e|e|e|e|e<;>simp only[e,if_true,if_false,Int.reduceEq]<;>first|exact Bh.refl _ |exact A1z _ _
def A6n{r:Ru}(h:¬r.known):Amd r=.nili:=by
 unfold Go.Eng.Limb.Ru.known at h;unfold Amd
 (repeat' split)<;>first|rfl|omega
def Aca(r:Ru):AC prog 100 [r.v] (λx=>x=.tup [Amd r,.bool r.fits]):=by
 have⟨k,n,a,b,c⟩:=r;unfold Amd Ru.fits Ru.v Ru.cs;simp only;refine Ai func100 λw0 N0=>?_;refine Y [1] [1] sr (Bq 1 [1] [] sr (Y [1,4] [4] sr ?_));refine I3 [0,1,3,1,6,1,9,1,1,2,12,1,4,2,13,1,7,2,14,1,10,2,15,1] [1,4,5,6,7,8] [4] sr sr (J (Y [1,4,5,6,7,8,32] [4] sr (Ad (Y [1,4,5,6,7,8,32,33] [4] sr ?_))))
 refine Co (λh1=>?_) λh1=>?_
 .have e:=sG h1
  subst e;exact Y [1,4,5,9] [4] sr (Y [2,3] [] sr (Aj (Aa sr sm)))
 refine Y [1,4,5,6,7,8,32,44] [4] sr ?_
 refine Co (λh2=>?_) λh2=>?_
 .have e:=sG h2
  subst e;exact Y [4,5,6,8,10] [4] sr (Y [2,3] [] sr (Aj (Aa sr sm)))
 refine Y [1,4,5,6,7,8,32,58] [4] sr ?_
 refine Co (λd=>?_) λd=>?_
 .have e:=sG d
  subst e;exact Y [4,5,6,8,11] [4] sr (Y [2,3] [] sr (Aj (Aa sr sm)))
 refine Y [1,4,5,6,7,8,32,72] [4] sr ?_
 refine Co (λg=>?_) λg=>?_
 .have e:=sG g
  subst e;exact Y [4,5,8,12] [4] sr (Y [2,3] [] sr (Aj (Aa sr sm)))
 refine Y [1,4,5,6,7,8,32,83] [4] sr ?_
 refine Co (λl=>?_) λl=>?_
 .have e:=sG l
  subst e;exact Y [1,4,8,13] [4] sr (Y [2,3] [] sr (Aj (Aa sr sm)))
 refine Y [1,4,5,6,7,8,32,94] [4] sr ?_
 refine Co (λh=>?_) λh=>?_
 .have e:=sG h
  subst e;exact Y [2,3] [] sr (Aj (Aa sr sm))
 refine Y [1,5,6,7,8,32,102] [] sr ?_
 refine Co (λj=>?_) λj=>?_
 .have e:=sG j
  subst e;exact Y [2,3] [] sr (Aj (Aa sr sm))
 refine Y [1,5,6,7,8,32,115] [] sr ?_
 refine Co (λi=>?_) λi=>?_
 .have e:=sG i
  subst e;exact Y [2,3] [] sr (Aj (Aa sr sm))
 refine Y [5,6,7,8,128] [] sr ?_
 refine A1 (λf=>?_) λf=>?_
 .have e:=sG f
  subst e;exact Y [2,3] [] sr (Aj (Aa sr sm))
 refine Y [2,3] [] sr ?_;have e1:=sG h1
 have w:=sG h2
 have t:=sG d
 have u:=sG g
 have m:=sG l
 have s:=sG h
 have z:=sG j
 have o:=sG i
 have y:=sG f
 exact Aj (Aa sr Gi)
def Afh{r:Ru}(h:r.known):AC prog 100 [r.v] (λx=>x=.tup [.dm (Arz r) (Ahz r),.bool r.fits]):=
 (Aca r).relax (Bh.tup (.cons (Ar1 h) (.cons (Bh.refl _) .nil)))
def Ar2{r:Ru}(h:¬r.known):AC prog 100 [r.v] (λx=>x=.tup [.nili,.bool false]):=by
 have:=Aca r;rw[A6n h]at this
 have a:r.fits=false:=by
  cases hh:r.fits with
  |false=>rfl
  |true=>exact absurd (Aaf hh) h
 rwa[a]at this
def Hw(l:List Ru):List V:=l.map Ru.v
@[simp]def Ui(l:List Ru):(Hw l).length=l.length:=by simp[Hw]
def Wx{l:List Ru}(h:k<l.length):Gz (Hw l) k=some l[k].v:=by rw[C0];simp[Hw,h]
def Dm(l:List Ru):(Hw l).all V.pureE=true:=by
 rw[Ao];intro x a;simp only[Hw,Bc]at a;obtain⟨n,_,rfl⟩:=a;rfl
def Ame(r:Ru):Int:=if r.fits=false then 1 else Aoz r
def Uj(len:Int)(rs:List Ru):Int:=if len<1\/18<len then 3 else if 20<rs.length then 5 else M6 Ame rs
def Ry(len:Int)(rs:List Ru):V:=.agg [.i len,.ro 5 (Hw rs)]
def Zn(len:Int)(rs:List Ru):Jp gv prog 54 [Ry len rs] (λr=>r=.i (Uj len rs)):=by
 have y:=λ(k:Nat)(h:k<rs.length)=>Wx h
 have z:=Ui rs;unfold Ry Uj;generalize Hw rs=u at y z|-;refine Bp func54 λw0 N0 hG=>?_;refine Y [1] [1] sr (J (Y [1,15] [1] sr ?_))
 refine L3 [2] (J (Y [1,19] [1] sr ?_))
 refine A1 (λh2=>?_) λh2=>?_
 .exact Y [2] [] sr (Aj (Aa sr (by rw[Ab (sO h2)])))
 have w:=sO h2
 rw[I om];refine J (Y [21,22,23] [] sr (Ad (H4 (λk nx=>⟨[(21,.ro 5 u),(22,.i rs.length),(23,.i k)],[],nx,40⟩) (λk=>M6 Ame (rs.drop k)=M6 Ame rs) rs.length _ sm (by rw[z];exact Z) ?_)));intro k nx hk g;refine Y [21,22,23,24] [] sr (J ?_)
 refine Bk (λs=>?_) λs=>?_
 .have i:k<rs.length:=by simp at s;omega
  have f:k<u.length:=om;have m:=y k i;have hw:=A4 (k:=k) om;rw[Pt Ame i]at g;generalize rs[k]=r at m g;have x:r.v=.agg [.i r.kind,.i r.n,.i r.mn,.i r.mx,.str r.code]:=rfl;have a:Ame r=if r.fits=false then 1 else Aoz r:=rfl
  by_cases d:r.known
  case neg=>
   have c:=Ar2 d
   have hf:r.fits=false:=by
    cases hh:r.fits with
    |false=>rfl
    |true=>exact absurd (Aaf hh) d
   rw[x]at m c;rw[Ab hf]at a;refine J (Ad (Y [4,21,22,23] [4] (by simp[m,f]<;>rfl) (Au 1 sr ?_)));refine Aw c func100 ?_;refine Ak [5,6,21,22,23] [] sr ?_;refine J (Y [5,21,22,23,33] [] sr ?_);refine Ek ?_;refine Y [2] [] sr ?_;refine Aj (Aa sr ?_);rw[<-g,Ab (by rw[a];decide),a]
  have c:=Afh d;have l:=Bc8 r d;rw[x]at m c;unfold Aae at l;generalize Arz r=dt at c l;generalize Ahz r=dc at c l;generalize Aoz r=ce at l a;generalize r.fits=fb at c a;refine J (Ad (Y [4,21,22,23] [4] (by simp[m,f]<;>rfl) (J (Cb (C3 1 sr ?_)))));refine Aw c func100 ?_;refine Ak [5,6,21,22,23] [] sr ?_;refine J (Y [5,21,22,23,33] [] sr ?_)
  refine Co (λj=>?_) λj=>D9 ?_
  .refine Y [2] [] sr ?_;refine Aj (Aa sr ?_);have e:=sG j
   subst e;rw[Ab rfl]at a;rw[<-g,Ab (by rw[a];decide),a]
  have e:=sG j
  subst e;rw[I dC]at a;refine J (Cb (C3 1 sr ?_));refine Al3 hG l sm rfl rfl sr sr sm sr ?_;refine Ak [7,21,22,23] [] sr ?_;refine Y [7,21,22,23,37] [] sr ?_
  refine Co (λo=>?_) λo=>D9 ?_
  .refine Y [2] [] sr ?_;refine Aj (Aa sr ?_);rw[<-g,a,Ab (sG o)]
  refine A6 [21,22,23] [] C1 ?_;exact⟨i,by rw[<-g,a,I (sG o)],_,Z⟩
 .refine A3 ?_;refine Y [2] [] sr ?_;refine Aj (Aa sr ?_);have t:k=rs.length:=sO s
  rw[<-g,t,Cl];rfl
variable {w:List Nat}
def Ks(w:List Nat)(m:Nat):Prop:=∀x∈w,(B0 x).length<=m
def Av1{p:Int}(h: -1000<=p/\p<=1000):Pd p<=1:=E7 (m:=1) om
def Ao2(h:Ks w 1000):∀k,k<=w.length->Pd (Gj (w.take k):Int)<=1000+k
 |0,_=>by simp[Gj,Pd,Ep]
 |k+1,hk=>by
  rw[Yk om,Du];have:=Vb (Ao2 h k om) (Ae (Yl (h w[k] (As om))) (by omega:1000<=1000+k));omega
def Ao3{l:List Int}(h:Ks w 1000)(hp:∀p∈l,-1000<=p/\p<=1000)(c:w.length=l.length):∀k,k<=w.length->Pd (Nq (l.take k) (w.take k))<=1001+k
 |0,_=>by simp[Nq,Pd,Ep]
 |k+1,hk=>by
  rw[Al8 om oM];have:=Vb (Ao3 h hp c k om) (Ae (Mm (Yl (h w[k] (As om))) (Av1 (hp l[k] (As om)))) (by omega:1000+1<=1001+k));omega
def Ao4{l:List Int}(h:Ks w 1000)(hp:∀p∈l,-1000<=p/\p<=1000)(d:w.length=l.length):∀k,k<=w.length->Pd (Tn (l.take k) (w.take k))<=1002+k
 |0,_=>by simp[Tn,Pd,Ep]
 |k+1,hk=>by
  have a:=Av1 (hp l[k] (As om));rw[Al9 om oM];have:=Vb (Ao4 h hp d k om) (Ae (Mm (Mm (Yl (h w[k] (As om))) a) a) (by omega:1000+1+1<=1002+k));omega
def Bk2(n:Nat):sgn false n=(n:Int):=rfl
def Ayq(g:Gr)(w:List Nat)(hg:L5 g=0)(s:w.length=g.pts.length)(hw:Ks w 1000)(h0:Gj w≠0):
  AE 240 [g.v,.ro 1 (B9 w)] (.tup [(nI (Gj w)).v,(nI (Nq g.pts w)).v,(nI (Tn g.pts w)).v,.i 0]):=by
 have hv:=Ml g;rw[hg]at hv;obtain⟨aj,ag,ai,l,-,-⟩:=Kn hg;have⟨pts,m⟩:=g;simp only at s aj ag ai l|-;have ev:(Gr.mk pts m).v=.agg [.ro 1 (Ap pts),.ro 1 (Ap m)]:=rfl;rw[ev]at hv|-;have z0:=Ao2 hw;have z1:=Ao3 hw l s;have z2:=Ao4 hw l s;have hp:∀(k:Nat)(h:k<pts.length),Gz (Ap pts) k=some (.i pts[k]):=λk h=>Fr h
 have hq:∀(k:Nat)(h:k<w.length),Gz (B9 w) k=some (.ro 1 (Gx w[k])):=λk h=>Li h
 have lp:=A0 pts;have lq:=Ib w;have pp:=Ac pts;have pq:=Ac m;have pw:=Bx w;have t:=Ab7 (nI (Gj w)) (Ct _);rw[I9,Avs]at t;have ab:G8 (Gj w)=1:=by unfold G8;rw[I om,Ab oM]
 rw[ab]at t;simp only[Avs];generalize Ap pts=pv at hp lp hv pp|-;generalize Ap m=qv at hv pq|-;generalize B9 w=wv at hq lq pw|-;refine Ai func240 λw0 N0=>?_;refine Y [1,2,4,5,6] [2,4,5,6] sr (J (Au 1 sr ?_));refine Ge [1,2,4,5,6,8] [2,4,5,6] hv func55 ?_;refine A5 [20] sr ?_;refine Ce (J (Y [1,2,4,5,6,30] [2,4,5,6] sr ?_));refine Ce (Y [1,2,4,5,6,9,10,11] [2,4,5,6,9,10,11] sr ?_);refine N3 9 1 109 1 164 [1,2,4,5,6,9,10,11] [2,4,5,6,9,10,11,109] sr ?_;refine Bq 109 [1,2,4,5,6,9,10,11] [2,4,5,6,9,10,11] sr ?_;refine N3 10 1 109 1 164 [1,2,4,5,6,9,10,11] [2,4,5,6,9,10,11,109] sr ?_;refine Bq 109 [1,2,4,5,6,9,10,11] [2,4,5,6,9,10,11] sr ?_;refine N3 11 1 109 1 164 [1,2,4,5,6,9,10,11] [2,4,5,6,9,10,11,109] sr ?_;refine Bq 109 [1,2,4,5,6,9,10,11] [2,4,5,6,9,10,11] sr (J (Y [1,4,5,6,9,10,11,35,36,37] [4,5,6,9,10,11] sr (Ad ?_)))
 refine H4 (λk nx=>⟨[(1,V.ro 1 wv),(4,V.bp 4 1 2 0 0),(5,V.bp 5 2 2 0 0),(6,V.bp 6 3 2 0 0),(9,V.bp 9 16 2 0 0),(10,V.bp 10 17 2 0 0),(11,V.bp 11 18 2 0 0),(35,V.ro 1 pv),(36,V.int IntKind.i64 pts.length),(37,V.int IntKind.i64 k)],
  [(4,{v:=1,sz:=2,ty:=32,es:=[V.agg [V.bool false,V.nils]]}),(5,{v:=2,sz:=2,ty:=32,es:=[V.agg [V.bool false,V.nils]]}),(6,{v:=3,sz:=2,ty:=32,es:=[V.agg [V.bool false,V.nils]]}),
   (9,{v:=16,sz:=2,ty:=32,es:=[V.agg [V.bool (nIb (Gj (w.take k))),V.ro 1 (nIl (Gj (w.take k)))]]}),(10,{v:=17,sz:=2,ty:=32,es:=[V.agg [V.bool (nIb (Nq (pts.take k) (w.take k))),V.ro 1 (nIl (Nq (pts.take k) (w.take k)))]]}),
   (11,{v:=18,sz:=2,ty:=32,es:=[V.agg [V.bool (nIb (Tn (pts.take k) (w.take k))),V.ro 1 (nIl (Tn (pts.take k) (w.take k)))]]})],nx,73⟩) (λk=>True) pts.length 26 trivial ?_ ?_
 .rw[lp];simp only[Kw,Gj,Nq,Tn,Int.natCast_zero,A59,A6a];exact Z
 intro k nx hk _;refine Y [1,4,5,6,9,10,11,35,36,37,38] [4,5,6,9,10,11] sr (J ?_)
 refine Bk (λh3=>?_) λh3=>?_
 .have j:k<pts.length:=by simp at h3;omega
  have y:k<pv.length:=om;have aa:k<wv.length:=om;have a:k<w.length:=om;have gp:=hp k j;have gq:=hq k a;have ah:=A4 (k:=k) om;have y0:=z0 k om;have y1:=z1 k om;have y2:=z2 k om;have e0:=Yk a;have e1:=Al8 j a;have e2:=Al9 j a;have ae:=hw w[k] (As a);have ad:=l pts[k] (As j);generalize pts[k]=p at gp ad e1 e2;generalize w[k]=x at gq ae e0 e1 e2;generalize Gj (w.take k)=s0 at y0 e0|-;generalize Nq (pts.take k) (w.take k)=s1 at y1 e1|-;generalize Tn (pts.take k) (w.take k)=s2 at y2 e2|-;have sp:=Av1 ad;have sx:=Yl ae;have c:=Kr false x om;have o:=Avy p om om;have n:=P9 (nI x) (nI p) (Hp om) (Hp om);have sm:=Mm sx sp;have f:=Ab8 (nI s0) (nI x) (Hp om) (Hp om);have i:=Ab8 (nI s1) (nI (x*p)) (Hp om) (Hp om);have e:=P9 (nI (x*p)) (nI p) (Hp om) (Hp om);have al:=Mm sm sp;have d:=Ab8 (nI s2) (nI (x*p*p)) (Hp om) (Hp om);rw[Bk2]at c;simp only[I9,Avs]at c o n f i e d;change AC _ _ [.bool false,.ro 1 (Gx x)] _ at c;have u:∀z:Int,(nIl z).all V.pureE=true:=Ws;have pn:=F7 x;refine J (Ad (Y [1,4,5,6,9,10,11,12,13,35,36,37] [4,5,6,9,10,11] (by simp[gp,y]<;>rfl) (Au 4 (by simp[gq,aa]<;>rfl) ?_)));refine Ge [1,4,5,6,9,10,11,13,14,35,36,37] [4,5,6,9,10,11,14] c func215 ?_;refine Au 1 sr ?_;refine Aw o func162 ?_;refine Ak [1,4,5,6,9,10,11,14,15,35,36,37] [4,5,6,9,10,11,14,15] sr ?_;refine Au 2 sr ?_;refine Ge [1,4,5,6,9,10,11,14,15,16,35,36,37] [4,5,6,9,10,11,14,15,16] n func164 ?_;refine Au 2 sr ?_;refine Ge [1,4,5,6,9,10,11,15,16,35,36,37] [4,5,6,9,10,11,15,16] f func270 ?_;refine Au 2 sr ?_;refine Ge [1,4,5,6,9,10,11,15,16,35,36,37] [4,5,6,9,10,11,15,16] i func270 ?_;refine H6 [0,6] sr ?_;refine B8 3 sr ?_;refine B1 (λhg=>e) func164 ?_;refine B1 (λhg=>d) func270 ?_;refine C5 [1,4,5,6,9,10,11,35,36,37] [4,5,6,9,10,11] sr ?_;refine Cs [] C1 ?_;exact⟨j,trivial,_,by simp only[e0,e1,e2,Du];exact Z⟩
 .refine A3 ?_;have ak:k=pts.length:=sO h3
  subst ak;have ew:w.take pts.length=w:=Ba om;have ep:pts.take pts.length=pts:=Ba om;simp only[ew,ep];refine J (Au 1 sr ?_);refine Ge [4,5,6,9,10,11,66] [4,5,6,9,10,11] t func102 ?_;refine Ce (J (Af4 (.take 0 [] (.alt 1 (.alt 2 (.take 3 [] (.take 4 [] (.take 5 [] (.take 6 [] .done)))) (.alt 3 (.alt 2 (.take 4 [] (.take 5 [] (.take 6 [] .done))) (.alt 4 (.take 2 [] (.take 5 [] (.take 6 [] .done))) .stop)) .stop)) (.alt 2 (.alt 1 (.take 3 [] (.take 4 [] (.take 5 [] (.take 6 [] .done)))) (.alt 3 (.take 1 [] (.take 4 [] (.take 5 [] (.take 6 [] .done)))) .stop)) (.alt 3 (.take 1 [] (.alt 2 (.take 4 [] (.take 5 [] (.take 6 [] .done))) (.alt 4 (.take 2 [] (.take 5 [] (.take 6 [] .done))) .stop))) .stop)))) Jt kr ?_));refine U7 (L:=[4,5,6,7]) (M:=[4,5,6]) sr ?_;intro T hT;have af:=(show T=_ by simpa using hT);subst af;exact Bv C1 rfl
def Vd(x:Int)(h:n≠0):Pv x (n:Int)=.tup [(nR (mkRat x n)).v,.bool true]:=by
 have h1:G8 (n:Int)=1:=by unfold G8;rw[I om,Ab oM]
 rw[Pv,I om,h1,Int.mul_one,Ew]
def Qq(g:Gr)(w:List Nat):Rat:=mkRat (Nq g.pts w) (Gj w)
def Aag(g:Gr)(w:List Nat):Rat:=mkRat ((Gj w:Int)*Tn g.pts w-Nq g.pts w*Nq g.pts w) (Gj w*Gj w)
structure sumsOk(g:Gr)(w:List Nat):Prop where
 grid:L5 g=0
 len:w.length=g.pts.length
 sz:Ks w 1000
 pos:Gj w≠0
def sumsOk.sz0{g:Gr}(h:sumsOk g w):Pd (Gj w)<=1021:=by
 have:=Ao2 h.sz w.length (A2 _);rw[Bb]at this;have hl:=(Kn h.grid).len;have:=h.len;omega
def sumsOk.sz1{g:Gr}(h:sumsOk g w):Pd (Nq g.pts w)<=1022:=by
 have:=Ao3 h.sz (Kn h.grid).pts h.len w.length (A2 _);rw[Bb,Ba (by have:=h.len;omega)]at this;have hl:=(Kn h.grid).len;have:=h.len;omega
def sumsOk.sz2{g:Gr}(h:sumsOk g w):Pd (Tn g.pts w)<=1023:=by
 have:=Ao4 h.sz (Kn h.grid).pts h.len w.length (A2 _);rw[Bb,Ba (by have:=h.len;omega)]at this;have hl:=(Kn h.grid).len;have:=h.len;omega
def Ad7(h:Pd (n:Int)<=k):(B0 n).length<=k:=by rwa[Pd,Ew]at h
def A6o{g:Gr}(h:sumsOk g w):Q2 (Qq g w)<=1022:=Vc h.pos h.sz1 (Ae (Ad7 h.sz0) dc)
def Bda(g:Gr)(w:List Nat)(h:sumsOk g w):AE 181 [g.v,.ro 1 (B9 w)] (.tup [(nR (Qq g w)).v,.i 0]):=by
 have c:=Ayq g w h.grid h.len h.sz h.pos;have a:=Ab9 (nI (Nq g.pts w)) (nI (Gj w)) (Hp (Ae h.sz1 dc)) (Hp (Ae h.sz0 dc));rw[I9,I9,Vd _ h.pos]at a;change AC _ _ _ (λr=>r=.tup [(nR (Qq g w)).v,.bool true])at a;simp only[Avs,Y2]at c a|-;have k:=Ws;have e:=Jl (Qq g w);have d:=Jm (Qq g w);have ev:g.v=.agg [.ro 1 (Ap g.pts),.ro 1 (Ap g.pri)]:=rfl;rw[ev]at c|-;have i:=Bx w;have f:=Ac g.pts;have j:=Ac g.pri;generalize B9 w=wv at c i|-;generalize Ap g.pts=pv at c f|-;generalize Ap g.pri=qv at c j|-;generalize nRb (Qq g w)=mb at a|-;generalize nRl (Qq g w)=ml at a e|-;generalize nRd (Qq g w)=md at a d|-;refine Ai func181 λw0 N0=>?_;refine Y [1,2,4] [2,4] sr (Au 2 sr ?_);refine Ge [4,6,7,9] [4,6,7] c func240 ?_;refine J (A5 [21] sr ?_);refine Ce (Au 2 sr ?_);refine Ge [4,10] [4,10] a func161 ?_;refine Y [4,5] [4] sr ?_;exact Bv C1 rfl
def Ar3(g:Gr)(w:List Nat)(h:sumsOk g w):AE 293 [g.v,.ro 1 (B9 w)] (.tup [(nR (Aag g w)).v,.i 0]):=by
 have c:=Ayq g w h.grid h.len h.sz h.pos;have m:=h.sz0;have n:=h.sz1;have k2:=h.sz2;have f:=P9 (nI (Gj w)) (nI (Tn g.pts w)) (Hp om) (Hp om);have d:=P9 (nI (Nq g.pts w)) (nI (Nq g.pts w)) (Hp om) (Hp om);have e:=P9 (nI (Gj w)) (nI (Gj w)) (Hp om) (Hp om);have m1:=Mm m k2;have m2:=Mm n n;have m3:=Mm m m;simp only[I9]at f d e;have i:=Bcp (nI ((Gj w:Int)*Tn g.pts w)) (nI (Nq g.pts w*Nq g.pts w)) (Hp om) (Hp om)
 have m4:Pd ((Gj w:Int)*Tn g.pts w-Nq g.pts w*Nq g.pts w)<=3000:=by
  rw[Sg];have:=Vb (k:=2044) (x:=(Gj w:Int)*Tn g.pts w) (y:= -(Nq g.pts w*Nq g.pts w)) om (by rw[Pd,O7];exact m2);omega
 have a:=Ab9 (nI ((Gj w:Int)*Tn g.pts w-Nq g.pts w*Nq g.pts w)) (nI ((Gj w:Int)*Gj w)) (Hp om) (Hp om);simp only[I9]at i a;rw[<-Fq,Vd _ (J1 h.pos h.pos)]at a;rw[Fq]at a;change AC _ _ _ (λr=>r=.tup [(nR (Aag g w)).v,.bool true])at a;simp only[Avs,Y2]at c a f d e i|-;have j:=Ws;have s:=Jl (Aag g w);have o:=Jm (Aag g w);have ev:g.v=.agg [.ro 1 (Ap g.pts),.ro 1 (Ap g.pri)]:=rfl;rw[ev]at c|-;have u:=Bx w;have t:=Ac g.pts;have z:=Ac g.pri;generalize B9 w=wv at c u|-;generalize Ap g.pts=pv at c t|-;generalize Ap g.pri=qv at c z|-;generalize nRb (Aag g w)=mb at a|-;generalize nRl (Aag g w)=ml at a s|-;generalize nRd (Aag g w)=md at a o|-;refine Ai func293 λw0 N0=>?_;refine Y [1,2,4] [2,4] sr (Au 2 sr ?_);refine Ge [4,6,7,8,9] [4,6,7,8] c func240 ?_;refine J (A5 [22] sr ?_);refine Ce (J (H0 [(0,[10]),(1,[10]),(2,[]),(3,[10]),(4,[10]),(5,[]),(6,[]),(7,[]),(8,[])] Jt kr ?_));refine B8 2 sr (B1 (λl=>f) func164 ?_);refine B8 2 sr ?_;refine B1 (λl=>d) func164 ?_;refine B1 (λl=>i) func327 ?_;refine C5 [4,6,10] [4,6,10] sr ?_;refine J (H0 [(0,[11]),(1,[11]),(2,[11]),(3,[]),(4,[]),(5,[]),(6,[]),(7,[]),(8,[]),(9,[]),(10,[])] Jt kr ?_);refine B8 3 sr ?_;refine B1 (λl=>e) func164 ?_;refine B1 (λl=>a) func161 ?_;refine C5 [4,11] [4,11] sr ?_;refine Y [4,5] [4] sr ?_;exact Bv C1 rfl
def Bdb(g:Gr)(hg:L5 g=0)(q:Rat)(hq:Q2 q<=34359738368):AE 182 [g.v,(nR q).v] (.tup [.i (Ahu g.pts q:Nat),.i 0]):=by
 have f:=Ml g;rw[hg]at f;obtain⟨ai,m,-,hpt,-,-⟩:=Kn hg;have c:=λ(p:Int)(hp: -1000<=p/\p<=1000)=>Ar0 p hp (nR q) (N7 hq)
 simp only[M5]at c;have z:∀p:Int,-1000<=p/\p<=1000->Q2 (Ub (p-q))<=34359738372:=λp hp=>Bc9 (Ayp (Q4 (x:=p) om om) hq)
 have i:=λ(a b:Rat)(ha:Q2 a<=34359738372)(hb:Q2 b<=34359738372)=>S4 (nR a) (nR b) (N7 (Ae ha dc)) (N7 (Ae hb dc))
 simp only[M5]at i;have⟨pts,n⟩:=g;simp only at ai m hpt|-;have ev:(Gr.mk pts n).v=.agg [.ro 1 (Ap pts),.ro 1 (Ap n)]:=rfl;rw[ev]at f|-;have hp:∀(k:Nat)(h:k<pts.length),Gz (Ap pts) k=some (.i pts[k]):=λk h=>Fr h
 have lp:=A0 pts;have pp:=Ac pts;have pq:=Ac n;simp only[Y2]at c i|-;have p1:=Jl;have p2:=Jm;generalize Ap pts=pv at hp lp f pp|-;generalize Ap n=qv at f pq|-;have g0:=hp 0 m;have o:=hpt _ (As m);have af:=c _ o
 have s:Ahu pts q=Uc q (pts.drop 1) 1 0 (Ub (pts[0]-q)):=by
  cases pts with
  |nil=>simp at m
  |cons p r=>rfl
 have ah:0<pv.length:=om;refine Ai func182 λw0 N0=>?_;refine Y [2,3] [2,3] sr (J (Au 1 sr ?_));refine Ge [2,3,6] [2,3] f func55 ?_;refine A5 [14] sr ?_;refine Ce (Y [2,3,7] [2,3] sr (J (H0 [(0,[]),(1,[8]),(2,[]),(3,[8]),(4,[8]),(5,[]),(6,[]),(7,[])] Jt kr ?_)));refine B8 5 C1 ?_;refine B1 (λhg=>af) func242 ?_;refine C5 [2,3,7,8] [2,3,8] sr ?_;refine J (A5 [9] sr (Ad ?_))
 refine If (λt:Nat×Nat×Rat×Nat=>⟨[(2,V.bp 2 0 2 0 0),(3,V.bp 3 1 3 0 0),(7,V.int IntKind.i64 (t.2.1:Nat)),(8,V.bp 8 16 3 0 0),(9,V.int IntKind.i64 ((t.1:Nat):Int))],
  [(2,{v:=0,sz:=2,ty:=27,es:=[V.agg [V.ro 1 pv,V.ro 1 qv]]}),(3,{v:=1,sz:=3,ty:=34,es:=[V.agg [V.bool (nRb q),V.ro 1 (nRl q),V.ro 1 (nRd q)]]}),(8,{v:=16,sz:=3,ty:=34,es:=[V.agg [V.bool (nRb t.2.2.1),V.ro 1 (nRl t.2.2.1),V.ro 1 (nRd t.2.2.1)]]})],t.2.2.2,43⟩)
  (λt=>1<=t.1/\t.1<=pts.length/\Q2 t.2.2.1<=34359738372/\Uc q (pts.drop t.1) t.1 t.2.1 t.2.2.1=Ahu pts q) (λt=>pts.length-t.1) (1,0,Ub (pts[0]-q),19) ⟨by simp,by simp only;omega,(z _ o),s.symm⟩ Z ?_
 rintro⟨k,b,d,nx⟩⟨i1,i2,i3,j⟩;simp only at i1 i2 i3 j|-;refine J (Y [2,3,7,8,9,26] [2,3,8] sr ?_)
 refine Bk (λh2=>?_) λh2=>?_
 .have w:k<pts.length:=by simp at h2;omega
  have ab:k<pv.length:=om;have gp:=hp k w;have ad:=A4 (k:=k) om;have l:=hpt _ (As w);rw[Avr q w]at j;generalize pts[k]=p at gp l j;have aa:=c p l;have u:=z p l;have y:=i _ d u i3;generalize Ub (p-q)=e at aa u y j;refine J (Ad (J (H0 [(0,[]),(2,[]),(1,[10]),(3,[]),(4,[10]),(5,[10]),(6,[]),(7,[]),(8,[])] Jt kr ?_)));refine B8 6 (by simp[gp,ab]<;>rfl) ?_;refine B1 (λhg=>aa) func242 ?_;refine C5 [2,3,7,8,9,10] [2,3,8,10] sr ?_;refine Au 2 sr ?_;refine Ge [2,3,7,8,9,10,39] [2,3,8,10] y func104 ?_;have ae:Ot e d<0↔e<d:=by unfold Ot;by_cases h:e<d<;>simp[h];split<;>decide
  refine A1 (λh3=>?_) λh3=>?_
  .refine Ahm [0,1,2,1,1,1,3,1] [2,3,7,8,9] [2,3,8] sr sr ?_;refine Cs [] C1 ?_;rw[Ab (ae.1 (sG h3))]at j;exact⟨(k+1,k,e,_),⟨by simp,by simp only;omega,u,j⟩,by simp only;omega,Z⟩
  refine A6 [2,3,7,8,9] [2,3,8] C1 ?_;rw[I (λh=>by rw[<-ae]at h;simp at h3;omega)]at j;exact⟨(k+1,b,d,_),⟨by simp,by simp only;omega,i3,j⟩,by simp only;omega,Z⟩
 .refine A3 ?_;have aj:k=pts.length:=sO h2
  rw[aj,Cl]at j;simp only[Uc]at j;exact Y [4,5] [] sr (Bv sr (by rw[j]))
def Ve(q a:Rat):Bool:=decide (a<q)&&decide (q<=1)
def Ar4{a b:Rat}:0<Ot a b↔b<a:=by
 unfold Ot
 by_cases h:a<b
 .have c:¬b<a:=λh2=>Rat.not_lt.2 (Rat.le_of_lt h) h2
  simp[h,c]
 .by_cases h2:b<a<;>simp[h,h2]
def Ayr{a b:Rat}:Ot a b<=0↔a<=b:=by
 rw[<-Rat.not_lt,<-Ar4];omega
def Ar5(a:RR)(h:a.ok 137438953472)(x y:Int)(h1: -9223372036854775808<=x)(h2:x<9223372036854775808)(h3:0<y)(h4:y<9223372036854775808):
  AE 57 [a.v,.i x,.i y] (.bool (Ve a.val (mkRat x y.natAbs))):=by
 have hy:∃n:Nat,y=n/\n≠0:=⟨y.natAbs,by omega,by omega⟩;obtain⟨n,rfl,s⟩:=hy;rw[Ew];have g:=Wu x n h1 h2 om h4;have f:=Wu 1 1 dc dc dc dc;rw[Vd _ s]at g;rw[Rx]at f;have t:Q2 (mkRat x n)<=3:=Vc s (Mk om om) (Ad7 (Mk (z:=(n:Int)) om om));have e:=S4 a (nR (mkRat x n)) h (N7 (Ae t dc));have d:=S4 a (nR ((1:Int):Rat)) h (N7 (Ae (Q4 dc dc) dc));rw[M5]at e d;have e1:((1:Int):Rat)=1:=rfl;rw[e1]at f d;have k:=Ar4 (a:=a.val) (b:=mkRat x n);have m:=Ayr (a:=a.val) (b:=1)
 have o:Ve a.val (mkRat x n)=(decide (0<Ot a.val (mkRat x n))&&decide (Ot a.val 1<=0)):=by
  unfold Ve;simp only[k,m]
 rw[o];have u:=vRR a;have pa:=RR.vp a;rw[u]at e d pa|-;simp only[Y2]at g f e d;have w:=Jl;have l:=Jm;have i:=Af a.num.mag;have j:=Af a.den;generalize Ot a.val (mkRat x n)=z1 at e|-;generalize Ot a.val 1=z2 at d|-;generalize Az a.num.mag=am,Az a.den=ad at*;clear k m o u t;refine Ai func57 λw0 N0=>?_;refine Y [1,2,3] [3] sr (Au 2 sr ?_);refine Aw g func103 ?_;refine Ak [3,7] [3,7] sr (J (Cb (Aw f func103 ?_)));refine Ak [3,7,9] [3,7,9] sr (Au 2 sr ?_);refine Aw e func104 ?_;refine C3 4 sr (Gd (c:=decide (0<z1)) (λhg=>d) func104 ?_ (hg:=sm));exact Ak [6] [] sr (Bv sr sm)
def A9(l:List (Int×Int)):List V:=l.map λp=>.agg [.i p.1,.i p.2]
@[simp]def Eh(l:List (Int×Int)):(A9 l).length=l.length:=by simp[A9]
def Ix{l:List (Int×Int)}(h:k<l.length):Gz (A9 l) k=some (.agg [.i l[k].1,.i l[k].2]):=by rw[C0];simp[A9,h]
def A8(l:List (Int×Int)):(A9 l).all V.pureE=true:=by
 rw[Ao];intro x a;simp only[A9,Bc]at a;obtain⟨n,_,rfl⟩:=a;rfl
structure Po where
 len:Int
 rules:List Ru
 g:Gr
 en:List (Int×Int)
 mn:Int
 var:RR
 cut:Int
 lvl:RR
 top:Int
 rate:RR
 slack:Int
def Po.cs(p:Po):List V:=
 [.i p.len,.ro 5 (Hw p.rules),.ro 1 (Ap p.g.pts),.ro 1 (Ap p.g.pri),.ro 2 (A9 p.en),.i p.mn,
  .bool p.var.num.neg,.ro 1 (Az p.var.num.mag),.ro 1 (Az p.var.den),.i p.cut,
  .bool p.lvl.num.neg,.ro 1 (Az p.lvl.num.mag),.ro 1 (Az p.lvl.den),.i p.top,
  .bool p.rate.num.neg,.ro 1 (Az p.rate.num.mag),.ro 1 (Az p.rate.den),.i p.slack]
def Po.v(p:Po):V:=.agg p.cs
def vPo(p:Po):p.v=V.agg [.i p.len,.ro 5 (Hw p.rules),.ro 1 (Ap p.g.pts),.ro 1 (Ap p.g.pri),.ro 2 (A9 p.en),.i p.mn,.bool p.var.num.neg,.ro 1 (Az p.var.num.mag),.ro 1 (Az p.var.den),.i p.cut,.bool p.lvl.num.neg,.ro 1 (Az p.lvl.num.mag),.ro 1 (Az p.lvl.den),.i p.top,.bool p.rate.num.neg,.ro 1 (Az p.rate.num.mag),.ro 1 (Az p.rate.den),.i p.slack]:=rfl
structure Po.ok(p:Po):Prop where
 var:p.var.ok 137438953472
 lvl:p.lvl.ok 137438953472
 rate:p.rate.ok 34359738368
def Bdc(p:Po):Bool:=
 (decide (p.mn<0)||decide (p.len<p.mn))||(decide (Afg p.var.val<0)||((decide (p.cut<0)||decide ((p.g.pts.length:Int)-1<p.cut))||((!decide (p.cut=0)&& !Ve p.lvl.val (mkRat 1 2))||
 ((decide (p.top<1)||decide (5<p.top))||((!Ve p.rate.val (mkRat 0 1))||(decide (p.slack<0)||decide (1000000<p.slack)))))))
def Y4(p:Po):Int:=
 if Uj p.len p.rules≠0 then Uj p.len p.rules else if L5 p.g≠0 then L5 p.g else if 400<p.en.length then 5 else if Bdc p=true then 3 else 0
def Q6(p:Po)(e:p.ok):Jp gv prog 28 [p.v] (λr=>r=.i (Y4 p)):=by
 have t:=Zn p.len p.rules;have n:=Ml p.g;have u:=Aru p.var e.var.lim e.var.num.lim;have j:=Ar5 p.lvl e.lvl 1 2 dc dc dc dc;have f:=Ar5 p.rate ⟨⟨e.rate.num.lim,Ae e.rate.num.len dc⟩,e.rate.lim,Ae e.rate.len dc⟩ 0 1 dc dc dc dc;change AC _ _ _ (λr=>r=.bool (Ve p.lvl.val (mkRat 1 2)))at j;change AC _ _ _ (λr=>r=.bool (Ve p.rate.val (mkRat 0 1)))at f;have⟨len,rules,⟨a,l⟩,en,mn,⟨⟨vb,z⟩,vd⟩,k,⟨⟨lb,lm⟩,ld⟩,o,⟨⟨rb,rm⟩,rd⟩,d⟩:=p;unfold Y4 Bdc Po.v Po.cs;simp only at t n u j f|-;have m:=A0 a;have le:=Eh en;have q1:=Dm rules;have q2:=Ac a;have q3:=Ac l;have q4:=Af z;have q5:=Af vd;have q6:=Af lm;have q7:=Af ld;have q8:=Af rm;have q9:=Af rd;have e1:Ry len rules=.agg [.i len,.ro 5 (Hw rules)]:=rfl;have e2:(Gr.mk a l).v=.agg [.ro 1 (Ap a),.ro 1 (Ap l)]:=rfl;have e3:(RR.mk ⟨vb,z⟩ vd).v=.agg [.bool vb,.ro 1 (Az z),.ro 1 (Az vd)]:=rfl;have e4:(RR.mk ⟨lb,lm⟩ ld).v=.agg [.bool lb,.ro 1 (Az lm),.ro 1 (Az ld)]:=rfl;have e5:(RR.mk ⟨rb,rm⟩ rd).v=.agg [.bool rb,.ro 1 (Az rm),.ro 1 (Az rd)]:=rfl;rw[e1]at t;rw[e2]at n;rw[e3]at u;rw[e4]at j;rw[e5]at f;clear e1 e2 e3 e4 e5 e;generalize Uj len rules=x1 at t|-;have aa:L5 ⟨a,l⟩=0->a.length<=21:=λh=>(Kn h).len
 generalize L5 ⟨a,l⟩=x2 at n aa|-;generalize Afg (RR.mk ⟨vb,z⟩ vd).val=x3 at u|-;generalize Ve (RR.mk ⟨lb,lm⟩ ld).val (mkRat 1 2)=x4 at j|-;generalize Ve (RR.mk ⟨rb,rm⟩ rd).val (mkRat 0 1)=x5 at f|-;generalize Hw rules=w1,Ap a=w2,Ap l=w3,Az z=w4,Az vd=w5,Az lm=w6,Az ld=w7,Az rm=w8,Az rd=w9,A9 en=w0 at*;refine Bp func28 λw0 N0 hG=>?_;refine Y [1] [1] sr (J (Au 2 sr ?_));refine Jk [1,3] [1] hG t func54 ?_;refine Y [1,3,9] [1] sr ?_
 refine L3 [2] (J (Au 2 sr ?_));refine Ge [1,4] [1] n func55 ?_;refine Y [1,4,15] [1] sr ?_
 refine Bhl [2] λh2=>J (Y [1,20] [1] sr ?_)
 refine Co (λh3=>?_) λh3=>D9 ?_
 .exact Y [2] [] sr (Aj (Aa sr (by rw[Ab (sO h3)])))
 rw[I (sO h3)];refine J (Ad (J (Y [1,21] [1] sr ?_)))
 refine Bk (λh=>?_) λh=>?_
 .have s:(decide (mn<0)||decide (len<mn))=true:=by simpa[m]using h
  refine Ek ?_;exact Y [2] [] sr (Aj (Aa sr (by rw[Ab (by rw[s];rfl)])))
 have s:(decide (mn<0)||decide (len<mn))=false:=by simpa[m]using h
 refine Au 2 sr ?_;refine Ge [1,21] [1] u func56 ?_
 refine Bk (λh=>?_) λh=>?_
 .have w:decide (x3<0)=true:=by simpa[m]using h
  refine Ek ?_;exact Y [2] [] sr (Aj (Aa sr (by rw[Ab (by rw[s,w];rfl)])))
 have w:decide (x3<0)=false:=by simpa[m]using h
 have ab:=sG h2
 have ad:=aa ab;have Ec:IntKind.i64.wrap ((w2.length:Int)-1)=(w2.length:Int)-1:=Bm om om;refine Y [1,21] [1] (by simp[Ec]<;>rfl) ?_
 refine Bk (λh=>?_) λh=>?_
 .have x:(decide (k<0)||decide ((a.length:Int)-1<k))=true:=by simpa[m]using h
  refine Ek ?_;exact Y [2] [] sr (Aj (Aa sr (by rw[Ab (by rw[s,w,x];rfl)])))
 have x:(decide (k<0)||decide ((a.length:Int)-1<k))=false:=by simpa[m]using h
 refine Au 6 sr ?_;refine Ff (c:= !decide (k=0)) (λhg=>j) func57 rfl kr sm rfl rfl sr sM sr (Ak [1,21] [1] sr ?_)
 refine Bk (λh=>?_) λh=>?_
 .have y:(!decide (k=0)&& !x4)=true:=by simpa[m]using h
  refine Ek ?_;exact Y [2] [] sr (Aj (Aa sr (by rw[Ab (by rw[s,w,x,y];rfl)])))
 have y:(!decide (k=0)&& !x4)=false:=by simpa[m]using h
 refine Y [1,21] [1] sr ?_
 refine Bk (λh=>?_) λh=>?_
 .have g4:(decide (o<1)||decide (5<o))=true:=by simpa[m]using h
  refine Ek ?_;exact Y [2] [] sr (Aj (Aa sr (by rw[Ab (by rw[s,w,x,y,g4];rfl)])))
 have g4:(decide (o<1)||decide (5<o))=false:=by simpa[m]using h
 refine Au 2 sr ?_;refine Ge [1,21] [1] f func57 ?_
 refine Bk (λh=>?_) λh=>?_
 .have g5:(!x5)=true:=by simpa[m]using h
  refine Ek ?_;exact Y [2] [] sr (Aj (Aa sr (by rw[Ab (by rw[s,w,x,y,g4,g5];rfl)])))
 have g5:(!x5)=false:=by simpa[m]using h
 refine A6 [21] [] sr ?_
 refine A1 (λh=>?_) λh=>?_
 .have g6:(decide (d<0)||decide (1000000<d))=true:=sG h
  exact Y [2] [] sr (Aj (Aa sr (by rw[Ab (by rw[s,w,x,y,g4,g5,g6];rfl)])))
 have g6:=sG h
 exact Qp [2]
def Pw(l:List Int):List Nat:=l.map Int.toNat
def Rj(h:k<w.length):(B9 w)[k]?=some (.ro 1 (Gx w[k])):=by rw[<-C0];exact Li h
def A6q(g:Gr)(hg:L5 g=0):AE 114 [g.v] (.tup [.ro 1 (B9 (Pw g.pri)),.i 0]):=by
 have l:=Ml g;rw[hg]at l;obtain⟨ab,y,aa,-,hpr,-⟩:=Kn hg;have⟨d,pri⟩:=g;simp only at ab y aa hpr|-;have ev:(Gr.mk d pri).v=.agg [.ro 1 (Ap d),.ro 1 (Ap pri)]:=rfl;rw[ev]at l|-;have hq:∀(k:Nat)(h:k<pri.length),Gz (Ap pri) k=some (.i pri[k]):=λk h=>Fr h
 have lq:=A0 pri;have pp:=Ac d;have pq:=Ac pri;have hz:(Pw pri).length=pri.length:=by simp[Pw]
 have hn:∀(k:Nat)(h:k<pri.length),(B9 (Pw pri))[k]?=some (.ro 1 (Gx pri[k].toNat)):=λk h=>by rw[Rj om];simp[Pw]
 have s:(B9 (Pw pri)).length=pri.length:=by rw[Ib,hz]
 have x:=Bx (Pw pri);generalize Ap d=pv,Ap pri=m,B9 (Pw pri)=f at*;refine Ai func114 λw0 N0=>?_;refine Y [1] [1] sr (J (Au 1 sr ?_));refine Ge [1,4] [1] l func55 ?_;refine A5 [11] sr ?_;refine Ce ?_;have u:(m.length:Int)<=9223372036854775807:=om;have w:24*(m.length:Int)<=281474976710656:=om;refine Y [1,5] [1,16] (by simp[u,w]<;>rfl) (J (Y [5,18,19,20] [16] sr (Ad (H5 (λk=>[(20,V.i k)]) (λk=>[(16,{v:=11,sz:=1,ty:=30,es:=E4 f .nils k})]) (λk=>True) pri.length trivial (by rw[Ia,s,<-lq];exact Z) ?_))));intro k nx hk hI;have t:=Jc f .nils k om;refine Y [5,18,19,20,21] [16] sr (J ?_)
 refine Bk (λh2=>?_) λh2=>?_
 .have c:k<pri.length:=by simp at h2;omega
  have i:k<m.length:=om;have j:k<f.length:=om;have ga:=hq k c;have a:=Je f .nils k j (hn k c);have o:=Jd f .nils k j;have hw:=A4 (k:=k) om;have ad:=hpr _ (As c);generalize pri[k]=p at ga a ad;obtain⟨n,rfl⟩:∃n:Nat,p=n:=⟨p.toNat,by omega⟩;rw[C4]at a;have e:=Ahw n om;change AC _ _ _ (λr=>r=.ro 1 (Gx n))at e;have z:=wrap_u64 (n:=n) om;have pn:=F7 n;generalize E4 f .nils k=row at o a t|-;refine J (Ad (Y [5,6,7,18,19,20] [16] (by simp[ga,i]<;>rfl) (Ik 4 (by simp[z]<;>rfl) ?_)));refine Aw e func160 ?_;refine Ak [5,18,19,20] [16] (by simp[i,o,a]<;>rfl) ?_;refine Cs [] (by simp[hw]<;>rfl) ?_;exact⟨c,trivial,_,Z⟩
 .refine A3 ?_;have ae:=sO h2
  rw[Jz f .nils k om];refine Bq 16 [5] [] C1 ?_;exact Y [2,3] [] sr (Bv sr rf)
def A6r(g:Gr)(c:L5 g=0):AE 64 [g.v] (.tup [.ro 1 (B9 (Pw g.pri)),.i 0]):=by
 have a:=A6q g c;have ev:g.v=.agg [.ro 1 (Ap g.pts),.ro 1 (Ap g.pri)]:=rfl;rw[ev]at a|-;have d:=Ac g.pts;have f:=Ac g.pri;have e:=Bx (Pw g.pri);generalize Ap g.pts=pv,Ap g.pri=qv,B9 (Pw g.pri)=nv at*;refine Ai func64 λw0 N0=>?_;refine Y [1] [1] sr (Au 1 sr ?_);refine Ge [2,3] [] a func114 ?_;exact Bv C1 (rfl)
variable {b m:Nat}
def Y5(w:List Nat):Nat:=w.foldl Nat.gcd 0
def Rz(w:List Nat):List Nat:=w.map (· / Y5 w)
def Q7(w:List Nat)(m:Mo)(k:Nat):List Nat:=List.zipWith (λx(r:List Int)=>x*(r.getD k 0).toNat) w m
def Amf(h:k<w.length):Y5 (w.take (k+1))=Nat.gcd (Y5 (w.take k)) w[k]:=by
 unfold Y5;rw[Av h,O8];rfl
def Bdd{a:Nat}(h1:(B0 a).length<=m)(h2:(B0 b).length<=m):(B0 (Nat.gcd a b)).length<=m:=by
 by_cases c:b=0
 .rw[c,Nat.gcd_zero_right];exact h1
 .exact Ae (Ad5 (Nat.gcd_le_right a om)) h2
def Ar6(h:Ks w m):∀k,k<=w.length->(B0 (Y5 (w.take k))).length<=m
 |0,_=>by simp[Y5,Ep]
 |k+1,hk=>by
  rw[Amf om];exact Bdd (Ar6 h k om) (h _ (As _))
def Ah1(w:List Nat)(hw:Ks w 1000000)(af:w.length<=1000000):AE 66 [.ro 1 (B9 w)] (.ro 1 (B9 (Rz w))):=by
 have hq:∀(k:Nat)(h:k<w.length),Gz (B9 w) k=some (.ro 1 (Gx w[k])):=λk h=>Li h
 have lq:=Ib w;have hn:∀(k:Nat)(h:k<w.length),(B9 (Rz w))[k]?=some (.ro 1 (Gx (w[k]/Y5 w))):=λk h=>by rw[Rj (by simp[Rz,h])];simp[Rz]
 have u:(B9 (Rz w)).length=w.length:=by simp[Rz]
 have ad:=Bx (Rz w);have o:=Ar6 hw;generalize B9 (Rz w)=j,B9 w=i at*;refine Ai func66 λw0 N0=>?_;refine Y [0] [] sr (A5 [3] sr ?_);refine Aq6 3 (.ro 1 (Gx (Y5 (w.take 0)))) [0,3] [] rfl rfl (by rw[Kw,Y5,List.foldl_nil,Gx,Ep];exact Bh.nils 1) sr (J (A5 [9,10,11] sr (Ad (H5 (λk=>[(3,V.ro 1 (Gx (Y5 (w.take k)))),(11,V.i k)]) (λ_=>[]) (λk=>True) w.length trivial (by simp only[Kw];exact Z) ?_))));intro k nx hk hI;refine Y [0,3,9,10,11,12] [] sr (J ?_)
 refine Bk (λh1=>?_) λh1=>?_
 .have a:k<w.length:=by simp at h1;omega
  have d:k<i.length:=om;have n:=hq k a;have Ec:=A4 (k:=k) om;have hs:=Amf a;have hx:=hw _ (As a);have hg:=o k om;generalize w[k]=x at n hs hx;generalize Y5 (w.take k)=g at hs hg|-;have f:=A6g (B0 g) (B0 x) (Ct _) (Ct _) om om;rw[C6,C6,<-hs]at f;change AC _ _ [.ro 1 (Gx g),.ro 1 (Gx x)] (λr=>r=.ro 1 (Gx (Y5 (w.take (k+1)))))at f;have p1:=F7 g;have p2:=F7 x;refine J (Ad (Y [0,3,5,9,10,11] [] (by simp[n,d]<;>rfl) (Ik 2 sr ?_)));refine Ge [0,3,9,10,11] [] f func119 ?_;refine Cs [] (by simp[Ec]<;>rfl) ?_;exact⟨a,trivial,_,Z⟩
 .refine A3 ?_;have t:k=w.length:=sO h1
  subst t;have ae:=o w.length om;rw[Bb]at ae|-;generalize Y5 w=G at*;have pG:=F7 G;have aa:(i.length:Int)<=9223372036854775807:=om;have ab:24*(i.length:Int)<=281474976710656:=om;refine Y [0,3,6] [21] (by simp[aa,ab]<;>rfl) (J (Y [3,6,22,23,24] [21] sr (Ad (H5 (λk=>[(24,V.i k)]) (λk=>[(21,{v:=nx+3,sz:=1,ty:=30,es:=E4 j .nils k})]) (λk=>True) w.length trivial (by rw[Ia,u,<-lq];exact Z) ?_))));intro k s hk hI;have y:=Jc j .nils k om;refine Y [3,6,22,23,24,25] [21] sr (J ?_)
  refine Bk (λh2=>?_) λh2=>?_
  .have a:k<w.length:=by simp at h2;omega
   have d:k<i.length:=om;have l:k<j.length:=om;have n:=hq k a;have e:=Je j .nils k l (hn k a);have m:Gz (E4 j .nils k) k=some .nils:=Jd j .nils k l;have Ec:=A4 (k:=k) om;have hx:=hw _ (As a);generalize w[k]=x at n hx e;have c:=Ue (B0 x) (B0 G) (Ct _) (Ct _) om;rw[C6,C6]at c
   obtain⟨z,r2,hr⟩:∃z r2,Aou x G=.tup [.ro 1 (Gx (x/G)),z,r2]/\z.pureV=true/\r2.pureV=true:=by
    unfold Aou;split
    .rename_i h;rw[h,Nat.div_zero];exact⟨_,_,by rw[Gx,Ep];rfl,rfl,rfl⟩
    .exact⟨_,_,rfl,A1t _,rfl⟩
   rw[hr.1]at c;have q1:=hr.2.1;have q2:=hr.2.2;change AC _ _ [.ro 1 (Gx x),.ro 1 (Gx G)] _ at c;have p2:=F7 x;generalize E4 j .nils k=row at m e y|-;refine J (Ad (Y [3,6,7,8,22,23,24] [21] (by simp[n,d]<;>rfl) (Ik 4 sr ?_)));refine Aw c func120 ?_;refine Ak [3,6,22,23,24] [21] (by simp[d,m,e]<;>rfl) ?_;refine Cs [] (by simp[Ec]<;>rfl) ?_;exact⟨a,trivial,_,Z⟩
  .refine A3 ?_;have t:k=w.length:=sO h2
   rw[Jz j .nils k oM];refine Bq 21 [6] [] (by simp[ad,u,lq]<;>rfl) ?_;exact Y [2] [] sr (Bv sr rf)
def Ah2{m:Mo}(k:Nat)(h:m.length=w.length):(Q7 w m k).length=w.length:=by simp[Q7,h]
def A6s{m:Mo}(h:m.length=w.length)(a:i<w.length):(Q7 w m k)[i]'(by rw[Ah2 k h];exact a)=w[i]*((m[i]'(by omega)).getD k 0).toNat:=by simp[Q7]
def A11(w:List Nat)(m:Mo)(d:Nat)(hm:L6 m w.length=0)(hk:d<Y1 m)(hw:Ks w 1000000):
  AE 206 [.ro 1 (B9 w),moV m,.i d] (.tup [.ro 1 (B9 (Q7 w m d)),.i 0]):=by
 have g:=To m w.length;rw[hm]at g;have ab:=Ao1 m;obtain⟨ml,mp,ao,-,m6,mrow⟩:=Ab4 hm;have hq:∀(k:Nat)(h:k<w.length),Gz (B9 w) k=some (.ro 1 (Gx w[k])):=λk h=>Li h
 have lq:=Ib w;have hr:∀(k:Nat)(h:k<m.length),Gz (Eo m) k=some (.ro 1 (Ap m[k])):=λk h=>Ua h
 have lr:=Mj m;have pm:=D0 m
 have hn:∀(k:Nat)(h:k<w.length)(h2:k<m.length),(B9 (Q7 w m d))[k]?=some (.ro 1 (Gx (w[k]*(m[k].getD d 0).toNat))):=λk h h2=>by
  rw[Rj (by rw[Ah2 d ml];exact h),A6s ml h]
 have ad:(B9 (Q7 w m d)).length=w.length:=by rw[Ib,Ah2 d ml]
 have ai:=Bx (Q7 w m d);have ev:moV m=.agg [.ro 1 (Eo m)]:=rfl;rw[ev]at g ab|-;generalize B9 (Q7 w m d)=l,B9 w=y,Eo m=mv at*;rw[<-lq]at g;refine Ai func206 λw0 N0=>?_;refine Y [0,2,4] [4] sr (J (A5 [15] sr ?_));refine Ce (J (Au 3 sr ?_));refine Ge [0,2,4,8] [4] g func106 ?_;refine A5 [21] sr ?_;refine Ce (Y [0,2,4,9] [4] sr (J (Au 7 sr ?_)));refine Gd (c:=true) (λhg=>ab) func62 ?_;refine Ak [0,2,4,9,39] [4] sr ?_;refine Ce ?_;have af:(y.length:Int)<=9223372036854775807:=om;have ag:24*(y.length:Int)<=281474976710656:=om;refine Y [0,2,4,9,10] [4,42] (by simp[af,ag]<;>rfl) (J (Y [2,4,9,10,43,44,45] [4,42] sr (Ad (H5 (λk=>[(45,V.i k)]) (λk=>[(42,{v:=33,sz:=1,ty:=30,es:=E4 l .nils k})]) (λk=>True) w.length trivial (by rw[Ia,ad,<-lq];exact Z) ?_))));intro k nx hk hI;have ae:=Jc l .nils k om;refine Y [2,4,9,10,43,44,45,46] [4,42] sr (J ?_)
 refine Bk (λh4=>?_) λh4=>?_
 .have i:k<w.length:=by simp at h4;omega
  have o:k<y.length:=om;have s:k<l.length:=om;have e:k<m.length:=om;have t:k<mv.length:=om;have ga:=hq k i;have gr:=hr k e;have a:=Je l .nils k s (hn k i e);have z:=Jd l .nils k s;have Ec:=A4 (k:=k) om;have hx:=hw _ (As i);obtain⟨ah,aa,-⟩:=mrow _ (As e);generalize w[k]=x at ga a hx;generalize m[k]=rw at gr a ah aa;have u:d<rw.length:=om;have gi:=Fr u;have li:=A0 rw;have ak:rw.getD d 0=rw[d]:=by simp[List.getD,u]
  rw[ak]at a;have hp:=aa _ (As u);generalize rw[d]=p at gi a hp;generalize Ap rw=iv at gr gi li;have al:d<iv.length:=om;obtain⟨n,rfl⟩:∃n:Nat,p=n:=⟨p.toNat,by omega⟩;rw[C4]at a;have j:=Ahw n om;change AC _ _ _ (λr=>r=.ro 1 (Gx n))at j;have aj:=wrap_u64 (n:=n) om;have an:(B0 n).length<=1:=E7 om;have f:=Aot (B0 x) (B0 n) (Ct _) (Ct _) om om;rw[C6,C6]at f;change AC _ _ [.ro 1 (Gx x),.ro 1 (Gx n)] (λr=>r=.ro 1 (Gx (x*n)))at f;have pn:=F7 n;have px:=F7 x;have am:=F7 (x*n);generalize E4 l .nils k=row at z a ae|-;refine J (Ad (Y [2,4,9,10,11,12,43,44,45] [4,42] (by simp[ga,o]<;>rfl) (A5 [50] sr ?_)))
  refine Ek ?_
  .refine Ik 12 (by simp[gr,t,gi,al,aj]<;>rfl) ?_;refine Aw j func160 ?_;refine Aw f func216 ?_;refine Ak [2,4,9,10,43,44,45] [4,42] (by simp[o,z,a]<;>rfl) ?_;refine Cs [] (by simp[Ec]<;>rfl) ?_;exact⟨i,trivial,_,Z⟩
 .refine A3 ?_;have aq:=sO h4
  rw[Jz l .nils k oM];refine Bq 42 [10] [] C1 ?_;exact Y [6,7] [] sr (Bv sr rf)
def V1(s:Int):Int:=IntKind.u64.wrap (IntKind.u64.wrap (s*6364136223846793005)+1442695040888963407)
def hiD(s:Int):Nat:=((V1 s/4294967296)%4294967296).toNat
def R1(s:Int)(n:Nat):Nat:=hiD s*n/4294967296
def Ays(s:Int):0<=V1 s/\V1 s<18446744073709551616:=by unfold V1;rw[IntKind.wrap_u64];omega
def A6t(s:Int):hiD s<4294967296:=by have:=Ays s;unfold hiD;omega
def A12(s:Int)(h:0<n):R1 s n<n:=by
 have:=A6t s;unfold R1;rw[C2 om,Bf];exact Nat.mul_lt_mul_of_pos_left this h
def A6u(s:Int):AE 67 [.int .u64 s] (.int .u64 (V1 s)):=by
 refine Ai func67 λw0 N0=>?_;exact Y [0] [] sr (Y [2] [] sr (Bv sr rf))
def Bde(s:Int):AE 197 [.int .u64 s] (.tup [.int .u32 (hiD s:Nat),.int .u64 (V1 s)]):=by
 have a:=A6u s;have hr:=Ays s;unfold hiD;generalize V1 s=z at*
 have c:IntKind.u32.wrap (z.fdiv (2^min 32 IntKind.u64.bits))=(((z/4294967296)%4294967296).toNat:Int):=by
  rw[IntKind.wrap_u32];have:z.fdiv (2^min 32 IntKind.u64.bits)=z/4294967296:=B4 _ dc;rw[this];omega
 refine Ai func197 λw0 N0=>?_;refine Y [0] [] sr (Au 1 sr ?_);refine Aw a func67 ?_;exact Ak [0] [] sr (Y [2,3] [] sr (Bv sr (by rw[<-c])))
def A6v(s:Int)(n:Nat)(h1:1<=n)(h2:n<=2147483648):AE 141 [.int .u64 s,.i n] (.tup [.i (R1 s n:Nat),.int .u64 (V1 s)]):=by
 have a:=Bde s;have f:=A6t s;unfold R1;generalize hiD s=x,V1 s=z at*;have j:IntKind.u64.wrap (x:Int)=x:=wrap_u64 om;have i:IntKind.u64.wrap (n:Int)=n:=wrap_u64 om
 have d:x*n<18446744073709551616:=by
  have:=Iq (Ig f) h2;omega
 obtain⟨y,c⟩:∃y,y=x*n:=⟨_,rfl⟩;rw[<-c]at d|-;have g:IntKind.u64.wrap ((x:Int)*n)=(y:Nat):=by rw[c,<-Fq];rw[c]at d;exact wrap_u64 d
 have h:(y:Int).fdiv (2^min 32 IntKind.u64.bits)=((y/4294967296:Nat):Int):=Abx y;have e:IntKind.i64.wrap ((y:Int)/4294967296)=(y:Int)/4294967296:=Bm om om;refine Ai func141 λw0 N0=>?_;refine Y [0,1] [] sr (J (A5 [12] sr ?_));refine Ce (Au 1 sr ?_);refine Aw a func197 ?_;exact Ak [0,1,6] [] sr (Y [4,5] [] (by simp[j,i,g,h,e]<;>rfl) (Bv sr rf))
def Wy(n:Int):Int:=if n<0 then 0 else if 1000000<n then 1000000 else n
def Acb(n:Int):0<=Wy n/\Wy n<=1000000:=by unfold Wy;(repeat' split)<;>omega
def Ah3(n:Int):AE 173 [.i n] (.i (Wy n)):=by
 refine Ai func173 λw0 N0=>?_;exact Y [0] [] sr (Y [2] [] sr (Bv sr (by unfold Wy;(repeat' split)<;>first|rfl|omega|skip)))
def Amg(n:Int)(h1: -9223372036854775808<=n)(h2:n<9223372036854775808):AE 175 [.i n] ((nR (n:Rat)).v):=by
 have a:=Wu n 1 h1 h2 dc dc;rw[Rx]at a;simp only[Y2]at a|-;have p1:=Jl;have p2:=Jm;refine Ai func175 λw0 N0=>?_;refine Y [0,2] [2] sr (Au 1 sr ?_);refine Aw a func103 ?_;exact Ak [2,3] [2,3] sr (Y [2] [2] sr (Bv sr rf))
open Go.RowKit Go.Sort
variable {g:Nat}{ty:TypeId}
def Uk(l:List Int):(Ap l).all Ih=true:=by
 rw[Ao];intro x a;simp only[Ap,Bc]at a;obtain⟨n,_,rfl⟩:=a;rfl
def Zo(p:Option Addr)(a:Nat)(w:World):Calls prog 117 #[.slice p 0 a] w λe w'=>e=.returned (.tuple #[])/\w'=w:=Any.slices_Sort_int_none lays189 p a w
def Amh(c:List Int):∀e∈Ap c,e.fits 1:=by
 intro x a;simp only[Ap,Bc]at a;obtain⟨h,_,rfl⟩:=a;exact⟨rfl,by simp[V.cells,V.isCell]⟩
def Ami{w:World}{e:List Int}(h:Alq w g ty 1 c (Ap e)):Holds (Value.int .i64) w g 0 e.toArray/\g<w.heap.size/\∃a,w.heap[g]?=some (.cells a ty (0,0))/\a.size=c:=by
 have⟨h1,h2,a,d,h4,k⟩:=h;refine⟨λj f=>?_,(B3.1 d).1,a,d,by omega⟩;simp only[Dz]at f;have⟨x,i,hp⟩:=k j (.i e[j]) 0 (.i e[j]) (by simp[Ap,f]) rfl;simp only[Gs,Eb]at i;cases hp
 constructor
 .simp[World.cell?,d,i,f]
 .simp[World.frozen?,d]
def Ayt{w:World}{t:Array Obj}{a:Array Value}{ts us:List Int}(x:w.heap[g]?=some (.cells a ty (0,0)))(hs:a.size=d)(hl:us.length<=ts.length)(ht:ts.length<=d)(f:ts.take us.length=us):
  Alq (grow (putRow (Value.int .i64) (Go.Sort.ahead w n) g 0 ts.toArray) t) g ty 1 d (Ap us):=by
 refine⟨by rw[A0];omega,Amh us,_,heap_sortedI _ x,by simp[putCells,hs],λk e j c s m=>?_⟩;simp only[Ap,Bj,Ay]at s;obtain⟨z,h,rfl⟩:=s
 have o:j=0:=by
  rcases j with _ |j
  .rfl
  .simp[V.cells]at m
 subst o;simp only[V.cells,Dy,Am]at m;subst m;have u:=(Al.1 h).1
 have r:ts[k]?=some z:=by
  rw[<-f]at h;rw[Cq u]at h;exact h
 refine⟨.int .i64 z,?_,.int _ _⟩;have l:k<a.size:=om;have i:k<ts.length:=om;simp[putCells,l,i];exact(Al.1 r).2
def Ld(a:List Int):List Int:=a.mergeSort λx y=>decide (x<=y)
def Ah4(f:List Int)(hz:f.length<=17592186044416):ACI prog 117 1 3 (Ap f) (Ap (Ld f)) (λ_ _=>.tup []):=by
 refine⟨λw g h i a=>?_,λm=>?_⟩
 .have⟨j,k,l,o,hs⟩:=Ami a;have c:=a.1;rw[A0]at c|-;refine(slices_Sort_int g 0 h f w j k om).mono ?_;rintro e w'⟨rfl,n,os,rfl⟩;exact⟨_,rfl,grownBy_sortedI _,Ayt (us:=Ld f) o hs (A2 _) (sG c) Bb,λd v μ N' _=>.pur (.tup [] [] rfl sm)⟩
 .have:f=[]:=by simpa[Ap]using m
  subst this;refine⟨by simp[Ld,Ap],λw A=>(Zo A 0 w).mono ?_⟩;rintro e w'⟨rfl,rfl⟩;exact⟨_,rfl,⟨rfl,rfl,rfl,A2 _,λ_ _ _=>rfl⟩,λd v μ N' _=>.pur (.tup [] [] rfl sm)⟩
def Av2(a:List Int):(Lib.compact a).length<=a.length:=by
 have c:∀m,(Lib.compactUpTo a.toArray m).length<=m:=by
  intro m
  induction m with
  |zero=>simp[Lib.compactUpTo]
  |succ m ih=>
   rw[Lib.compactUpTo_succ,Aq];split<;>simp<;>omega
 exact c a.length
def Ar7(f:List Int)(hz:f.length<=17592186044416):ACI prog 118 1 3 (Ap f) (Ap (Lib.compact f)) (λd v=>.sl d v 1 (Lib.compact f).length):=by
 have o:=Av2 f
 refine⟨λw g i h a=>?_,λn=>?_⟩
 .have⟨k,hg,m,r,hs⟩:=Ami a;have c:=a.1;rw[A0]at c|-;refine(slices_Compact_int g 0 i f w k om c).mono ?_;rintro e w'⟨rfl,q,rfl⟩;have l:∀d:Array Int,putRow (Value.int .i64) (Go.Sort.ahead w q) g 0 d=grow (putRow (Value.int .i64) (Go.Sort.ahead w q) g 0 d) #[]:=λd=>by simp
  rw[l];exact⟨_,rfl,grownBy_sortedI _,Ayt r hs sm so sm,λd v μ N' j=>.slr d v 1 _ g i j om h⟩
 .have:f=[]:=by simpa[Ap]using n
  subst this;refine⟨by simp[Lib.compact,Lib.compactUpTo,Ap],λw A=>(slices_Compact_int_empty A 0 w).mono ?_⟩;rintro e w'⟨rfl,rfl⟩;exact⟨_,rfl,⟨rfl,rfl,rfl,A2 _,λ_ _ _=>rfl⟩,λd v μ N' j=>.slv d v 1 A j⟩
def Vq(c d:Int)(a:Rat)(sl:Int):Bool:=decide (((Wy c+1:Int):Rat)<=a*((Wy d+1+Wy sl:Int):Rat))
def Bdf(m s:Int)(r:RR)(sl:Int)(n:r.ok 34359738368):AC prog 116 [.i m,.i s,r.v,.i sl] (λx=>x=.bool (Vq m s r.val sl)):=by
 have h:=Ah3 s;have j:=Ah3 sl;have i:=Ah3 m;have r1:=Acb s;have r2:=Acb sl;have r3:=Acb m;unfold Vq;generalize Wy s=a,Wy sl=b,Wy m=c at*;have e:=Amg (a+1+b) om om;have f:=Amg (c+1) om om;have u:Q2 ((a+1+b:Int):Rat)<=3:=Q4 om om;have y:Q2 ((c+1:Int):Rat)<=3:=Q4 om om;have d:=Ayl r (nR ((a+1+b:Int):Rat)) ⟨⟨n.num.lim,Ae n.num.len dc⟩,n.lim,Ae n.len dc⟩ (N7 (Ae u dc));rw[M5]at d;have z3:Q2 (r.val*((a+1+b:Int):Rat))<=34359738371:=Ayo (RR.sz n dc) u;have g:=S4 (nR ((c+1:Int):Rat)) (nR (r.val*((a+1+b:Int):Rat))) (N7 (Ae y dc)) (N7 (Ae z3 dc));rw[M5,M5]at g;have t:=Ayr (a:=((c+1:Int):Rat)) (b:=r.val*((a+1+b:Int):Rat));generalize Ot ((c+1:Int):Rat) (r.val*((a+1+b:Int):Rat))=z at g t;have w:decide (((c+1:Int):Rat)<=r.val*((a+1+b:Int):Rat))=decide (z<=0):=by simp only[t]
 rw[w];clear w t z3 y u;generalize((a+1+b:Int):Rat)=A,((c+1:Int):Rat)=C at*;generalize r.val*A=M at*;have er:=vRR r;rw[er]at d|-;have o:=Af r.num.mag;have l:=Af r.den;generalize Az r.num.mag=am,Az r.den=ad at*;simp only[Y2]at e f d g;have p1:=Jl;have p2:=Jm;have w1:IntKind.i64.wrap (a+1)=a+1:=Bm om om;have w2:IntKind.i64.wrap (a+1+b)=a+1+b:=Bm om om;have w3:IntKind.i64.wrap (c+1)=c+1:=Bm om om;refine Ai func116 λw0 N0=>?_;refine Y [0,1,3,6] [6] sr (J (H0 [(1,[]),(2,[]),(3,[]),(4,[]),(5,[]),(6,[]),(7,[]),(0,[9]),(8,[]),(9,[]),(10,[])] Jt kr ?_));refine B8 1 sr (B1 (λk=>h) func173 ?_);refine B8 2 C1 ?_;refine B1 (λk=>j) func173 ?_;refine B8 1 C1 ?_;refine B1 (λk=>e) func175 ?_;refine B8 1 sr ?_;refine B1 (λk=>d) func174 ?_;refine C5 [0,9] [9] sr ?_;refine J (H6 [0,8] sr ?_);refine B8 1 sr ?_;refine B1 (λk=>i) func173 ?_;refine B8 1 C1 ?_;refine B1 (λk=>f) func175 ?_;refine B8 1 sr ?_;refine B1 (λk=>g) func104 ?_;refine C5 [8] [] sr ?_;exact Bv sr (rfl)
def Fi(m:List (Int×Int))(a:Int):Int:=match m with
 |[]=>0
 |(x,v)::r=>if x=a then v else Fi r a
def Acd(l:List (Int×Int))(m:List (Int×Int)):List (Int×Int):=match l with
 |[]=>m
 |u::r=>Acd r ((u.1,Wy (Fi m u.1+Wy u.2))::m)
def mV(m:List (Int×Int)):List (Int×V):=m.map λp=>(p.1,.i p.2)
def Agc(m:List (Int×Int))(a:Int):Of false (.i 0) (Hj a (mV m))=.i (Fi m a):=by
 induction m with
 |nil=>rfl
 |cons p r ih=>
  have⟨x,v⟩:=p;simp only[mV,Br,Hj,Fi]at ih|-
  split
  .rfl
  .exact ih
def A13{l m:List (Int×Int)}(h:k<l.length):Acd (l.drop k) m=Acd (l.drop (k+1)) ((l[k].1,Wy (Fi m l[k].1+Wy l[k].2))::m):=by
 rw[Bo h,Acd]
def A6w{m:List (Int×Int)}(h:∀p∈m,0<=p.2/\p.2<=1000000)(a:Int):0<=Fi m a/\Fi m a<=1000000:=by
 induction m with
 |nil=>simp[Fi]
 |cons p r ih=>
  rw[Fi]
  split
  .exact h _ (Fc ..)
  .exact ih λq c=>h q (Dt _ c)
@[simp]def Av3:Aa6 prog 221=some (.i64,3):=by kernel_rfl
def A14(l:List (Int×Int)):AC prog 115 [.ro 2 (A9 l)] (λr=>∃b,r=.mp b .i64 (mV (Acd l []))):=by
 have hq:∀(k:Nat)(h:k<l.length),Gz (A9 l) k=some (.agg [.i l[k].1,.i l[k].2]):=λk h=>Ix h
 have lq:=Eh l;refine K6 0 rfl λi=>?_;rw[lq]at i;have ad:l.length<=maxLen:=i
 have ab:(l.length:Int)<=9223372036854775807:=by
  have:maxLen<=9223372036854775807:=dc;omega
 generalize A9 l=w at*;refine A05 func115 rfl (by show(1:Nat)<=27;omega) λw0 N0=>?_;refine J (Cb (A5a rfl rfl rfl Gi C1 ?_));refine Ak [0] [] sr (J (Cb (Sz .i64 rfl rfl (λb hb _=>⟨_,rfl,?_⟩))));refine Ak [0,3] [] sr (J (Y [3,7,8,9] [] sr ?_));refine Ad (If (λx:Nat×Nat×List (Int×Int)=>⟨[(3,.mp b .i64 (mV x.2.2)),(7,V.ro 2 w),(8,V.i w.length),(9,V.i (x.1:Nat))],[],x.2.1,27⟩) (λx=>x.1<=l.length/\Acd (l.drop x.1) x.2.2=Acd l []/\∀p∈x.2.2,0<=p.2/\p.2<=1000000) (λx=>l.length-x.1) (0,_,[]) ⟨B5 _,rfl,by simp⟩ Z ?_);rintro⟨k,nx,m⟩⟨hk,d,t⟩;simp only at hk d t|-;refine Y [3,7,8,9,10] [] sr (J ?_)
 refine Bk (λh1=>?_) λh1=>?_
 .have f:k<l.length:=by simp at h1;omega
  have n:k<w.length:=om;have y:=hq k f;have Ec:=A4 (k:=k) om;rw[A13 f]at d;generalize l[k]=u at y d;have⟨s,z⟩:=u;simp only at y d;have a:=Ah3 z;have hc:=Acb z;generalize Wy z=g at a hc d;have hl:=A6w t s;have j:=Agc m s;generalize Fi m s=la at hl j d;have Sk:IntKind.i64.wrap (la+g)=la+g:=Bm om om;have c:=Ah3 (la+g);have o:=Acb (la+g);generalize Wy (la+g)=nn at c o d;refine J (Ad (Y [3,5,7,8,9] [5] (by simp[y,n]<;>rfl) ?_));refine H6 [0,2,3,2,7,1,2,1,5,2,8,5] sr ?_;refine B8 9 (by simp[j,-Of]<;>rfl) ?_;refine B1 (λhg=>a) func173 ?_;refine B8 1 (by simp[Sk]<;>rfl) ?_;refine B1 (λhg=>c) func173 ?_;refine Zh (b:=b) hb rfl sm rfl rfl rfl sr sr sr rfl Av3 rfl sr ?_;refine C5 [3,7,8,9] [] sr ?_;refine Cs [] (by simp[Ec]<;>rfl) ?_;exact⟨(k+1,_,(s,nn)::m),⟨f,d,λp hp=>(Bu.1 hp).elim (λe=>e▸o) (t p)⟩,by simp only;omega,Z⟩
 .refine A3 ?_;have aa:k=l.length:=sO h1
  rw[aa,Cl,Acd]at d;subst d;refine Y [2] [] sr ?_;exact Aj (A04 rfl rfl rfl ⟨b,rfl⟩)
def Ao5{l:List Int}(h:l.Pairwise (·< ·)):Ld l=l:=
 List.mergeSort_of_pairwise (h.imp (λa=>by simp only[decide_eq_true_eq];exact Int.le_of_lt a))
def Ah5{l:List Int}(h:l.Pairwise (·< ·)):Lib.compact l=l:=by
 refine Lib.compact_all l λj a=>?_;unfold Lib.keeps;rw[decide_eq_true_iff]
 by_cases c:j=0
 .exact .inl c
 .right
  have:=H1.1 h (j-1) j om a om;have e:l.toArray[j]! =l[j]:=by simp[a]
  have d:l.toArray[j-1]! =l[j-1]'(by omega):=by simp[show j-1<l.length by omega]
  rw[e,d];omega
def Agd:∀ {l:List Int}{p:Int},Uh p l=true->(∀x∈l,p<x/\1<=x/\x<=9999999)/\l.Pairwise (·< ·)
 |[],_,_=>by simp
 |y::r,p,h=>by
  simp only[Uh,Be,decide_eq_true_eq,Y3]at h;have⟨h1,h2⟩:=Agd h.2;refine⟨λx a=>?_,Nu.2 ⟨λx a=>(h1 x a).1,h2⟩⟩
  rcases Bu.1 a with e|e
  .subst e;omega
  .have:=h1 x e;omega
def R2(a b:List Int):Ap (a++b)=Ap a++Ap b:=Cg
def Ace(x:Int):Ap [x]=[.i x]:=rfl
def Vr(f:Int->Bool)(l:List Pit):List Int:=(l.filter λp=>f p.id).map Pit.id
def Av4(f:Int->Bool){l:List Pit}(h:k<l.length):Vr f (l.take (k+1))=Vr f (l.take k)++(if f l[k].id=true then [l[k].id]else []):=by
 unfold Vr;rw[Av h,La,Cg]
 congr 1
 by_cases a:f l[k].id=true
 .rw[Ab a,Is (by exact a)];rfl
 .rw[I a,Iu (by exact a)];rfl
def Amj(f:Int->Bool)(l:List Pit):(Vr f l).length<=l.length:=by unfold Vr;rw[Db];exact H9 _ _
def Ao6(f:Int->Bool){l:List Pit}(h:(Q5 l).Pairwise (·< ·)):(Vr f l).Pairwise (·< ·):=
 List.Pairwise.sublist ((Qx (l:=l)).map Pit.id) h
def Acf(pool:List Pit)(c:List (Int×Int))(d:Int)(a:Rat)(sl:Int):List Int:=Vr (λid=>Vq (Fi (Acd c []) id) d a sl) pool
def Gq(p:Pit):p.v=.agg [.i p.id,.str p.code,.i p.fam,.i p.st,.i p.wo,.i p.se,.i p.pt,.i p.ky,.ro 1 (Eo p.m)]:=rfl
def A15(pool:List Pit)(a:List (Int×Int))(i:Int)(r:RR)(sl:Int)(hr:r.ok 34359738368)(hp:(Q5 pool).Pairwise (·< ·))(am:pool.length<=18):
  AC prog 65 [.ro 9 (C7 pool),.ro 2 (A9 a),.i i,r.v,.i sl] (λx=>x=.ro 1 (Ap (Acf pool a i r.val sl))):=by
 have aj:=A14 a;have hq:=λ(k:Nat)(h:k<pool.length)=>Jg h
 have lq:=Er pool;have j:=λ(ct:Int)=>Bdf ct i r sl hr
 have g:=Ao6 (λid=>Vq (Fi (Acd a []) id) i r.val sl) hp;have w:=Amj (λid=>Vq (Fi (Acd a []) id) i r.val sl);have af:=λ(k:Nat)(h:k<pool.length)=>Av4 (λid=>Vq (Fi (Acd a []) id) i r.val sl) h
 have o:=Agc (Acd a []);have pu:=A8 a;unfold Acf;generalize Acd a []=m,r.val=q at*;have er:=vRR r;rw[er]at j|-;have ad:=Af r.num.mag;have ah:=Af r.den;generalize r.num.neg=rb,Az r.num.mag=rm,Az r.den=rd,A9 a=uv,C7 pool=pv,mV m=mv at*;refine Ai func65 λw0 N0=>?_;refine Y [0,1,2,4,8] [8] sr (Au 1 sr ?_);refine T2 rfl rfl rfl func115 kr rfl sr sM aj ?_;rintro _⟨b,rfl⟩;refine⟨_,rfl,?_⟩;refine Ak [0,2,4,8,11] [8] sr (A5 [12] sr (J (Y [2,4,8,11,12,17,18,19] [8] sr ?_)));refine Fg 12 100 1 3 [2,4,8,11,12,17,18,19] [8,100] sr sr (Ad ?_)
 refine Gn (λx:Nat×Nat×Nat=>[(12,.sl 100 x.2.1 1 (Vr (λid=>Vq (Fi m id) i q sl) (pool.take x.1)).length),(19,V.i (x.1:Nat))]) (λx=>[(100,⟨x.2.1,1,3,Ap (Vr (λid=>Vq (Fi m id) i q sl) (pool.take x.1))⟩)]) (λx=>x.2.2)
  (λx=>x.1<=pool.length) (λx=>pool.length-x.1) (0,_,_) (B5 _) Z ?_
 rintro⟨k,qv,nx⟩hk;simp only at hk|-;refine Y [2,4,8,11,12,17,18,19,20] [8,100] sr (J ?_)
 refine Bk (λh1=>?_) λh1=>?_
 .have l:k<pool.length:=by simp at h1;omega
  have z:k<pv.length:=om;have ga:=hq k l;have Ec:=A4 (k:=k) om;have c:=af k l;have ab:=w (pool.take k);rw[Gq]at ga;generalize pool[k]=p at ga c;have⟨id,ak,al,st,wo,se,pt,ky,mo⟩:=p;simp only at ga c;have y:=o id;generalize Fi m id=ct at y c;have n:=j ct;have aa:(Vr (λid=>Vq (Fi m id) i q sl) (pool.take k)).length<=18:=by simp only[C8]at ab;omega
  generalize Vr (λid=>Vq (Fi m id) i q sl) (pool.take k)=Lk at c aa|-;have ae:Lk.length+1<=maxLen/\(Lk.length+1)*8<=140737488355328:=⟨Ae (show Lk.length+1<=19 by omega) dc,by omega⟩;generalize Vq ct i q sl=e at n c;refine J (Ad (Y [2,4,8,11,12,14,17,18,19] [8,14,100] (by simp[ga,z]<;>rfl) (Au 7 (by simp[y,-Of]<;>rfl) ?_)));refine Ge [2,4,8,11,12,14,17,18,19,30] [8,14,100] n func116 ?_
  refine A1 (λh2=>?_) λh2=>?_
  .refine A6 [2,4,8,11,12,17,18,19] [8,100] (by simp[ae]<;>rfl) (Cs [] (by simp[Ec]<;>rfl) ?_);rw[Ab h2]at c;exact⟨(k+1,_,_),l,by simp only;omega,by simp only[c,R2,Ace,Aq,Ax,Bg];exact Z⟩
  refine A6 [2,4,8,11,12,17,18,19] [8,100] (by simp[Ec]<;>rfl) ?_;rw[I (by rw[h2];simp),Do]at c;exact⟨(k+1,_,_),l,by simp only;omega,by simp only[c];exact Z⟩
 .refine A3 ?_;have ai:k=pool.length:=sO h1
  subst ai;have ag:=w pool;simp only[Bb];generalize Vr (λid=>Vq (Fi m id) i q sl) pool=L at g ag|-;have t:=Ah4 L om;rw[Ao5 g]at t;have s:=Ar7 L om;rw[Ah5 g]at s;have hf:=Uk L;have u:=Ac L;have f:=A0 L;generalize Ap L=r1 at t s hf u f|-;refine Au 1 sr ?_;refine Yc (d:=100) (v:=qv) t hf hf func117 rfl kr rfl rfl rfl (by simp[f]<;>rfl) sR sR ?_;refine Ak [12] [100] sr ?_;refine Au 1 sr ?_;refine Yc (d:=100) (v:=qv) s hf hf func118 rfl kr rfl rfl rfl (by simp[f]<;>rfl) sR sR ?_;refine Ak [10] [100] sr ?_;exact Bv (by simp[results65,u,f]<;>rfl) (rfl)
end Go.Proofs.YtnoignhlamifmaaGreatDoor
