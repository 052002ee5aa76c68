/- Sessions: part 3 of the proof. No condition. -/
import Derived.Test.YtpaccopbbffkaaaGreatDoorB2
import Derived.Test.YtpaccopbbffkaaaGreatDoorProg
import Derived.KernelRfl
import Derived.IntWalk
import Derived.Shelf.Strings.Builder1
import Derived.Shelf.Strings.Builder2
import Derived.Shelf.Small.Bits
import Derived.Shelf.Strconv.Itoa0
import Derived.Shelf.Strings.Search1
import Derived.Shelf.Strings.Search2
import Derived.Shelf.Strings.Search3
import Derived.Shelf.Strings.Cut
import Derived.Shelf.Strings.Count
import Derived.Shelf.LaysM
import Derived.Shelf.Strings.Shaped
import Derived.Shelf.Sort.Plain
import Derived.Shelf.Strings.Split
import Derived.Shelf.Strings.Replace
import Derived.Shelf.Unicode.DecodeSlow
import Derived.Ground.Names2Prog
import Derived.Shelf.Slices.CompactI
import Derived.Shelf.Slices.Cells
import Derived.Ground.SlsfProg
import Derived.Shelf.SlSortCmp.Insertion
import Derived.Shelf.SlSortCmp.Median1
import Derived.Shelf.SlSortCmp.ReverseRange1
import Derived.Lib.AppendIntMem
set_option maxHeartbeats 8000000
set_option linter.all false
open Go.Proofs.Tryz
set_option linter.unusedSimpArgs false
namespace Go.Eng.Limb
def Ed(l:List Nat):Prop:=∀x∈l,x<4294967296
def Bg:List Nat->Nat
 | []=>0
 |x::r=>x+4294967296*Bg r
def M9:List Nat->List Nat
 | []=>[]
 |x::r=>if M9 r= []then(if x=0 then []else [x])else x::M9 r
theorem Ae7:∀(a:List Nat),M9 (a++[0])=M9 a
 | []=>by simp [M9]
 |x::a=>by simp [M9,Ae7 a]
theorem Ae8(y:Nat)(h:y≠0):∀(a:List Nat),M9 (a++[y])=a++[y]
 | []=>by simp [M9,h]
 |x::a=>by simp [M9,Ae8 y h a]
theorem Lx:∀(l:List Nat),(M9 l).length<=l.length
 | []=>by simp [M9]
 |x::r=>by
  have:=Lx r;rw [M9]
  split
  ·split<;>simp
  ·simp;omega
def B1(n:Nat):List Nat:=if h:n=0 then []else n%4294967296::B1 (n/4294967296)
 termination_by n
 decreasing_by omega
theorem Ei:B1 0= []:=by rw [B1];simp
theorem Ll{n:Nat}(h:n≠0):B1 n=n%4294967296::B1 (n/4294967296):=by rw [B1];simp [h]
theorem K3:∀(l:List Nat),Ed l->M9 l=B1 (Bg l)
 | [],_ =>by simp [M9,Bg,Ei]
 |x::r,h=>by
  have hx:x<4294967296:=h x sm;have ih:=K3 r (fun y e=>h y (by simp [e]));rw [M9,Bg,ih]
  by_cases c:Bg r=0
  ·rw [c,Ei]
   by_cases d:x=0
   ·subst d;simp [Ei]
   ·rw [if_pos rfl,if_neg d,Ll (by omega)];rw [show(x+4294967296*0)%4294967296=x by omega,show(x+4294967296*0)/4294967296=0 by omega,Ei]
  ·have a:B1 (Bg r)≠ []:=by rw [Ll c];simp
   rw [if_neg a,Ll (n:=x+4294967296*Bg r) (by omega)];rw [show(x+4294967296*Bg r)%4294967296=x by omega,show(x+4294967296*Bg r)/4294967296=Bg r by omega]
theorem C2(n:Nat):Bg (B1 n)=n:=by
 induction n using Nat.strongRecOn with
 |_ n ih=>
  by_cases h:n=0
  ·subst h;simp [Ei,Bg]
  ·rw [Ll h,Bg,ih _ (by omega)];omega
theorem Cr(n:Nat):Ed (B1 n):=by
 induction n using Nat.strongRecOn with
 |_ n ih=>
  by_cases h:n=0
  ·subst h;simp [Ei,Ed]
  ·rw [Ll h];intro x a
   rcases Cg.1 a with h1|h1
   ·omega
   ·exact ih _ om x h1
def Cj:Nat->Nat->List Nat
 |0,_ =>[]
 |k+1,v=>v%4294967296::Cj k (v/4294967296)
@[simp]theorem Y6:∀(k v:Nat),(Cj k v).length=k
 |0,_ =>rfl
 |k+1,v=>by simp [Cj,Y6 k]
theorem Oq:∀(k v:Nat),Ed (Cj k v)
 |0,_ =>by simp [Cj,Ed]
 |k+1,v=>by
  intro x a
  rcases Cg.1 a with h|h
  ·rw [h];exact Df _ dc
  ·exact Oq k _ x h
theorem Sf:∀(k v:Nat),Bg (Cj k v)=v%4294967296^k
 |0,v=>by simp [Cj,Bg,Vr]
 |k+1,v=>by
  rw [Cj,Bg,Sf k,Cn,Bn (4294967296^k) 4294967296,Vs]
theorem Ak4:∀(l:List Nat),Ed l->Cj l.length (Bg l)=l
 | [],_ =>rfl
 |x::r,h=>by
  have hx:x<4294967296:=h x sm;rw [Bc,Cj,Bg,show(x+4294967296*Bg r)%4294967296=x by omega,show(x+4294967296*Bg r)/4294967296=Bg r by omega,Ak4 r (fun y a=>h y (by simp [a]))]
theorem An1:∀(k v i:Nat),i<k->(Cj k v)[i]? =some (v/4294967296^i%4294967296)
 |0,_,_,h=>by omega
 |k+1,v,0,_ =>by simp [Cj]
 |k+1,v,i+1,h=>by
  rw [Cj,Gj,An1 k _ i om,Cu,Cn,Bn]
theorem Abd:∀(k v:Nat),Cj (k+1) v=Cj k v++[v/4294967296^k%4294967296]
 |0,v=>by simp [Cj]
 |k+1,v=>by
  rw [Cj,Abd k,Cj,Cu,Cn,Bn];rfl
theorem Abe:∀(k v i:Nat),i<=k->(Cj k v).take i=Cj i v
 |_,_,0,_ =>by simp [Cj]
 |0,_,i+1,h=>by omega
 |k+1,v,i+1,h=>by rw [Cj,Mi,Abe k _ i om,Cj]
theorem Ai1:∀(k v i:Nat),i<=k->(Cj k v).drop i=Cj (k-i) (v/4294967296^i)
 |k,v,0,_ =>by simp
 |0,_,i+1,h=>by omega
 |k+1,v,i+1,h=>by
  rw [Cj,List.drop_succ_cons,Ai1 k _ i om,Cu,Cn,Bn,Nat.add_sub_add_right]
theorem Up(k v:Nat):Cj k (v%4294967296^k)=Cj k v:=by
 have:=Ak4 (Cj k v) (Oq k v)
 rwa [Y6,Sf]at this
theorem Y7(k m v:Nat):Cj (k+m) v=Cj k v++Cj m (v/4294967296^k):=by
 have h1:=Abe (k+m) v k om;have h2:=Ai1 (k+m) v k om;rw [show k+m-k=m by omega]at h2;rw [<- h1,<- h2,Fe]
theorem Aw1{k v:Nat}(h:v<4294967296^k):M9 (Cj k v)=B1 v:=by
 rw [K3 _ (Oq k v),Sf,Cm h]
theorem Ae9(k m a b:Nat)(c:a<4294967296^k):Cj k a++Cj m b=Cj (k+m) (a+4294967296^k*b):=by
 have hp:0<4294967296^k:=Fs dc;rw [Y7,Lq _ _ hp,Gz c,Ds,<- Up k (a+4294967296^k*b),Nat.add_mul_mod_self_left,Up]
theorem Ak5:∀(l:List Nat),Ed l->Bg l<4294967296^l.length
 | [],_ =>by simp [Bg]
 |x::r,h=>by
  have hx:x<4294967296:=h x sm;have ih:=Ak5 r (fun y a=>h y (by simp [a]));rw [Bg,Bc,Cn];have:4294967296*(Bg r+1)<=4294967296*4294967296^r.length:=Eh _ ih;rw [Bn (4294967296^r.length)];omega
theorem Pa:∀(a b:List Nat),Bg (a++b)=Bg a+4294967296^a.length*Bg b
 | [],b=>by simp [Bg]
 |x::a,b=>by
  simp only [Ce,Bg,Pa a b,Bc,Cn];rw [D8,<- Cb,Bn 4294967296 (4294967296^a.length)];omega
theorem Qd(n:Nat):B1 n=Cj (B1 n).length n:=by
 have:=Ak4 (B1 n) (Cr n);rw [C2]at this;exact this.symm
theorem Kq(n:Nat):n<4294967296^(B1 n).length:=by
 have:=Ak5 (B1 n) (Cr n)
 rwa [C2]at this
theorem Uq{n:Nat}:B1 n= []↔n=0:=by
 constructor
 ·intro h;have:=C2 n;rw [h]at this;simpa [Bg]using this.symm
 ·rintro rfl;exact Ei
theorem V8:∀(k n:Nat),(B1 n).length=k+1->4294967296^k<=n
 |0,n,h=>by
  rcases E9 n with a|a
  ·subst a;rw [Ei]at h;simp at h
  ·rw [Tx];exact a
 |k+1,n,h=>by
  have a:n≠0:=by rintro rfl;rw [Ei]at h;simp at h
  rw [Ll a,Bc]at h;have ih:=V8 k (n/4294967296) om;have h2:=Fg n 4294967296;exact Aj (B7 4294967296 ih) h2
set_option maxRecDepth 20000
theorem Bbj{u v d a W:Nat}(c:0<a)(hu:u<(d+1)*W)(f:a*W<=v):u/v<=d/a:=by
 rw [Hc c];have h1:=Fg u v;have h2:u/v*(a*W)<=u/v*v:=Eh _ f;have e:u/v*a*W<(d+1)*W:=by rw [Cb];omega
 have:=Je e;omega
theorem Bbk{u v c a W:Nat}(hW:0<W)(hu:c*W<=u)(i:v<(a+1)*W)(f:u/v<a)(e:0<v):c/a<=u/v+1:=by
 have d:0<a:=Fw (B6 _) f
 rcases Dn (u/v+1) (c/a)with h|h
 ·exfalso
  have h1:(u/v+2)*a<=c:=(Hc d).1 h
  have h2:u<(u/v+1)*v:=by
   have:=Iz u e
   rwa [Bn]at this
  have h3:(u/v+2)*a*W<=c*W:=B7 _ h1;have h4:(u/v+1)*v<=(u/v+1)*((a+1)*W):=Eh _ (Ie i)
  have j:(u/v+2)*a*W<(u/v+1)*(a+1)*W:=by
   rw [Cb (u/v+1)];omega
  have g:=Je j;generalize u/v=q at g f;rw [Ci,D8,Ci]at g;omega
 ·exact h
def An2(a x y:Nat):Nat->Nat->Nat->Nat
 |0,d,_ =>d
 |m+1,d,r=>if 4294967296<=d\/r*4294967296+y<d*x then(if 4294967296<=r+a then d-1 else An2 a x y m (d-1) (r+a))else d
theorem A6f{a x y c:Nat}(ha:2147483648<=a)(ab:a<4294967296)(hx:x<4294967296)(hy:y<4294967296)(j:c<(a+1)*4294967296):
  ∀(m d r:Nat),d*a+r=c->r<4294967296->4294967296<=r+m*a->min ((c*4294967296+y)/(a*4294967296+x)) 4294967295<=d->An2 a x y m d r=min ((c*4294967296+y)/(a*4294967296+x)) 4294967295:=by
 have g:0<a*4294967296+x:=om
 have f:∀d r,d*a+r=c->(d<=(c*4294967296+y)/(a*4294967296+x)↔d*x<=r*4294967296+y):=fun d r h=>by
  rw [Hc g,D8,<- Cb,<- h,Ci];omega
 generalize(c*4294967296+y)/(a*4294967296+x)=q at f|-;intro m
 induction m with
 |zero=>intro d r _ hr s _;omega
 |succ m ih=>
  intro d r t hr s hq;have o:=f d r t;rw [An2]
  split
  ·rename_i hc
   have z:0<d:=by
    rcases E9 d with l|l
    ·subst l;omega
    ·exact l
   obtain⟨e,rfl⟩:∃e,d=e+1:=⟨d-1,by omega⟩;rw [Nat.add_sub_cancel];have u:e*a+(r+a)=c:=by rw [<- t,Ci];omega
   have n:min q 4294967295<=e:=by
    rcases Dn e (min q 4294967295)with h|h
    ·exfalso
     have h1:e+1<=q:=om;have h2:=o.1 h1;omega
    ·exact h
   split
   ·rename_i i;have k:=f e (r+a) u
    have aa:e<4294967296:=by
     rcases Dn e 4294967296 with h|h
     ·exact h
     ·exfalso
      have:=B7 a h;rw [Ci]at j;omega
    have h3:e*x<=(r+a)*4294967296+y:=by
     have h4:e*x<=4294967296*4294967296:=Il om om;have h5:4294967296*4294967296<=(r+a)*4294967296:=B7 _ i;omega
    have:=k.2 h3;omega
   ·rename_i i;exact ih e (r+a) u om (by rw [Ci]at s;omega) n
  ·rename_i hc;have w:d<4294967296:=om;have:=o.2 om;omega
theorem A03{c a:Nat}(b1:2147483648*4294967296<=a)(b2:a<4294967296*4294967296)(b3:c<(a+1)*4294967296):
  An2 (a/4294967296) (a%4294967296) (c%4294967296) 3 (c/4294967296/(a/4294967296)) (c/4294967296%(a/4294967296))=min (c/a) 4294967295:=by
 have i:2147483648<=a/4294967296:=om;have f:a/4294967296<4294967296:=om;have g:c/4294967296<(a/4294967296+1)*4294967296:=om
 have h:=A6f (x:=a%4294967296) (y:=c%4294967296) i f om om g 3 (c/4294967296/(a/4294967296)) (c/4294967296%(a/4294967296)) (by
   have:=Hh (c/4294967296) (a/4294967296);rw [Bn]at this;exact this) (Tw (Df (c/4294967296) (show 0<a/4294967296 by omega)) f) (Aj (show 4294967296<=3*(a/4294967296)by omega) (Nat.le_add_left _ _)) (by
   have e:c/4294967296*4294967296+c%4294967296=c:=om;have d:a/4294967296*4294967296+a%4294967296=a:=Nat.div_add_mod' a 4294967296;rw [e,d];refine Aj (Nat.min_le_left _ _) ?_;rw [Hc (show 0<a/4294967296 by omega),Hc (show 0<4294967296 by decide)];have:=Fg c a;have h2:c/a*(a/4294967296*4294967296)<=c/a*a:=Eh _ (Fg _ _);rw [<- Cb]at h2;exact Aj h2 this)
 have e:c/4294967296*4294967296+c%4294967296=c:=om;have d:a/4294967296*4294967296+a%4294967296=a:=Nat.div_add_mod' a 4294967296;rw [e,d]at h;exact h
theorem Ars{n u v:Nat}(hn:2<=n)(s:4294967296^n<=2*v)(j:v<4294967296^n)(hu:u<v*4294967296)(d:Nat)
  (i:d=An2 (v/4294967296^(n-1)) (v/4294967296^(n-2)%4294967296) (u/4294967296^(n-2)%4294967296) 3 (u/4294967296^(n-1)/(v/4294967296^(n-1))) (u/4294967296^(n-1)%(v/4294967296^(n-1)))):
  d<4294967296/\(d=u/v\/d=u/v+1):=by
 obtain⟨k,rfl⟩:∃k,n=k+2:=⟨n-2,by omega⟩;rw [show k+2-1=k+1 by omega,show k+2-2=k by omega]at i;have m:0<4294967296^k:=Fs dc;have o:4294967296^(k+1)=4294967296^k*4294967296:=Cn ..;have t:4294967296^(k+2)=4294967296^k*4294967296*4294967296:=by rw [Cn,Cn]
 rw [o,<- Cu,<- Cu]at i;rw [t]at s j;clear o t;generalize 4294967296^k=W at*
 have h:0<v:=by
  rcases E9 v with l|l
  ·subst l;omega
  ·exact l
 obtain⟨a,f⟩:∃a,a=v/W:=⟨_,rfl⟩;obtain⟨g,c⟩:∃g,g=u/W:=⟨_,rfl⟩;rw [<- f,<- c]at i;have w:a*W<=v:=by rw [f];exact Fg v W
 have r:v<(a+1)*W:=by have:=Iz v m;rw [<- f,Bn]at this;exact this
 have y:g*W<=u:=by rw [c];exact Fg u W
 have a4:u<(g+1)*W:=by have:=Iz u m;rw [<- c,Bn]at this;exact this
 have z:2147483648*4294967296<=a:=by
  have:W*(2147483648*4294967296)<W*(a+1):=by
   have h1:W*4294967296*4294967296<=2*v:=s;have h2:W*4294967296*4294967296=2*(W*(2147483648*4294967296)):=by rw [Cb W,<- Cb 2,Bn 2 W,Cb]
   rw [Bn W (a+1)];omega
  exact Nat.le_of_lt_succ (Nat.lt_of_mul_lt_mul_left this)
 have b2:a<4294967296*4294967296:=by
  have h1:a*W<4294967296*4294967296*W:=by rw [Bn (4294967296*4294967296) W,<- Cb];omega
  exact Je h1
 have hq:u/v<4294967296:=by rw [C6 h,Bn];exact hu
 have b3:g<(a+1)*4294967296:=by
  have h1:g*W<(a+1)*4294967296*W:=by
   have:v*4294967296<=(a+1)*W*4294967296:=B7 _ (Ie r);have e:(a+1)*W*4294967296=(a+1)*4294967296*W:=by rw [Cb,Bn W,Cb]
   omega
  exact Je h1
 have c1:=Bbj om a4 w;have c2:=Bbk m y r om h;have x:=A03 z b2 b3;rw [i,x];omega
theorem Ur(v P:Nat):v%(P*4294967296)=v%P+P*(v/P%4294967296):=Vs
theorem A04{x d v u P c b y b':Nat}(h:x+d*(v%P)=u%P+P*(c+b))(j:y+(d*(v/P%4294967296)+c)%4294967296+b=u/P%4294967296+4294967296*b'):
  (x+P*y)+d*(v%(P*4294967296))=u%(P*4294967296)+P*4294967296*((d*(v/P%4294967296)+c)/4294967296+b'):=by
 rw [Ur,Ur];generalize v/P%4294967296=a,u/P%4294967296=f at*;have hp:=Hh (d*a+c) 4294967296;generalize(d*a+c)/4294967296=q,(d*a+c)%4294967296=r at*;have h1:P*y+P*r+P*b=P*f+P*(4294967296*b'):=by rw [<- D8,<- D8,j,D8]
 have h2:P*(4294967296*q)+P*r=P*(d*a)+P*c:=by rw [<- D8,hp,D8]
 have e:d*(v%P+P*a)=d*(v%P)+P*(d*a):=by rw [D8,N6]
 have g:P*(c+b)=P*c+P*b:=D8 ..;have i:P*4294967296*(q+b')=P*(4294967296*q)+P*(4294967296*b'):=by rw [Cb,D8,D8]
 rw [e,i];rw [g]at h;omega
theorem A05{x v u P c y c':Nat}(h:x+P*c=u%P+v%P)(a:y+4294967296*c'=u/P%4294967296+v/P%4294967296+c):
  (x+P*y)+P*4294967296*c'=u%(P*4294967296)+v%(P*4294967296):=by
 rw [Ur,Ur];generalize v/P%4294967296=d,u/P%4294967296=e at*;have h1:P*y+P*(4294967296*c')=P*e+P*d+P*c:=by rw [<- D8,<- D8,<- D8,a]
 rw [Cb];omega
theorem A06{a s P:Nat}(c:0<P)(hs:0<s):(a%P*s)/P<s/\a%(P*4294967296)*s=a%P*s+P*(a/P%4294967296*s):=by
 constructor
 ·rw [C6 c,Bn s P];exact Gg (Df _ c) hs
 ·rw [Ur,Ci,Cb]
set_option maxRecDepth 4000
theorem Nr(k:Nat):0<4294967296^k:=Fs dc
theorem A07{n b s t:Nat}(f:t=b/4294967296^n)(h1:2147483648<=t*2^s)(h2:t*2^s<4294967296)(hs:s<=32):
  4294967296^(n+1)<=2*(b*2^s)/\b*2^s<4294967296^(n+1):=by
 have j:=Nr n;rw [Cn];generalize 4294967296^n=P at*;have c:t*P<=b:=by rw [f];exact Fg b P
 have d:b<(t+1)*P:=by have:=Iz b j;rw [<- f,Bn]at this;exact this
 have k:0<2^s:=Fs dc;obtain⟨e,m⟩:∃e,4294967296=2^s*e:=⟨2^(32-s),by rw [<- Gt,show s+(32-s)=32 by omega]⟩
 have i:(t+1)*2^s<=4294967296:=by
  rw [m,Bn]at h2|-;exact Eh _ (Nat.lt_of_mul_lt_mul_left h2)
 generalize 2^s=S at*
 constructor
 ·have a:t*P*S<=b*S:=B7 _ c;have h:P*2147483648<=P*(t*S):=Eh _ h1;have g:t*P*S=P*(t*S):=by rw [Bn t P,Cb]
  rw [g]at a;have l:P*4294967296=2*(P*2147483648):=by rw [N6]
  rw [l];exact Eh 2 (Aj h a)
 ·have a:b*S<(t+1)*P*S:=Gg d k;have h:P*((t+1)*S)<=P*4294967296:=Eh _ i;have g:(t+1)*P*S=P*((t+1)*S):=by rw [Bn (t+1) P,Cb]
  omega
theorem A08{V R P q u:Nat}(c:0<P)(e:0<V)(i:R<V*(P*4294967296))(d:u=R/P)(a:q=u/V):
  u<V*4294967296/\q<4294967296/\q*V<=u/\R=q*V*P+((u-q*V)*P+R%P)/\(u-q*V)*P+R%P<V*P:=by
 have h1:u<V*4294967296:=by
  rw [d,C6 c,Cb,Bn 4294967296 P];exact i
 have h2:q*V<=u:=by rw [a];exact Fg u V
 have f:u<(q+1)*V:=by have:=Iz u e;rw [<- a,Bn]at this;exact this
 have g:q<4294967296:=by
  rw [a,C6 e,Bn];exact h1
 have h5:u*P+R%P=R:=by rw [d];exact Nat.div_add_mod' R P
 have h6:=Df R c
 refine⟨h1,g,h2,?_,?_⟩
 ·rw [Nat.sub_mul];have:q*V*P<=u*P:=B7 _ h2;omega
 ·have j:u-q*V<V:=by rw [Ci]at f;omega
  have h:(u-q*V+1)*P<=V*P:=B7 _ j;rw [Ci]at h;omega
theorem A6g{a b S Q R:Nat}(f:0<S)(g:0<b)(h:a*S=Q*(b*S)+R)(e:R<b*S):Q=a/b/\R/S=a%b:=by
 have h1:a*S=S*(Q*b)+R:=by rw [h];congr 1;rw [Bn b S,N6]
 have h2:S∣R:=by
  refine(Nat.dvd_add_right (Nat.dvd_mul_right S (Q*b))).1 ?_;rw [<- h1];exact Nat.dvd_mul_left S a
 obtain⟨r,rfl⟩:=h2
 have c:a=Q*b+r:=by
  rw [<- D8,Bn a S]at h1;exact Nat.eq_of_mul_eq_mul_left f h1
 have d:r<b:=by rw [Bn b S]at e;exact Nat.lt_of_mul_lt_mul_left e
 constructor
 ·rw [c,Bn Q b,Nat.mul_add_div g,Gz d,Ea]
 ·rw [Kh _ f,c,Bn Q b,Nat.mul_add_mod,Cm d]
theorem A09{m n j R w:Nat}(hj:j+n<=m)(c:w<4294967296^n)(d:R<4294967296^(j+n)):
  Cj j R++Cj n w++Cj (m-j-n) (R/4294967296^(j+n))=Cj m (w*4294967296^j+R%4294967296^j):=by
 have h1:=Ae9 j n (R%4294967296^j) w (Df _ (Nr j));rw [Up]at h1;rw [h1,Gz d]
 have h2:R%4294967296^j+4294967296^j*w<4294967296^(j+n):=by
  have:=Df R (Nr j);have a:4294967296^j*(w+1)<=4294967296^j*4294967296^n:=Eh _ c;rw [D8,<- Gt]at a;generalize 4294967296^j=J,4294967296^(j+n)=K at*;generalize J*w=L at*;omega
 rw [Ae9 _ _ _ _ h2,Ty,Ea,show j+n+(m-j-n)=m by omega,Tz,Bn]
end Go.Eng.Limb
set_option linter.unusedSimpArgs false
namespace Go.Eng.Limb
open Go.Eng
theorem Bb{x:Int}(h1: -9223372036854775808<=x)(h2:x<9223372036854775808):IntKind.i64.wrap x=x:=by
 rw [IntKind.wrap_i64];omega
theorem A7{k:Nat}(h:(k:Int)<9223372036854775807):IntKind.i64.wrap ((k:Int)+1)=((k+1:Nat):Int):=by
 rw [Bb om (by omega)];omega
theorem wrap_u32(n:Nat):IntKind.u32.wrap (n:Int)=((n%4294967296:Nat):Int):=by rw [IntKind.wrap_u32];omega
theorem wrap_u64{n:Nat}(h:n<18446744073709551616):IntKind.u64.wrap (n:Int)=(n:Int):=by rw [IntKind.wrap_u64];omega
theorem Y8(n:Nat):(n:Int).fdiv (2^min 32 IntKind.u64.bits)=((n/4294967296:Nat):Int):=by
 show(n:Int).fdiv 4294967296=_
 rw [H1 _ (by omega)];omega
abbrev Wu(n:Nat):V:=.int .u32 (n:Int)
abbrev Au(l:List Nat):List V:=l.map Wu
theorem Ah(l:List Nat):(Au l).all V.pureE=true:=by
 rw [Ax];intro v a;obtain⟨s,_,rfl⟩:=Bk.1 a;rfl
def Gm(l:List Nat)(i:Nat):Nat:=match l[i]? with|some x=>x|none=>0
theorem Art(l:List Nat)(k:Nat)(h:k<l.length):Hs (Au l) k=some (.int .u32 (Gm l k)):=by
 rw [C1,Bd,Gm,Al h];rfl
theorem An3{k v i:Nat}(h:i<k):Gm (Cj k v) i=v/4294967296^i%4294967296:=by
 unfold Gm;rw [An1 k v i h]
theorem Y9{k v i:Nat}(h:i<k):Hs (Au (Cj k v)) i=some (.int .u32 ((v/4294967296^i%4294967296:Nat):Int)):=by
 rw [Art _ _ (by simpa using h),An3 h]
def Rv(x y:Nat):Int:=if x<y then -1 else if y<x then 1 else 0
theorem Afa{a b P:Nat}(hP:0<P)(h:a/(P*4294967296)=b/(P*4294967296))(hl:a/P%4294967296<b/P%4294967296):a<b:=by
 rw [<- Cu,<- Cu]at h;have h1:a/P<b/P:=om
 rcases Dn a b with h2|h2
 ·exact h2
 ·have:=Nat.div_le_div_right (c:=P) h2;omega
theorem Aru{a b P:Nat}(h:a/(P*4294967296)=b/(P*4294967296))(hl:a/P%4294967296=b/P%4294967296):a/P=b/P:=by
 rw [<- Cu,<- Cu]at h;omega
theorem V9(a b:Nat)(c:a<2^64/\b<2^64):bits .or .u64 a b=((a|||b:Nat):Int):=by
 have d:BitVec.ofInt 64 (a:Int)=BitVec.ofNat 64 a:=sm;have e:BitVec.ofInt 64 (b:Int)=BitVec.ofNat 64 b:=sm;have h1:a|||b<2^64:=Nat.or_lt_two_pow c.1 c.2
 show IntKind.u64.wrap ((BitVec.ofInt 64 (a:Int)|||BitVec.ofInt 64 (b:Int)).toNat:Int)=_
 rw [d,e,BitVec.toNat_or,M3,M3,Cm c.1,Cm c.2,IntKind.wrap_u64];omega
theorem Arv{x y k:Nat}(h:x<2^k):y*2^k|||x=y*2^k+x:=by
 have:=Nat.two_pow_add_eq_or_of_lt (i:=k) (b:=x) h y;rw [Bn]at this;exact this.symm
theorem E0{n m:Nat}(h:n<4294967296^m):(B1 n).length<=m:=by
 rw [<- Aw1 h];have:=Lx (Cj m n)
 rwa [Y6]at this
theorem An4(x:Nat)(r:List Nat)(k:Nat):Gm (x::r) (k+1)=Gm r k:=by simp [Gm]
theorem Ai2:∀(l:List Nat)(k:Nat),k<l.length->Bg (l.take (k+1))=Bg (l.take k)+Gm l k*4294967296^k
 |x::r,0,_ =>by simp [Bg,Gm]
 |x::r,k+1,h=>by
  have:=Ai2 r k (by simpa using h);rw [An4,Mi,Bg,this,Mi,Bg,Cn,D8,<- Cb,<- Cb,Bn 4294967296 (Gm r k),Nat.mul_right_comm (Gm r k)];omega
theorem O3(l:List Nat)(k:Nat)(h:l.length<=k):Bg (l.take k)=Bg l:=by rw [Bf h]
theorem Arw(n:Nat):Bg (List.replicate n 0)=0:=by
 induction n with
 |zero=>rfl
 |succ n ih=>simp [G7,Bg,ih]
theorem Pz{a b:List Nat}(h:Ed a)(k:Ed b):Ed (a++b):=fun x c=>by
 rcases B3.1 c with h1|h1
 ·exact h x h1
 ·exact k x h1
theorem Ot{l:List Nat}(h:Ed l)(i:Nat):Gm l i<4294967296:=by
 unfold Gm
 split
 ·rename_i x a;exact h x (Az a)
 ·omega
theorem A1a{a b c x y T P:Nat}(h:T+c*P=a+b)(z:Nat)(d:z=x+y+c):(T+z%4294967296*P)+z/4294967296*(P*4294967296)=(a+x*P)+(b+y*P):=by
 have h1:z%4294967296*P+z/4294967296*(P*4294967296)=z*P:=by
  rw [Bn P 4294967296,<- Cb,<- Ci]
  congr 1
  omega
 have h2:z*P=x*P+y*P+c*P:=by rw [d,Ci,Ci]
 omega
theorem A1b{l:List Nat}{k:Nat}(h:l.length<=k):Bg (l.take (k+1))=Bg (l.take k)+Gm l k*4294967296^k:=by
 have:Gm l k=0:=by unfold Gm;rw [Hd h]
 rw [this,O3 _ _ h,O3 _ _ (by omega)];omega
theorem Qe(l:List Nat)(k:Nat):Bg (l.take (k+1))=Bg (l.take k)+Gm l k*4294967296^k:=by
 by_cases h:k<l.length
 ·exact Ai2 l k h
 ·exact A1b om
def K5(done:List Nat)(n:Nat):List V:=Au (done++List.replicate n 0)
theorem Za{done:List Nat}{k n:Nat}(h:done.length=k):Hs (K5 done (n+1)) k=some (.int .u32 0):=by
 rw [C1,K5,Bd,Bh om,h,Gf,G7];rfl
theorem Zb{done:List Nat}{k n:Nat}(h:done.length=k)(z:Nat):(K5 done (n+1)).set k (.int .u32 (z:Int))=K5 (done++[z]) n:=by
 subst h;simp only [K5,Au,Ck,G7,Cw];rw [Ff _ _ (by simp)];simp
theorem Us{done:List Nat}{n:Nat}:(K5 done n).length=done.length+n:=by simp [K5]
theorem An5(n:Nat):K5 [] n=List.replicate n (.int .u32 0):=by simp [K5,Wu]
theorem Adr{x y:Nat}(h:x+y<18446744073709551616):IntKind.u64.wrap ((x:Int)+(y:Int))=((x+y:Nat):Int):=by
 rw [<- Dd];exact wrap_u64 h
theorem An6:∀(q:List Nat)(m z:Nat),m<q.length->Bg (q.set m z)+Gm q m*4294967296^m=Bg q+z*4294967296^m
 |x::q,0,z,_ =>by simp [Bg,Gm];omega
 |x::q,m+1,z,h=>by
  have:=An6 q m z (by simpa using h);have e:Gm (x::q) (m+1)=Gm q m:=by simp [Gm]
  rw [e,List.set_cons_succ,Bg,Bg,Cn,<- Cb,<- Cb];omega
theorem Aw2{q:List Nat}{n m:Nat}(h:m<q.length):Hs (K5 q n) m=some (.int .u32 (Gm q m)):=by
 rw [C1,K5,Bd,Bj h,Gm,Al h];rfl
theorem Aw3{q:List Nat}{n m:Nat}(h:m<q.length)(z:Nat):(K5 q n).set m (.int .u32 (z:Int))=K5 (q.set m z) n:=by
 simp only [K5,Au,Ck];rw [List.set_append_left _ _ (by simpa using h),N7]
theorem Aw4{q:List Nat}(h:Ed q)(m:Nat){z:Nat}(hz:z<4294967296):Ed (q.set m z):=fun x a=>by
 rcases Fu a with h1|h1
 ·exact h x h1
 ·omega
theorem A1c{vq d vs x y c t u T a:Nat}(h:d+c*a=T)(hs:vs+u*a=d+t%4294967296*a)(e:t=x*y+u+c):
  vs+t/4294967296*(a*4294967296)=T+x*y*a:=by
 have h1:t%4294967296*a+t/4294967296*(a*4294967296)=t*a:=by
  rw [Bn a 4294967296,<- Cb,<- Ci]
  congr 1
  omega
 have h2:t*a=x*y*a+u*a+c*a:=by rw [e,Ci,Ci]
 omega
theorem A6h{x y u c:Nat}(hx:x<4294967296)(hy:y<4294967296)(hu:u<4294967296)(hc:c<4294967296):x*y+u+c<18446744073709551616:=by
 have:x*y<=4294967295*4294967295:=Il om om;omega
theorem Ly(x:Int):IntKind.u64.wrap x=x%18446744073709551616:=by rw [IntKind.wrap_u64]
theorem Ai3(x:Int):IntKind.u32.wrap x=x%4294967296:=by rw [IntKind.wrap_u32]
theorem Ba3(x:Int):x.fdiv (2^min 63 IntKind.u64.bits)=x/9223372036854775808:=by
 show x.fdiv 9223372036854775808=_
 rw [H1 _ (by omega)]
theorem Bei{x y c:Nat}(hx:x<4294967296)(hy:y<4294967296)(hc:c<=1):
  ∃z c':Nat,IntKind.u32.wrap (IntKind.u64.wrap (IntKind.u64.wrap ((x:Int)-(c:Int))-(y:Int)))=z/\
   (IntKind.u64.wrap (IntKind.u64.wrap ((x:Int)-(c:Int))-(y:Int))).fdiv (2^min 63 IntKind.u64.bits)=c'/\z<4294967296/\c'<=1/\z+y+c=x+4294967296*c':=by
 simp only [Ba3,Ly,Ai3]
 by_cases h:y+c<=x
 ·refine⟨x-y-c,0,?_,?_,?_,?_,?_⟩<;>omega
 ·refine⟨x+4294967296-y-c,1,?_,?_,?_,?_,?_⟩<;>omega
theorem Bbl(x c:Nat):IntKind.u64.wrap (IntKind.u64.wrap ((x:Int)-(c:Int))-((0:Nat):Int))=IntKind.u64.wrap ((x:Int)-(c:Int)):=by
 simp only [Ly];omega
theorem Aw5{D a b c x y z c' P:Nat}(h:D+b=a+c*P)(d:z+y+c=x+4294967296*c'):(D+z*P)+(b+y*P)=(a+x*P)+c'*(P*4294967296):=by
 have h1:z*P+y*P+c*P=x*P+c'*(P*4294967296):=by
  rw [<- Ci,<- Ci,d,Ci,Bn 4294967296 c',Cb,Bn 4294967296 P]
 omega
theorem A1d{D a b c P:Nat}(h:D+b=a+c*P)(hD:D<P)(hc:c<=1)(d:b<=a):c=0/\D=a-b:=by
 have:c=0\/c=1:=om
 rcases this with rfl|rfl
 ·omega
 ·omega
theorem Bbm{r x:Nat}(hr:r<4294967296)(a:x<4294967296):bits .or .u64 (IntKind.u64.wrap ((r:Int)*2^min (32:Int).toNat IntKind.u64.bits)) (x:Int)=((r*4294967296+x:Nat):Int):=by
 have e:IntKind.u64.wrap ((r:Int)*2^min (32:Int).toNat IntKind.u64.bits)=((r*4294967296:Nat):Int):=by
  show IntKind.u64.wrap ((r:Int)*4294967296)=_
  rw [Ly];omega
 rw [e,V9 (r*4294967296) x ⟨by omega,by omega⟩];exact congrArg Nat.cast (Arv (k:=32) a)
theorem A6i{r x:Nat}(hr:r<4294967296)(a:x<4294967296):bits .or .u64 (x:Int) (IntKind.u64.wrap ((r:Int)*2^min (32:Int).toNat IntKind.u64.bits))=((r*4294967296+x:Nat):Int):=by
 have e:IntKind.u64.wrap ((r:Int)*2^min (32:Int).toNat IntKind.u64.bits)=((r*4294967296:Nat):Int):=by
  show IntKind.u64.wrap ((r:Int)*4294967296)=_
  rw [Ly];omega
 rw [e,V9 x (r*4294967296) ⟨by omega,by omega⟩,Nat.or_comm];exact congrArg Nat.cast (Arv (k:=32) a)
theorem A1e{A P d x r t:Nat}(c:0<d)(f:r=A/(P*4294967296)%d)(g:x=A/P%4294967296)(h:t=r*4294967296+x):
  t%d=A/P%d/\(d<4294967296->t/d<4294967296)/\A/P/d=A/(P*4294967296)/d*4294967296+t/d/\r<d:=by
 have e:A/P=A/(P*4294967296)*4294967296+x:=by
  rw [<- Cu,g];omega
 generalize A/(P*4294967296)=Y at*;have k:=Hh Y d;have a:r<d:=by rw [f];exact Df _ c
 have i:A/P=d*(Y/d*4294967296)+t:=by
  rw [e,h]
  conv=>lhs;rw [<- k]
  rw [<- f,Ci,Cb];omega
 have j:x<4294967296:=by rw [g];exact Df _ dc
 refine⟨by rw [i,Nat.mul_add_mod],fun _ =>?_,by rw [i,Nat.mul_add_div c],a⟩;rw [C6 c,h,Bn 4294967296 d];have:(r+1)*4294967296<=d*4294967296:=B7 _ a;omega
theorem Ai4{k q Q:Nat}(hq:q<4294967296):Cj (k+1) (Q*4294967296+q)=q::Cj k Q:=by
 simp only [Cj]
 congr 1
 ·omega
 ·congr 1;omega
theorem An7(a b:Nat):(a:Int).tdiv (b:Int)=((a/b:Nat):Int):=by rw [<- Int.ofNat_tdiv]
theorem An8(a b:Nat):(a:Int).tmod (b:Int)=((a%b:Nat):Int):=by rw [<- Int.ofNat_tmod]
theorem Ak6{r x:Nat}(c:r<4294967296)(a:x<4294967296):bits .or .u64 (IntKind.u64.wrap ((r:Int)*2^min 32 IntKind.u64.bits)) (x:Int)=((r*4294967296+x:Nat):Int):=Bbm c a
theorem A1f{r x:Nat}(c:r<4294967296)(a:x<4294967296):bits .or .u64 (x:Int) (IntKind.u64.wrap ((r:Int)*2^min 32 IntKind.u64.bits))=((r*4294967296+x:Nat):Int):=A6i c a
theorem Aw6(a b:Nat)(c:a<2^32/\b<2^32):bits .or .u32 a b=((a|||b:Nat):Int):=by
 have d:BitVec.ofInt 32 (a:Int)=BitVec.ofNat 32 a:=sm;have e:BitVec.ofInt 32 (b:Int)=BitVec.ofNat 32 b:=sm;have h1:a|||b<2^32:=Nat.or_lt_two_pow c.1 c.2
 show IntKind.u32.wrap ((BitVec.ofInt 32 (a:Int)|||BitVec.ofInt 32 (b:Int)).toNat:Int)=_
 rw [d,e,BitVec.toNat_or,M3,M3,Cm c.1,Cm c.2,IntKind.wrap_u32];omega
theorem A1g{a s c t:Nat}(l:a<4294967296)(hs:s<32)(j:c<2^s)(h:t=a*2^s):
  t<18446744073709551616/\c|||t%4294967296=c+t%4294967296/\c+t%4294967296<4294967296/\t/4294967296<2^s:=by
 obtain⟨e,o,i⟩:∃e,4294967296=e*2^s/\0<e:=⟨2^(32-s),by rw [<- Gt,show 32-s+s=32 by omega],Fs dc⟩
 have hS:2^s<=2147483648:=by
  have:2^s<=2^31:=El dc om;exact this
 have f:0<2^s:=Fs dc;have m:t%4294967296=a%e*2^s:=by rw [h,o,Nat.mul_mod_mul_right]
 have k:a%e*2^s|||c=a%e*2^s+c:=Arv j
 have d:=Df a i;have g:(a%e+1)*2^s<=e*2^s:=B7 _ d;have n:a*2^s<4294967296*2^s:=Gg l f;rw [Nat.or_comm,m,k]
 refine⟨by omega,by omega,?_,?_⟩
 ·rw [Ci]at g;omega
 ·rw [C6 dc,h,Bn (2^s)];exact n
theorem A1h{A s k c t:Nat}(e:c=A%4294967296^k*2^s/4294967296^k)(f:t=A/4294967296^k%4294967296*2^s)(d:c+t%4294967296<4294967296)(i:t/4294967296<4294967296):
  Cj (k+2) (A%4294967296^(k+1)*2^s)=Cj k (A%4294967296^k*2^s)++[c+t%4294967296,t/4294967296]:=by
 have a:0<4294967296^k:=Fs dc
 have j:A%4294967296^(k+1)*2^s=A%4294967296^k*2^s+4294967296^k*t:=by
  rw [Cn,Vs,Ci,Cb,f]
 rw [Y7 k 2,j];have h:(A%4294967296^k*2^s+4294967296^k*t)/4294967296^k=c+t:=by rw [Lq _ _ a,e]
 have g:Cj k (A%4294967296^k*2^s+4294967296^k*t)=Cj k (A%4294967296^k*2^s):=by
  rw [<- Up k (_ +_),Nat.add_mul_mod_self_left,Up]
 rw [h,g]
 congr 1
 simp only [Cj]
 congr 1
 ·omega
 ·congr 1;omega
theorem A1i{A s k c:Nat}(a:c=A%4294967296^k*2^s/4294967296^k)(d:c<4294967296):Cj (k+1) (A%4294967296^k*2^s)=Cj k (A%4294967296^k*2^s)++[c]:=by
 rw [Abd,<- a,Cm d]
theorem A1j{A P s:Nat}(hs:s<32):(A/P%4294967296+A/(P*4294967296)%4294967296*4294967296)/2^s%4294967296=A/2^s/P%4294967296:=by
 rw [<- Cu,Cu A (2^s) P,Bn (2^s) P,<- Cu];generalize A/P=X;obtain⟨e,c⟩:∃e,4294967296=e*2^s:=⟨2^(32-s),by rw [<- Gt,show 32-s+s=32 by omega]⟩;have a:0<2^s:=Fs dc;have h1:X=X%4294967296+X/4294967296%4294967296*4294967296+X/4294967296/4294967296*(4294967296*4294967296):=om
 have h2:X/4294967296/4294967296*(4294967296*4294967296)=2^s*(X/4294967296/4294967296*e*4294967296):=by
  conv=>lhs;rhs;lhs;rw [c]
  rw [Cb e,<- Cb,N6]
 conv=>rhs;rw [h1,h2,Lq _ _ a,Nat.add_mul_mod_self_right]
theorem A1k{s x:Nat}(hs:s<=64):(x:Int).fdiv (2^min (s:Int).toNat IntKind.u64.bits)=((x/2^s:Nat):Int):=by
 rw [show(s:Int).toNat=s by omega,Hi (show s<=IntKind.u64.bits from hs),H1 _ (Int.le_of_lt (Int.pow_pos dc))];rw [Int.natCast_ediv,Int.natCast_pow];rfl
theorem A1l{s x:Nat}(hs:s<=64)(h:x*2^s<18446744073709551616):IntKind.u64.wrap ((x:Int)*2^min (s:Int).toNat IntKind.u64.bits)=((x*2^s:Nat):Int):=by
 rw [show(s:Int).toNat=s by omega,Hi (show s<=IntKind.u64.bits from hs)];rw [show((x:Int)*2^s)=((x*2^s:Nat):Int)by rw [Fi,Int.natCast_pow];rfl];exact wrap_u64 h
theorem Aw7{s x:Nat}(hs:s<=64):(x:Int).fdiv (2^min s IntKind.u64.bits)=((x/2^s:Nat):Int):=A1k hs
theorem Aw8{s x:Nat}(hs:s<=64)(h:x*2^s<18446744073709551616):IntKind.u64.wrap ((x:Int)*2^min s IntKind.u64.bits)=((x*2^s:Nat):Int):=A1l hs h
theorem A1m{x y c:Nat}(hx:x<4294967296)(hy:y<4294967296)(hc:c<=1):
  ∃z c':Nat,IntKind.u32.wrap (IntKind.u64.wrap (IntKind.u64.wrap ((x:Int)-(y:Int))-(c:Int)))=z/\
   (IntKind.u64.wrap (IntKind.u64.wrap ((x:Int)-(y:Int))-(c:Int))).fdiv (2^min 63 IntKind.u64.bits)=c'/\z<4294967296/\c'<=1/\z+y+c=x+4294967296*c':=by
 simp only [Ba3,Ly,Ai3]
 by_cases h:y+c<=x
 ·refine⟨x-y-c,0,?_,?_,?_,?_,?_⟩<;>omega
 ·refine⟨x+4294967296-y-c,1,?_,?_,?_,?_,?_⟩<;>omega
def Md(pre:List V)(n U:Nat)(post:List V)(k x:Nat):List V:=pre++(Au (Cj k x++Cj (n+1-k) (U/4294967296^k))++post)
theorem Afb{pre post:List V}{n U k x:Nat}(h:k<=n+1):(Md pre n U post k x).length=pre.length+(n+1)+post.length:=by
 simp [Md];omega
theorem Abf{pre post:List V}{n U:Nat}:Md pre n U post 0 0=pre++(Au (Cj (n+1) U)++post):=by simp [Md,Cj]
theorem An9{pre post:List V}{n U x:Nat}:Md pre n U post (n+1) x=pre++(Au (Cj (n+1) x)++post):=by simp [Md,Cj]
theorem Aoa{pre post:List V}{n U k x:Nat}(h:k<=n):Hs (Md pre n U post k x) (pre.length+k)=some (Wu (U/4294967296^k%4294967296)):=by
 obtain⟨m,a⟩:∃m,n+1-k=m+1:=⟨n-k,by omega⟩;rw [C1,Md,a,Bh om,Nat.add_sub_cancel_left,Bj sm,Bd,Bh sm,Y6,Gf,Cj];rfl
theorem Aob{pre post:List V}{n U k x z:Nat}(h:k<=n)(c:x<4294967296^k)(e:z<4294967296):
  (Md pre n U post k x).set (pre.length+k) (Wu z)=Md pre n U post (k+1) (x+4294967296^k*z):=by
 obtain⟨m,d⟩:∃m,n+1-k=m+1:=⟨n-k,by omega⟩
 have h1:Cj (k+1) (x+4294967296^k*z)=Cj k x++[z]:=by
  rw [<- Ae9 k 1 x z c];simp only [Cj,Cm e]
 have h2:U/4294967296^k/4294967296=U/4294967296^(k+1):=by rw [Cu,Cn]
 rw [Md,Md,d,h1,Ff _ _ om,Nat.add_sub_cancel_left,Cj,h2,show n+1-(k+1)=m by omega];have a:(Au (Cj k x)).length=k:=sm;simp only [Au,Ck,Cw,Cz,Ce,F3]at a|-;rw [Ff _ _ om,a,Gf,Ku]
theorem A1n{x z P:Nat}(hx:x<P)(a:z<4294967296):x+P*z<P*4294967296:=by
 have:P*(z+1)<=P*4294967296:=Eh _ a;rw [D8]at this;omega
def Ak7(n U G:Nat):Nat:=if G<=U then U-G else U+4294967296^(n+1)-G
theorem A1o{n U V g x c b z b':Nat}(d:U<4294967296^(n+1))(l:V<4294967296^n)(hx:x<4294967296^n)(m:x+g*(V%4294967296^n)=U%4294967296^n+4294967296^n*(c+b))
  (a:z+c+b=U/4294967296^n%4294967296+4294967296*b')(k:z<4294967296)(j:b'<=1):x+4294967296^n*z=Ak7 n U (g*V)/\(b'=0↔g*V<=U):=by
 rw [Cm l]at m;have e:4294967296^(n+1)=4294967296^n*4294967296:=Cn ..;rw [Ak7,e];rw [e]at d;have i:0<4294967296^n:=Fs dc;generalize 4294967296^n=P at*;have h:U/P<4294967296:=by rw [C6 i,Bn];exact d
 rw [Cm h]at a;have hd:=Hh U P;generalize U/P=q,U%P=r,g*V=G at*;have h1:P*z+P*(c+b)=P*q+P*(4294967296*b'):=by rw [<- D8,<- D8,<- Jw,a]
 have o:b'=0\/b'=1:=om
 rcases o with rfl|rfl
 ·rw [if_pos (by omega)];omega
 ·have h2:c+b>q:=om;have f:P*(q+1)<=P*(c+b):=Eh _ h2;rw [D8]at f;rw [if_neg (by omega)];omega
theorem A1p{n U W x c z:Nat}(g:U<4294967296^(n+1))(k:W<4294967296^n)(f:x<4294967296^n)(h:x+4294967296^n*c=U%4294967296^n+W%4294967296^n)
  (a:z=(U/4294967296^n%4294967296+c)%4294967296):x+4294967296^n*z=(U+W)%4294967296^(n+1):=by
 rw [Cm k]at h;rw [Cn]at g|-;have d:0<4294967296^n:=Fs dc;generalize 4294967296^n=P at g f h a d|-;have j:U/P<4294967296:=by rw [C6 d,Bn];exact g
 rw [Cm j]at a;have i:=Hh U P;generalize U/P=q at i a;generalize U%P=r at i h;have e:U+W=x+P*(q+c):=by rw [D8];omega
 rw [e,Vs,Nat.add_mul_mod_self_left,Cm f,Lq _ _ d,Gz f,Ds,a]
def Zc(m n j R:Nat):List V:=Au (Cj (m-j-n) (R/4294967296^(j+(n+1))))
theorem Bbn{m n j R:Nat}(h:j+n<=m):Au (Cj (m+1) R)=Md (Au (Cj j R)) n (R/4294967296^j) (Zc m n j R) 0 0:=by
 rw [Abf,Zc,show m+1=j+((n+1)+(m-j-n))by omega,Y7,Y7];simp only [Au,Ck];rw [Cu,<- Gt]
theorem A6j{m n j R U w:Nat}(h:j+n<=m)(a:w<4294967296^(n+1))(c:R<4294967296^(j+(n+1))):
  Md (Au (Cj j R)) n U (Zc m n j R) (n+1) w=Au (Cj (m+1) (w*4294967296^j+R%4294967296^j)):=by
 have:=A09 (m:=m+1) (n:=n+1) (j:=j) (R:=R) (w:=w) om a c;rw [An9,<- this,Zc,show m+1-j-(n+1)=m-j-n by omega];simp only [Au,Ck,Cz]
theorem Arx{pre post:List V}{n U w:Nat}:Md pre n U post (n+1) w=Md pre n w post 0 0:=by rw [An9,Abf]
theorem Auo{m n R:Nat}(h:n<=m+1):(Au (Cj (m+1) R)).take n=Au (Cj n R):=by
 rw [Au,<- Jz,Abe _ _ _ h]
theorem A6k{n u V d w:Nat}(hV:0<V)(c:d=u/V)(a:w=u-u/V*V):¬u<d*V/\Ak7 n u (d*V)=w:=by
 have h1:=Fg u V;rw [<- c]at h1 a;exact⟨by omega,by rw [Ak7,if_pos h1,a]⟩
theorem A6l{n u V d w:Nat}(j:0<V)(a:V<4294967296^n)(i:d=u/V+1)(h:w=u-u/V*V):
  u<d*V/\Ak7 n u (d*V)<4294967296^(n+1)/\(Ak7 n u (d*V)+V)%4294967296^(n+1)=w/\w<V:=by
 have h1:=Fg u V;have h2:=Iz u j;have e:d*V=u/V*V+V:=by rw [i,Ci,Vq]
 have g:V*(u/V+1)=u/V*V+V:=by rw [Bn,Ci,Vq]
 rw [g]at h2;have f:4294967296^(n+1)=4294967296^n*4294967296:=Cn ..;rw [Ak7,e];generalize u/V*V=Q at h1 h2 h|-;have c:V<4294967296^(n+1):=by rw [f];omega
 clear f a;generalize 4294967296^(n+1)=M at c|-;rw [if_neg (by omega)];refine⟨by omega,by omega,?_,by omega⟩;rw [show u+M-(Q+V)+V=w+M by omega,Nat.add_mod_right,Cm (by omega)]
theorem A6m{A S Q q V R P a:Nat}(c:A*S=Q*(P*4294967296)*V+R)(d:R=q*V*P+a):A*S=(Q*4294967296+q)*P*V+a:=by
 rw [c,d,Ci,Ci,<- Jw]
 congr 1
 congr 1
 ·rw [Bn P 4294967296,<- Cb Q]
 ·rw [Cb,Cb,Bn V P]
theorem Aw9{pre post:List V}{n U:Nat}:((Md pre n U post 0 0).drop pre.length).take (n+1)=Au (Cj (n+1) U):=by
 rw [Abf,List.drop_left,List.take_left'];simp
def Zd(M i Q:Nat):List V:=List.replicate i (.int .u32 0)++Au (Cj (M-i) Q)
theorem A1q{M i Q:Nat}(h:i<=M):(Zd M i Q).length=M:=by simp [Zd];omega
theorem Axa{M Q:Nat}:Zd M 0 Q=Au (Cj M Q):=by simp [Zd]
theorem A1r{M Q:Nat}:Zd M M Q=List.replicate M (.int .u32 0):=by simp [Zd,Cj]
theorem A1s{M i Q:Nat}:Hs (Zd M (i+1) Q) i=some (.int .u32 0):=by
 rw [C1,Zd,Bj sm,Ip,if_pos (by omega)]
theorem A1t{M i Q q:Nat}(h:i+1<=M)(c:q<4294967296):(Zd M (i+1) Q).set i (.int .u32 (q:Int))=Zd M i (Q*4294967296+q):=by
 have a:M-i=(M-(i+1))+1:=om;rw [Zd,Zd,a,Ai4 c,List.replicate_succ',Cz,Ff _ _ (by simp)];simp
structure RI where
 neg:Bool
 mag:List Nat
def sgn(b:Bool)(n:Nat):Int:=if b=true then -(n:Int)else n
def RI.val(a:RI):Int:=sgn a.neg (Bg a.mag)
def RI.v(a:RI):V:=.agg [.bool a.neg,.ro 1 (Au a.mag)]
structure RI.ok(a:RI)(k:Nat):Prop where
 lim:Ed a.mag
 len:a.mag.length<=k
def nI(z:Int):RI:=⟨decide (z<0),B1 z.natAbs⟩
def Oc(z:Int):Nat:=(B1 z.natAbs).length
theorem I2(z:Int):(nI z).val=z:=by
 simp only [RI.val,nI,C2,sgn]
 by_cases h:z<0
 ·rw [if_pos (by simpa using h)];omega
 ·rw [if_neg (by simpa using h)];omega
theorem Ht{z:Int}{k:Nat}(h:Oc z<=k):(nI z).ok k:=⟨Cr _,h⟩
theorem Wa(b:Bool)(n:Nat):(sgn b n).natAbs=n:=by unfold sgn;split<;>simp
theorem A6n(b:Bool)(n:Nat):decide (sgn b n<0)=(b&& !decide (n=0)):=by
 unfold sgn;rw [Mv]
 cases b
 ·simp
 ·simp only [if_true,decide_eq_true_iff,Bool.true_and,Hz,decide_eq_false_iff_not];omega
theorem RI.abs(a:RI):a.val.natAbs=Bg a.mag:=Wa _ _
theorem RI.sz{a:RI}{k:Nat}(h:a.ok k):Oc a.val<=k:=by
 rw [Oc,RI.abs];have:=Lx a.mag;rw [K3 a.mag h.lim]at this;exact Aj this h.len
theorem Bbo(b:Bool)(n:Nat):(nI (sgn b n)).v=.agg [.bool (b&& !decide (n=0)),.ro 1 (Au (B1 n))]:=by
 rw [nI,RI.v];simp only [Wa,A6n]
def Hp(z:Int):Int:=if z<0 then -1 else if 0<z then 1 else 0
def cmpI(a b:Int):Int:=if a<b then -1 else if b<a then 1 else 0
theorem A1u(b:Bool)(n:Nat):Hp (sgn b n)=if b=true then -Rv n 0 else Rv n 0:=by
 unfold Hp sgn Rv;cases b<;>simp<;>(repeat' split)<;>omega
theorem A6o(b c:Bool)(n m:Nat)(h1:¬Hp (sgn b n)<Hp (sgn c m))(h2:¬Hp (sgn c m)<Hp (sgn b n)):cmpI (sgn b n) (sgn c m)=Hp (sgn b n)*Rv n m:=by
 unfold cmpI Hp sgn Rv at*;cases b<;>cases c<;>simp at*<;>(repeat' split at h1)<;>(repeat' split at h2)<;>(repeat' split)<;>omega
theorem A6p(b:Bool)(n m:Nat):sgn b n+sgn b m=sgn b (n+m):=by unfold sgn;cases b<;>simp<;>omega
theorem A6q{b c:Bool}(h:b≠c){n m:Nat}(hm:m<=n):sgn b n+sgn c m=sgn b (n-m):=by unfold sgn;cases b<;>cases c<;>simp at*<;>omega
theorem A1v{b c:Bool}(h:b≠c){n m:Nat}(hm:n<=m):sgn b n+sgn c m=sgn c (m-n):=by unfold sgn;cases b<;>cases c<;>simp at*<;>omega
theorem Aup(b c:Bool)(n m:Nat):sgn b n*sgn c m=sgn (b != c) (n*m):=by unfold sgn;cases b<;>cases c<;>simp [Int.neg_mul,Vt,Fi]
theorem A6r(b:Bool)(n:Nat):sgn (!b) n= -sgn b n:=by unfold sgn;cases b<;>simp
theorem Ns{a b i j:Nat}(h1:(B1 a).length<=i)(h2:(B1 b).length<=j):(B1 (a*b)).length<=i+j:=by
 refine E0 ?_;have c:=Kq a;have d:=Kq b
 rcases E9 (a*b)with h|h
 ·rw [h];exact Fs dc
 ·refine Cc (Nat.mul_lt_mul_of_lt_of_le c (Ie d) (Fs dc)) ?_
  ·rw [<- Gt];exact El dc om
theorem Ads{a b i j:Nat}(h1:(B1 a).length<=i)(h2:(B1 b).length<=j):(B1 (a+b)).length<=max i j+1:=by
 refine E0 ?_;have a1:=Kq a;have b1:=Kq b;have d:4294967296^(B1 a).length<=4294967296^max i j:=El dc om;have c:4294967296^(B1 b).length<=4294967296^max i j:=El dc om;rw [Cn];generalize 4294967296^max i j=P at d c|-;omega
theorem Th{a b:Nat}(h:a<=b):(B1 a).length<=(B1 b).length:=E0 (Fw h (Kq b))
theorem K6{l:List Nat}(h:Ed l):(B1 (Bg l)).length<=l.length:=by rw [<- K3 l h];exact Lx l
structure RR where
 num:RI
 den:List Nat
def RR.v(a:RR):V:=.agg [.bool a.num.neg,.ro 1 (Au a.num.mag),.ro 1 (Au a.den)]
def RR.val(a:RR):Rat:=mkRat a.num.val (Bg a.den)
structure RR.ok(a:RR)(k:Nat):Prop where
 num:a.num.ok k
 lim:Ed a.den
 len:a.den.length<=k
def nR(q:Rat):RR:=⟨nI q.num,B1 q.den⟩
def P1(q:Rat):Nat:=max (Oc q.num) ((B1 q.den).length)
theorem Me(q:Rat):(nR q).val=q:=by simp [RR.val,nR,I2,C2,Rat.mkRat_self]
theorem Na{q:Rat}{k:Nat}(h:P1 q<=k):(nR q).ok k:=⟨Ht (by unfold P1 at h;omega),Cr _,by unfold P1 at h;show(B1 q.den).length<=k;omega⟩
theorem Ut(b:Bool)(n d:Nat)(h:d≠0):(mkRat (sgn b n) d).num=sgn b (n/n.gcd d)/\(mkRat (sgn b n) d).den=d/n.gcd d:=by
 rw [mkRat,dif_neg h,Rat.normalize_eq];simp only [Wa];refine⟨?_,trivial⟩;have a:((n.gcd d:Nat):Int)∣(n:Int):=Int.natCast_dvd_natCast.2 (Nat.gcd_dvd_left n d);unfold sgn
 cases b
 ·simp
 ·simp only [if_true];rw [Int.neg_ediv_of_dvd a,<- Int.natCast_ediv]
theorem Bej(b:Bool)(n d:Nat)(h:d≠0):nR (mkRat (sgn b n) d)=⟨nI (sgn b (n/n.gcd d)),B1 (d/n.gcd d)⟩:=by
 obtain⟨h1,h2⟩:=Ut b n d h;rw [nR,h1,h2]
def RR.p(a:RR):RR:=if Bg a.den=0 then⟨⟨false,[]⟩,B1 1⟩else a
theorem Ak8:B1 1= [1]:=by rw [Ll (by decide)];simp [Ei]
theorem RR.p_val(a:RR):a.p.val=a.val:=by
 unfold RR.p
 split
 ·rename_i h;rw [RR.val,RR.val,h];simp [RI.val,sgn,Bg,Rat.mkRat_zero,Q5]
 ·rfl
theorem RR.p_ne(a:RR):Bg a.p.den≠0:=by
 unfold RR.p
 split
 ·simp only [C2];decide
 ·assumption
theorem RR.p_ok{a:RR}{k:Nat}(h:a.ok k)(c:1<=k):a.p.ok k:=by
 unfold RR.p
 split
 ·exact⟨⟨by simp [Ed],by simp⟩,Cr _,by rw [Ak8];simpa using c⟩
 ·exact h
theorem Abg{b:Bool}{n d k:Nat}(h:d≠0)(h1:(B1 n).length<=k)(h2:(B1 d).length<=k):P1 (mkRat (sgn b n) d)<=k:=by
 obtain⟨c,a⟩:=Ut b n d h;rw [P1,c,a,Oc,Wa];have a1:=Th (H6 n (n.gcd d));have a2:=Th (H6 d (n.gcd d));omega
theorem RR.sz{a:RR}{k:Nat}(h:a.ok k)(d:1<=k):P1 a.val<=k:=by
 rw [<- RR.p_val];have c:=RR.p_ok h d;exact Abg (RR.p_ne a) (Aj (K6 c.num.lim) c.num.len) (Aj (K6 c.lim) c.len)
theorem A1w{f d:Int}{a c:Nat}(h1:a≠0)(h2:c≠0):mkRat f a<mkRat d c↔f*c<d*a:=by
 have h:(0:Rat)<(a:Rat):=Rat.natCast_pos.2 (Ia h1);have g:(0:Rat)<(c:Rat):=Rat.natCast_pos.2 (Ia h2);rw [Rat.mkRat_eq_div,Rat.mkRat_eq_div,Rat.div_lt_iff h]
 have e:(d:Rat)/(c:Rat)*(a:Rat)=((d:Rat)*(a:Rat))/(c:Rat):=by
  rw [Rat.div_def,Rat.div_def,Rat.mul_assoc,Rat.mul_comm _ (a:Rat),<- Rat.mul_assoc]
 rw [e,Rat.lt_div_iff g];rw [<- Rat.intCast_natCast,<- Rat.intCast_natCast,<- Rat.intCast_mul,<- Rat.intCast_mul,Rat.intCast_lt_intCast]
def Nt(p q:Rat):Int:=if p<q then -1 else if q<p then 1 else 0
theorem Auq{e d:Int}{a c:Nat}(h1:a≠0)(h2:c≠0):Nt (mkRat e a) (mkRat d c)=cmpI (e*c) (d*a):=by
 unfold Nt cmpI;simp only [A1w h1 h2,A1w h2 h1]
def Acq(q:Rat):Int:=Nt q 0
theorem A1x{n:Int}{d:Nat}(h:d≠0):Acq (mkRat n d)=Hp n:=by
 have e:(0:Rat)=mkRat 0 1:=by rw [Q5]
 rw [Acq,e,Auq h (by decide)];unfold cmpI Hp;simp
def As(l:List Int):List V:=l.map (V.int .i64)
@[simp]theorem A5(l:List Int):(As l).length=l.length:=by simp [As]
theorem Fj{l:List Int}{k:Nat}(h:k<l.length):Hs (As l) k=some (.int .i64 l[k]):=by rw [C1];simp [As,h]
theorem Af(l:List Int):(As l).all V.pureE=true:=by
 rw [Ax];intro x a;simp only [As,Bk]at a;obtain⟨n,_,rfl⟩:=a;rfl
def Kr{α:Type}(f:α->Int):List α->Int
 | []=>0
 |x::r=>if f x≠0 then f x else Kr f r
theorem Ou{α:Type}(f:α->Int){l:List α}{k:Nat}(h:k<l.length):Kr f (l.drop k)=if f l[k]≠0 then f l[k]else Kr f (l.drop (k+1)):=by
 rw [Bu h,Kr]
theorem A1y{α:Type}(f:α->Bool){l:List α}{k:Nat}(h:k<l.length):(l.drop k).any f=(f l[k]||(l.drop (k+1)).any f):=by
 rw [Bu h,Mr]
theorem Ka{α:Type}{f:α->Int}:∀ {l:List α},Kr f l=0->∀x∈l,f x=0
 | [],_,x,a=>by cases a
 |y::r,h,x,a=>by
  rw [Kr]at h
  split at h
  ·rename_i c;exact absurd h c
  ·rename_i c
   rcases Cg.1 a with e|e
   ·subst e;exact Classical.not_not.1 c
   ·exact Ka h x e
def Uu:List Int->Bool
 | []=>true
 | [_]=>true
 |a::b::r=>decide (a<b)&&Uu (b::r)
theorem Ary{l:List Int}{k:Nat}(h:k+1<l.length):Uu (l.drop k)=(decide (l[k]'(by omega)<l[k+1])&&Uu (l.drop (k+1))):=by
 rw [Bu (by omega:k<l.length),Bu h,Uu]
theorem Axb{l:List Int}{k:Nat}(h:l.length<=k+1):Uu (l.drop k)=true:=by
 have:(l.drop k).length<=1:=by simp;omega
 match hd:l.drop k,this with
 | [],_ =>rfl
 | [_],_ =>rfl
structure Gr where
 pts:List Int
 pri:List Int
def Gr.v(g:Gr):V:=.agg [.ro 1 (As g.pts),.ro 1 (As g.pri)]
def Afc(p w:Int):Bool:=decide (p< -1000)||decide (1000<p)||decide (w<1)||decide (1000<w)
def Rx:List Int->List Int->Bool
 |p::ps,w::a=>Afc p w||Rx ps a
 |_,_ =>false
theorem Aoc:∀ {l m:List Int}{k:Nat}(h1:k<l.length)(h2:k<m.length),Rx (l.drop k) (m.drop k)=(Afc l[k] m[k]||Rx (l.drop (k+1)) (m.drop (k+1))):=by
 intro l m k h1 h2;rw [Bu h1,Bu h2,Rx]
def Lm(g:Gr):Int:=
 if 21<g.pts.length then 5 else if g.pts.length=0 then 20 else if g.pri.length≠g.pts.length then 1
 else if Rx g.pts g.pri=true then 3 else if Uu g.pts=false then 23 else 0
theorem Afd:∀ {l m:List Int},l.length=m.length->Rx l m=false->(∀p∈l,-1000<=p/\p<=1000)/\∀w∈m,1<=w/\w<=1000
 | [],[],_,_ =>by simp
 |p::ps,w::c,d,h=>by
  rw [Rx,Gs]at h;obtain⟨h1,h2⟩:=Afd (l:=ps) (m:=c) (by simpa using d) h.2;simp [Afc]at h
  refine⟨fun x a=>?_,fun x a=>?_⟩
  ·rcases Cg.1 a with e|e
   ·subst e;omega
   ·exact h1 x e
  ·rcases Cg.1 a with e|e
   ·subst e;omega
   ·exact h2 x e
structure Gr.ok(g:Gr):Prop where
 len:g.pts.length<=21
 pos:0<g.pts.length
 same:g.pri.length=g.pts.length
 pts:∀p∈g.pts,-1000<=p/\p<=1000
 pri:∀w∈g.pri,1<=w/\w<=1000
 ord:Uu g.pts=true
theorem J3{g:Gr}(h:Lm g=0):g.ok:=by
 unfold Lm at h
 (repeat' split at h)<;>try omega
 rename_i h1 h2 h3 d e;obtain⟨a,c⟩:=Afd (l:=g.pts) (m:=g.pri) om (by simpa using d);exact⟨by omega,by omega,by omega,a,c,by simpa using e⟩
def Bv(w:List Nat):List V:=w.map fun n=>.ro 1 (Au (B1 n))
@[simp]theorem H2(w:List Nat):(Bv w).length=w.length:=by simp [Bv]
theorem Kb{w:List Nat}{k:Nat}(h:k<w.length):Hs (Bv w) k=some (.ro 1 (Au (B1 w[k]))):=by rw [C1];simp [Bv,h]
theorem Br(w:List Nat):(Bv w).all V.pureE=true:=by
 rw [Ax];intro x a;simp only [Bv,Bk]at a;obtain⟨n,_,rfl⟩:=a;simpa [V.pureE]using Ah (B1 n)
def G5:List Nat->Nat
 | []=>0
 |w::r=>w+G5 r
def Mz:List Int->List Nat->Int
 |p::ps,w::r=>w*p+Mz ps r
 |_,_ =>0
def Ry:List Int->List Nat->Int
 |p::ps,w::r=>w*p*p+Ry ps r
 |_,_ =>0
abbrev Mo:=List (List Int)
def Ek(m:Mo):List V:=m.map fun r=>.ro 1 (As r)
@[simp]theorem Lz(m:Mo):(Ek m).length=m.length:=by simp [Ek]
theorem Sg{m:Mo}{k:Nat}(h:k<m.length):Hs (Ek m) k=some (.ro 1 (As m[k])):=by rw [C1];simp [Ek,h]
theorem Dw(m:Mo):(Ek m).all V.pureE=true:=by
 rw [Ax];intro x a;simp only [Ek,Bk]at a;obtain⟨n,_,rfl⟩:=a;simpa [V.pureE]using Af n
def moV(m:Mo):V:=.agg [.ro 1 (Ek m)]
def Ahr:List Int->Int
 | []=>0
 |x::r=>x+Ahr r
def Ahs(x:Int):Bool:=decide (x<1)||decide (1000<x)
def Abh(c:Nat)(r:List Int):Int:=if r.length≠c then 1 else if r.any Ahs=true then 3 else if Ahr r≠1000 then 19 else 0
def Wv(m:Mo):Nat:=match m with| []=>0|r::_ =>r.length
def Ln(m:Mo)(n:Int):Int:=
 if n<1\/21<n\/(m.length:Int)≠n then 1
 else if Wv m<2\/6<Wv m then 3 else Kr (Abh (Wv m)) m
theorem Axc{l:List Int}{k:Nat}(h:k<l.length):Ahr (l.drop k)=l[k]+Ahr (l.drop (k+1)):=by rw [Bu h,Ahr]
structure moOk(m:Mo)(n:Nat):Prop where
 len:m.length=n
 pos:0<n
 le:n<=21
 two:2<=Wv m
 six:Wv m<=6
 row:∀r∈m,r.length=Wv m/\(∀x∈r,1<=x/\x<=1000)/\Ahr r=1000
theorem Ze{m:Mo}{n:Nat}(h:Ln m n=0):moOk m n:=by
 unfold Ln at h
 (repeat' split at h)<;>try omega
 rename_i h1 h2;refine⟨by omega,by omega,by omega,by omega,by omega,fun r e=>?_⟩;have a:=Ka h r e;unfold Abh at a
 (repeat' split at a)<;>try omega
 rename_i h4 d h6;refine⟨by omega,fun x c=>?_,by omega⟩;have:=Jq.1 (by simpa using d:r.any Ahs=false) x c;simp [Ahs]at this;omega
def Sh(q:Rat):Rat:=if q<0 then -q else q
def Si(q:Rat):List Int->Nat->Nat->Rat->Nat
 | [],_,b,_ =>b
 |p::r,i,b,l=>if Sh (p-q)<l then Si q r (i+1) i (Sh (p-q))else Si q r (i+1) b l
def Afe(a:List Int)(q:Rat):Nat:=match a with
 | []=>0
 |p::r=>Si q r 1 0 (Sh (p-q))
theorem Arz(q:Rat){l:List Int}{k:Nat}(h:k<l.length)(i b:Nat)(d:Rat):Si q (l.drop k) i b d=if Sh (l[k]-q)<d then Si q (l.drop (k+1)) (i+1) i (Sh (l[k]-q))else Si q (l.drop (k+1)) (i+1) b d:=by
 rw [Bu h,Si]
theorem Aff(q:Rat):∀(l:List Int)(i b:Nat)(d:Rat),b<i->Si q l i b d<i+l.length
 | [],i,b,d,h=>by simpa [Si]using h
 |p::r,i,b,d,h=>by
  rw [Si]
  split
  ·have:=Aff q r (i+1) i (Sh (p-q)) om;simp;omega
  ·have:=Aff q r (i+1) b d om;simp;omega
theorem A6s{a:List Int}(q:Rat)(h:0<a.length):Afe a q<a.length:=by
 cases a with
 |nil=>simp at h
 |cons p r=>have:=Aff q r 1 0 (Sh (p-q)) (by omega);simp [Afe];omega
def nIb(z:Int):Bool:=decide (z<0)
def nIl(z:Int):List V:=Au (B1 z.natAbs)
theorem Ar0(z:Int):(nI z).v=.agg [.bool (nIb z),.ro 1 (nIl z)]:=rfl
theorem Uv(z:Int):(nIl z).all V.pureE=true:=Ah _
def nRl(q:Rat):List V:=nIl q.num
def nRd(q:Rat):List V:=Au (B1 q.den)
def nRb(q:Rat):Bool:=nIb q.num
theorem Ww(q:Rat):(nR q).v=.agg [.bool (nRb q),.ro 1 (nRl q),.ro 1 (nRd q)]:=rfl
theorem Jb(q:Rat):(nRl q).all V.pureE=true:=Ah _
theorem Jc(q:Rat):(nRd q).all V.pureE=true:=Ah _
theorem A1z:nIb 0=false:=rfl
theorem A10:nIl 0= []:=by simp [nIl,Ei,Au]
def Fo(n:Nat):List V:=Au (B1 n)
theorem Ex(n:Nat):(Fo n).all V.pureE=true:=Ah _
theorem Wb{w:List Nat}{k:Nat}(h:k<w.length):G5 (w.take (k+1))=G5 (w.take k)+w[k]:=by
 have c:∀(a:List Nat)(x:Nat),G5 (a++[x])=G5 a+x:=by
  intro a x;induction a with
  |nil=>simp [G5]
  |cons y a ih=>simp only [Ce,G5,ih];omega
 rw [A3 h,c]
theorem Ai5{l:List Int}{w:List Nat}{k:Nat}(h1:k<l.length)(h2:k<w.length):Mz (l.take (k+1)) (w.take (k+1))=Mz (l.take k) (w.take k)+w[k]*l[k]:=by
 have c:∀(a:List Int)(b:List Nat)(x:Int)(y:Nat),a.length=b.length->Mz (a++[x]) (b++[y])=Mz a b+y*x:=by
  intro a;induction a with
  |nil=>intro b x y h;cases b with
   |nil=>simp [Mz]
   |cons _ _ =>simp at h
  |cons p a ih=>intro b x y h;cases b with
   |nil=>simp at h
   |cons q b=>simp only [Ce,Mz,ih b x y (by simpa using h)];omega
 rw [A3 h1,A3 h2,c _ _ _ _ (by simp;omega)]
theorem Ai6{l:List Int}{w:List Nat}{k:Nat}(h1:k<l.length)(h2:k<w.length):Ry (l.take (k+1)) (w.take (k+1))=Ry (l.take k) (w.take k)+w[k]*l[k]*l[k]:=by
 have c:∀(a:List Int)(b:List Nat)(x:Int)(y:Nat),a.length=b.length->Ry (a++[x]) (b++[y])=Ry a b+y*x*x:=by
  intro a;induction a with
  |nil=>intro b x y h;cases b with
   |nil=>simp [Ry]
   |cons _ _ =>simp at h
  |cons p a ih=>intro b x y h;cases b with
   |nil=>simp at h
   |cons q b=>simp only [Ce,Ry,ih b x y (by simpa using h)];omega
 rw [A3 h1,A3 h2,c _ _ _ _ (by simp;omega)]
structure Ru where
 kind:Int
 n:Int
 mn:Int
 mx:Int
 code:List UInt8
def Ru.cs(r:Ru):List V:=[.int .i64 r.kind,.int .i64 r.n,.int .i64 r.mn,.int .i64 r.mx,.str r.code]
def Ru.v(r:Ru):V:=.agg r.cs
def Ru.known(r:Ru):Prop:=1<=r.kind/\r.kind<=9
def Afg(a b:Int):Int:=if a<0\/9999999<a\/b<0\/9999999<b then 3 else if b<a then 23 else 0
def Wx(n:Int):Bool:=decide (1<=n)&&decide (n<=9999999)
def Ru.fits(r:Ru):Bool:=
 if r.kind=1 then decide (r.n=0)
 else if r.kind=2\/r.kind=3 then decide (r.n=0)&&decide (r.mn=0)&&decide (r.code= [])
 else if r.kind=4 then decide (r.n=0)&&decide (r.code= [])
 else if r.kind=5\/r.kind=6 then decide (r.code= [])
 else if r.kind=7\/r.kind=8 then decide (r.mn=0)&&decide (r.mx=0)&&decide (r.code= [])
 else if r.kind=9 then decide (r.n=0)&&decide (r.mn=0)&&decide (r.mx=0)&&decide (r.code= [])
 else false
end Go.Eng.Limb
namespace Go.Proofs.YtpaccopbbffkaaaGreatDoor
open Go.Eng
@[simp]theorem Bf4:Aec prog 2=some .i64/\I1 prog 3=some 1/\E8 prog 3=some false/\Ef prog 3=some (.int .i64 0)/\Ud prog 3=some 1/\J4 prog 3=some 8/\Aec prog 3=some .i64/\I1 prog 4=some 1/\E8 prog 4=some false/\Ef prog 4=some (.bool false)/\Aue prog 4=true/\Ef prog 5=some (.int .u8 0)/\Ud prog 5=some 1/\J4 prog 5=some 1/\Aec prog 5=some .u8/\I1 prog 9=some 1/\E8 prog 9=some false/\Ef prog 9=some (.str [])/\Ud prog 9=some 1/\Aay prog 9=true/\Aec prog 9=none/\I1 prog 22=some 1/\E8 prog 22=some false/\Ga prog 22=some 86:=⟨kr,kr,kr,kr,kr,kr,kr,kr,kr,kr,kr,kr,kr,kr,kr,kr,kr,kr,kr,kr,kr,kr,kr,kr⟩
@[simp]theorem Bfu:I1 prog 24=some 2/\E8 prog 24=some true/\Ef prog 24=some (.agg [.int .i64 0,.nils])/\Bp prog 24 0=some (0,1,false)/\Bp prog 24 1=some (1,1,false)/\Ez prog 24=true/\I1 prog 25=some 1/\E8 prog 25=some false/\Ef prog 25=some (.nils)/\Ud prog 25=some 1/\J4 prog 25=some 24/\Ga prog 25=some 3/\I1 prog 27=some 2/\E8 prog 27=some true/\Ef prog 27=some (.agg [.nils,.nils])/\Ud prog 27=some 2/\Bp prog 27 0=some (0,1,false)/\Bp prog 27 1=some (1,1,false)/\Ez prog 27=true/\I1 prog 28=some 1/\E8 prog 28=some false/\Ga prog 28=some 368/\I1 prog 30=some 1/\E8 prog 30=some false:=⟨kr,kr,kr,kr,kr,kr,kr,kr,kr,kr,kr,kr,kr,kr,kr,kr,kr,kr,kr,kr,kr,kr,kr,kr⟩
@[simp]theorem Bfv:Ef prog 30=some (.nils)/\Ud prog 30=some 1/\J4 prog 30=some 24/\Ga prog 30=some 149/\I1 prog 32=some 2/\E8 prog 32=some true/\Ef prog 32=some (.agg [.bool false,.nils])/\Ud prog 32=some 2/\Bp prog 32 0=some (0,1,false)/\Bp prog 32 1=some (1,1,false)/\Ez prog 32=true/\I1 prog 34=some 3/\E8 prog 34=some true/\Ef prog 34=some (.agg [.bool false,.nils,.nils])/\Ud prog 34=some 3/\Bp prog 34 0=some (0,2,true)/\Bp prog 34 1=some (2,1,false)/\Ez prog 34=true/\I1 prog 36=some 18/\E8 prog 36=some true/\Ef prog 36=some (.agg [.int .i64 0,.nils,.nils,.nils,.nils,.int .i64 0,.bool false,.nils,.nils,.int .i64 0,.bool false,.nils,.nils,.int .i64 0,.bool false,.nils,.nils,.int .i64 0])/\Ud prog 36=some 18/\Bp prog 36 0=some (0,2,true)/\Bp prog 36 1=some (2,2,true):=⟨kr,kr,kr,kr,kr,kr,kr,kr,kr,kr,kr,kr,kr,kr,kr,kr,kr,kr,kr,kr,kr,kr,kr,kr⟩
@[simp]theorem Be8:Bp prog 36 2=some (4,1,false)/\Bp prog 36 3=some (5,1,false)/\Bp prog 36 4=some (6,3,true)/\Bp prog 36 5=some (9,1,false)/\Bp prog 36 6=some (10,3,true)/\Bp prog 36 7=some (13,1,false)/\Bp prog 36 8=some (14,3,true)/\Bp prog 36 9=some (17,1,false)/\Ez prog 36=true/\I1 prog 37=some 1/\E8 prog 37=some false/\Ga prog 37=some 115/\I1 prog 38=some 1/\E8 prog 38=some false/\Ga prog 38=some 93/\I1 prog 39=some 1/\E8 prog 39=some false/\Ga prog 39=some 240/\I1 prog 41=some 3/\E8 prog 41=some true/\Ef prog 41=some (.agg [.int .i64 0,.int .i64 0,.int .i64 0])/\Bp prog 41 0=some (0,1,false)/\Bp prog 41 1=some (1,1,false)/\Bp prog 41 2=some (2,1,false):=⟨kr,kr,kr,kr,kr,kr,kr,kr,kr,kr,kr,kr,kr,kr,kr,kr,kr,kr,kr,kr,kr,kr,kr,kr⟩
@[simp]theorem Bfw:Ez prog 41=true/\I1 prog 42=some 1/\E8 prog 42=some false/\Aec prog 42=some .u64/\I1 prog 44=some 30/\E8 prog 44=some true/\Ef prog 44=some (.agg [.int .i64 0,.int .i64 0,.int .i64 0,.nils,.nils,.nils,.nils,.int .i64 0,.bool false,.nils,.nils,.int .i64 0,.bool false,.nils,.nils,.int .i64 0,.bool false,.nils,.nils,.int .i64 0,.nils,.nils,.nils,.nils,.int .i64 0,.int .i64 0,.int .i64 0,.int .i64 0,.int .i64 0,.int .u64 0])/\Ud prog 44=some 30/\Bp prog 44 0=some (0,1,false)/\Bp prog 44 1=some (1,1,false)/\Bp prog 44 2=some (2,18,true)/\Bp prog 44 3=some (20,1,false)/\Bp prog 44 4=some (21,1,false)/\Bp prog 44 5=some (22,1,false)/\Bp prog 44 6=some (23,1,false)/\Bp prog 44 7=some (24,1,false)/\Bp prog 44 8=some (25,1,false)/\Bp prog 44 9=some (26,3,true)/\Bp prog 44 10=some (29,1,false)/\Ez prog 44=true/\Ga prog 45=some 66/\I1 prog 50=some 1/\E8 prog 50=some false/\Ga prog 50=some 98:=⟨kr,kr,kr,kr,kr,kr,kr,kr,kr,kr,kr,kr,kr,kr,kr,kr,kr,kr,kr,kr,kr,kr,kr,kr⟩
@[simp]theorem Bfx:I1 prog 51=some 1/\E8 prog 51=some false/\Ga prog 51=some 30/\I1 prog 52=some 1/\E8 prog 52=some false/\I1 prog 54=some 6/\E8 prog 54=some true/\Ef prog 54=some (.agg [.nils,.nils,.int .i64 0,.nils,.int .u64 0,.int .i64 0])/\Ud prog 54=some 6/\Bp prog 54 0=some (0,1,false)/\Bp prog 54 1=some (1,1,false)/\Bp prog 54 2=some (2,1,false)/\Bp prog 54 3=some (3,1,false)/\Bp prog 54 4=some (4,1,false)/\Bp prog 54 5=some (5,1,false)/\Ez prog 54=true/\I1 prog 55=some 1/\E8 prog 55=some false/\Ga prog 55=some 62/\I1 prog 56=some 1/\E8 prog 56=some false/\Ga prog 56=some 64/\I1 prog 58=some 12/\E8 prog 58=some true:=⟨kr,kr,kr,kr,kr,kr,kr,kr,kr,kr,kr,kr,kr,kr,kr,kr,kr,kr,kr,kr,kr,kr,kr,kr⟩
@[simp]theorem Bfy:Ef prog 58=some (.agg [.int .i64 0,.int .i64 0,.int .i64 0,.int .i64 0,.nils,.nils,.int .i64 0,.nils,.int .u64 0,.int .i64 0,.nils,.nils])/\Ud prog 58=some 12/\Bp prog 58 0=some (0,1,false)/\Bp prog 58 1=some (1,1,false)/\Bp prog 58 2=some (2,1,false)/\Bp prog 58 3=some (3,1,false)/\Bp prog 58 4=some (4,6,true)/\Bp prog 58 5=some (10,1,false)/\Bp prog 58 6=some (11,1,false)/\Ez prog 58=true/\I1 prog 62=some 5/\E8 prog 62=some true/\Ef prog 62=some (.agg [.int .i64 0,.nils,.int .i64 0,.str [],.bool false])/\Ud prog 62=some 5/\J4 prog 62=some 64/\Bp prog 62 0=some (0,1,false)/\Bp prog 62 1=some (1,1,false)/\Bp prog 62 2=some (2,1,false)/\Bp prog 62 3=some (3,1,false)/\Bp prog 62 4=some (4,1,false)/\Ez prog 62=true/\I1 prog 64=some 4/\E8 prog 64=some true/\Ef prog 64=some (.agg [.int .i64 0,.int .i64 0,.int .i64 0,.int .i64 0]):=⟨kr,kr,kr,kr,kr,kr,kr,kr,kr,kr,kr,kr,kr,kr,kr,kr,kr,kr,kr,kr,kr,kr,kr,kr⟩
@[simp]theorem Bfz:Ud prog 64=some 4/\J4 prog 64=some 32/\Bp prog 64 0=some (0,1,false)/\Bp prog 64 1=some (1,1,false)/\Bp prog 64 2=some (2,1,false)/\Bp prog 64 3=some (3,1,false)/\Am6 prog 64=some [0,0,0,0]/\I1 prog 66=some 11/\E8 prog 66=some true/\Ef prog 66=some (.agg [.int .i64 0,.int .i64 0,.int .i64 0,.nils,.int .i64 0,.str [],.bool false,.int .i64 0,.int .i64 0,.int .i64 0,.int .i64 0])/\Ud prog 66=some 11/\J4 prog 66=some 112/\Bp prog 66 0=some (0,1,false)/\Bp prog 66 1=some (1,1,false)/\Bp prog 66 2=some (2,5,true)/\Bp prog 66 3=some (7,4,true)/\Ez prog 66=true/\Am3 prog 71=some (2,1)/\Ga prog 71=none/\Bp prog 79 0=some (0,11,true)/\Bp prog 79 1=some (11,1,false)/\I1 prog 86=some 5/\E8 prog 86=some true/\Ef prog 86=some (.agg [.int .i64 0,.int .i64 0,.int .i64 0,.int .i64 0,.str []]):=⟨kr,kr,kr,kr,kr,kr,kr,kr,kr,kr,kr,kr,kr,kr,kr,kr,kr,kr,kr,kr,kr,kr,kr,kr⟩
@[simp]theorem Bf0:Ud prog 86=some 5/\Bp prog 86 0=some (0,1,false)/\Bp prog 86 1=some (1,1,false)/\Bp prog 86 2=some (2,1,false)/\Bp prog 86 3=some (3,1,false)/\Bp prog 86 4=some (4,1,false)/\I1 prog 91=some 1/\E8 prog 91=some false/\Ga prog 91=some 9/\I1 prog 93=some 17/\E8 prog 93=some true/\Ef prog 93=some (.agg [.int .i64 0,.int .i64 0,.int .i64 0,.str [],.nils,.nils,.int .i64 0,.int .i64 0,.nils,.int .i64 0,.str [],.int .i64 0,.int .i64 0,.int .i64 0,.int .i64 0,.nils,.int .i64 0])/\Ud prog 93=some 17/\Bp prog 93 0=some (0,1,false)/\Bp prog 93 1=some (1,1,false)/\Bp prog 93 2=some (2,1,false)/\Bp prog 93 3=some (3,1,false)/\Bp prog 93 4=some (4,1,false)/\Bp prog 93 5=some (5,1,false)/\Bp prog 93 6=some (6,1,false)/\Bp prog 93 7=some (7,1,false)/\Bp prog 93 8=some (8,1,false)/\Bp prog 93 9=some (9,1,false)/\Bp prog 93 10=some (10,1,false):=⟨kr,kr,kr,kr,kr,kr,kr,kr,kr,kr,kr,kr,kr,kr,kr,kr,kr,kr,kr,kr,kr,kr,kr,kr⟩
@[simp]theorem Bek:Bp prog 93 11=some (11,1,false)/\Bp prog 93 12=some (12,1,false)/\Bp prog 93 13=some (13,1,false)/\Bp prog 93 14=some (14,1,false)/\Bp prog 93 15=some (15,1,false)/\Bp prog 93 16=some (16,1,false)/\Ez prog 93=true/\I1 prog 98=some 2/\E8 prog 98=some true/\Ef prog 98=some (.agg [.int .i64 0,.int .i64 0])/\Ud prog 98=some 2/\J4 prog 98=some 16/\Bp prog 98 0=some (0,1,false)/\Bp prog 98 1=some (1,1,false)/\Ez prog 98=true/\Am6 prog 98=some [0,0]/\I1 prog 111=some 1/\E8 prog 111=some false/\Ga prog 111=some 25/\I1 prog 113=some 1/\E8 prog 113=some true/\Ef prog 113=some (.agg [.nils])/\Ud prog 113=some 1/\Bp prog 113 0=some (0,1,false):=⟨kr,kr,kr,kr,kr,kr,kr,kr,kr,kr,kr,kr,kr,kr,kr,kr,kr,kr,kr,kr,kr,kr,kr,kr⟩
@[simp]theorem Bff:Ez prog 113=true/\I1 prog 115=some 9/\E8 prog 115=some true/\Ef prog 115=some (.agg [.int .i64 0,.str [],.int .i64 0,.int .i64 0,.int .i64 0,.int .i64 0,.int .i64 0,.int .i64 0,.nils])/\Ud prog 115=some 9/\J4 prog 115=some 96/\Bp prog 115 0=some (0,1,false)/\Bp prog 115 1=some (1,1,false)/\Bp prog 115 2=some (2,1,false)/\Bp prog 115 3=some (3,1,false)/\Bp prog 115 4=some (4,1,false)/\Bp prog 115 5=some (5,1,false)/\Bp prog 115 6=some (6,1,false)/\Bp prog 115 7=some (7,1,false)/\Bp prog 115 8=some (8,1,true)/\Ez prog 115=true/\I1 prog 120=some 22/\E8 prog 120=some true/\Ef prog 120=some (.agg [.int .i64 0,.nils,.nils,.nils,.nils,.int .i64 0,.bool false,.nils,.nils,.int .i64 0,.bool false,.nils,.nils,.int .i64 0,.bool false,.nils,.nils,.int .i64 0,.nils,.nils,.int .i64 0,.int .u64 0])/\Ud prog 120=some 22/\Bp prog 120 0=some (0,18,true)/\Bp prog 120 1=some (18,1,false)/\Ez prog 120=true/\I1 prog 149=some 1:=⟨kr,kr,kr,kr,kr,kr,kr,kr,kr,kr,kr,kr,kr,kr,kr,kr,kr,kr,kr,kr,kr,kr,kr,kr⟩
@[simp]theorem Bfg:E8 prog 149=some false/\Ef prog 149=some (.int .u32 0)/\Ud prog 149=some 1/\J4 prog 149=some 4/\Aec prog 149=some .u32/\Ga prog 162=some 5/\Aef prog 162=true/\I1 prog 165=some 1/\E8 prog 165=some false/\Ef prog 165=some (.nili)/\Ud prog 165=some 1/\J4 prog 165=some 16/\I1 prog 180=some 1/\E8 prog 180=some false/\I1 prog 203=some 2/\E8 prog 203=some true/\Ef prog 203=some (.agg [.int .i64 0,.int .i64 0])/\Ud prog 203=some 2/\Bp prog 203 0=some (0,1,false)/\Bp prog 203 1=some (1,1,false)/\Ez prog 203=true/\I1 prog 206=some 1/\E8 prog 206=some false/\Ef prog 208=some (.agg [.int .i64 0,.int .i64 0,.nilf]):=⟨kr,kr,kr,kr,kr,kr,kr,kr,kr,kr,kr,kr,kr,kr,kr,kr,kr,kr,kr,kr,kr,kr,kr,kr⟩
@[simp]theorem Bel:Bp prog 208 0=some (0,2,true)/\Bp prog 208 1=some (2,1,false)/\Ez prog 208=true/\Ef prog 210=some (.agg [.int .i64 0,.int .i64 0,.nilf,.str []])/\O6 prog 210=true/\Bp prog 210 0=some (0,3,true)/\Bp prog 210 1=some (3,1,false)/\Ez prog 210=true/\Ef prog 212=some (.agg [.int .i64 0,.int .i64 0,.nilf])/\O6 prog 212=true/\Bp prog 212 0=some (0,3,true)/\Ez prog 212=true/\Ef prog 213=some (.agg [.int .i64 0,.int .i64 0,.nilf])/\O6 prog 213=true/\Bp prog 213 0=some (0,3,true)/\Ez prog 213=true/\Ef prog 214=some (.agg [.int .i64 0,.int .i64 0,.nilf])/\O6 prog 214=true/\Bp prog 214 0=some (0,3,true)/\Ez prog 214=true/\Ef prog 216=some (.agg [.int .i64 0,.int .i64 0,.nilf,.int .i64 0])/\O6 prog 216=true/\Bp prog 216 0=some (0,3,true)/\Bp prog 216 1=some (3,1,false):=⟨kr,kr,kr,kr,kr,kr,kr,kr,kr,kr,kr,kr,kr,kr,kr,kr,kr,kr,kr,kr,kr,kr,kr,kr⟩
@[simp]theorem Bfh:Ez prog 216=true/\I1 prog 218=some 3/\E8 prog 218=some true/\Ef prog 218=some (.agg [.int .i64 0,.int .i64 0,.int .i64 0])/\O6 prog 218=true/\Bp prog 218 0=some (0,2,true)/\Bp prog 218 1=some (2,1,false)/\Ez prog 218=true/\Ef prog 220=some (.agg [.int .i64 0])/\O6 prog 220=true/\Bp prog 220 0=some (0,1,false)/\Ez prog 220=true/\Ef prog 221=some (.agg [.int .i64 0])/\O6 prog 221=true/\Bp prog 221 0=some (0,1,false)/\Ez prog 221=true/\I1 prog 223=some 0/\E8 prog 223=some true/\O6 prog 223=true/\Ez prog 223=true/\I1 prog 230=some 5/\E8 prog 230=some true/\Ef prog 230=some (.agg [.str [],.str [],.str [],.str [],.str []])/\Ud prog 230=some 5:=⟨kr,kr,kr,kr,kr,kr,kr,kr,kr,kr,kr,kr,kr,kr,kr,kr,kr,kr,kr,kr,kr,kr,kr,kr⟩
@[simp]theorem Bfi:Am3 prog 230=some (5,1)/\Ga prog 230=none/\I1 prog 240=some 2/\E8 prog 240=some true/\Ef prog 240=some (.agg [.int .i64 0,.int .i64 0])/\Ud prog 240=some 2/\Bp prog 240 0=some (0,1,false)/\Bp prog 240 1=some (1,1,false)/\Aec prog 246=some .u64/\I1 prog 255=some 1/\E8 prog 255=some false/\Ga prog 255=some 339/\I1 prog 257=some 3/\E8 prog 257=some true/\Ef prog 257=some (.agg [.nils,.nils,.nils])/\Ud prog 257=some 3/\Bp prog 257 0=some (0,1,false)/\Bp prog 257 1=some (1,1,false)/\Bp prog 257 2=some (2,1,false)/\Ez prog 257=true/\I1 prog 333=some 5/\E8 prog 333=some true/\Ef prog 333=some (.agg [.int .i64 0,.nils,.nils,.int .i64 0,.int .i64 0])/\Ud prog 333=some 5:=⟨kr,kr,kr,kr,kr,kr,kr,kr,kr,kr,kr,kr,kr,kr,kr,kr,kr,kr,kr,kr,kr,kr,kr,kr⟩
@[simp]theorem Bem:Bp prog 333 0=some (0,2,true)/\Bp prog 333 1=some (2,1,false)/\Bp prog 333 2=some (3,1,false)/\Bp prog 333 3=some (4,1,false)/\Ez prog 333=true/\I1 prog 339=some 3/\E8 prog 339=some true/\Ef prog 339=some (.agg [.nils,.int .i64 0,.int .i64 0])/\Ud prog 339=some 3/\J4 prog 339=some 40/\Bp prog 339 0=some (0,1,false)/\Bp prog 339 1=some (1,1,false)/\Bp prog 339 2=some (2,1,false)/\Ez prog 339=true/\Ga prog 363=some 165/\I1 prog 368=some 2/\E8 prog 368=some true/\Ef prog 368=some (.agg [.int .i64 0,.int .i64 0])/\Ud prog 368=some 2/\J4 prog 368=some 16/\Bp prog 368 0=some (0,1,false)/\Bp prog 368 1=some (1,1,false)/\Ez prog 368=true/\Am6 prog 368=some [0,0]:=⟨kr,kr,kr,kr,kr,kr,kr,kr,kr,kr,kr,kr,kr,kr,kr,kr,kr,kr,kr,kr,kr,kr,kr,kr⟩
@[simp]theorem Bfj:Ef prog 376=some (.agg [.nils,.nils,.nils,.nils,.bool false,.bool false,.nils,.int .i64 0,.nils,.nils,.nils,.int .i64 0,.nils,.int .i64 0,.nils,.int .i64 0,.bool false])/\Bp prog 376 0=some (0,3,true)/\Bp prog 376 1=some (3,1,false)/\Bp prog 376 2=some (4,1,false)/\Bp prog 376 3=some (5,1,false)/\Bp prog 376 4=some (6,1,false)/\Bp prog 376 5=some (7,1,false)/\Bp prog 376 6=some (8,1,false)/\Bp prog 376 7=some (9,1,false)/\Bp prog 376 8=some (10,1,false)/\Bp prog 376 9=some (11,1,false)/\Bp prog 376 10=some (12,1,false)/\Bp prog 376 11=some (13,1,false)/\Bp prog 376 12=some (14,1,false)/\Bp prog 376 13=some (15,1,false)/\Bp prog 376 14=some (16,1,false)/\Ez prog 376=true:=⟨kr,kr,kr,kr,kr,kr,kr,kr,kr,kr,kr,kr,kr,kr,kr,kr,kr⟩
end Go.Proofs.YtpaccopbbffkaaaGreatDoor
set_option maxRecDepth 4000
namespace Go.Proofs.YtpaccopbbffkaaaGreatDoor
open Go.Eng Go.Eng.Limb
theorem _root_.Go.Eng.AC.relaxP{P:Program}{f:FuncId}{args:List V}{a:V}(h:AC P f args (fun r=>Bl r a)):AC P f args (fun r=>r=a):=
 fun w N xs h1 h2 c=>(h w N xs h1 h2 c).mono fun _ _⟨x,_,he,hR,hp,hb⟩=>⟨x,a,he,rfl,hR.1 _ _ _ hp,hb⟩
theorem Dm:prog.follows .mixedOrders=true:=by kernel_rfl
theorem A11(l:List Nat):AC prog 148 [.ro 1 (Au l)] (fun r=>r=.ro 1 (Au (M9 l))):=by
 refine Td 0 rfl (fun f=>?_);unfold maxLen at f;simp only [Eo]at f;refine Ay func148 (fun w0 N0=>?_);refine Aa [0] [] sr (Ab (Ap (Dr (fun p:List Nat × Nat=>⟨[(0,.ro 1 (Au p.1))],[],p.2,21⟩) (fun p=>M9 p.1=M9 l/\p.1.length<=l.length) (fun p=>p.1.length) (l,_) ⟨rfl,A8 _⟩ (AS.le_refl _) ?_)));rintro⟨b,nx⟩⟨j,d⟩;simp only at j d
 rcases List.eq_nil_or_concat b with rfl|⟨a,x,rfl⟩
 ·refine Ab (Aa [0,14] [] sr ?_);refine A6 rfl (fun h1=>by simp at h1) (fun h1=>?_);refine A9 ?_;refine Aa [2] [] sr ?_;refine Ak (Ad sr ?_);rw [<- j];simp [M9]
 simp only [List.concat_eq_append,Bi,Bc,B0]at j d|-;have e:Au (a++[x])=Au a++[.int .u32 (x:Int)]:=sm;rw [e];have c:(Au a).length=a.length:=sm;have o:IntKind.i64.wrap (a.length:Int)=a.length:=Bb om om;have n:Hs (Au a++[V.int .u32 (x:Int)]) a.length=some (.int .u32 x):=by rw [<- c];exact Aex
 have i:(Au a++[V.int .u32 (x:Int)]).take a.length=Au a:=by rw [<- c];simp
 generalize g:Au a=av at c n i;have k:(a.length:Int)<(a.length:Int)+1:=om;have h:(a.length:Int)<=(a.length:Int)+1:=om;refine Ab (Aa [0,14] [] (by simp [c,o,n,k]<;>rfl) ?_)
 refine Ao (fun h1=>Ae ?_) (fun h1=>?_)
 ·have m:x=0:=by simp at h1;omega
  subst m;refine Ap (A2 [0] [] (by simp [c,o,h]<;>rfl) ?_);refine⟨(a,nx+12+6),⟨by rw [<- j,Ae7],by simp only;omega⟩,by simp,?_⟩;simp only [g];exact AS.le_refl _
 ·have m:x≠0:=by simp at h1;omega
  refine A9 ?_;refine Aa [2] [] sr ?_;refine Ak (Ad sr ?_);rw [<- j,Ae8 x m,e,g]
theorem In(l:List Nat)(h:Ed l):AC prog 148 [.ro 1 (Au l)] (fun r=>r=.ro 1 (Au (B1 (Bg l)))):=by
 rw [<- K3 l h];exact A11 l
theorem P3(l:List Nat)(h:Ed l):(B1 (Bg l)).length<=l.length:=by rw [<- K3 l h];exact Lx l
theorem Ai7:maxLen=9223372036854775807:=by decide
theorem Zf(l:List Nat)(h:Ed l)(hl:l.length<=1099511627776):AC prog 147 [.ro 1 (Au l)] (fun r=>r=.ro 1 (Au (B1 (Bg l)))):=by
 have d:=In l h;have hp:=Ah (B1 (Bg l));have c:=Ah l;have e:=P3 l h;have a:(Au (B1 (Bg l))).length=(B1 (Bg l)).length:=sm;have h1:(Au (B1 (Bg l))).length<=maxLen:=by rw [a,Ai7];omega
 have h2:(Au (B1 (Bg l))).length*4<=140737488355328:=om;generalize Au (B1 (Bg l))=rv at d hp h1 h2 a;refine Ay func147 (fun w0 N0=>?_);refine Aa [0] [] sr (Ab (Ac (Am 1 sr ?_)));refine Ai d func148 ?_ (hp:=by simp);refine Ag [2] [5] (by simp [h1,h2]<;>rfl) ?_;exact Bt 5 [2] [] (by simp [hp,Eng.get]<;>rfl) (Ak (Ad sr rf))
theorem Afh(n:Nat)(hn:n<18446744073709551616):AC prog 129 [.int .u64 n] (fun r=>r=.ro 1 (Au (B1 n))):=by
 have a:=In [n%4294967296,n/4294967296] (by intro x d;simp at d;omega);have e:Bg [n%4294967296,n/4294967296]=n:=by simp [Bg];omega
 rw [e]at a;have hp:=Ah (B1 n);simp only [Au,Cw,Gx,Wu]at a;show AC _ _ _ (fun r=>r=V.ro 1 (List.map Wu (B1 n)))
 generalize List.map Wu (B1 n)=r at a hp|-;have c:=wrap_u32 n;have Pq:IntKind.u32.wrap ((n:Int).fdiv (2^min 32 IntKind.u64.bits))=((n/4294967296:Nat):Int):=by rw [Y8,wrap_u32];omega
 generalize((n%4294967296:Nat):Int)=lo at a c;generalize((n/4294967296:Nat):Int)=hi at a Pq;refine Ay func129 (fun w0 N0=>?_);refine Aa [0] [] sr (Ab (Ac (Am 6 (by simp [c,Pq]<;>rfl) ?_)));refine Ju 8 [8] [] sr ?_;refine Ai a func148 ?_;refine Ag [2] [] sr ?_;exact Ak (Ad sr rfl)
theorem Afi(o l2:List Nat)(h1:Ed o)(h2:Ed l2):AC prog 128 [.ro 1 (Au o),.ro 1 (Au l2)] (fun r=>r=.int .i64 (Rv (Bg o) (Bg l2))):=by
 refine Td 0 rfl (fun aa=>?_);refine Td 1 rfl (fun ae=>?_);have l:=In o h1;have f:=In l2 h2;have ad:=P3 o h1;have u:=P3 l2 h2;have ai:=Ah o;have ag:=Ah l2;rw [Eo,Ai7]at aa ae;generalize Bg o=a at l ad|-;generalize Bg l2=b at f u|-;have ea:=Qd a;have eb:=Qd b;have ga:=Kq a;have gb:=Kq b;have na:=fun k=>V8 k a
 have nb:=fun k=>V8 k b
 generalize(B1 a).length=n at ea ga na ad;generalize(B1 b).length=m at eb gb nb u;rw [ea]at l;rw [eb]at f;have c:(Au (Cj n a)).length=n:=sm;have e:(Au (Cj m b)).length=m:=sm;have z:=fun i(h:i<n)=>Y9 (v:=a) h
 have ab:=fun i(h:i<m)=>Y9 (v:=b) h
 generalize Au (Cj n a)=av at l c z;generalize Au (Cj m b)=bv at f e ab;refine Ay func128 (fun w0 N0=>?_);refine Aa [0,1] [] sr (Ab (Ac (Am 1 sr ?_)));refine Ai l func148 ?_ (hp:=by simp);refine Am 1 sr ?_;refine Ai f func148 ?_ (hp:=by simp);refine Ag [0,1] [] sr ?_;refine Ab (Aa [0,1,14] [] (by simp [c,e]<;>rfl) ?_);have t:∀i j:Nat,i<=j->4294967296^i<=4294967296^j:=fun i j h=>El dc h
 refine Ao (fun h1=>?_) (fun h1=>Ae ?_)
 ·refine Aa [4] [] sr ?_;refine Ak (Ad sr ?_);have g:n<m:=by simp at h1;omega
  obtain⟨k,rfl⟩:∃k,m=k+1:=⟨m-1,by omega⟩;have q1:=nb k rfl;have q2:=t n k om;rw [Rv,if_pos (Cc ga (Aj q2 q1))]
 have ak:¬n<m:=by simp at h1;omega
 refine Ab (Aa [0,1,19] [] (by simp [c,e]<;>rfl) ?_)
 refine Ao (fun h2=>?_) (fun h2=>Ae ?_)
 ·refine Aa [4] [] sr ?_;refine Ak (Ad sr ?_);have g:m<n:=by simp at h2;omega
  obtain⟨k,rfl⟩:∃k,n=k+1:=⟨n-1,by omega⟩;have q1:=na k rfl;have q2:=t m k om;have q3:b<a:=Cc gb (Aj q2 q1);rw [Rv,if_neg (Tv.2 (Ie q3)),if_pos q3]
 have aj:n=m:=by simp at h2;omega
 subst aj;obtain⟨w1,C9,af⟩:∃x:Int,IntKind.i64.wrap ((n:Int)-1)=x/\x=(n:Int)-1:=⟨_,rfl,Bb om om⟩;refine Ab (Aa [0,1,5] [] (by simp [c,C9]<;>rfl) (Ap (Dr (fun p:Nat × Nat=>⟨[(0,.ro 1 av),(1,.ro 1 bv),(5,.int .i64 ((p.1:Int)-1))],[],p.2,45⟩) (fun p=>p.1<=n/\a/4294967296^p.1=b/4294967296^p.1) (fun p=>p.1) (n,_) ⟨A8 _,by rw [Gz ga,Gz gb]⟩ (by simp only [af];exact AS.le_refl _) ?_)));rintro⟨k,nx⟩⟨hk,s⟩;simp only at hk s;refine Ab ?_;cases k with
 |zero=>
  refine Aa [0,1,5,24] [] sr ?_;refine A6 rfl (fun w=>by simp at w) (fun w=>?_);refine A9 ?_;refine Aa [4] [] sr ?_;refine Ak (Ad sr ?_);have:a=b:=by simpa using s
  subst this;simp [Rv]
 |succ k=>
  have gA:=z k om;have gB:=ab k om;have e1:((k+1:Nat):Int)-1=(k:Int):=om;have g:(k:Int)<n:=om;have hw:IntKind.i64.wrap ((k:Int)-1)=(k:Int)-1:=Bb om om;have hP:=Nr k;rw [Cn]at s;have r1:=fun h=>Afa hP s h
  have r2:=fun h=>Afa hP s.symm h
  have r3:=fun h=>Aru s h
  generalize ah:4294967296^k=P at*;generalize a/P%4294967296=x at gA r1 r2 r3;generalize b/P%4294967296=y at gB r1 r2 r3;rw [e1];refine Aa [0,1,5,24] [] sr ?_;refine A6 rfl (fun w=>Ae ?_) (fun w=>by simp at w);refine Ab (Ap (Ab (Di [(0,[]),(1,[]),(2,[]),(4,[]),(5,[]),(6,[]),(3,[]),(7,[]),(8,[])] [0,1,5,35] [] Dm kr (by simp [gA,gB,c,e,g]<;>rfl) ?_)))
  refine Ao (fun h4=>?_) (fun h4=>Ae ?_)
  ·refine Aa [4] [] sr ?_;refine Ak (Ad sr ?_);have d:x<y:=by simp at h4;omega
   rw [Rv,if_pos (r1 d)]
  refine Di [(0,[]),(1,[]),(2,[]),(4,[]),(5,[]),(6,[]),(3,[]),(7,[]),(8,[])] [0,1,5,44] [] Dm kr (by simp [gA,gB,c,e,g]<;>rfl) ?_
  refine Ao (fun h5=>?_) (fun h5=>Ae ?_)
  ·refine Aa [4] [] sr ?_;refine Ak (Ad sr ?_);have d:y<x:=by simp at h5;omega
   have:=r2 d;rw [Rv,if_neg om,if_pos this]
  refine A2 [0,1,5] [] (by simp [hw]<;>rfl) ?_;have d:x=y:=by simp at h4 h5;omega
  exact⟨(k,_),⟨by simp only;omega,by simp only;rw [ah];exact r3 d⟩,by simp,AS.le_refl _⟩
theorem Ar1(g l2:List Nat)(h1:Ed g)(h2:Ed l2)(aa:g.length<=1099511627776)(a9:l2.length<=1099511627776):AC prog 257 [.ro 1 (Au g),.ro 1 (Au l2)] (fun r=>r=.ro 1 (Au (B1 (Bg g+Bg l2)))):=by
 have au:=In g h1;have ak:=In l2 h2
 have a7:(B1 (Bg g)).length<=1099511627776:=by
  rw [<- K3 g h1];exact Aj (Lx g) aa
 have a5:(B1 (Bg l2)).length<=1099511627776:=by
  rw [<- K3 l2 h2];exact Aj (Lx l2) a9
 have ai:=Cr (Bg g);have ag:=Cr (Bg l2);have aj:=C2 (Bg g);have az:=C2 (Bg l2);generalize B1 (Bg g)=m1 at au a7 ai aj;generalize B1 (Bg l2)=m2 at ak a5 ag az;rw [<- aj,<- az];have b0:=Ah m1;have bz:=Ah m2;have al:=Ah g;have ax:=Ah l2;refine Ay func257 (fun w0 N0=>?_);refine Aa [0,1] [] sr (Ab (Ac (Am 1 sr ?_)));refine Ai au func148 ?_ (hp:=by simp);refine Am 1 sr ?_;refine Ai ak func148 ?_ (hp:=by simp);refine Ag [0,1] [] sr ?_
 refine Y2 (fun p:List Nat × List Nat=>⟨[(0,.ro 1 (Au p.1)),(1,.ro 1 (Au p.2))],[],50,63⟩) (fun p=>Ed p.1/\Ed p.2/\p.2.length<=p.1.length/\p.1.length<=1099511627776/\Bg m1+Bg m2=Bg p.1+Bg p.2) ?_ ?_
 ·refine Aa [0,1,17] [] sr ?_
  refine Ao (fun h1=>?_) (fun h1=>Ae ?_)
  ·refine A2 [0,1] [] sr ?_;exact⟨(m2,m1),⟨ag,ai,by simp at h1;simp only;omega,a5,Tz _ _⟩,Aew rfl rfl rfl sy⟩
  ·exact⟨(m1,m2),⟨ai,ag,by simp at h1;simp only;omega,a7,rfl⟩,O9 [0,1] [] rfl rfl rfl sy⟩
 rintro⟨a,b⟩⟨ha,hb,ao,bl,hT⟩;simp only at ha hb ao bl hT;rw [hT];have o:(Au a).length=a.length:=sm;have a2:(Au b).length=b.length:=sm;have am:=fun k h=>Art a k h
 have a1:=fun k h=>Art b k h
 obtain⟨s1,aa,bw⟩:∃s:Int,IntKind.i64.wrap ((a.length:Int)+1)=s/\s=((a.length+1:Nat):Int):=⟨_,rfl,A7 om⟩;have br:4*s1<=281474976710656:=om;have bq:s1<=9223372036854775807:=om;have bb:0<=s1:=om;have m:s1.toNat=a.length+1:=om;have be:=Ah a;have ba:=Ah b;generalize Au a=av at o am be;generalize Au b=bv at a2 a1 ba;refine Aa [0,1,5] [23] (by simp [o,aa,br,bq,bb]<;>rfl) (Aa [0,1,5,6] [23] sr (Ab (Aa [0,1,5,6,25,26] [23] (by simp [o]<;>rfl) (Ap ?_))))
 refine Dr (fun p:List Nat × Nat × Nat=>⟨[(0,.ro 1 av),(1,.ro 1 bv),(5,.sl 23 53 1 s1.toNat),(6,.int .u64 p.2.1),(25,.int .i64 a.length),(26,.int .i64 p.1.length)],[(23,⟨53,1,149,K5 p.1 (a.length+1-p.1.length)⟩)],p.2.2,63⟩)
  (fun p=>p.1.length<=a.length/\Ed p.1/\p.2.1<=1/\Bg p.1+p.2.1*4294967296^p.1.length=Bg (a.take p.1.length)+Bg (b.take p.1.length)) (fun p=>a.length-p.1.length) ([],0,_) ⟨by simp,by simp [Ed],by simp,by simp [Bg]⟩ (by simp [m,An5];exact AS.le_refl _) ?_
 rintro⟨done,c,nx⟩⟨hd,ah,hc,hI⟩;simp only at hd ah hc hI;refine Aa [0,1,5,6,25,26,27] [23] sr (Ab ?_)
 refine Ao (fun h2=>Ae ?_) (fun h2=>?_)
 ·have an:done.length<a.length:=by simp at h2;omega
  obtain⟨n,hn⟩:∃n,a.length+1-done.length=n+1:=⟨a.length-done.length,by omega⟩;have ad:=am done.length an;have e:=Za (done:=done) (k:=done.length) (n:=n) rfl;obtain⟨k,hk⟩:∃k,done.length=k:=⟨_,rfl⟩;rw [hk]at ad e an hn hI;have bd:=Ot ha k;have bg:=Ot hb k;have aq:=Qe a k;have aw:=Qe b k;have a6:¬k<b.length->Gm b k=0:=fun h=>by unfold Gm;rw [Hd (by omega)]
  have a4:=a1 k;have d:=fun z=>Zb (done:=done) (k:=k) (n:=n) hk z
  have f:(K5 done (n+1)).length=a.length+1:=by rw [Us];omega
  have bk:=A7 (k:=k) om;simp only [hk,hn];generalize Gm a k=x at ad bd aq;generalize Gm b k=y at a4 bg aw a6;have a3:IntKind.u64.wrap (x:Int)=x:=wrap_u64 om;have ar:IntKind.u64.wrap (y:Int)=y:=wrap_u64 om;obtain⟨z1,bm,u⟩:∃z:Int,IntKind.u64.wrap ((x:Int)+(c:Int))=z/\z=((x+c:Nat):Int):=⟨_,rfl,Adr om⟩;obtain⟨z2,bf,j⟩:∃z:Int,IntKind.u64.wrap (z1+(y:Int))=z/\z=((x+y+c:Nat):Int):=⟨_,rfl,by rw [u,Adr (by omega)];congr 1;omega⟩;have t:k<av.length:=om;have ae:(k:Int)<(a.length:Int)+1:=om;generalize bx:K5 done (n+1)=ro at e f d|-;refine Ab (Ap (Aa [0,1,5,6,7,25,26] [23] sr (Aa [0,1,5,7,8,25,26] [23] (by simp [ad,t,a3,bm]<;>rfl) ?_)))
  refine O8 ⟨[(0,.ro 1 av),(1,.ro 1 bv),(5,.sl 23 53 1 s1.toNat),(7,.int .i64 k),(8,.int .u64 z2),(25,.int .i64 a.length),(26,.int .i64 k)],[(23,⟨53,1,149,ro⟩)],nx+30,63⟩ ?_ ?_
  ·refine Aa [0,1,5,7,8,25,26,39] [23] (by simp [a2]<;>rfl) ?_
   refine Ao (fun h3=>?_) (fun h3=>Ae ?_)
   ·have ab:k<b.length:=by simp at h3;omega
    have a8:k<bv.length:=om;refine A2 [0,1,5,7,8,25,26] [23] (by simp [a4 ab,a8,ar,bf]<;>rfl) ?_;exact⟨rfl,O9 [0,1,5,7,8,25,26] [23] rfl rfl rfl sy⟩
   ·have ab:¬k<b.length:=by simp at h3;omega
    have bo:=a6 ab;have bh:z1=z2:=by rw [u,j,bo];congr 1
    rw [bh];exact⟨rfl,O9 [0,1,5,7,8,25,26] [23] rfl rfl rfl sy⟩
  have a0:IntKind.u32.wrap z2=(((x+y+c)%4294967296:Nat):Int):=by rw [j,wrap_u32]
  have ay:z2.fdiv (2^min 32 IntKind.u64.bits)=(((x+y+c)/4294967296:Nat):Int):=by rw [j,Y8]
  have i:=d ((x+y+c)%4294967296);generalize bt:(x+y+c)%4294967296=lo at a0 i;generalize bj:(x+y+c)/4294967296=hi at ay;refine Aa [0,1,5,8,25,26] [23] (by simp [e,a0,i,m,ae]<;>rfl) (A2 [0,1,5,6,25,26] [23] (by simp [ay]<;>rfl) (A2 [0,1,5,6,25,26] [23] (by simp [bk]<;>rfl) ?_))
  refine⟨(done++[lo],hi,nx+30+6+3+2),⟨by simp;omega,Pz ah (by intro q hq;simp at hq;omega),by simp only;omega,?_⟩,by simp;omega,?_⟩
  ·simp only [Bi,Bc,B0,hk,Pa,Bg];have:=A1a hI (x+y+c) rfl;rw [bt,bj]at this;rw [aq,aw,Cn];rw [Bn (4294967296^k)];omega
  ·have bn:((k+1:Nat):Int)=(k:Int)+1:=om;have bu:a.length+1-(k+1)=n:=om;simp only [Bi,Bc,B0,hk,bu,m,Ds,bn];exact AS.le_refl _
 ·refine A9 ?_;have l:done.length=a.length:=by simp at h2;omega
  have e:=Za (done:=done) (k:=a.length) (n:=0) l;have d:=Zb (done:=done) (k:=a.length) (n:=0) l c;have f:(K5 done 1).length=a.length+1:=by rw [Us];omega
  have ae:(a.length:Int)<(a.length:Int)+1:=om;have bc:IntKind.u32.wrap (c:Int)=(c:Int):=by rw [wrap_u32];omega
  have af:=In (done++[c]) (Pz ah (by intro q hq;simp at hq;omega))
  have bp:Bg (done++[c])=Bg a+Bg b:=by
   rw [l,Bo,O3 b _ ao]at hI;rw [Pa,l,<- hI];simp only [Bg,Ty,Ea];rw [Bn (4294967296^a.length) c]
  rw [bp]at af;have bs:K5 (done++[c]) 0=Au (done++[c]):=by simp [K5]
  have w:=Ah (done++[c]);rw [show a.length+1-done.length=0+1 by omega];simp only [Ds]at e d|-;rw [bs]at d;generalize Au (done++[c])=fin at d af w;have bi:fin.length=a.length+1:=by rw [<- d,H5,f]
  generalize K5 done 1=ro at e d f|-;refine Aa [5] [23] (by simp [o,e,d,m,ae,bc]<;>rfl) (Ab (Ac (Am 1 sr ?_)));refine Ju 23 [61] [] (by simp [w,bi]<;>rfl) ?_;refine Ai af func148 ?_ (hp:=by simp);refine Ag [4] [] sr ?_;refine Ak (Ad sr ?_);rfl
theorem Ala(l1 l2:List Nat)(h1:Ed l1)(h2:Ed l2)(al:l1.length<=1099511627776)(bw:l2.length<=1099511627776):AC prog 172 [.ro 1 (Au l1),.ro 1 (Au l2)] (fun r=>r=.ro 1 (Au (B1 (Bg l1*Bg l2)))):=by
 have ao:=In l1 h1;have am:=In l2 h2
 have cg:(B1 (Bg l1)).length<=1099511627776:=by
  rw [<- K3 l1 h1];exact Aj (Lx l1) al
 have cd:(B1 (Bg l2)).length<=1099511627776:=by
  rw [<- K3 l2 h2];exact Aj (Lx l2) bw
 have ha:=Cr (Bg l1);have hb:=Cr (Bg l2);have az:=C2 (Bg l1);have bd:=C2 (Bg l2);generalize B1 (Bg l1)=a at ao cg ha az;generalize B1 (Bg l2)=b at am cd hb bd;rw [<- az,<- bd];have b7:=Ah a;have b5:=Ah b;have a1:=Ah l1;have a9:=Ah l2;have ay:(Au a).length=a.length:=sm;have ad:(Au b).length=b.length:=sm;have a2:=fun k h=>Art a k h
 have bg:=fun k h=>Art b k h
 obtain⟨s1,al,ch⟩:∃s:Int,IntKind.i64.wrap ((a.length:Int)+(b.length:Int))=s/\s=((a.length+b.length:Nat):Int):=⟨_,rfl,by rw [Bb om (by omega)];omega⟩;have cf:4*s1<=281474976710656:=om;have ce:s1<=9223372036854775807:=om;have b0:0<=s1:=om;have aa:s1.toNat=a.length+b.length:=om;generalize Au a=av at ao ay a2 b7;generalize Au b=bv at am ad bg b5;refine Ay func172 (fun w0 N0=>?_);refine Aa [0,1] [] sr (Ab (Ac (Am 1 sr ?_)));refine Ai ao func148 ?_ (hp:=by simp);refine Am 1 sr ?_;refine Ai am func148 ?_ (hp:=by simp);refine Ag [0,1] [] sr ?_;refine Aa [0,1,5] [21] (by simp [ay,ad,al,cf,ce,b0]<;>rfl) (Ab (Aa [1,5,22,23,24] [21] (by simp [ay]<;>rfl) (Ap ?_)))
 refine Dr (fun p:Nat × List Nat × Nat=>⟨[(1,.ro 1 bv),(5,.sl 21 12 1 s1.toNat),(22,.ro 1 av),(23,.int .i64 a.length),(24,.int .i64 p.1)],[(21,⟨12,1,149,K5 p.2.1 (a.length-p.1)⟩)],p.2.2,72⟩)
  (fun p=>p.1<=a.length/\p.2.1.length=p.1+b.length/\Ed p.2.1/\Bg p.2.1=Bg (a.take p.1)*Bg b) (fun p=>a.length-p.1) (0,List.replicate b.length 0,100) ⟨by simp,by simp,by intro x hx;simp at hx;omega,by simp [Arw,Bg]⟩ ?_ ?_
 ·have bz:K5 (List.replicate b.length 0) (a.length-0)=List.replicate s1.toNat (.int .u32 0):=by
   rw [K5,aa,List.replicate_append_replicate];simp [Wu,Tz]
  simp only [bz];exact O9 [1,5,22,23,24] [21] rfl rfl rfl sy
 rintro⟨i,q,nx⟩⟨hi,hq,ax,hI⟩;simp only at hi hq ax hI;refine Aa [1,5,22,23,24,25] [21] sr (Ab ?_)
 refine Ao (fun h1=>Ae ?_) (fun h1=>?_)
 ·have a4:i<a.length:=by simp at h1;omega
  obtain⟨n,hn⟩:∃n,a.length-i=n+1:=⟨a.length-i-1,by omega⟩;have a3:=a2 i a4;have bb:=Ot ha i;have a5:=Qe a i;have b8:=A7 (k:=i) om;have bc:i<av.length:=om;generalize Gm a i=x at a3 bb a5;have bk:IntKind.u64.wrap (x:Int)=x:=wrap_u64 om;rw [hn];refine Ab (Ap (Aa [1,5,6,7,22,23,24] [21] (by simp [a3,bc]<;>rfl) (Aa [1,5,6,7,8,22,23,24] [21] sr ?_)))
  refine Y2 (fun p:List Nat × Nat × Nat=>⟨[(1,.ro 1 bv),(5,.sl 21 12 1 s1.toNat),(6,.int .i64 i),(8,.int .u64 p.2.1),(22,.ro 1 av),(23,.int .i64 a.length),(24,.int .i64 i)],[(21,⟨12,1,149,K5 p.1 (n+1)⟩)],p.2.2,72⟩)
   (fun p=>p.1.length=i+b.length/\Ed p.1/\p.2.1<4294967296/\Bg p.1+p.2.1*4294967296^(i+b.length)=Bg q+x*Bg b*4294967296^i) ?_ ?_
  ·refine Aa [1,5,6,7,8,22,23,24,29,30,31] [21] (by simp [ad]<;>rfl) (Ap ?_)
   refine Dr (fun p:Nat × List Nat × Nat × Nat=>⟨[(1,.ro 1 bv),(5,.sl 21 12 1 s1.toNat),(6,.int .i64 i),(7,.int .u32 x),(8,.int .u64 p.2.2.1),(22,.ro 1 av),(23,.int .i64 a.length),(24,.int .i64 i),(29,.ro 1 bv),(30,.int .i64 b.length),(31,.int .i64 p.1)],[(21,⟨12,1,149,K5 p.2.1 (n+1)⟩)],p.2.2.2,72⟩)
    (fun p=>p.1<=b.length/\p.2.1.length=i+b.length/\Ed p.2.1/\p.2.2.1<4294967296/\Bg p.2.1+p.2.2.1*4294967296^(i+p.1)=Bg q+x*Bg (b.take p.1)*4294967296^i) (fun p=>b.length-p.1) (0,q,0,_) ⟨by simp,by simp only;omega,ax,by simp,by simp [Bg]⟩ (by simp;exact AS.le_refl _) ?_
   rintro⟨j,l,c,bh⟩⟨hj,f,d,hc,o⟩;simp only at hj f d hc o;refine Aa [1,5,6,7,8,22,23,24,29,30,31,32] [21] sr (Ab ?_)
   refine Ao (fun h2=>Ae ?_) (fun h2=>?_)
   ·have br:j<b.length:=by simp at h2;omega
    have bo:=bg j br;have bi:=Ot hb j;have a8:=Qe b j;have ca:=A7 (k:=j) om;have bq:j<bv.length:=om;generalize Gm b j=y at bo bi a8;have a6:IntKind.u64.wrap (y:Int)=y:=wrap_u64 om;obtain⟨m,hm⟩:∃m,i+j=m:=⟨_,rfl⟩;have aw:m<l.length:=om;have ah:=Aw2 (q:=l) (n:=n+1) aw;have a0:=Ot d m;have w:=fun z=>Aw3 (q:=l) (n:=n+1) aw z
    have be:=fun z=>An6 l m z aw
    have b9:=fun(z:Nat)(hz:z<4294967296)=>Aw4 d m hz
    have ab:(K5 l (n+1)).length=a.length+b.length:=by rw [Us];omega
    generalize Gm l m=u at ah a0 be;have bl:IntKind.u64.wrap (u:Int)=u:=wrap_u64 om;have ci:=A6h bb bi a0 hc;obtain⟨z1,cb,bu⟩:∃z:Int,IntKind.u64.wrap ((x:Int)*(y:Int))=z/\z=((x*y:Nat):Int):=⟨_,rfl,by rw [<- Fi];exact wrap_u64 om⟩;obtain⟨z2,b3,bt⟩:∃z:Int,IntKind.u64.wrap (z1+(u:Int))=z/\z=((x*y+u:Nat):Int):=⟨_,rfl,by rw [bu,Adr (by omega)]⟩;obtain⟨z3,bx,aj⟩:∃z:Int,IntKind.u64.wrap (z2+(c:Int))=z/\z=((x*y+u+c:Nat):Int):=⟨_,rfl,by rw [bt,Adr (by omega)]⟩;obtain⟨mi,af,bn⟩:∃z:Int,IntKind.i64.wrap ((i:Int)+(j:Int))=z/\z=(m:Int):=⟨_,rfl,by rw [Bb om (by omega)];omega⟩;have ag:0<=mi/\mi<(a.length:Int)+b.length:=om;have ae:mi.toNat=m:=om;have bf:IntKind.u32.wrap z3=(((x*y+u+c)%4294967296:Nat):Int):=by rw [aj,wrap_u32]
    have ba:z3.fdiv (2^min 32 IntKind.u64.bits)=(((x*y+u+c)/4294967296:Nat):Int):=by rw [aj,Y8]
    have bj:=o;rw [hm]at bj;have au:=A1c (vq:=0) (x:=x) (y:=y) (t:=x*y+u+c) bj (be _) rfl;have g:=w ((x*y+u+c)%4294967296);have ai:=b9 ((x*y+u+c)%4294967296) (Df _ om);have a7:(x*y+u+c)/4294967296<4294967296:=om;generalize(x*y+u+c)%4294967296=lo at bf g ai au;generalize(x*y+u+c)/4294967296=hi' at ba au a7;generalize an:K5 l (n+1)=ro at ah ab g|-;refine Ab (Ap (Aa [1,5,6,7,8,9,10,22,23,24,29,30,31] [21] (by simp [bo,bq]<;>rfl) (Aa [1,5,6,7,9,11,22,23,24,29,30,31] [21] (by simp [bk,a6,bl,cb,b3,bx,af,ag,ae,ah,aa]<;>rfl) (Aa [1,5,6,7,11,22,23,24,29,30,31] [21] (by simp [af,ag,ae,ah,bf,g]<;>rfl) (A2 [1,5,6,7,8,22,23,24,29,30,31] [21] (by simp [ba]<;>rfl) (A2 [1,5,6,7,8,22,23,24,29,30,31] [21] (by simp [ca]<;>rfl) ?_))))))
    refine⟨(j+1,l.set m lo,hi',bh+1+5+16+8+3+2),⟨br,by rw [H5];exact f,ai,a7,?_⟩,by simp only;omega,?_⟩
    ·simp only;rw [<- Jw i j 1,hm,Cn,au,a8];rw [D8,Ci,<- hm,Gt]
     have e:x*(y*4294967296^j)*4294967296^i=x*y*(4294967296^i*4294967296^j):=by
      rw [<- Cb x y,Cb (x*y),Bn (4294967296^j)]
     rw [e];omega
    ·have aq:((j+1:Nat):Int)=(j:Int)+1:=om;simp only [aq,aa];exact AS.le_refl _
   ·refine A9 ?_;have b6:j=b.length:=by simp at h2;omega
    subst b6;rw [Bo]at o;exact⟨(l,c,bh+1),⟨f,d,hc,o⟩,O9 [1,5,6,8,22,23,24] [21] rfl rfl rfl sy⟩
  rintro⟨l,c,b2⟩⟨f,d,hc,o⟩;simp only at f d hc o;have b1:IntKind.u32.wrap (c:Int)=(c:Int):=by rw [wrap_u32];omega
  obtain⟨mi,af,bn⟩:∃z:Int,IntKind.i64.wrap ((i:Int)+(b.length:Int))=z/\z=((i+b.length:Nat):Int):=⟨_,rfl,by rw [Bb om (by omega)];omega⟩;have ag:0<=mi/\mi<(a.length:Int)+b.length:=om;have ae:mi.toNat=i+b.length:=om;have bp:=Za (done:=l) (k:=i+b.length) (n:=n) f;have w:=Zb (done:=l) (k:=i+b.length) (n:=n) f c;have bm:(K5 l (n+1)).length=a.length+b.length:=by rw [Us];omega
  generalize an:K5 l (n+1)=ro at bp bm w|-;refine A2 [1,5,22,23,24] [21] (by simp [ad,af,ag,ae,bp,w,b1,aa]<;>rfl) (A2 [1,5,22,23,24] [21] (by simp [b8]<;>rfl) ?_)
  refine⟨(i+1,l++[c],b2+9+2),⟨a4,by simp;omega,Pz d (by intro z hz;simp at hz;omega),?_⟩,by simp only;omega,?_⟩
  ·simp only;rw [Pa,f,a5,Ci,<- hI];simp only [Bg,Ty,Ea];rw [Bn (4294967296^(i+b.length)) c,o,Cb x,Cb x,Bn (Bg b)]
  ·have aq:((i+1:Nat):Int)=(i:Int)+1:=om;have cc:a.length-(i+1)=n:=om;simp only [aq,aa,cc];exact AS.le_refl _
 ·refine A9 ?_;have b4:i=a.length:=by simp at h1;omega
  subst b4;rw [Bo]at hI;have ar:=In q ax;rw [hI]at ar;have ak:=Ah q;have bs:(Au q).length=a.length+b.length:=by simpa using hq
  have an:K5 q (a.length-a.length)=Au q:=by simp [K5]
  rw [an];generalize Au q=fin at ar ak bs;refine Ab (Ac (Am 1 sr ?_));refine Ju 21 [70] [] (by simp [ak,bs,aa]<;>rfl) ?_;refine Ai ar func148 ?_ (hp:=by simp);refine Ag [4] [] sr ?_;refine Ak (Ad sr ?_);rfl
theorem nils_ro(sz:Nat):Bl .nils (.ro sz []):=⟨fun _ _ _ h=>h.nils_ro sz,fun _ =>rfl⟩
theorem Zg(a b:Nat):Rv a b<0↔a<b:=by unfold Rv;split<;>(try split)<;>omega
def Ar2(a b:Nat):V:=if b<=a then .tup [.ro 1 (Au (B1 (a-b))),.bool true]else .tup [.ro 1 [],.bool false]
theorem Ar3(f l2:List Nat)(h1:Ed f)(h2:Ed l2)(be:f.length<=1099511627776)(bc:l2.length<=1099511627776):AC prog 258 [.ro 1 (Au f),.ro 1 (Au l2)] (fun r=>r=Ar2 (Bg f) (Bg l2)):=by
 refine AC.relaxP ?_;have ae:=In f h1;have aa:=In l2 h2;have bp:=Aj (P3 f h1) be;have bl:=Aj (P3 l2 h2) bc;have ak:=Cr (Bg f);have ah:=Cr (Bg l2);have u:=C2 (Bg f);have af:=C2 (Bg l2);have i:=Afi _ _ ak ah;have d:Bg l2<=Bg f->(B1 (Bg l2)).length<=(B1 (Bg f)).length:=fun h=>E0 (Fw h (Kq _))
 generalize B1 (Bg f)=a at ae bp ak u i d;generalize B1 (Bg l2)=b at aa bl ah af i d;rw [<- u,<- af]at d|-;clear u af;have a8:=Ah a;have a6:=Ah b;have aq:=Ah f;have ay:=Ah l2;have am:(Au a).length=a.length:=sm;have a2:(Au b).length=b.length:=sm;have ar:=fun k h=>Art a k h
 have a1:=fun k h=>Art b k h
 have bo:4*(a.length:Int)<=281474976710656:=om;have bn:(a.length:Int)<=9223372036854775807:=om;generalize Au a=av at ae am ar a8 i;generalize Au b=bv at aa a2 a1 a6 i;refine Ay func258 (fun w0 N0=>?_);refine Aa [0,1] [] sr (Ab (Ac (Am 1 sr ?_)));refine Ai ae func148 ?_ (hp:=by simp);refine Am 1 sr ?_;refine Ai aa func148 ?_ (hp:=by simp);refine Ag [0,1] [] sr ?_;refine Ab (Ab (Ac (Am 2 sr ?_)));refine Ai i func128 ?_ (hp:=by simp);refine Ag [0,1,17] [] sr ?_
 refine Ao (fun h3=>?_) (fun h3=>Ae ?_)
 ·have e:Bg a<Bg b:=by simpa [Zg]using h3
  refine Aa [4,5] [] sr ?_;refine Ak (Ad sr ?_);rw [Ar2,if_neg (by omega)];exact Bl.tup (.cons (nils_ro 1) (.cons (Bl.refl _) .nil))
 have al:Bg b<=Bg a:=by simpa [Zg]using h3
 have bf:=d al;refine Aa [0,1,6] [20] (by simp [am,bo,bn]<;>rfl) (Aa [0,1,6,7] [20] sr (Ab (Aa [0,1,6,7,22,23] [20] (by simp [am]<;>rfl) (Ap ?_))))
 refine Dr (fun p:List Nat × Nat × Nat=>⟨[(0,.ro 1 av),(1,.ro 1 bv),(6,.sl 20 14 1 a.length),(7,.int .u64 p.2.1),(22,.int .i64 a.length),(23,.int .i64 p.1.length)],[(20,⟨14,1,149,K5 p.1 (a.length-p.1.length)⟩)],p.2.2,54⟩)
  (fun p=>p.1.length<=a.length/\Ed p.1/\p.2.1<=1/\Bg p.1+Bg (b.take p.1.length)=Bg (a.take p.1.length)+p.2.1*4294967296^p.1.length) (fun p=>a.length-p.1.length) ([],0,_) ⟨by simp,by simp [Ed],by simp,by simp [Bg]⟩ (by simp [An5];exact AS.le_refl _) ?_
 rintro⟨done,c,nx⟩⟨hd,l,hc,hI⟩;simp only at hd l hc hI;refine Aa [0,1,6,7,22,23,24] [20] sr (Ab ?_)
 refine Ao (fun h4=>Ae ?_) (fun h4=>?_)
 ·have e:done.length<a.length:=by simp at h4;omega
  obtain⟨n,hn⟩:∃n,a.length-done.length=n+1:=⟨a.length-done.length-1,by omega⟩;have ad:=ar done.length e;have an:=Za (done:=done) (k:=done.length) (n:=n) rfl;obtain⟨k,hk⟩:∃k,done.length=k:=⟨_,rfl⟩;rw [hk]at ad an e hn hI;have a0:=Ot ak k;have a3:=Ot ah k;have au:=Qe a k;have ax:=Qe b k;have ba:¬k<b.length->Gm b k=0:=fun h=>by unfold Gm;rw [Hd (by omega)]
  have a9:=a1 k;have m:=fun z=>Zb (done:=done) (k:=k) (n:=n) hk z
  have a7:(K5 done (n+1)).length=a.length:=by rw [Us];omega
  have bj:=A7 (k:=k) om;simp only [hk,hn];generalize Gm a k=x at ad a0 au;generalize Gm b k=y at a9 a3 ax ba;obtain⟨z,c',ao,ai,bs,bd,bh⟩:=Bei a0 a3 hc;have a4:IntKind.u64.wrap (x:Int)=x:=wrap_u64 om;have aw:IntKind.u64.wrap (y:Int)=y:=wrap_u64 om;obtain⟨t1,o⟩:∃t:Int,IntKind.u64.wrap ((x:Int)-(c:Int))=t:=⟨_,rfl⟩;have az:=Bbl x c;rw [o]at ao ai az;obtain⟨t2,g⟩:∃t:Int,IntKind.u64.wrap (t1-(y:Int))=t:=⟨_,rfl⟩;rw [g]at ao ai;have s:k<av.length:=om;have bg:(k:Int)<(a.length:Int):=om;generalize bt:K5 done (n+1)=ro at an a7 m|-;refine Ab (Ap (Aa [0,1,6,7,8,22,23] [20] sr (Aa [0,1,6,8,9,22,23] [20] (by simp [ad,s,a4,o]<;>rfl) ?_)))
  refine O8 ⟨[(0,.ro 1 av),(1,.ro 1 bv),(6,.sl 20 14 1 a.length),(8,.int .i64 k),(9,.int .u64 t2),(22,.int .i64 a.length),(23,.int .i64 k)],[(20,⟨14,1,149,ro⟩)],nx+30,54⟩ ?_ ?_
  ·refine Aa [0,1,6,8,9,22,23,36] [20] (by simp [a2]<;>rfl) ?_
   refine Ao (fun h5=>?_) (fun h5=>Ae ?_)
   ·have ab:k<b.length:=by simp at h5;omega
    have bb:k<bv.length:=om;refine A2 [0,1,6,8,9,22,23] [20] (by simp [a9 ab,bb,aw,g]<;>rfl) ?_;exact⟨rfl,O9 [0,1,6,8,9,22,23] [20] rfl rfl rfl sy⟩
   ·have ab:¬k<b.length:=by simp at h5;omega
    have bm:=ba ab;have bi:t1=t2:=by rw [<- g,bm,az]
    rw [bi];exact⟨rfl,O9 [0,1,6,8,9,22,23] [20] rfl rfl rfl sy⟩
  have aj:=m z;refine Aa [0,1,6,9,22,23] [20] (by simp [an,ao,aj,bg]<;>rfl) (A2 [0,1,6,7,22,23] [20] (by simp [ai]<;>rfl) (A2 [0,1,6,7,22,23] [20] (by simp [bj]<;>rfl) ?_))
  refine⟨(done++[z],c',nx+30+6+3+2),⟨by simp;omega,Pz l (by intro q hq;simp at hq;omega),bd,?_⟩,by simp;omega,?_⟩
  ·simp only [Bi,Bc,B0,hk,Pa,Bg];have:=Aw5 hI bh;rw [au,ax,Cn,Bn (4294967296^k) (z+_)];simpa using this
  ·have bk:((k+1:Nat):Int)=(k:Int)+1:=om;have br:a.length-(k+1)=n:=om;simp only [Bi,Bc,B0,hk,br,Ds,bk];exact AS.le_refl _
 ·refine A9 ?_;have j:done.length=a.length:=by simp at h4;omega
  rw [j,Bo,O3 b _ bf]at hI;have e:=Ak5 done l;rw [j]at e;obtain⟨_,hD⟩:=A1d hI e hc al;have ag:=In done l;rw [hD]at ag;have bq:K5 done (a.length-done.length)=Au done:=by simp [K5,j]
  have w:=Ah done;have a5:(Au done).length=a.length:=by simpa using j
  rw [bq];generalize Au done=fin at ag w a5;refine Ab (Ac (Am 1 sr ?_));refine Ju 20 [52] [] (by simp [w,a5]<;>rfl) ?_;refine Ai ag func148 ?_ (hp:=by simp);refine Ag [4,5] [] sr ?_;refine Ak (Ad sr ?_);rw [Ar2,if_pos al];exact Bl.refl _
theorem Ar4(n A d:Nat)(hA:A<4294967296^n)(hd:0<d)(ah:d<4294967296)(hn:n<=1099511627776):AC prog 149 [.ro 1 (Au (Cj n A)),.int .u32 d] (fun r=>r=.tup [.ro 1 (Au (B1 (A/d))),.int .u32 ((A%d:Nat):Int)]):=by
 have aa:=fun k(h:k<n)=>Y9 (v:=A) h
 have c:(Au (Cj n A)).length=n:=sm;generalize Au (Cj n A)=av at aa c;have al:4*(n:Int)<=281474976710656:=om;have ak:(n:Int)<=9223372036854775807:=om;have f:IntKind.u64.wrap (d:Int)=d:=wrap_u64 om;have y:d≠0:=om;obtain⟨w1,C9,af⟩:∃x:Int,IntKind.i64.wrap ((n:Int)-1)=x/\x=(n:Int)-1:=⟨_,rfl,Bb om om⟩;refine Ay func149 (fun w0 N0=>?_);refine Aa [0,1] [] sr (Aa [0,1,6] [12] (by simp [c,al,ak]<;>rfl) (Aa [0,1,6,7] [12] sr (Ab (Aa [0,1,6,7,8] [12] (by simp [c,C9]<;>rfl) (Ap ?_)))))
 refine Dr (fun p:Nat × Nat=>⟨[(0,.ro 1 av),(1,.int .u32 d),(6,.sl 12 4 1 n),(7,.int .u64 ((A/4294967296^p.1%d:Nat):Int)),(8,.int .i64 ((p.1:Int)-1))],[(12,⟨4,1,149,List.replicate p.1 (.int .u32 0)++Au (Cj (n-p.1) (A/4294967296^p.1/d))⟩)],p.2,44⟩)
  (fun p=>p.1<=n) (fun p=>p.1) (n,_) (A8 _) (by simp only [af,Gz hA,Nat.zero_mod,Gf,Nat.zero_div,Cj,Gx,Dx];exact AS.le_refl _) ?_
 rintro⟨k,nx⟩hk;simp only at hk;refine Ab ?_;cases k with
 |zero=>
  simp only [Tx,Nat.div_one,Kv,List.replicate_zero,F3];have j:=In (Cj n (A/d)) (Oq _ _);have e:A/d<4294967296^n:=Fw (H6 _ _) hA;rw [Sf,Cm e]at j;have g:=Ah (Cj n (A/d));have w:(Au (Cj n (A/d))).length=n:=sm
  have z:IntKind.u32.wrap ((A%d:Nat):Int)=((A%d:Nat):Int):=by
   have:=Df A hd;rw [wrap_u32];omega
  generalize Au (Cj n (A/d))=fin at j g w;generalize((A%d:Nat):Int)=rest at z|-;refine Aa [0,1,6,7,8,17] [12] sr ?_;refine A6 rfl (fun h3=>by simp at h3) (fun h3=>?_);refine A9 ?_;refine Ab (Ac (Am 1 sr ?_));refine Ju 12 [7,40] [] (by simp [g,w]<;>rfl) ?_;refine Ai j func148 ?_ (hp:=by simp);refine Ag [4,5] [] (by simp [z]<;>rfl) ?_;refine Ak (Ad sr rfl)
 |succ k=>
  have gA:=aa k om;have e1:((k+1:Nat):Int)-1=(k:Int):=om;have e:(k:Int)<n:=om;have hw:IntKind.i64.wrap ((k:Int)-1)=(k:Int)-1:=Bb om om;obtain⟨D1,D2,D3,D4⟩:=A1e (A:=A) (P:=4294967296^k) (d:=d) hd rfl rfl rfl;have i:=D2 ah;have ag:A/4294967296^k%4294967296<4294967296:=Df _ dc;clear D2;rw [<- Cn]at D1 i D3 D4
  have a:∀q,q=(A/4294967296^(k+1)%d*4294967296+A/4294967296^k%4294967296)/d->(List.replicate (k+1) (V.int .u32 0)++Au (Cj (n-(k+1)) (A/4294967296^(k+1)/d))).set k (.int .u32 (q:Int))=List.replicate k (.int .u32 0)++Au (Cj (n-k) (A/4294967296^k/d)):=by
   intro q hq;have aj:n-k=(n-(k+1))+1:=om;rw [aj,D3,<- hq,Ai4 (by rw [hq];exact i),List.replicate_succ',Cz,Ff _ _ (by simp)];simp
  have s:Hs (List.replicate (k+1) (V.int .u32 0)++Au (Cj (n-(k+1)) (A/4294967296^(k+1)/d))) k=some (.int .u32 0):=by
   rw [C1,Bj sm,Ip,if_pos (by omega)]
  have ae:(List.replicate (k+1) (V.int .u32 0)++Au (Cj (n-(k+1)) (A/4294967296^(k+1)/d))).length=n:=by simp;omega
  generalize List.replicate (k+1) (V.int .u32 0)++Au (Cj (n-(k+1)) (A/4294967296^(k+1)/d))=ro at a s ae|-;generalize A/4294967296^(k+1)%d=r,A/4294967296^k%4294967296=x at*;have m:=Ak6 (r:=r) (x:=x) om ag;have o:IntKind.u64.wrap (x:Int)=x:=wrap_u64 om;obtain⟨t,ht⟩:∃t,r*4294967296+x=t:=⟨_,rfl⟩;rw [ht]at D1 i a m;have ai:=An7 t d;have ab:=An8 t d;rw [D1]at ab;have l:=a _ rfl;clear a;generalize t/d=q at*;have u:IntKind.u64.wrap (q:Int)=q:=wrap_u64 om;have ad:IntKind.u32.wrap (q:Int)=q:=by rw [wrap_u32];omega
  rw [e1];refine Aa [0,1,6,7,8,17] [12] sr ?_;refine A6 rfl (fun h3=>Ae ?_) (fun h3=>by simp at h3);refine Ab (Ap (Aa [0,1,6,8,9] [12] (by simp [gA,c,e,o,m]<;>rfl) (Aa [0,1,6,8,9] [12] (by simp [s,e,f,y,ai,u,ad,l]<;>rfl) (A2 [0,1,6,7,8] [12] (by simp [f,y,ab]<;>rfl) (A2 [0,1,6,7,8] [12] (by simp [hw]<;>rfl) ?_)))));exact⟨(k,_),by simp only;omega,by simp,AS.le_refl _⟩
set_option linter.unusedSimpArgs false
def bitLen(n:Nat):Nat:=if n=0 then 0 else n.log2+1
theorem Abi(n:Nat):n<2^bitLen n:=by
 unfold bitLen
 split
 ·subst n;decide
 ·exact Nat.lt_log2_self
theorem Qg{n:Nat}(h:n≠0):2^(bitLen n-1)<=n:=by
 rw [bitLen,if_neg h];exact Nat.log2_self_le h
theorem Ai8{n k:Nat}(h1:2^k<=n)(h2:n<2^(k+1)):bitLen n=k+1:=by
 have c:n≠0:=by intro h;subst h;have:=Fs (n:=k) (show 0<2 by decide);omega
 rw [bitLen,if_neg c]
 congr 1
 have a:=(Nat.le_log2 c).2 h1;have b:=(Nat.log2_lt c).2 h2;omega
theorem Bbp{n k:Nat}(h:n≠0):bitLen (n*2^k)=bitLen n+k:=by
 have a:=Qg h;have b:=Abi n;have hp:bitLen n≠0:=by rw [bitLen,if_neg h];omega
 obtain⟨m,c⟩:∃m,bitLen n=m+1:=⟨bitLen n-1,by omega⟩;rw [c]at a b|-
 rw [Ai8 (k:=m+k)]
 ·omega
 ·rw [Gt];exact B7 _ a
 ·rw [show m+k+1=m+1+k by omega,Gt];exact Gg b (Fs dc)
theorem Xz{n k:Nat}(h:2^k<=n):bitLen n=k+bitLen (n/2^k):=by
 have c:0<2^k:=Fs dc;have d:n/2^k≠0:=by have:=Nat.div_pos h c;omega
 have a:=Qg d;have b:=Abi (n/2^k);obtain⟨m,e⟩:∃m,bitLen (n/2^k)=m+1:=⟨(n/2^k).log2,by rw [bitLen,if_neg d]⟩;rw [e]at a b|-;simp only [Nat.add_sub_cancel]at a
 rw [Ai8 (k:=m+k)]
 ·omega
 ·rw [Gt];exact(Hc c).1 a
 ·rw [show m+k+1=m+1+k by omega,Gt];exact(C6 c).1 b
theorem A6w:∀v:Nat,v<256->∃b:UInt8,Hs ([0,1,2,2,3,3,3,3,4,4,4,4,4,4,4,4,5,5,5,5,5,5,5,5,5,5,5,5,5,5,5,5,6,6,6,6,6,6,6,6,6,6,6,6,6,6,6,6,6,6,6,6,6,6,6,6,6,6,6,6,6,6,6,6,7,7,7,7,7,7,7,7,7,7,7,7,7,7,7,7,7,7,7,7,7,7,7,7,7,7,7,7,7,7,7,7,7,7,7,7,7,7,7,7,7,7,7,7,7,7,7,7,7,7,7,7,7,7,7,7,7,7,7,7,7,7,7,7,8,8,8,8,8,8,8,8,8,8,8,8,8,8,8,8,8,8,8,8,8,8,8,8,8,8,8,8,8,8,8,8,8,8,8,8,8,8,8,8,8,8,8,8,8,8,8,8,8,8,8,8,8,8,8,8,8,8,8,8,8,8,8,8,8,8,8,8,8,8,8,8,8,8,8,8,8,8,8,8,8,8,8,8,8,8,8,8,8,8,8,8,8,8,8,8,8,8,8,8,8,8,8,8,8,8,8,8,8,8,8,8,8,8,8,8,8,8,8,8,8,8,8,8,8,8,8,8]:List UInt8) v=some b/\b.toNat=bitLen v:=by
 have h:∀v:Fin 256,Hs ([0,1,2,2,3,3,3,3,4,4,4,4,4,4,4,4,5,5,5,5,5,5,5,5,5,5,5,5,5,5,5,5,6,6,6,6,6,6,6,6,6,6,6,6,6,6,6,6,6,6,6,6,6,6,6,6,6,6,6,6,6,6,6,6,7,7,7,7,7,7,7,7,7,7,7,7,7,7,7,7,7,7,7,7,7,7,7,7,7,7,7,7,7,7,7,7,7,7,7,7,7,7,7,7,7,7,7,7,7,7,7,7,7,7,7,7,7,7,7,7,7,7,7,7,7,7,7,7,8,8,8,8,8,8,8,8,8,8,8,8,8,8,8,8,8,8,8,8,8,8,8,8,8,8,8,8,8,8,8,8,8,8,8,8,8,8,8,8,8,8,8,8,8,8,8,8,8,8,8,8,8,8,8,8,8,8,8,8,8,8,8,8,8,8,8,8,8,8,8,8,8,8,8,8,8,8,8,8,8,8,8,8,8,8,8,8,8,8,8,8,8,8,8,8,8,8,8,8,8,8,8,8,8,8,8,8,8,8,8,8,8,8,8,8,8,8,8,8,8,8,8,8,8,8,8,8]:List UInt8) v.val=some (UInt8.ofNat (bitLen v.val))/\(UInt8.ofNat (bitLen v.val)).toNat=bitLen v.val:=dc;exact fun v a=>⟨_,h ⟨v,a⟩⟩
theorem Aur{k:IntKind}{s:Nat}(hs:s<=k.bits)(x:Nat):(x:Int).fdiv (2^min s k.bits)=((x/2^s:Nat):Int):=by
 rw [Hi hs,H1 _ (Int.le_of_lt (Int.pow_pos dc))];rw [Int.natCast_ediv,Int.natCast_pow];rfl
theorem Aod(x:Nat)(t:x<4294967296):AC prog 188 [.int .u32 x] (fun r=>r=.int .i64 (bitLen x:Nat)):=by
 have i:∀v:Nat,v<256->∃b:UInt8,Hs ([0,1,2,2,3,3,3,3,4,4,4,4,4,4,4,4,5,5,5,5,5,5,5,5,5,5,5,5,5,5,5,5,6,6,6,6,6,6,6,6,6,6,6,6,6,6,6,6,6,6,6,6,6,6,6,6,6,6,6,6,6,6,6,6,7,7,7,7,7,7,7,7,7,7,7,7,7,7,7,7,7,7,7,7,7,7,7,7,7,7,7,7,7,7,7,7,7,7,7,7,7,7,7,7,7,7,7,7,7,7,7,7,7,7,7,7,7,7,7,7,7,7,7,7,7,7,7,7,8,8,8,8,8,8,8,8,8,8,8,8,8,8,8,8,8,8,8,8,8,8,8,8,8,8,8,8,8,8,8,8,8,8,8,8,8,8,8,8,8,8,8,8,8,8,8,8,8,8,8,8,8,8,8,8,8,8,8,8,8,8,8,8,8,8,8,8,8,8,8,8,8,8,8,8,8,8,8,8,8,8,8,8,8,8,8,8,8,8,8,8,8,8,8,8,8,8,8,8,8,8,8,8,8,8,8,8,8,8,8,8,8,8,8,8,8,8,8,8,8,8,8,8,8,8,8,8]:List UInt8) v=some b/\((b.toNat:Nat):Int)=bitLen v/\IntKind.u8.wrap (v:Int)=v/\IntKind.i64.wrap ((b.toNat:Nat):Int)=bitLen v:=fun v c=>by
  obtain⟨b,h1,h2⟩:=A6w v c;have:=b.toNat_lt;exact⟨b,h1,by omega,by rw [IntKind.wrap_u8];omega,by rw [h2,Bb om (by omega)]⟩
 have f:(x:Int).fdiv (2^min 16 IntKind.u32.bits)=((x/65536:Nat):Int):=Aur (k:=.u32) (s:=16) dc x;have e:∀x:Nat,(x:Int).fdiv (2^min 8 IntKind.u32.bits)=((x/256:Nat):Int):=fun x=>Aur (k:=.u32) (s:=8) dc x
 have m:=e (x/65536)
 have z:∀v,v<4294967296->bitLen v<=32:=fun v c=>by
  rcases Dn 32 (bitLen v)with h|h
  ·have w:v≠0:=by rintro rfl;revert h;decide
   have:=Qg w;have:2^32<=2^(bitLen v-1):=El dc om;omega
  ·exact h
 have u:=z x t;refine Ay func188 (fun w0 N0=>?_);refine Aa [0,2] [] sr ?_
 refine Y2 (fun p:Nat × Nat=>⟨[(0,.int .u32 p.1),(2,.int .i64 p.2)],[],10,19⟩) (fun p=>p.1<65536/\bitLen x=p.2+bitLen p.1) ?_ ?_
 ·refine Aa [0,2,4] [] sr ?_
  refine Ao (fun h1=>?_) (fun h1=>Ae ?_)
  ·have h2:65536<=x:=by simp at h1;omega
   refine Aa [0] [] (by simp [f]<;>rfl) (A2 [0,2] [] sr ?_);exact⟨(x/65536,16),⟨by simp only;omega,Xz (k:=16) h2⟩,Aew rfl rfl rfl sy⟩
  ·have h2:x<65536:=by simp at h1;omega
   exact⟨(x,0),⟨h2,by simp⟩,O9 [0,2] [] rfl rfl rfl sy⟩
 rintro⟨v,b⟩⟨c,a⟩;simp only at c a;have d:IntKind.i64.wrap ((b:Int)+8)=((b+8:Nat):Int):=by rw [Bb om (by omega)];omega
 refine Y2 (fun p:Nat × Nat=>⟨[(0,.int .u32 p.1),(2,.int .i64 p.2)],[],20,19⟩) (fun p=>p.1<256/\bitLen x=p.2+bitLen p.1) ?_ ?_
 ·refine Aa [0,2,8] [] sr ?_
  refine Ao (fun h1=>?_) (fun h1=>Ae ?_)
  ·have h2:256<=v:=by simp at h1;omega
   refine Aa [0,2] [] (by simp [e]<;>rfl) (A2 [0,2] [] (by simp [d]<;>rfl) ?_);refine⟨(v/256,b+8),⟨by simp only;omega,?_⟩,Aew rfl rfl rfl sy⟩;have:bitLen v=8+bitLen (v/256):=Xz (k:=8) h2;simp only;omega
  ·have h2:v<256:=by simp at h1;omega
   exact⟨(v,b),⟨h2,a⟩,O9 [0,2] [] rfl rfl rfl sy⟩
 clear c a d;clear v b;rintro⟨v,b⟩⟨c,a⟩;simp only at c a;obtain⟨y,n,l,o,j⟩:=i v c;have g:IntKind.i64.wrap ((b:Int)+(bitLen v:Int))=(bitLen x:Int):=by rw [Bb om (by omega)];omega
 rw [l]at j;exact Aa [2] [] (by simp [n,o,j,l,g]<;>rfl) (Ak (Ad sr rf))
theorem Axd(x:Nat)(a:x<4294967296):AC prog 190 [.int .u32 x] (fun r=>r=.int .i64 ((32-bitLen x:Nat):Int)):=by
 have d:=Aod x a
 have hb:bitLen x<=32:=by
  rcases Dn 32 (bitLen x)with h|h
  ·have c:x≠0:=by rintro rfl;revert h;decide
   have:=Qg c;have:2^32<=2^(bitLen x-1):=El dc om;omega
  ·exact h
 have e:IntKind.i64.wrap (32-(bitLen x:Int))=((32-bitLen x:Nat):Int):=by rw [Bb om (by omega)];omega
 generalize bitLen x=q at*;refine Ay func190 (fun w0 N0=>?_);refine Aa [0] [] sr (Ab (Ac (Am 1 sr ?_)));refine Ai d func188 ?_;refine Ag [2] [] (by simp [e]<;>rfl) ?_;exact Ak (Ad sr rfl)
theorem Axe(l:List Nat):(Au l).all Ml=true:=by
 simp only [Ax,Bk];rintro v⟨x,_,rfl⟩;rfl
theorem Aus(n A s:Nat)(hn:n<=1099511627776)(hs:s<32)(hA:A<4294967296^n):ACO prog 191 [.ro 1 (Au (Cj n A)),.int .i64 s] 1 149 (fun F es=>F=(fun d q=>.sl d q 1 (n+1))/\es=Au (Cj (n+1) (A*2^s))):=by
 have ah:=fun k(h:k<n)=>Y9 (v:=A) h
 have f:(Au (Cj n A)).length=n:=sm;generalize Au (Cj n A)=av at ah f;obtain⟨s1,al,a3⟩:∃s:Int,IntKind.i64.wrap ((n:Int)+1)=s/\s=((n+1:Nat):Int):=⟨_,rfl,A7 om⟩;have au:4*s1<=281474976710656:=om;have aq:s1<=9223372036854775807:=om;have a0:0<=s1:=om;have ak:s1.toNat=n+1:=om;refine Lj func191 (fun w0 N0=>?_);refine Aa [0,1] [] sr (Aa [0,1,5] [12] (by simp [f,al,au,aq,a0]<;>rfl) ?_);rw [ak];refine Ab (Aa [1,5,13,14,15] [12] (by simp [f]<;>rfl) (Ap ?_))
 refine Dr (fun p:Nat × Nat=>⟨[(1,.int .i64 s),(5,.sl 12 4 1 (n+1)),(13,.ro 1 av),(14,.int .i64 n),(15,.int .i64 p.1)],[(12,⟨4,1,149,Au (Cj (p.1+1) (A%4294967296^p.1*2^s))++List.replicate (n-p.1) (.int .u32 0)⟩)],p.2,41⟩)
  (fun p=>p.1<=n) (fun p=>n-p.1) (0,_) (B6 _) (by simp [Cj,Vr,G7,Wu];exact AS.le_refl _) ?_
 rintro⟨k,nx⟩hk;simp only at hk;refine Aa [1,5,13,14,15,16] [12] sr (Ab ?_)
 refine Ao (fun h1=>Ae ?_) (fun h1=>?_)
 ·have g:k<n:=by simp at h1;omega
  obtain⟨m,hm⟩:∃m,n-k=m+1:=⟨n-k-1,by omega⟩;have gA:=ah k g;have hP:=Nr k;have aj:A/4294967296^k%4294967296<4294967296:=Df _ dc;obtain⟨c,hc⟩:∃c,c=A%4294967296^k*2^s/4294967296^k:=⟨_,rfl⟩
  have a1:c<2^s:=by
   rw [hc];exact(A06 (a:=A) (s:=2^s) hP (Fs dc)).1
  obtain⟨t,ht⟩:∃t,t=A/4294967296^k%4294967296*2^s:=⟨_,rfl⟩;obtain⟨D1,D2,D3,D4⟩:=A1g aj hs a1 ht
  have hS:2^s<=2147483648:=by
   have:2^s<=2^31:=El dc om;exact this
  have hD:=A1h hc ht D3 om;have am:=A1i hc om;rw [am];have u:=Aw8 (s:=s) (x:=A/4294967296^k%4294967296) om (by rw [<- ht];exact D1);have i:IntKind.u64.wrap ((A/4294967296^k%4294967296:Nat):Int)=((A/4294967296^k%4294967296:Nat):Int):=wrap_u64 om;rw [<- ht]at u;generalize A/4294967296^k%4294967296=x at gA u i;have ay:IntKind.u32.wrap (t:Int)=((t%4294967296:Nat):Int):=wrap_u32 t
  have an:IntKind.u32.wrap ((t:Int).fdiv (2^min 32 IntKind.u64.bits))=((t/4294967296:Nat):Int):=by
   rw [Y8,wrap_u32];congr 1;omega
  have aa:=Aw6 c (t%4294967296) ⟨by omega,Df _ dc⟩;rw [D2]at aa;generalize t%4294967296=lo,t/4294967296=hi at*;have ar:¬(s:Int)<0:=om;have az:=A7 (k:=k) om
  have j:Hs (Au (Cj k (A%4294967296^k*2^s)++[c])++List.replicate (n-k) (V.int .u32 0)) k=some (.int .u32 c):=by
   rw [C1,Bj sm,Bd,Bh (by simp)];simp
  have l:Hs (Au (Cj k (A%4294967296^k*2^s)++[c])++List.replicate (n-k) (V.int .u32 0)) (k+1)=some (.int .u32 0):=by
   rw [C1,Bh sm,Ip,if_pos (by simp;omega)]
  have y:(Au (Cj k (A%4294967296^k*2^s)++[c])++List.replicate (n-k) (V.int .u32 0)).length=n+1:=by simp;omega
  have w:((Au (Cj k (A%4294967296^k*2^s)++[c])++List.replicate (n-k) (V.int .u32 0)).set k (.int .u32 ((c+lo:Nat):Int))).set (k+1) (.int .u32 (hi:Int))=Au (Cj (k+2) (A%4294967296^(k+1)*2^s))++List.replicate (n-(k+1)) (V.int .u32 0):=by
   rw [hD,hm,show n-(k+1)=m by omega];have hl:(List.map Wu (Cj k (A%4294967296^k*2^s))).length=k:=sm;simp only [Au,Ck,Cw,Gx,Cz,Ce,F3,G7];rw [Ff _ _ om,hl,Gf,Ku,Ff _ _ om,hl,show k+1-k=1 by omega];simp
  generalize Au (Cj k (A%4294967296^k*2^s)++[c])++List.replicate (n-k) (V.int .u32 0)=ro at l j y w|-;obtain⟨ae,e⟩:∃r,ro.set k (.int .u32 ((c+lo:Nat):Int))=r:=⟨_,rfl⟩;have ag:ae.length=n+1:=by rw [<- e];simpa using y
  rw [e]at w
  have af:Hs ae (k+1)=some (.int .u32 0):=by
   rw [<- e,C1,Ik om,<- C1,l]
  generalize((c+lo:Nat):Int)=z at*;have a2:k<n:=g;have ax:(k:Int)<(n:Int)+1:=om;have ab:(k:Int)<(n:Int):=om;obtain⟨k1,o⟩:∃k1:Int,IntKind.i64.wrap ((k:Int)+1)=k1:=⟨_,rfl⟩;have ao:k1=((k+1:Nat):Int):=by rw [<- o,az]
  have aw:0<=k1/\k1<(n:Int)+1:=om;have ai:k1.toNat=k+1:=om;refine Ab (Ap (Aa [1,5,6,7,13,14,15] [12] (by simp [gA,f,ab]<;>rfl) (Aa [1,5,6,8,13,14,15] [12] (by simp [i,u,ar]<;>rfl) (Aa [1,5,6,8,13,14,15] [12] (by simp [j,ax,ay,aa,e]<;>rfl) (A2 [1,5,13,14,15] [12] (by simp [o,aw,ai,an,af,w]<;>rfl) (A2 [1,5,13,14,15] [12] (by simp [o]<;>rfl) ?_))))));exact⟨(k+1,_),by simp only;omega,by simp only;omega,by simp only [ao];exact AS.le_refl _⟩
 ·have g:k=n:=by simp at h1;omega
  subst g;refine A9 ?_;rw [Cm hA,Gf,List.replicate_zero,Dx];have ad:=Axe (Cj (k+1) (A*2^s));generalize Au (Cj (k+1) (A*2^s))=fin at ad;refine Aa [4] [12] sr ?_;exact Ak (I6 12 rfl rfl rfl ad sr ⟨rfl,rfl⟩)
theorem A12{k m v q z:Nat}(d:z=v/4294967296^k%4294967296)(a:q=m+1):(Au (Cj k v)++List.replicate q (V.int .u32 0)).set k (.int .u32 (z:Int))=Au (Cj (k+1) v)++List.replicate m (V.int .u32 0):=by
 subst a;have c:(Au (Cj k v)).length=k:=sm;rw [Ff _ _ om,c,Gf,G7,Ku,Abd,d];simp
theorem A13{k m v q:Nat}(a:q=m+1):Hs (Au (Cj k v)++List.replicate q (V.int .u32 0)) k=some (.int .u32 0):=by
 subst a;rw [C1,Bh sm,Ip,if_pos (by simp)]
theorem Bbq(n A s:Nat)(hn:n<=1099511627776)(hs:s<32)(hA:A<4294967296^n):AC prog 195 [.ro 1 (Au (Cj n A)),.int .i64 s] (fun r=>r=.ro 1 (Au (Cj n (A/2^s)))):=by
 have j:=fun k(h:k<n)=>Y9 (v:=A) h
 have a:(Au (Cj n A)).length=n:=sm;generalize Au (Cj n A)=av at j a;have au:4*(n:Int)<=281474976710656:=om;have ar:(n:Int)<=9223372036854775807:=om;refine Ay func195 (fun w0 N0=>?_);refine Aa [0,1] [] sr (Aa [0,1,5] [11] (by simp [a,au,ar]<;>rfl) (Ab (Aa [0,1,5,12,13,14] [11] (by simp [a]<;>rfl) (Ap ?_))))
 refine Dr (fun p:Nat × Nat=>⟨[(0,.ro 1 av),(1,.int .i64 s),(5,.sl 11 3 1 n),(12,.ro 1 av),(13,.int .i64 n),(14,.int .i64 p.1)],[(11,⟨3,1,149,Au (Cj p.1 (A/2^s))++List.replicate (n-p.1) (.int .u32 0)⟩)],p.2,44⟩)
  (fun p=>p.1<=n) (fun p=>n-p.1) (0,_) (B6 _) (by simp [Cj];exact AS.le_refl _) ?_
 rintro⟨k,nx⟩hk;simp only at hk;refine Aa [0,1,5,12,13,14,15] [11] sr (Ab ?_)
 refine Ao (fun h1=>Ae ?_) (fun h1=>?_)
 ·have g:k<n:=by simp at h1;omega
  obtain⟨m,hm⟩:∃m,n-k=m+1:=⟨n-k-1,by omega⟩;have gA:=j k g;have gB:=j (k+1);have ak:A/4294967296^k%4294967296<4294967296:=Df _ dc;have al:A/4294967296^(k+1)%4294967296<4294967296:=Df _ dc;have o:=A1j (A:=A) (P:=4294967296^k) (s:=s) hs;rw [<- Cn]at o
  have ao:¬k+1<n->A/4294967296^(k+1)%4294967296=0:=fun h=>by
   have:n=k+1:=om;rw [this]at hA;rw [Gz hA]
  have f:=A13 (k:=k) (v:=A/2^s) hm;have d:=fun z hz=>A12 (k:=k) (v:=A/2^s) (z:=z) hz hm
  rw [<- o]at d;have af:(Au (Cj k (A/2^s))++List.replicate (n-k) (V.int .u32 0)).length=n:=by simp;omega
  generalize Au (Cj k (A/2^s))++List.replicate (n-k) (V.int .u32 0)=ro at f d af|-;clear o;generalize A/4294967296^k%4294967296=x,A/4294967296^(k+1)%4294967296=y at*;have aa:IntKind.u64.wrap (x:Int)=x:=wrap_u64 om;have ah:IntKind.u64.wrap (y:Int)=y:=wrap_u64 om;have w:=A1f (r:=y) (x:=x) al ak;obtain⟨t,ht⟩:∃t,x+y*4294967296=t:=⟨_,rfl⟩;rw [Tz,ht]at w;rw [ht]at d;have ae:=Aw7 (s:=s) (x:=t) om;have l:=wrap_u32 (t/2^s);have e:=d _ rfl;generalize t/2^s%4294967296=z at e l;generalize((t/2^s:Nat):Int)=tz at ae l;have ay:¬(s:Int)<0:=om;have ax:=A7 (k:=k) om;obtain⟨u,c⟩:∃u:Int,IntKind.i64.wrap ((k:Int)+1)=u:=⟨_,rfl⟩;have aq:u=((k+1:Nat):Int):=by rw [<- c,ax]
  have ag:(k:Int)<n:=om;refine Ab (Ap (Aa [0,1,5,6,7,12,13,14] [11] (by simp [gA,a,ag]<;>rfl) (Aa [0,1,5,6,8,12,13,14] [11] (by simp [aa]<;>rfl) ?_)))
  refine O8 ⟨[(0,.ro 1 av),(1,.int .i64 s),(5,.sl 11 3 1 n),(6,.int .i64 k),(8,.int .u64 t),(12,.ro 1 av),(13,.int .i64 n),(14,.int .i64 k)],[(11,⟨3,1,149,ro⟩)],nx+40,44⟩ ?_ ?_
  ·refine Aa [0,1,5,6,8,12,13,14,25] [11] (by simp [a,c]<;>rfl) ?_
   refine Ao (fun h3=>?_) (fun h3=>Ae ?_)
   ·have i:k+1<n:=by simp at h3;omega
    have an:=gB i;have aw:0<=u/\u<n:=om;have aj:u.toNat=k+1:=om;refine A2 [0,1,5,6,8,12,13,14] [11] (by simp [c,aw,aj,an,a,ah,w]<;>rfl) ?_;exact⟨rfl,O9 [0,1,5,6,8,12,13,14] [11] rfl rfl rfl sy⟩
   ·have i:¬k+1<n:=by simp at h3;omega
    have az:=ao i;have ai:x=t:=om;rw [ai];exact⟨rfl,O9 [0,1,5,6,8,12,13,14] [11] rfl rfl rfl sy⟩
  refine A2 [0,1,5,12,13,14] [11] (by simp [f,ag,ae,ay,l,e]<;>rfl) (A2 [0,1,5,12,13,14] [11] (by simp [c]<;>rfl) ?_);have am:n-(k+1)=m:=om;exact⟨(k+1,_),by simp only;omega,by simp only;omega,by simp only [aq,am];exact AS.le_refl _⟩
 ·have g:k=n:=by simp at h1;omega
  subst g;refine A9 ?_;rw [Gf,List.replicate_zero,Dx];have ab:=Ah (Cj k (A/2^s));have ad:(Au (Cj k (A/2^s))).length=k:=sm;generalize Au (Cj k (A/2^s))=fin at ab ad;refine Ab (Ac (Am 1 sr ?_));refine Ju 11 [43] [] (by simp [ab,ad]<;>rfl) ?_;refine Ag [4] [] sr ?_;exact Ak (Ad sr rfl)
def Bbr(n u v:Nat):Nat:=An2 (v/4294967296^(n-1)) (v/4294967296^(n-2)%4294967296) (u/4294967296^(n-2)%4294967296) 3 (u/4294967296^(n-1)/(v/4294967296^(n-1))) (u/4294967296^(n-1)%(v/4294967296^(n-1)))
theorem A14(F:Nat->Nat->Nat->Nat)(cb:Nat->Nat->Bool)(ah:Nat->Bool)(uv vv:List V)(N M i1 i2:Int)(k a x y th tl ad d0 r0:Nat)(j:Hs uv k=some (.int .u32 y))(az:Hs uv (k+1)=some (.int .u32 tl))(ay:Hs uv (k+2)=some (.int .u32 th))
  (i:Hs vv k=some (.int .u32 x))(ae:Hs vv (k+1)=some (.int .u32 a))(a8:a<4294967296)(a7:2147483648<=a)(a6:x<4294967296)(a1:y<4294967296)
  (u:IntKind.i64.wrap (N-1)=i1)(g:IntKind.i64.wrap (N-2)=i2)(b1:0<=i1/\i1<N/\i1<M)(b2:0<=i2/\i2<N/\i2<M)(n1:i1.toNat=k+1)(n2:i2.toNat=k)
  (e:((uv.length:Nat):Int)=M)(c:((vv.length:Nat):Int)=N)(b3:0<=N/\N<M)(n3:N.toNat=k+2)(wa:IntKind.u64.wrap (a:Int)=a)(wx:IntKind.u64.wrap (x:Int)=x)(wy:IntKind.u64.wrap (y:Int)=y)
  (a5:IntKind.u64.wrap (th:Int)=th)(a0:IntKind.u64.wrap (tl:Int)=tl)(an:bits .or .u64 (IntKind.u64.wrap ((th:Int)*2^min 32 IntKind.u64.bits)) (tl:Int)=(ad:Int))(ai:a≠0)
  (hq:(ad:Int).tdiv (a:Int)=d0)(hr:(ad:Int).tmod (a:Int)=r0)(aq:IntKind.u64.wrap (d0:Int)=d0)(a2:d0<18446744073709551616)(av:r0<4294967296)
  (hF:∀m d r,F (m+1) d r=if cb d r=true then(if ah (r+a)=true then d-1 else F m (d-1) (r+a))else d)(a3:∀d r,cb d r=true↔(4294967296<=d\/r*4294967296+y<d*x))(ag:∀z,ah z=true↔4294967296<=z):
  AC prog 192 [.ro 1 uv,.ro 1 vv] (fun r=>r=.int .u64 (F 3 d0 r0:Nat)):=by
 refine Ay func192 (fun w0 N0=>?_);refine Aa [0,1] [] sr (Aa [0,1,5] [] (by simp [c]<;>rfl) ?_);refine Di [(0,[]),(1,[]),(2,[]),(6,[]),(7,[]),(8,[]),(9,[]),(3,[]),(4,[]),(5,[]),(10,[]),(11,[]),(12,[]),(13,[])] [0,1,5,6] [] Dm kr (by simp [u,b1,b3,n1,n3,e,az,ay,a5,a0,an]<;>rfl) ?_;refine Aa [0,1,5,6,7] [] (by simp [u,b1,n1,c,ae,wa,ai,hq,aq]<;>rfl) (Aa [0,1,5,7,8] [] (by simp [u,b1,n1,c,ae,wa,ai,hr]<;>rfl) (Ab (Ap ?_)));refine Dr (fun p:Nat × Nat × Nat × Nat=>⟨[(0,.ro 1 uv),(1,.ro 1 vv),(5,.int .i64 N),(7,.int .u64 p.1),(8,.int .u64 p.2.1)],[],p.2.2.2,77⟩) (fun p=>p.1<18446744073709551616/\p.2.1<4294967296/\4294967296<=p.2.1+p.2.2.1*a/\F p.2.2.1 p.1 p.2.1=F 3 d0 r0) (fun p=>p.2.2.1) (d0,r0,3,_) ⟨a2,av,by simp only;omega,rfl⟩ (AS.le_refl _) ?_;rintro⟨d,r,m,nx⟩⟨hd,af,hm,hE⟩;simp only at hd af hm hE;cases m with
 |zero=>omega
 |succ m=>
 rw [<- hE];rw [hF];have n:=a3 d r;have s:=ag (r+a);have w:(d:Int).fdiv (2^min 32 IntKind.u64.bits)=((d/4294967296:Nat):Int):=Y8 d;obtain⟨ra,o⟩:∃ra:Int,ra=((r+a:Nat):Int):=⟨_,rfl⟩;have ab:ra.fdiv (2^min 32 IntKind.u64.bits)=(((r+a)/4294967296:Nat):Int):=by rw [o];exact Y8 (r+a)
 have a4:IntKind.u64.wrap ((r:Int)+(a:Int))=ra:=by rw [o,<- Dd];exact wrap_u64 om
 have f:=Ak6 (r:=r) (x:=y) af a1
 have wd:1<=d->IntKind.u64.wrap ((d:Int)-1)=((d-1:Nat):Int):=fun h=>by
  rw [show(d:Int)-1=((d-1:Nat):Int)by omega];exact wrap_u64 om
 refine Ab ?_
 refine O8 ⟨[(0,.ro 1 uv),(1,.ro 1 vv),(5,.int .i64 N),(7,.int .u64 d),(8,.int .u64 r),(62,.bool (cb d r))],[],nx+40,77⟩ ?_ ?_
 ·by_cases ao:4294967296<=d
  ·have aa:¬d/4294967296=0:=om;generalize d/4294967296=dq at w aa;refine(C4 [(0,[]),(1,[]),(2,[]),(3,[]),(4,[]),(5,[]),(6,[]),(7,[]),(8,[]),(12,[]),(13,[]),(14,[]),(15,[]),(16,[]),(17,[]),(9,[]),(10,[]),(11,[]),(18,[]),(19,[]),(20,[]),(21,[]),(22,[])] Dm kr ?_);refine Ch 4 (by simp [w,aa]<;>rfl) ?_;refine Ch 6 (by simp [g,b2,n2,c,i]<;>rfl) ?_;refine Ch 6 (by simp [g,b2,n2,e,j]<;>rfl) ?_;refine Ch 6 (by simp [wx,wy,f]<;>rfl) ?_;refine C5 [0,1,5,7,8,62] [] sr ?_;have l:cb d r=true:=n.2 (.inl ao);rw [l];exact⟨rfl,O9 [0,1,5,7,8,62] [] rfl rfl rfl sy⟩
  ·have hz:d/4294967296=0:=om;rw [hz]at w
   have au:d*x<18446744073709551616:=by
    have:d*x<=4294967295*4294967295:=Il om om;omega
   have t:IntKind.u64.wrap ((d:Int)*(x:Int))=((d*x:Nat):Int):=by rw [<- Fi];exact wrap_u64 au
   have l:cb d r=decide (((r*4294967296+y:Nat):Int)<((d*x:Nat):Int)):=by
    rw [Mv,n,decide_eq_true_iff];omega
   rw [l];obtain⟨dx,aj⟩:∃dx:Int,dx=((d*x:Nat):Int):=⟨_,rfl⟩;obtain⟨ry,al⟩:∃ry:Int,ry=((r*4294967296+y:Nat):Int):=⟨_,rfl⟩;rw [<- aj]at t|-;rw [<- al]at f|-;refine(C4 [(0,[]),(1,[]),(2,[]),(3,[]),(4,[]),(5,[]),(6,[]),(7,[]),(8,[]),(12,[]),(13,[]),(14,[]),(15,[]),(16,[]),(17,[]),(9,[]),(10,[]),(11,[]),(18,[]),(19,[]),(20,[]),(21,[]),(22,[])] Dm kr ?_);refine Ch 4 (by simp [w]<;>rfl) ?_;refine Ch 6 (by simp [g,b2,n2,c,i]<;>rfl) ?_;refine Ch 6 (by simp [g,b2,n2,e,j]<;>rfl) ?_;refine Ch 6 (by simp [wx,wy,f,t]<;>rfl) ?_;refine C5 [0,1,5,7,8,62] [] sr ?_;exact⟨rfl,O9 [0,1,5,7,8,62] [] rfl rfl rfl sy⟩
 refine Ao (fun h1=>Ae ?_) (fun h1=>?_)
 ·have ax:=n.1 h1;rw [if_pos h1]
  have ar:1<=d:=by
   rcases E9 d with h0|h0
   ·subst h0;simp at ax
   ·exact h0
  have am:=wd ar;refine Ap (Aa [0,1,5,7,8] [] (by simp [am]<;>rfl) (Aa [0,1,5,7,8] [] (by simp [u,b1,n1,c,ae,wa,a4]<;>rfl) ?_))
  by_cases ak:4294967296<=r+a
  ·obtain⟨q,aw⟩:∃q:Int,q=(((r+a)/4294967296:Nat):Int):=⟨_,rfl⟩;have aa:¬q=0:=om;rw [<- aw]at ab;rw [if_pos (s.2 ak)];refine Aa [0,1,5,7,8,75] [] (by simp [ab,aa]<;>rfl) ?_;refine A6 rfl (fun h2=>?_) (fun h2=>by cases h2);refine A9 ?_;exact Aa [4] [] sr (Ak (Ad sr rf))
  ·have hz:(((r+a)/4294967296:Nat):Int)=0:=om;rw [hz]at ab;rw [if_neg (fun h=>ak (s.1 h))];refine Aa [0,1,5,7,8,75] [] (by simp [ab]<;>rfl) ?_;refine A6 rfl (fun h2=>by cases h2) (fun h2=>Ae ?_)
   refine⟨(d-1,r+a,m,nx+40+3+9+3),⟨by simp only;omega,by simp only;omega,?_,rfl⟩,by simp only;omega,?_⟩
   ·simp only;rw [Ci]at hm;omega
   ·simp only [<- o];exact O9 [0,1,5,7,8] [] rfl rfl rfl sy
 ·rw [if_neg (by simp [h1])];refine A9 ?_;exact Aa [4] [] sr (Ak (Ad sr rf))
theorem Bbs(n u v:Nat)(hn:2<=n)(a2:n<=1099511627776)(hv:4294967296^n<=2*v)(t:v<4294967296^n)(hu:u<4294967296^(n+1)):
  AC prog 192 [.ro 1 (Au (Cj (n+1) u)),.ro 1 (Au (Cj n v))] (fun r=>r=.int .u64 (Bbr n u v:Nat)):=by
 obtain⟨k,rfl⟩:∃k,n=k+2:=⟨n-2,by omega⟩;have hP:=Nr k;have aa:=Y9 (k:=k+2+1) (v:=u) (i:=k) om;have ab:=Y9 (k:=k+2+1) (v:=u) (i:=k+1) om;have o:=Y9 (k:=k+2+1) (v:=u) (i:=k+2) om;have w:=Y9 (k:=k+2) (v:=v) (i:=k) om;have l:=Y9 (k:=k+2) (v:=v) (i:=k+1) om;have az:(Au (Cj (k+2+1) u)).length=k+3:=sm;have ay:(Au (Cj (k+2) v)).length=k+2:=sm;generalize Au (Cj (k+2+1) u)=uv,Au (Cj (k+2) v)=vv at*;rw [Bbr,show k+2-1=k+1 by omega,show k+2-2=k by omega];have e1:4294967296^(k+1)=4294967296^k*4294967296:=Cn ..;have e2:4294967296^(k+2)=4294967296^(k+1)*4294967296:=Cn ..;have e3:4294967296^(k+2+1)=4294967296^(k+2)*4294967296:=Cn ..;rw [e3]at hu;clear e3;generalize 4294967296^(k+2)=P2 at hv t hu o e2;generalize 4294967296^(k+1)=j at ab l e1 e2|-;generalize 4294967296^k=P0 at aa w e1 hP|-;have ae:0<j:=om;have al:0<P2:=om;have s:v/j<4294967296:=by rw [C6 ae,Bn,<- e2];exact t
 have am:2147483648<=v/j:=by
  rw [Hc ae];omega
 have e:u/j=u/P2*4294967296+u/j%4294967296:=by
  rw [e2,<- Cu u j];omega
 have ad:u/P2<4294967296:=by
  rw [C6 al,Bn];exact hu
 rw [Cm ad]at o;rw [Cm s]at l;have ar:u/j%4294967296<4294967296:=Df _ dc;have aj:v/P0%4294967296<4294967296:=Df _ dc;have ao:u/P0%4294967296<4294967296:=Df _ dc;clear e1 e2 hv t hu hP ae al;generalize v/j=a at l s am|-;generalize u/j%4294967296=tl at ab e ar;generalize u/P2=th at o e ad;generalize u/j=c at e|-;generalize v/P0%4294967296=x at w aj|-;generalize u/P0%4294967296=y at aa ao|-;have g:c<18446744073709551616:=om;obtain⟨i1,ak,aq⟩:∃x:Int,IntKind.i64.wrap (((k+2:Nat):Int)-1)=x/\x=((k+1:Nat):Int):=⟨_,rfl,by rw [Bb om (by omega)];omega⟩;obtain⟨i2,ag,ai⟩:∃x:Int,IntKind.i64.wrap (((k+2:Nat):Int)-2)=x/\x=(k:Int):=⟨_,rfl,by rw [Bb om (by omega)];omega⟩;have b1:0<=i1/\i1<((k+2:Nat):Int)/\i1<((k+3:Nat):Int):=om;have b2:0<=i2/\i2<((k+2:Nat):Int)/\i2<((k+3:Nat):Int):=om;have n1:i1.toNat=k+1:=om;have n2:i2.toNat=k:=om;obtain⟨N,hN⟩:∃N:Int,((k+2:Nat):Int)=N:=⟨_,rfl⟩;obtain⟨M,hM⟩:∃M:Int,((k+3:Nat):Int)=M:=⟨_,rfl⟩;have ah:((uv.length:Nat):Int)=M:=om;have an:((vv.length:Nat):Int)=N:=om;have b3:0<=N/\N<M:=om;have n3:N.toNat=k+2:=om;rw [hN]at ak ag b1 b2;rw [hM]at b1 b2;clear hN hM az ay aq ai;have f:∀z:Nat,z<18446744073709551616->IntKind.u64.wrap (z:Int)=z:=fun z h=>wrap_u64 h
 have wa:=f a om;have wx:=f x om;have wy:=f y om;have a1:=f th om;have ax:=f tl om;have af:=Ak6 (r:=th) (x:=tl) ad ar;rw [<- e]at af;have aw:a≠0:=om;have hq:=An7 c a;have hr:=An8 c a;have au:=f (c/a) (Fw (H6 _ _) g);have a0:c/a<18446744073709551616:=Fw (H6 _ _) g;have av:c%a<4294967296:=Tw (Df _ om) s;generalize c/a=d0,c%a=r0 at*;refine A14 (An2 a x y) (fun d r=>decide (4294967296<=d\/r*4294967296+y<d*x)) (fun z=>decide (4294967296<=z)) uv vv N M i1 i2 k a x y th tl c d0 r0 aa ab o w l s am aj ao ak ag b1 b2 n1 n2 ah an b3 n3 wa wx wy a1 ax af aw hq hr au a0 av (fun m d r=>?_) (fun d r=>by simp only [decide_eq_true_iff]) (fun z=>by simp only [decide_eq_true_iff]);simp only [decide_eq_true_iff,An2]
theorem A6x(d v off:Nat)(pre post:List V)(n U W g:Nat)(ho:pre.length=off)(hn:n<=1099511627776)(hU:U<4294967296^(n+1))(hW:W<4294967296^n)(hg:g<4294967296):
  ACS prog 193 [.ss d v 1 off (n+1),.ro 1 (Au (Cj n W)),.int .u64 g] [(d,⟨v,1,149,Md pre n U post 0 0⟩)] (fun r q=>r=.bool (decide (U<g*W))/\q= [(d,⟨v,1,149,Md pre n U post (n+1) (Ak7 n U (g*W))⟩)]) (fun _ =>False):=by
 have aq:=fun k(h:k<n)=>Y9 (v:=W) h
 have ae:(Au (Cj n W)).length=n:=sm;generalize Au (Cj n W)=wv at aq ae;refine Hk func193 (fun w0 N0 a3=>?_);refine Aa [0,1,2] [d] sr (Aa [0,1,2,7,8] [d] sr (Ab (Aa [0,1,2,7,8,14,15,16] [d] (by simp [ae]<;>rfl) (Ap ?_))))
 refine Dr (fun p:Nat × Nat × Nat × Nat × Nat=>⟨[(0,.ss d v 1 off (n+1)),(1,.ro 1 wv),(2,.int .u64 g),(7,.int .u64 p.2.2.1),(8,.int .u64 p.2.2.2.1),(14,.ro 1 wv),(15,.int .i64 n),(16,.int .i64 p.1)],[(d,⟨v,1,149,Md pre n U post p.1 p.2.1⟩)],p.2.2.2.2,67⟩)
  (fun p=>p.1<=n/\p.2.1<4294967296^p.1/\p.2.2.1<4294967296/\p.2.2.2.1<=1/\p.2.1+g*(W%4294967296^p.1)=U%4294967296^p.1+4294967296^p.1*(p.2.2.1+p.2.2.2.1)/\a3<=p.2.2.2.2) (fun p=>n-p.1) (0,0,0,0,_) ⟨by simp,by simp,by simp,by simp,by simp [Vr],by simp only;omega⟩ (AS.le_refl _) ?_
 rintro⟨k,x,c,b,nx⟩⟨hk,hx,hc,hb,hI,bb⟩;simp only at hk hx hc hb hI bb;refine Aa [0,1,2,7,8,14,15,16,17] [d] sr (Ab ?_);have e:=Aoa (pre:=pre) (post:=post) (U:=U) (x:=x) hk;have ai:=Afb (pre:=pre) (post:=post) (U:=U) (x:=x) (show k<=n+1 by omega);have ad:=fun z(hz:z<4294967296)=>Aob (pre:=pre) (post:=post) (U:=U) hk hx hz
 rw [ho]at e ad;have ah:U/4294967296^k%4294967296<4294967296:=Df _ dc
 refine Ao (fun h1=>Ae ?_) (fun h1=>?_)
 ·have am:k<n:=by simp at h1;omega
  have a1:=aq k am;have a2:W/4294967296^k%4294967296<4294967296:=Df _ dc;obtain⟨wk,aj⟩:∃y,y=W/4294967296^k%4294967296:=⟨_,rfl⟩;obtain⟨uk,l⟩:∃y,y=U/4294967296^k%4294967296:=⟨_,rfl⟩;rw [<- aj]at a1 a2;rw [<- l]at e ah
  have a8:g*wk+c<18446744073709551616:=by
   have:g*wk<=4294967295*4294967295:=Il om om;omega
  obtain⟨m1,a5,ak⟩:∃z:Int,IntKind.u64.wrap ((g:Int)*(wk:Int))=z/\z=((g*wk:Nat):Int):=⟨_,rfl,by rw [<- Fi];exact wrap_u64 om⟩;obtain⟨p,hp,al⟩:∃z:Int,IntKind.u64.wrap (m1+(c:Int))=z/\z=((g*wk+c:Nat):Int):=⟨_,rfl,by rw [ak,<- Dd];exact wrap_u64 om⟩;obtain⟨c',a4,ax⟩:∃z:Nat,p.fdiv (2^min 32 IntKind.u64.bits)=z/\z=(g*wk+c)/4294967296:=⟨_,by rw [al];exact Y8 _,rfl⟩;obtain⟨lo,a6,az⟩:∃z:Nat,IntKind.u32.wrap p=z/\z=(g*wk+c)%4294967296:=⟨_,by rw [al];exact wrap_u32 _,rfl⟩;have bc:c'<4294967296:=om;have bd:lo<4294967296:=om;have ab:IntKind.u64.wrap (uk:Int)=uk:=wrap_u64 om;have av:IntKind.u64.wrap (wk:Int)=wk:=wrap_u64 om;have aw:IntKind.u64.wrap (lo:Int)=lo:=wrap_u64 om;obtain⟨z,b',j,i,w,an,ag⟩:=A1m ah bd hb;obtain⟨t1,af⟩:∃t:Int,IntKind.u64.wrap ((uk:Int)-(lo:Int))=t:=⟨_,rfl⟩;rw [af]at j i;obtain⟨t2,s⟩:∃t:Int,IntKind.u64.wrap (t1-(b:Int))=t:=⟨_,rfl⟩;rw [s]at j i;have a:=ad z w;have ao:=A1n hx w;have f:=A04 (x:=x) (d:=g) (v:=W) (u:=U) (P:=4294967296^k) (c:=c) (b:=b) (y:=z) (b':=b') hI (by rw [<- aj,<- l,<- az];exact ag);rw [<- aj,<- ax]at f;rw [<- Cn]at f ao;obtain⟨x',a0⟩:∃x',x'=x+4294967296^k*z:=⟨_,rfl⟩;rw [<- a0]at a f ao;have au:=A7 (k:=k) om;obtain⟨k1,ar⟩:∃k1:Int,IntKind.i64.wrap ((k:Int)+1)=k1:=⟨_,rfl⟩;have a7:k1=((k+1:Nat):Int):=by rw [<- ar,au]
  have ba:(k:Int)<n:=om;have m:(k:Int)<(n:Int)+1:=om;clear aj l az ax a0 ak al hI ad aq a8;have aa:off+k<(Md pre n U post k x).length:=by rw [ai];omega
  generalize Md pre n U post k x=ro at e a aa|-;clear ai;refine Ab (Ap (Aa [0,1,2,7,8,9,10,14,15,16] [d] (by simp [a1,ae,ba]<;>rfl) (Aa [0,1,2,8,9,11,14,15,16] [d] (by simp [av,a5,hp]<;>rfl) (Aa [0,1,2,7,8,9,11,14,15,16] [d] (by simp [a4]<;>rfl) (Aa [0,1,2,7,9,12,14,15,16] [d] (by simp [m,e,ab,a6,aw,af,s]<;>rfl) (Aa [0,1,2,7,12,14,15,16] [d] (by simp [m,e,j,a]<;>rfl) (A2 [0,1,2,7,8,14,15,16] [d] (by simp [i]<;>rfl) (A2 [0,1,2,7,8,14,15,16] [d] (by simp [ar]<;>rfl) ?_))))))));refine⟨(k+1,x',c',b',_),⟨by simp only;omega,ao,bc,an,f,?_⟩,by simp only;omega,by simp only [a7];exact AS.le_refl _⟩;simp only;omega
 ·have am:k=n:=by simp at h1;omega
  subst am;obtain⟨uk,l⟩:∃y,y=U/4294967296^k%4294967296:=⟨_,rfl⟩;rw [<- l]at e ah;obtain⟨z,b',j,i,w,an,ag⟩:=A1m ah hc hb;have ab:IntKind.u64.wrap (uk:Int)=uk:=wrap_u64 om;obtain⟨t1,af⟩:∃t:Int,IntKind.u64.wrap ((uk:Int)-(c:Int))=t:=⟨_,rfl⟩;rw [af]at j i;obtain⟨t2,s⟩:∃t:Int,IntKind.u64.wrap (t1-(b:Int))=t:=⟨_,rfl⟩;rw [s]at j i;have a:=ad z w;obtain⟨E1,E2⟩:=A1o (z:=z) (b':=b') hU hW hx hI (by rw [<- l];exact ag) w an;rw [E1]at a
  have ay:(!decide ((b':Int)=0))=decide (U<g*W):=by
   rw [Mv];simp only [Hz,decide_eq_false_iff_not,decide_eq_true_iff];omega
  obtain⟨bz,a9⟩:∃bz:Int,(b':Int)=bz:=⟨_,rfl⟩;rw [a9]at i ay;rw [<- ay];generalize Md pre k U post (k+1) (Ak7 k U (g*W))=fin at a|-;have aa:off+k<(Md pre k U post k x).length:=by rw [ai];omega
  generalize Md pre k U post k x=ro at e a aa|-;clear ai ad E1 hI l ag;have m:(k:Int)<(k:Int)+1:=om;refine A9 ?_;refine Aa [0,1,13] [d] (by simp [ae,m,e,ab,af,s]<;>rfl) (Aa [13] [d] (by simp [ae,m,e,j,a]<;>rfl) (Aa [6] [d] (by simp [i]<;>rfl) ?_))
  refine Ak (Beg sy ?_ (fun k o hk=>Dt ?_ hk))
  ·simp [results193]
  ·simp
theorem A6y(d v off:Nat)(pre post:List V)(n U W:Nat)(ho:pre.length=off)(hn:n<=1099511627776)(hU:U<4294967296^(n+1))(hW:W<4294967296^n):
  ACS prog 194 [.ss d v 1 off (n+1),.ro 1 (Au (Cj n W))] [(d,⟨v,1,149,Md pre n U post 0 0⟩)] (fun r q=>r=.tup []/\q= [(d,⟨v,1,149,Md pre n U post (n+1) ((U+W)%4294967296^(n+1))⟩)]) (fun _ =>False):=by
 have ag:=fun k(h:k<n)=>Y9 (v:=W) h
 have aa:(Au (Cj n W)).length=n:=sm;generalize Au (Cj n W)=wv at ag aa;refine Hk func194 (fun w0 N0 au=>?_);refine Aa [0,1,4] [d] sr (Ab (Aa [0,1,4,8,9,10] [d] (by simp [aa]<;>rfl) (Ap ?_)))
 refine Dr (fun p:Nat × Nat × Nat × Nat=>⟨[(0,.ss d v 1 off (n+1)),(1,.ro 1 wv),(4,.int .u64 p.2.2.1),(8,.ro 1 wv),(9,.int .i64 n),(10,.int .i64 p.1)],[(d,⟨v,1,149,Md pre n U post p.1 p.2.1⟩)],p.2.2.2,42⟩)
  (fun p=>p.1<=n/\p.2.1<4294967296^p.1/\p.2.2.1<=1/\p.2.1+4294967296^p.1*p.2.2.1=U%4294967296^p.1+W%4294967296^p.1/\au<=p.2.2.2) (fun p=>n-p.1) (0,0,0,_) ⟨by simp,by simp,by simp,by simp [Vr],by simp only;omega⟩ (AS.le_refl _) ?_
 rintro⟨k,x,c,nx⟩⟨hk,hx,hc,hI,a0⟩;simp only at hk hx hc hI a0;refine Aa [0,1,4,8,9,10,11] [d] sr (Ab ?_);have e:=Aoa (pre:=pre) (post:=post) (U:=U) (x:=x) hk;have w:=Afb (pre:=pre) (post:=post) (U:=U) (x:=x) (show k<=n+1 by omega);have j:=fun z(hz:z<4294967296)=>Aob (pre:=pre) (post:=post) (U:=U) hk hx hz
 rw [ho]at e j;have ak:U/4294967296^k%4294967296<4294967296:=Df _ dc
 refine Ao (fun h1=>Ae ?_) (fun h1=>?_)
 ·have ae:k<n:=by simp at h1;omega
  have aq:=ag k ae;have ar:W/4294967296^k%4294967296<4294967296:=Df _ dc;obtain⟨wk,ah⟩:∃y,y=W/4294967296^k%4294967296:=⟨_,rfl⟩;obtain⟨l,f⟩:∃y,y=U/4294967296^k%4294967296:=⟨_,rfl⟩;rw [<- ah]at aq ar;rw [<- f]at e ak;obtain⟨m1,aw,ab⟩:∃z:Int,IntKind.u64.wrap ((l:Int)+(wk:Int))=z/\z=((l+wk:Nat):Int):=⟨_,rfl,by rw [<- Dd];exact wrap_u64 om⟩;obtain⟨p,hp,ad⟩:∃z:Int,IntKind.u64.wrap (m1+(c:Int))=z/\z=((l+wk+c:Nat):Int):=⟨_,rfl,by rw [ab,<- Dd];exact wrap_u64 om⟩;obtain⟨c',av,ay⟩:∃z:Nat,p.fdiv (2^min 32 IntKind.u64.bits)=z/\z=(l+wk+c)/4294967296:=⟨_,by rw [ad];exact Y8 _,rfl⟩;obtain⟨z,hz,t⟩:∃z:Nat,IntKind.u32.wrap p=z/\z=(l+wk+c)%4294967296:=⟨_,by rw [ad];exact wrap_u32 _,rfl⟩;have a1:c'<=1:=om;have s:z<4294967296:=om;have am:IntKind.u64.wrap (l:Int)=l:=wrap_u64 om;have al:IntKind.u64.wrap (wk:Int)=wk:=wrap_u64 om;have a:=j z s;have af:=A1n hx s;have g:=A05 (x:=x) (v:=W) (u:=U) (P:=4294967296^k) (c:=c) (y:=z) (c':=c') hI (by rw [<- ah,<- f];omega);rw [<- Cn]at g af;obtain⟨x',ao⟩:∃x',x'=x+4294967296^k*z:=⟨_,rfl⟩;rw [<- ao]at a g af;have aj:=A7 (k:=k) om;obtain⟨k1,ai⟩:∃k1:Int,IntKind.i64.wrap ((k:Int)+1)=k1:=⟨_,rfl⟩;have ax:k1=((k+1:Nat):Int):=by rw [<- ai,aj]
  have az:(k:Int)<n:=om;have m:(k:Int)<(n:Int)+1:=om;clear ah f t ay ao ab ad hI j ag;have i:off+k<(Md pre n U post k x).length:=by rw [w];omega
  generalize Md pre n U post k x=ro at e a i|-;clear w;refine Ab (Ap (Aa [0,1,4,5,6,8,9,10] [d] (by simp [aq,aa,az]<;>rfl) (Aa [0,1,5,7,8,9,10] [d] (by simp [m,e,am,al,aw,hp]<;>rfl) (Aa [0,1,7,8,9,10] [d] (by simp [m,e,hz,a]<;>rfl) (A2 [0,1,4,8,9,10] [d] (by simp [av]<;>rfl) (A2 [0,1,4,8,9,10] [d] (by simp [ai]<;>rfl) ?_))))));refine⟨(k+1,x',c',_),⟨by simp only;omega,af,a1,g,?_⟩,by simp only;omega,by simp only [ax];exact AS.le_refl _⟩;simp only;omega
 ·have ae:k=n:=by simp at h1;omega
  subst ae;obtain⟨l,f⟩:∃y,y=U/4294967296^k%4294967296:=⟨_,rfl⟩;rw [<- f]at e ak;obtain⟨z,hz,t⟩:∃z:Nat,IntKind.u32.wrap ((l:Int)+(c:Int))=z/\z=(l+c)%4294967296:=⟨_,by rw [<- Dd];exact wrap_u32 _,rfl⟩;have s:z<4294967296:=om;have an:IntKind.u32.wrap (c:Int)=c:=by rw [wrap_u32];omega
  have a:=j z s;have E1:=A1p (z:=z) hU hW hx hI (by rw [<- f];exact t);rw [E1]at a;generalize Md pre k U post (k+1) _ =fin at a|-;have i:off+k<(Md pre k U post k x).length:=by rw [w];omega
  generalize Md pre k U post k x=ro at e a i|-;clear w j E1 hI f t;have m:(k:Int)<(k:Int)+1:=om;refine A9 ?_;refine A2 [] [d] (by simp [aa,m,e,an,hz,a]<;>rfl) ?_;exact⟨by simp only;omega,.tup [],[(d,⟨v,1,149,fin⟩)],by simp [results194],fun k o hk=>Dt gt hk,rfl,rfl⟩
theorem Bbt(n A s:Nat)(d:n<=1099511627776)(hs:s<32)(c:A<4294967296^n):AC prog 191 [.ro 1 (Au (Cj n A)),.int .i64 s] (fun r=>r=.ro 1 (Au (Cj (n+1) (A*2^s)))):=by
 refine(Aus n A s d hs c).ac (fun F es⟨hF,he⟩=>⟨_,?_,rfl⟩);subst hF;subst he;have hp:=Ah (Cj (n+1) (A*2^s));have a:(Au (Cj (n+1) (A*2^s))).length=n+1:=sm;generalize Au (Cj (n+1) (A*2^s))=r at hp a|-;simp [AS.viewT,AS.view,AS.elems,AS.viewC,hp,a,Eng.get]
theorem Ar5(m n A W:Nat)(hn:2<=n)(hm:m<=1099511627776)(cu:n<=m)(hA:A<4294967296^m)(ag:4294967296^(n-1)<=W)(hW:W<4294967296^n):
  AC prog 150 [.ro 1 (Au (Cj m A)),.ro 1 (Au (Cj n W))] (fun r=>r=.tup [.ro 1 (Au (B1 (A/W))),.ro 1 (Au (B1 (A%W)))]):=by
 obtain⟨k,rfl⟩:∃k,n=k+1:=⟨n-1,by omega⟩;rw [Nat.add_sub_cancel]at ag;have aj:(Au (Cj m A)).length=m:=sm;have bh:(Au (Cj (k+1) W)).length=k+1:=sm;have af:=Y9 (k:=k+1) (v:=W) (i:=k) om;have a7:=Nr k
 have a4:W/4294967296^k<4294967296:=by
  rw [C6 a7,Bn,<- Cn];exact hW
 rw [Cm a4]at af;have ay:W/4294967296^k≠0:=by have:=Nat.div_pos ag a7;omega
 obtain⟨t,ht⟩:∃t,t=W/4294967296^k:=⟨_,rfl⟩;rw [<- ht]at af a4 ay;have c:=Axd t a4;have b9:=Qg ay;have b2:=Abi t;obtain⟨s,hs⟩:∃s,s=32-bitLen t:=⟨_,rfl⟩
 have cv:1<=bitLen t/\bitLen t<=32:=by
  constructor
  ·rw [bitLen,if_neg ay];omega
  ·rcases Dn 32 (bitLen t)with h|h
   ·have:2^32<=2^(bitLen t-1):=El dc om;omega
   ·exact h
 rw [<- hs]at c;have y:s<32:=om
 have be:2147483648<=t*2^s:=by
  have h1:2^(bitLen t-1)*2^s=2147483648:=by rw [<- Gt,show bitLen t-1+s=31 by omega]
  rw [<- h1];exact B7 _ b9
 have bt:t*2^s<4294967296:=by
  have h1:2^bitLen t*2^s=4294967296:=by rw [<- Gt,show bitLen t+s=32 by omega]
  rw [<- h1];exact Gg b2 (Fs dc)
 obtain⟨aq,a⟩:=A07 (n:=k) ht be bt om;have aa:=Bbt (k+1) W s om y hW;have ai:=Aus m A s hm y hA;have a2:0<2^s:=Fs dc
 have cx:2^s<=2147483648:=by
  have:2^s<=2^31:=El dc om;exact this
 have ao:0<W:=Cc a7 ag;obtain⟨V,hV⟩:∃V,V=W*2^s:=⟨_,rfl⟩;obtain⟨R0,a6⟩:∃R0,R0=A*2^s:=⟨_,rfl⟩;rw [<- hV]at aq a aa;rw [<- a6]at ai;have a8:0<V:=by rw [hV];exact Nat.mul_pos ao a2
 have cf:R0<V*4294967296^(m-k):=by
  have e:4294967296^m=4294967296^k*4294967296^(m-k):=by rw [<- Gt,show k+(m-k)=m by omega]
  rw [a6,hV];have h1:A*2^s<4294967296^k*4294967296^(m-k)*2^s:=by rw [<- e];exact Gg hA a2
  have h2:4294967296^k*4294967296^(m-k)*2^s<=W*4294967296^(m-k)*2^s:=B7 _ (B7 _ ag);rw [Nat.mul_right_comm W]at h2;exact Cc h1 h2
 have f:(Au (Cj (k+1+1) V)).take (k+1)=Au (Cj (k+1) V):=Auo om;have bj:(Au (Cj (k+1+1) V)).length=k+2:=sm;have aw:=Ah (Cj m A);have ar:=Ah (Cj (k+1) W);have b3:=Ah (Cj (k+1) V);generalize Au (Cj (k+1) W)=bv at bh af aa ar;generalize Au (Cj m A)=av at aj ai aw;generalize ck:Au (Cj (k+1+1) V)=b4 at aa f bj;obtain⟨i1,a1,bs⟩:∃x:Int,IntKind.i64.wrap (((k+1:Nat):Int)-1)=x/\x=(k:Int):=⟨_,rfl,by rw [Bb om (by omega)];omega⟩;obtain⟨N,hN⟩:∃N:Int,N=((k+1:Nat):Int):=⟨_,rfl⟩;rw [<- hN]at a1;have l:((bv.length:Nat):Int)=N:=om;have b1:0<=i1/\i1<N:=om;have n1:i1.toNat=k:=om;have bf:N.toNat=k+1:=om;have ba:0<=N/\N<=((b4.length:Nat):Int):=om;obtain⟨q0,br,cm⟩:∃x:Int,IntKind.i64.wrap ((m:Int)-N)=x/\x=((m-(k+1):Nat):Int):=⟨_,rfl,by rw [Bb om (by omega)];omega⟩;obtain⟨q1,cl,cp⟩:∃x:Int,IntKind.i64.wrap (q0+1)=x/\x=((m-k:Nat):Int):=⟨_,rfl,by rw [Bb om (by omega)];omega⟩;have ci:4*q1<=281474976710656:=om;have bx:q1<=9223372036854775807:=om;have b8:0<=q1:=om;have b7:q1.toNat=m-k:=om;refine Ay func150 (fun w0 N0=>?_);refine Aa [0,1] [] sr (Ab (Ac (Am 6 (by simp [l,a1,b1,n1,af]<;>rfl) ?_)));refine Ai c func190 ?_;refine Ag [0,1,6] [] sr ?_;refine Ab (Ac (Am 2 sr ?_));refine Ai aa func191 ?_ (hp:=by simp);refine Ag [0,1,6,7] [] (by simp [l,ba,bf,f]<;>rfl) ?_;refine Ab (Ac (Am 2 sr ?_));refine My 28 ai func191 rfl kr rfl rfl rfl sr (by simp [AS.views,AS.view,AS.viewC]<;>rfl) sr ?_;refine Ag [0,1,6,7,8] [28] sr ?_;refine Aa [0,6,7,8,9] [28] (by simp [l]<;>rfl) (Aa [0,6,7,8,9,10] [28,36] (by simp [aj,br,cl,ci,bx,b8]<;>rfl) (Ab (Aa [6,7,8,9,10,11] [28,36] (by simp [aj,br]<;>rfl) ?_)));rw [b7];refine Ap ?_;clear af aa ai c bj f ba a1 bs b1 n1 aw ar aj bh l
 refine Dr (fun p:Nat × Nat × Nat × Nat=>⟨[(6,.int .i64 s),(7,.ro 1 (Au (Cj (k+1) V))),(8,.sl 28 19 1 (m+1)),(9,.int .i64 N),(10,.sl 36 29 1 (m-k)),(11,.int .i64 ((p.1:Int)-1))],[(28,⟨19,1,149,Au (Cj (m+1) p.2.2.1)⟩),(36,⟨29,1,149,Zd (m-k) p.1 p.2.1⟩)],p.2.2.2,88⟩)
  (fun p=>p.1<=m-k/\p.2.2.1<V*4294967296^p.1/\A*2^s=p.2.1*4294967296^p.1*V+p.2.2.1) (fun p=>p.1) (m-k,0,R0,_) ⟨A8 _,cf,by simp only [P9,Ds];exact a6.symm⟩ (by
   have e:q0=((m-k:Nat):Int)-1:=om;simp only [<- e,A1r];exact AS.le_refl _) ?_
 rintro⟨i,Q,R,nx⟩⟨hi,hR,hI⟩;simp only at hi hR hI;refine Ab ?_;cases i with
 |zero=>
  rw [Tx,Gn]at hR hI;rw [hV]at hI hR;obtain⟨E1,E2⟩:=A6g a2 ao hI hR;have hq:=In (Cj (m-k) Q) (Oq _ _)
  have bw:Q<4294967296^(m-k):=by
   rw [E1,C6 ao];have e:4294967296^m=4294967296^(m-k)*4294967296^k:=by rw [<- Gt,show m-k+k=m by omega]
   rw [e]at hA;exact Cc hA (Eh _ ag)
  rw [show Bg (Cj (m-k) Q)=A/W by rw [Sf,Cm bw,E1]]at hq;have ah:R<4294967296^(k+1):=by rw [<- hV]at hR;exact Tw hR a
  have b6:=Bbq (k+1) R s om y ah;have bd:=In (Cj (k+1) (R/2^s)) (Oq _ _);rw [show Bg (Cj (k+1) (R/2^s))=A%W by rw [Sf,Cm (Fw (H6 _ _) ah),E2]]at bd;have bc:=Auo (m:=m) (n:=k+1) (R:=R) om;have ae:(Au (Cj (m+1) R)).length=m+1:=sm;have bo:=Ah (Cj (m+1) R);have a3:=Ah (Cj (m-k) Q);have an:(Au (Cj (m-k) Q)).length=m-k:=sm;have cd:=Ah (Cj (k+1) R);have ca:=Ah (Cj (k+1) (R/2^s));have b5:0<=N/\N<=(m:Int)+1:=om;simp only [Axa];refine Aa [6,7,8,9,10,11,42] [28,36] sr ?_;refine A6 rfl (fun h1=>by simp at h1) (fun h1=>?_);refine A9 ?_;generalize Au (Cj (m-k) Q)=qv at hq a3 an|-
  have bp:(Au (Cj (m+1) R)).map (Go.Eng.V.frz 36 29 1 qv)=Au (Cj (m+1) R):=by
   simp only [Au,Qa];rfl
  generalize Au (Cj (m+1) R)=rv at ae bo bc bp|-;refine Bt 36 [6,8,9,10] [28] (by simp [a3,an,Eng.get]<;>rfl) ?_;rw [bp];refine Bt 28 [6,8,9,10] [] (by simp [bo,ae,Eng.get]<;>rfl) (Ab (C4 [(0,[]),(1,[]),(2,[]),(3,[]),(4,[]),(5,[]),(6,[]),(7,[]),(8,[]),(9,[])] Dm kr ?_));refine Ch 1 sr ?_;refine Bw (fun hg=>hq) func148 rfl kr rfl rfl sr rfl rfl sr (by simp) sr ?_;refine Ch 4 (by simp [b5,bf,ae,bc]<;>rfl) ?_;refine Bw (fun hg=>b6) func195 rfl kr rfl rfl sr rfl rfl sr (by simp) sr ?_;refine Bw (fun hg=>bd) func148 rfl kr rfl rfl sr rfl rfl sr (by simp) sr ?_;refine C5 [4,5] [] sr ?_;exact Ak (Ad sr rfl)
 |succ j=>
  have hP:=Nr j;rw [Cn]at hR hI;obtain⟨u,hu⟩:∃u,u=R/4294967296^j:=⟨_,rfl⟩;obtain⟨q,hq⟩:∃q,q=u/V:=⟨_,rfl⟩;obtain⟨D1,D2,D3,D4,D5⟩:=A08 hP a8 hR hu hq;obtain⟨w,hw⟩:∃w,w=u-q*V:=⟨_,rfl⟩;rw [<- hw]at D4 D5;obtain⟨R',bu⟩:∃R',R'=w*4294967296^j+R%4294967296^j:=⟨_,rfl⟩;rw [<- bu]at D4 D5;have cb:=A6m hI D4
  have a0:u<4294967296^(k+1+1):=by
   have:V*4294967296<=4294967296^(k+1)*4294967296:=B7 _ (Ie a);rw [<- Cn]at this;exact Cc D1 this
  have bl:j+(k+1)<=m:=om;have z:=Bbn (m:=m) (n:=k+1) (j:=j) (R:=R) bl
  have ah:R<4294967296^(j+(k+1+1)):=by
   have h1:V*(4294967296^j*4294967296)<=4294967296^(k+1)*(4294967296^j*4294967296):=B7 _ (Ie a);have h2:4294967296^(k+1)*(4294967296^j*4294967296)=4294967296^(j+(k+1+1)):=by rw [<- Cn,<- Gt];congr 1;omega
   rw [h2]at h1;exact Cc hR h1
  have cg:w<4294967296^(k+1+1):=Fw (by rw [hw];exact Yk _ _) a0;have g:=fun U=>A6j (m:=m) (n:=k+1) (j:=j) (R:=R) (U:=U) bl cg ah
  rw [<- bu]at g;rw [<- hu]at z;obtain⟨d,hd⟩:∃d,d=Bbr (k+1) u V:=⟨_,rfl⟩;have al:=Bbs (k+1) u V hn om aq a a0;rw [<- hd]at al;obtain⟨F1,F2⟩:=Ars (n:=k+1) hn aq a D1 d hd;have ax:(Au (Cj j R)).length=j:=sm;have ad:=Aw9 (pre:=Au (Cj j R)) (post:=Zc m (k+1) j R) (n:=k+1) (U:=u);have ae:=Afb (pre:=Au (Cj j R)) (post:=Zc m (k+1) j R) (n:=k+1) (U:=u) (x:=0) (show 0<=k+1+1 by omega);have am:(Au (Cj (m+1) R)).length=m+1:=sm;rw [z]at am;rw [ax]at ad ae;have bn:=A6x 28 19 j (Au (Cj j R)) (Zc m (k+1) j R) (k+1) u V d ax om a0 a F1;have bm:=fun U hU=>A6y 28 19 j (Au (Cj j R)) (Zc m (k+1) j R) (k+1) U V ax om hU a
  have ak:=fun U x=>Arx (pre:=Au (Cj j R)) (post:=Zc m (k+1) j R) (n:=k+1) (U:=U) (w:=x)
  have bz:=Ah (Cj (k+1+1) u);simp only [];rw [z];have e1:((j+1:Nat):Int)-1=(j:Int):=om;rw [e1];obtain⟨j1,au,cn⟩:∃x:Int,IntKind.i64.wrap ((j:Int)+N)=x/\x=((j+(k+1):Nat):Int):=⟨_,rfl,by rw [Bb om (by omega)];omega⟩;obtain⟨j2,az,cr⟩:∃x:Int,IntKind.i64.wrap (j1+1)=x/\x=((j+(k+1)+1:Nat):Int):=⟨_,rfl,by rw [Bb om (by omega)];omega⟩;have c1:(j:Int)<=j2/\j2<=(m:Int)+1:=om;have c2:j2.toNat-j=k+1+1:=om;have c3:j+(k+1+1)<=m+1:=om;refine Aa [6,7,8,9,10,11,42] [28,36] sr ?_;refine A6 rfl (fun h1=>Ae ?_) (fun h1=>by simp at h1);refine Ab (Ap (Ab (Ac (Am 8 (by simp [au,az,c1,c2]<;>rfl) ?_))));refine Aer al func192 rfl kr rfl rfl rfl sr (by simp [AS.views,AS.view,AS.elems,Eng.get,am,c3,ad,bz]) rfl sr ?_;refine Ag [6,7,8,9,10,11,12] [28,36] sr ?_;have cj:∀x:Nat,x<4294967296->IntKind.u32.wrap (x:Int)=x:=fun x h=>by rw [wrap_u32];omega
  have bg:=cj q D2;have cz:V=V:=rfl
  refine Y2 (fun p:Nat=>⟨[(6,.int .i64 s),(7,.ro 1 (Au (Cj (k+1) V))),(8,.sl 28 19 1 (m+1)),(9,.int .i64 N),(10,.sl 36 29 1 (m-k)),(11,.int .i64 j),(12,.int .u64 q)],[(28,⟨19,1,149,Au (Cj (m+1) R')⟩),(36,⟨29,1,149,Zd (m-k) (j+1) Q⟩)],p,88⟩) (fun p=>True) ?_ ?_
  ·refine Ab (Ac (Am 9 (by simp [au,az,c1,c2]<;>rfl) ?_));refine Et bn func193 rfl kr rfl rfl rfl sr (fun k o hk=>Dt gt hk) ?_ (fun ch a5=>a5.elim);rintro r bk ct⟨rfl,rfl⟩cq;refine⟨fun k hk=>Mt hk,_,by simp<;>rfl,?_⟩;refine Ag [6,7,8,9,10,11,12,63] [28,36] sr ?_
   rcases F2 with F2|F2
   ·obtain⟨G1,G2⟩:=A6k (n:=k+1) (w:=w) a8 F2 (by rw [hw,hq]);rw [G2,g];refine A6 rfl (fun h2=>by simp at h2;exact absurd h2 G1) (fun h2=>Ae ?_);have a9:d=q:=by rw [F2,hq]
    rw [a9];exact⟨_,trivial,O9 [6,7,8,9,10,11,12] [28,36] rfl rfl rfl (A8 _)⟩
   ·obtain⟨G1,G2,G3,G4⟩:=A6l (n:=k+1) (w:=w) a8 a F2 (by rw [hw,hq]);have ab:=bm _ G2;rw [G3,g]at ab;rw [ak];have a9:d=q+1:=by rw [F2,hq]
    have wd:IntKind.u64.wrap ((d:Int)-1)=(q:Int):=by rw [show(d:Int)-1=(q:Int)by omega];exact wrap_u64 om
    refine A6 rfl (fun h2=>?_) (fun h2=>by simp at h2;omega);refine Aa [6,7,8,9,10,11,12] [28,36] (by simp [wd]<;>rfl) (Ac (Am 8 (by simp [au,az,c1,c2]<;>rfl) ?_));refine Et ab func194 rfl kr rfl rfl rfl sr (fun k o hk=>Dt gt hk) ?_ (fun ch a5=>a5.elim);rintro r bk cy⟨rfl,rfl⟩co;refine⟨fun k hk=>Mt hk,_,by simp<;>rfl,?_⟩;refine Ag [6,7,8,9,10,11,12] [28,36] sr ?_;exact⟨_,trivial,AS.le_refl _⟩
  rintro cw -;have bi:A*2^s=(Q*4294967296+q)*4294967296^j*V+R':=cb;obtain⟨Q',ce⟩:∃Q',Q'=Q*4294967296+q:=⟨_,rfl⟩;have bq:=A1t (M:=m-k) (i:=j) (Q:=Q) hi D2;have b0:=A1s (M:=m-k) (i:=j) (Q:=Q);have cc:=A1q (M:=m-k) (i:=j+1) (Q:=Q) hi;rw [<- ce]at bq bi;have C9:IntKind.i64.wrap ((j:Int)-1)=(j:Int)-1:=Bb om om;have c0:(j:Int)<((m-k:Nat):Int):=om;have bb:j<m-k:=om;refine A2 [6,7,8,9,10,11] [28,36] (by simp [bb,b0,bg,bq]<;>rfl) (A2 [6,7,8,9,10,11] [28,36] (by simp [C9]<;>rfl) ?_);exact⟨(j,Q',R',_),⟨by simp only;omega,by rw [Bn V]at*;simpa [Bn]using D5,bi⟩,by simp,AS.le_refl _⟩
def Uw(n:Nat):V:=.ro 1 (Au (B1 n))
def Alb(a b:Nat):V:=if b=0 then .tup [.ro 1 [],.ro 1 [],.bool false]else .tup [Uw (a/b),Uw (a%b),.bool true]
theorem A15{b:Nat}(h:(B1 b).length=1):B1 b= [b]/\b<4294967296/\b≠0:=by
 have h1:=Kq b;have h2:=V8 0 b h;rw [h]at h1;simp only [Nat.pow_one,Tx]at h1 h2;have a:b≠0:=om;refine⟨?_,h1,a⟩;rw [Ll a,Cm h1,Gz h1,Ei]
theorem Sj(i l2:List Nat)(h1:Ed i)(h2:Ed l2)(af:i.length<=1099511627776):AC prog 104 [.ro 1 (Au i),.ro 1 (Au l2)] (fun r=>r=Alb (Bg i) (Bg l2)):=by
 refine AC.relaxP ?_;have ad:=In i h1;have x:=In l2 h2;have g:=Aj (P3 i h1) af;have y:=Ah i;have s:=Ah l2;obtain⟨a,ha⟩:∃a,a=Bg i:=⟨_,rfl⟩;obtain⟨b,hb⟩:∃b,b=Bg l2:=⟨_,rfl⟩;rw [<- ha]at ad g|-;rw [<- hb]at x|-;clear ha hb;have k:=Afi _ _ (Cr a) (Cr b);rw [C2,C2]at k;have n:=Zf (B1 a) (Cr a) g;rw [C2]at n;have f:=Ah (B1 a);have l:=Ah (B1 b);have m:(Au (B1 b)).length=(B1 b).length:=sm;refine Ay func104 (fun w0 N0=>?_);refine Aa [0,1] [] sr (Ab (Ac (Am 1 sr ?_)));refine Ai ad func148 ?_ (hp:=by simp);refine Am 1 sr ?_;refine Ai x func148 ?_ (hp:=by simp);obtain⟨bv,c⟩:∃bv,bv=Au (B1 b):=⟨_,rfl⟩;obtain⟨av,e⟩:∃av,av=Au (B1 a):=⟨_,rfl⟩;rw [<- e,<- c]at k;rw [<- e]at n f;rw [<- c]at l m;rw [<- e,<- c];refine Ag [0,1] [] sr ?_;refine Ab (Aa [0,1,17] [] (by simp [m]<;>rfl) ?_)
 refine Ao (fun h3=>?_) (fun h3=>Ae ?_)
 ·have j:b=0:=by
   have:(B1 b).length=0:=by simp at h3;simp [h3]
   exact Uq.1 (Ar.1 this)
  refine Aa [4,5,6] [] sr ?_;refine Ak (Ad sr ?_);rw [Alb,if_pos j];exact Bl.tup (.cons (nils_ro 1) (.cons (nils_ro 1) (.cons (Bl.refl _) .nil)))
 have u:(B1 b).length≠0:=by intro h;rw [Ar]at h;simp [h]at h3
 have j:b≠0:=by rintro rfl;rw [Ei]at u;simp at u
 have ab:Alb a b=.tup [Uw (a/b),Uw (a%b),.bool true]:=by rw [Alb,if_neg j]
 rw [ab];refine Ab (Ab (Ac (Am 2 sr ?_)));refine Ai k func128 ?_ (hp:=by simp);refine Ag [0,1,21] [] sr ?_
 refine Ao (fun h4=>?_) (fun h4=>Ae ?_)
 ·have z:a<b:=by simpa [Zg]using h4
  refine Ab (Ac (Am 1 sr ?_));refine Ai n func147 ?_ (hp:=by simp);refine Ag [4,5,6] [] sr ?_;refine Ak (Ad sr ?_);rw [Gz z,Cm z,Uw,Uw,Ei,<- e];exact Bl.tup (.cons (nils_ro 1) (.cons (Bl.refl _) (.cons (Bl.refl _) .nil)))
 have ai:b<=a:=by simpa [Zg]using h4
 refine Ab (Aa [0,1,26] [] (by simp [m]<;>rfl) ?_)
 refine Ao (fun h5=>?_) (fun h5=>Ae ?_)
 ·have ae:(B1 b).length=1:=by simp at h5;omega
  obtain⟨ah,ak,_⟩:=A15 ae;have d:=Ar4 (B1 a).length a b (Kq a) om ak g;rw [<- Qd,<- e]at d;rw [ah]at c;have al:Hs bv 0=some (.int .u32 b):=by rw [c];rfl
  have o:bv.length=1:=by rw [c];rfl
  have t:a%b<18446744073709551616:=by have:=Df a (show 0<b by omega);omega
  have aa:=Afh (a%b) t;have hw:IntKind.u64.wrap ((a%b:Nat):Int)=((a%b:Nat):Int):=wrap_u64 t;show AW _ _ _ _ _ _
  have am:=Ah (B1 (a/b));obtain⟨md,ag⟩:∃md:Int,md=((a%b:Nat):Int):=⟨_,rfl⟩;rw [<- ag]at d aa hw;refine Ab (Ac (Am 4 (by simp [al,o]<;>rfl) ?_));refine Ai d func149 ?_ (hp:=by simp);refine Ag [7,8] [] sr ?_;refine Ab (Ac (Am 3 (by simp [hw]<;>rfl) ?_));refine Ai aa func129 ?_;refine Ag [4,5,6] [] sr ?_;refine Ak (Ad sr ?_);exact Bl.refl _
 have aj:2<=(B1 b).length:=by
  have:(B1 b).length≠1:=by intro h;simp [h]at h5
  omega
 have w:(B1 b).length<=(B1 a).length:=E0 (Fw ai (Kq _));have d:=Ar5 (B1 a).length (B1 b).length a b aj g w (Kq a) (V8 _ _ om) (Kq b);rw [<- Qd,<- Qd,<- e,<- c]at d;refine Ab (Ac (Am 2 sr ?_));refine Ai d func150 ?_ (hp:=by simp);refine Ag [9,10] [] sr ?_;refine Aa [4,5,6] [] sr ?_;refine Ak (Ad sr ?_);exact Bl.refl _
theorem Abj{a b:Nat}(h:a<=b):(B1 a).length<=(B1 b).length:=E0 (Fw h (Kq b))
theorem Axf(n:Nat):(Uw n).pureV=true:=by simpa [Uw]using Ah (B1 n)
theorem A16(d l2:List Nat)(h1:Ed d)(h2:Ed l2)(j:d.length<=1099511627776)(g:l2.length<=1099511627776):AC prog 103 [.ro 1 (Au d),.ro 1 (Au l2)] (fun r=>r=Uw (Nat.gcd (Bg d) (Bg l2))):=by
 have t:=Zf d h1 j;have k:=Zf l2 h2 g;have s:=Aj (P3 d h1) j;have m:=Aj (P3 l2 h2) g;have n:=Ah d;have h:=Ah l2;generalize Bg d=a at t s|-;generalize Bg l2=b at k m|-;refine Ay func103 (fun w0 N0=>?_);refine Aa [0,1] [] sr (Ab (Ac (Am 1 sr ?_)));refine Ai t func147 ?_ (hp:=by simp);refine Am 1 sr ?_;refine Ai k func147 ?_ (hp:=by simp);refine Ag [0,1] [] sr ?_;refine Ab (Ap (Dr (fun p:Nat × Nat × Nat=>⟨[(0,.ro 1 (Au (B1 p.1))),(1,.ro 1 (Au (B1 p.2.1)))],[],p.2.2,25⟩) (fun p=>(B1 p.1).length<=1099511627776/\(B1 p.2.1).length<=1099511627776/\Nat.gcd p.1 p.2.1=Nat.gcd a b) (fun p=>p.2.1) (a,b,_) ⟨s,m,rfl⟩ (AS.le_refl _) ?_));rintro⟨x,y,nx⟩⟨hx,w,u⟩;simp only at hx w u;have c:=Sj (B1 x) (B1 y) (Cr x) (Cr y) hx;rw [C2,C2]at c;have l:=Ah (B1 x);have i:=Ah (B1 y);have e:(Au (B1 y)).length=(B1 y).length:=sm;show AW _ _ _ _ _ ⟨[(0,.ro 1 (Au (B1 x))),(1,.ro 1 (Au (B1 y)))],[],nx,25⟩
 generalize z:Au (B1 x)=xv at c l|-;generalize aa:Au (B1 y)=yv at c i e|-;refine Ab (Aa [0,1,14] [] (by simp [e]<;>rfl) ?_)
 refine Ao (fun h1=>Ae ?_) (fun h1=>?_)
 ·have f:y≠0:=by rintro rfl;rw [Ei]at h1;simp at h1
  have o:=Df x (show 0<y by omega);rw [Alb,if_neg f,Uw,Uw]at c;refine Ap (Ab (Ac (Am 2 sr ?_)));refine Ai c func104 ?_ (hp:=by simp);refine Ag [1,6] [] sr ?_;refine A2 [0,1] [] sr ?_;refine⟨(y,x%y,_),⟨w,Aj (Abj (Ie o)) w,?_⟩,o,by simp only [aa];exact AS.le_refl _⟩;simp only;rw [<- u,Nat.gcd_comm y,<- Nat.gcd_rec,Nat.gcd_comm]
 ·have f:y=0:=by
   have:(B1 y).length=0:=by simp at h1;simp [h1]
   exact Uq.1 (Ar.1 this)
  subst f;rw [Nat.gcd_zero_right]at u;refine A9 ?_;refine Aa [4] [] sr ?_;refine Ak (Ad sr ?_);rw [<- u,Uw,z]
theorem Alc{n k:Nat}(h:(B1 n).length=k+1):bitLen n=32*k+bitLen (n/4294967296^k):=by
 have h1:=V8 k n h;have e:4294967296^k=2^(32*k):=by rw [Nat.pow_mul]
 rw [e]at h1|-;exact Xz h1
theorem Aut(l:List Nat)(h:Ed l)(hs:l.length<=1099511627776):AC prog 206 [.ro 1 (Au l)] (fun r=>r=.int .i64 (bitLen (Bg l):Nat)):=by
 have j:=In l h;have hl:=Aj (P3 l h) hs;have ad:=Ah l;generalize Bg l=n at j hl|-;have a:(Au (B1 n)).length=(B1 n).length:=sm;refine Ay func206 (fun w0 N0=>?_);refine Aa [0] [] sr (Ab (Ac (Am 1 sr ?_)));refine Ai j func148 ?_ (hp:=by simp);obtain⟨w,o⟩:∃w,w=Au (B1 n):=⟨_,rfl⟩;rw [<- o]at a|-;refine Ag [0] [] sr ?_;refine Ab (Aa [0,7] [] (by simp [a]<;>rfl) ?_)
 refine Ao (fun h1=>?_) (fun h1=>Ae ?_)
 ·have ab:n=0:=by
   have:(B1 n).length=0:=by simp at h1;simp [h1]
   exact Uq.1 (Ar.1 this)
  refine Aa [2] [] sr ?_;refine Ak (Ad sr ?_);rw [ab];rfl
 have ae:(B1 n).length≠0:=by intro h;rw [Ar]at h;simp [h]at h1
 obtain⟨k,y⟩:∃k,(B1 n).length=k+1:=⟨(B1 n).length-1,by omega⟩;have c:=Alc y;have d:=Kq n;rw [y]at d a hl
 have e:n/4294967296^k<4294967296:=by
  rw [C6 (Nr k),Bn,<- Cn];exact d
 have x:=Y9 (k:=k+1) (v:=n) (i:=k) om;rw [Cm e,<- y,<- Qd,<- o]at x;obtain⟨t,j⟩:∃t,t=n/4294967296^k:=⟨_,rfl⟩;rw [<- j]at e x c;have s:=Aod t e
 have g:bitLen t<=32:=by
  rcases Dn 32 (bitLen t)with h|h
  ·have h0:t≠0:=by rintro rfl;revert h;decide
   have:=Qg h0;have:2^32<=2^(bitLen t-1):=El dc om;omega
  ·exact h
 clear d j;generalize bitLen t=z at s c g;rw [c];have w1:IntKind.i64.wrap ((w.length:Int)-1)=(k:Int):=by rw [Bb om (by omega)];omega
 obtain⟨m,hm,af⟩:∃m:Int,IntKind.i64.wrap (32*(k:Int))=m/\m=((32*k:Nat):Int):=⟨_,rfl,by rw [Bb om (by omega)];omega⟩;have w3:IntKind.i64.wrap (m+(z:Int))=((32*k+z:Nat):Int):=by rw [Bb om (by omega)];omega
 have aa:k<w.length:=om;obtain⟨fin,u⟩:∃f:Int,f=((32*k+z:Nat):Int):=⟨_,rfl⟩;rw [<- u]at w3|-;refine Ab (Ac (Am 10 (by simp [w1,hm,aa,x]<;>rfl) ?_));refine Ai s func188 ?_;refine Ag [2] [] (by simp [w3]<;>rfl) ?_;exact Ak (Ad sr rfl)
theorem Ba5(x:Nat)(hx:x<4294967296):bits .or .u64 0 (IntKind.u64.wrap ((x:Int)*2^min (0:Int).toNat IntKind.u64.bits))=(x:Int):=by
 have e:IntKind.u64.wrap ((x:Int)*2^min (0:Int).toNat IntKind.u64.bits)=(x:Int):=by
  show IntKind.u64.wrap ((x:Int)*1)=_
  rw [IntKind.wrap_u64];omega
 rw [e,show(0:Int)=((0:Nat):Int)from rfl,V9 0 x ⟨by omega,by omega⟩];simp
theorem Ben(x y:Nat)(hx:x<4294967296)(hy:y<4294967296):bits .or .u64 (x:Int) (IntKind.u64.wrap ((y:Int)*2^min (32:Int).toNat IntKind.u64.bits))=((x+y*4294967296:Nat):Int):=by
 have e:IntKind.u64.wrap ((y:Int)*2^min (32:Int).toNat IntKind.u64.bits)=((y*4294967296:Nat):Int):=by
  show IntKind.u64.wrap ((y:Int)*4294967296)=_
  rw [IntKind.wrap_u64];omega
 rw [e,V9 x (y*4294967296) ⟨by omega,by omega⟩,Nat.or_comm,Bn];have:=Nat.two_pow_add_eq_or_of_lt (i:=32) (b:=x) om y;simp only [show(2:Nat)^32=4294967296 from rfl]at this;rw [<- this]
 congr 1
 omega
theorem hw0:IntKind.i64.wrap 0=0:=rfl
theorem C9:IntKind.i64.wrap 1=1:=rfl
theorem Pq:IntKind.i64.wrap 2=2:=rfl
theorem A6z(l:List Nat)(h:Ed l)(n:Nat)(ab:Bg l=n):AC prog 262 [.ro 1 (Au l)] (fun r=>r=.tup (if n<18446744073709551616 then [.int .u64 n,.bool true]else [.int .u64 0,.bool false])):=by
 have ht:=In l h;rw [ab]at ht;have z:=Ah l;have hp:=Ah (B1 n);have hl:(Au (B1 n)).length=(B1 n).length:=sm
 have a:(n<18446744073709551616/\(B1 n= []/\n=0\/(∃x,B1 n= [x]/\n=x/\x<4294967296)\/∃x y,B1 n= [x,y]/\n=x+y*4294967296/\x<4294967296/\y<4294967296))\/(¬n<18446744073709551616/\2<(B1 n).length):=by
  by_cases h0:n=0
  ·subst h0;exact .inl ⟨by omega,.inl ⟨Ei,rfl⟩⟩
  rw [Ll h0]
  by_cases h1:n/4294967296=0
  ·rw [h1,Ei];exact .inl ⟨by omega,.inr (.inl ⟨_,rfl,by omega,by omega⟩)⟩
  rw [Ll h1]
  by_cases h2:n/4294967296/4294967296=0
  ·rw [h2,Ei];exact .inl ⟨by omega,.inr (.inr ⟨_,_,rfl,by omega,by omega,by omega⟩)⟩
  rw [Ll h2];exact .inr ⟨by omega,by simp⟩
 refine Ay func262 (fun w0 N0=>?_);refine Aa [0] [] sr (Ab (Ac (Am 1 sr ?_)));refine Ai ht func148 ?_ (hp:=by simp);refine Ag [0] [] sr ?_;refine Ab (Aa [0,11] [] sr ?_)
 refine Ao (fun h1=>?_) (fun h1=>Ae ?_)
 ·refine Aa [2,3] [] sr ?_;refine Ak (Ad sr ?_)
  have:¬n<18446744073709551616:=by
   rcases a with⟨_,h|⟨x,h,_⟩|⟨x,y,h,_⟩⟩|⟨h,_⟩
   ·simp [h.1]at h1
   ·simp [h]at h1
   ·simp [h]at h1
   ·exact h
  rw [if_neg this]
 have ae:(B1 n).length<=2:=by simp at h1;omega
 have aa:n<18446744073709551616:=by
  rcases a with⟨h,_⟩|⟨_,h⟩
  ·exact h
  ·omega
 rw [if_pos aa];refine Aa [0,4] [] sr (Ab (Aa [4,12,13,14] [] sr (Ap ?_)));simp only [Eo]at*;refine Bq (fun k nx=>⟨[(4,.int .u64 (Bg ((B1 n).take k))),(12,.ro 1 (Au (B1 n))),(13,.int .i64 (B1 n).length),(14,.int .i64 k)],[],nx,28⟩) (fun k=>k<=(B1 n).length) (B1 n).length _ (B6 _) (AS.le_refl _) ?_;intro k nx hk hI;refine Aa [4,12,13,14,15] [] sr (Ab ?_)
 refine Ao (fun h2=>Ae ?_) (fun h2=>?_)
 ·have d:k<(B1 n).length:=by simp at h2;omega
  have af:=A7 (k:=k) om;refine Ab (Ap ?_)
  rcases a with⟨_,h|⟨x,h,e,t⟩|⟨x,y,h,e,t,hy⟩⟩|⟨h,_⟩
  ·rw [h.1]at d;simp at d
  ·have o:k=0:=by rw [h]at d;simp at d;exact d
   subst o;obtain⟨c,m,i⟩:∃c:Int,IntKind.i64.wrap 0=c/\c=0:=⟨_,rfl,rfl⟩;have j:¬c<0:=om;have f:bits .or .u64 0 (IntKind.u64.wrap ((x:Int)*2^min c.toNat IntKind.u64.bits))=x:=by rw [i];exact Ba5 x t
   have g:IntKind.u64.wrap (x:Int)=x:=wrap_u64 om;rw [h];refine Aa [4,5,6,12,13,14] [] (by simp [Hs,Wu]<;>rfl) (A2 [4,12,13,14] [] (by simp [Bg,m,j,g,f]<;>rfl) (A2 [4,12,13,14] [] (by simp [C9]<;>rfl) ?_));exact⟨by simp,by simp,_,by simp [Bg,Wu];exact AS.le_refl _⟩
  ·have g:IntKind.u64.wrap (x:Int)=x:=wrap_u64 om;have s:IntKind.u64.wrap (y:Int)=y:=wrap_u64 om;rw [h]
   by_cases o:k=0
   ·subst o;obtain⟨c,m,i⟩:∃c:Int,IntKind.i64.wrap 0=c/\c=0:=⟨_,rfl,rfl⟩;have j:¬c<0:=om;have f:bits .or .u64 0 (IntKind.u64.wrap ((x:Int)*2^min c.toNat IntKind.u64.bits))=x:=by rw [i];exact Ba5 x t
    refine Aa [4,5,6,12,13,14] [] (by simp [Hs,Wu]<;>rfl) (A2 [4,12,13,14] [] (by simp [Bg,m,j,g,f]<;>rfl) (A2 [4,12,13,14] [] (by simp [C9]<;>rfl) ?_));exact⟨by simp,by simp,_,by simp [Bg,Wu];exact AS.le_refl _⟩
   ·have u:k=1:=by rw [h]at d;simp at d;omega
    subst u;obtain⟨c,m,i⟩:∃c:Int,IntKind.i64.wrap 32=c/\c=32:=⟨_,rfl,rfl⟩;have j:¬c<0:=om;obtain⟨w,f,ho⟩:∃w:Int,bits .or .u64 (x:Int) (IntKind.u64.wrap ((y:Int)*2^min c.toNat IntKind.u64.bits))=w/\w=((x+y*4294967296:Nat):Int):=⟨_,rfl,by rw [i];exact Ben x y t hy⟩;refine Aa [4,5,6,12,13,14] [] (by simp [Hs,Wu]<;>rfl) (A2 [4,12,13,14] [] (by simp [Bg,m,j,s,f]<;>rfl) (A2 [4,12,13,14] [] (by simp [Pq]<;>rfl) ?_));exact⟨by simp,by simp,_,by simp [Bg,Wu,ho,Int.mul_comm (y:Int)];exact AS.le_refl _⟩
  ·omega
 ·refine A9 ?_;refine Aa [2,3] [] sr ?_;refine Ak (Ad sr ?_);have ad:k=(B1 n).length:=by simp at h2;omega
  rw [ad,Bo,C2]
theorem Adt(b:Bool)(l:List Nat)(h:Ed l)(hs:l.length<=1099511627776):AC prog 171 [.bool b,.ro 1 (Au l)] (fun r=>r=(nI (sgn b (Bg l))).v):=by
 have c:=Zf l h hs;have hp:=Ah l;rw [Bbo];generalize Bg l=n at c|-;have a:(Au (B1 n)).length=(B1 n).length:=sm
 have f:decide (n=0)=decide ((B1 n).length=0):=by
  rw [decide_eq_decide,<- Uq,Ar]
 rw [f];obtain⟨e,d⟩:∃e,e=Au (B1 n):=⟨_,rfl⟩;rw [<- d]at c a|-;generalize(B1 n).length=k at a|-
 have g:(!decide (k=0))=decide ((0:Int)<(k:Int)):=by
  rw [Mv];simp;omega
 rw [g];generalize Au l=lv at c hp|-;refine Ay func171 (fun w0 N0=>?_);refine Aa [0,1,4] [4] sr (Ab (Ac (Am 1 sr ?_)));refine Ai c func147 ?_ (hp:=by simp);refine Ag [0,1,4] [4] sr ?_
 cases b
 ·refine Aa [4] [4] (by simp [a]<;>rfl) ?_;refine Ak (Ad sr ?_);simp
 ·refine Aa [4] [4] (by simp [a]<;>rfl) ?_;refine Ak (Ad sr ?_);simp
theorem Kc(b:Bool)(n:Nat)(hs:(B1 n).length<=1099511627776):AC prog 171 [.bool b,.ro 1 (Au (B1 n))] (fun r=>r=(nI (sgn b n)).v):=by
 have:=Adt b (B1 n) (Cr n) hs
 rwa [C2]at this
theorem Eg(z:Int):∃c a,(nI z).v=.agg [.bool c,.ro 1 a]/\a.all V.pureE=true:=⟨_,_,rfl,Ah _⟩
theorem Ar6(z:Int)(h1: -9223372036854775808<=z)(h2:z<9223372036854775808):AC prog 131 [.int .i64 z] (fun r=>r=(nI z).v):=by
 have i:(B1 z.natAbs).length<=1099511627776:=Aj (E0 (m:=3) om) dc;have a:=Afh z.natAbs om;have e:=Ah (B1 z.natAbs);have f:=fun b=>Kc b z.natAbs i
 by_cases hz:z<0
 ·have d:=f true;rw [show sgn true z.natAbs=z by simp only [sgn,if_true];omega]at d;obtain⟨c,k,h,g⟩:=Eg z;rw [h]at d|-;obtain⟨w,j⟩:∃w:Int,IntKind.u64.wrap z=w:=⟨_,rfl⟩;have Pq:IntKind.u64.wrap (-w)=((z.natAbs:Nat):Int):=by rw [<- j,Ly,Ly];omega
  generalize Au (B1 z.natAbs)=l at a d e;generalize((z.natAbs:Nat):Int)=q at a Pq;refine Ay func131 (fun w0 N0=>?_);refine Aa [0,2] [2] sr (Ab (Aa [0,2,4] [2] sr ?_));refine A6 rfl (fun h1=>?_) (fun h1=>by simp at h1;omega);refine Ab (Ac (Am 3 (by simp [j,Pq]<;>rfl) ?_));refine Ai a func129 ?_;refine Ai d func171 ?_ (hp:=by simp);refine Ag [2] [2] sr ?_;exact Ak (Ad sr rfl)
 ·have d:=f false;rw [show sgn false z.natAbs=z by simp only [sgn];rw [if_neg (by decide)];omega]at d;obtain⟨c,k,h,g⟩:=Eg z;rw [h]at d|-;have Pq:IntKind.u64.wrap z=((z.natAbs:Nat):Int):=by rw [Ly];omega
  generalize Au (B1 z.natAbs)=l at a d e;generalize((z.natAbs:Nat):Int)=q at a Pq;refine Ay func131 (fun w0 N0=>?_);refine Aa [0,2] [2] sr (Ab (Aa [0,2,4] [2] sr ?_));refine A6 rfl (fun h1=>by simp at h1;omega) (fun h1=>Ae (Ab (Ac (Am 2 (by simp [Pq]<;>rfl) ?_))));refine Ai a func129 ?_;refine Ai d func171 ?_ (hp:=by simp);refine Ag [2] [2] sr ?_;exact Ak (Ad sr rfl)
theorem Aoe(a b:Nat): -1<=Rv a b/\Rv a b<=1:=by unfold Rv;split<;>(try split)<;>omega
theorem Zh(a:RI)(h:Ed a.mag):AC prog 87 [a.v] (fun r=>r=.int .i64 (Hp a.val)):=by
 obtain⟨b,l⟩:=a;have d:=(Afi l [] h (by simp [Ed])).argsR (args:=[.ro 1 (Au l),.nils]) (.cons (Bl.refl _) (.cons (nils_ro 1) .nil));have hp:=Ah l;rw [RI.v,RI.val,A1u];simp only [Bg]at d|-;obtain⟨g,e⟩:=Aoe (Bg l) 0;generalize Rv (Bg l) 0=c at d g e|-;generalize Au l=lv at d hp|-;have f:IntKind.i64.wrap (-c)= -c:=Bb om om;refine Ay func87 (fun w0 N0=>?_);refine Aa [1] [1] sr (Ab (Ac (Am 2 sr ?_)));refine Ai d func128 ?_ (hp:=by simp);refine Ag [1,3] [1] sr ?_;refine Ab (Aa [3,8] [] sr ?_)
 refine Ao (fun h1=>?_) (fun h1=>Ae ?_)
 ·refine Aa [2] [] (by simp [f]<;>rfl) ?_;refine Ak (Ad sr ?_);simp [h1]
 ·refine Aa [2] [] sr ?_;refine Ak (Ad sr ?_);simp [h1]
theorem Axh(z:Int): -1<=Hp z/\Hp z<=1:=by unfold Hp;split<;>(try split)<;>omega
theorem A60(a b:RI)(h1:Ed a.mag)(h2:Ed b.mag):AC prog 132 [a.v,b.v] (fun r=>r=.int .i64 (cmpI a.val b.val)):=by
 have j:=Zh a h1;have n:=Zh b h2;have k:=Afi _ _ h1 h2;obtain⟨p,l⟩:=a;obtain⟨q,m⟩:=b;simp only at h1 h2 k;have i:=Ah l;have g:=Ah m;have d:=A6o p q (Bg l) (Bg m);rw [RI.v,RI.val]at j n;rw [RI.v,RI.v,RI.val,RI.val];simp only at j n|-
 have f:Hp (sgn p (Bg l))<Hp (sgn q (Bg m))->cmpI (sgn p (Bg l)) (sgn q (Bg m))= -1:=by
  unfold Hp cmpI;intro h;(repeat' split at h)<;>(repeat' split)<;>omega
 have e:Hp (sgn q (Bg m))<Hp (sgn p (Bg l))->cmpI (sgn p (Bg l)) (sgn q (Bg m))=1:=by
  unfold Hp cmpI;intro h;(repeat' split at h)<;>(repeat' split)<;>omega
 obtain⟨u,s⟩:=Axh (sgn p (Bg l));obtain⟨t,z⟩:=Aoe (Bg l) (Bg m);generalize Hp (sgn p (Bg l))=x at j d f e u s;generalize Hp (sgn q (Bg m))=y at n d f e;generalize cmpI (sgn p (Bg l)) (sgn q (Bg m))=w at d f e|-;generalize Rv (Bg l) (Bg m)=c at k d t z;generalize Au l=lv at j k i|-;generalize Au m=mv at n k g|-
 have hw:IntKind.i64.wrap (x*c)=x*c:=by
  have:x= -1\/x=0\/x=1:=om;rcases this with rfl|rfl|rfl<;>exact Bb om om
 refine Ay func132 (fun w0 N0=>?_);refine Aa [2,3] [2,3] sr (Ab (C4 [(0,[]),(1,[]),(2,[]),(3,[]),(4,[]),(5,[])] Dm kr ?_));refine Ch 1 sr ?_;refine Bw (fun o=>j) func87 rfl kr rfl rfl sr rfl rfl sr (by simp) sr ?_;refine Ch 1 sr ?_;refine Bw (fun o=>n) func87 rfl kr rfl rfl sr rfl rfl sr (by simp) sr ?_;refine C5 [2,3,5,6] [2,3] sr ?_;refine Ab (Aa [2,3,5,6,13] [2,3] sr ?_)
 refine Ao (fun h1=>?_) (fun h1=>Ae ?_)
 ·refine Aa [4] [] sr ?_;refine Ak (Ad sr ?_);rw [f (by simpa using h1)]
 refine Ab (Aa [2,3,5,16] [2,3] sr ?_)
 refine Ao (fun h2=>?_) (fun h2=>Ae ?_)
 ·refine Aa [4] [] sr ?_;refine Ak (Ad sr ?_);rw [e (by simpa using h2)]
 refine Ab (Ac (Am 5 sr ?_));refine Ai k func128 ?_ (hp:=by simp);refine Ag [4] [] (by simp [hw]<;>rfl) ?_;refine Ak (Ad sr ?_);rw [d (by simpa using h1) (by simpa using h2)]
theorem O4(a b:RI)(h1:a.ok 274877906944)(h2:b.ok 274877906944):AC prog 133 [a.v,b.v] (fun r=>r=(nI (a.val*b.val)).v):=by
 obtain⟨h1,i⟩:=h1;obtain⟨h2,j⟩:=h2;obtain⟨p,l⟩:=a;obtain⟨q,m⟩:=b;simp only at h1 h2 i j;have g:=Ala l m h1 h2 om om;have k:=Ns (Aj (K6 h1) i) (Aj (K6 h2) j);have h:=Kc (p != q) (Bg l*Bg m) om;have f:=Ah l;have d:=Ah m;rw [RI.v,RI.v,RI.val,RI.val];simp only;rw [Aup];obtain⟨c,lw,s,o⟩:=Eg (sgn (p != q) (Bg l*Bg m));rw [s]at h|-;have e:=Ah (B1 (Bg l*Bg m));generalize Au (B1 (Bg l*Bg m))=nv at g h e;generalize Au l=lv at g f|-;generalize Au m=mv at g d|-;have hb:∀x y:Bool,(x != y)= !(x==y):=fun x y=>rfl
 refine Ay func133 (fun w0 N0=>?_);refine Aa [2,3,4] [2,3,4] sr (Ab (C4 [(0,[]),(2,[]),(5,[]),(7,[]),(1,[]),(3,[]),(4,[]),(6,[]),(8,[]),(9,[]),(10,[]),(11,[])] Dm kr ?_));refine Ch 9 sr ?_;refine Bw (fun n=>g) func172 rfl kr rfl rfl sr rfl rfl sr (by simp) sr ?_;refine Bw (c:=true) (fun n=>h) func171 rfl kr rfl rfl sr rfl rfl (by cases p<;>cases q<;>rfl) (by simp) sr ?_;refine C5 [4] [4] sr ?_;exact Ak (Ad sr rfl)
theorem Zi(a b:RI)(h1:a.ok 274877906944)(h2:b.ok 274877906944):AC prog 225 [a.v,b.v] (fun r=>r=(nI (a.val+b.val)).v):=by
 obtain⟨h1,k1⟩:=h1;obtain⟨h2,y⟩:=h2;obtain⟨p,l⟩:=a;obtain⟨q,m⟩:=b;simp only at h1 h2 k1 y;have s:=Ar1 l m h1 h2 om om;have d:=Ar3 l m h1 h2 om om;have f:=Ar3 m l h2 h1 om om;have l1:=Aj (K6 h1) k1;have l2:=Aj (K6 h2) y;have l3:=Ads l1 l2;have j:=Ah l;have i:=Ah m;rw [RI.v,RI.v,RI.val,RI.val];simp only;obtain⟨n,hn⟩:∃n,n=Bg l:=⟨_,rfl⟩;obtain⟨k,g⟩:∃k,k=Bg m:=⟨_,rfl⟩;rw [<- hn]at s d f l1 l3|-;rw [<- g]at s d f l2 l3|-;clear hn g;generalize Au l=lv at s d f j|-;generalize Au m=mv at s d f i|-
 by_cases h:p=q
 ·subst h;rw [A6p];have g:=Kc p (n+k) om;obtain⟨c,x,u,t⟩:=Eg (sgn p (n+k));rw [u]at g|-;have e:=Ah (B1 (n+k));generalize Au (B1 (n+k))=z at s g e;refine Ay func225 (fun w0 N0=>?_);refine Aa [2,3,4] [2,3,4] sr (Ab (Aa [2,3,4,13] [2,3,4] sr ?_));refine A6 rfl (fun h1=>?_) (fun h1=>by cases h1);refine Ab (C4 [(0,[]),(2,[]),(4,[]),(1,[]),(3,[]),(5,[]),(6,[]),(7,[]),(8,[])] Dm kr ?_);refine Ch 6 sr ?_;refine Bw (fun hg=>s) func257 rfl kr rfl rfl sr rfl rfl sr (by simp) sr ?_;refine Bw (fun hg=>g) func171 rfl kr rfl rfl sr rfl rfl sr (by simp) sr ?_;refine C5 [4] [4] sr ?_;exact Ak (Ad sr rfl)
 ·have hd:decide (p=q)=false:=by simpa using h
  have w:(p==q)=false:=by simpa using h
  refine Ay func225 (fun w0 N0=>?_);refine Aa [2,3,4] [2,3,4] sr (Ab (Aa [2,3,4,13] [2,3,4] (by simp [w]<;>rfl) ?_));refine A6 rfl (fun h1=>by cases h1) (fun h1=>Ae (Ab ?_))
  by_cases o:k<=n
  ·rw [A6q h o];rw [Ar2,if_pos o]at d;have g:=Kc p (n-k) (Aj (Th (Yk n k)) om);obtain⟨c,x,u,t⟩:=Eg (sgn p (n-k));rw [u]at g|-;have e:=Ah (B1 (n-k));generalize Au (B1 (n-k))=z at d g e;refine Ab (Ac (Am 4 sr ?_));refine Ai d func258 ?_ (hp:=by simp);refine Ag [2,3,4,5,6] [2,3,4] sr ?_;refine Aa [2,3,4,5,30] [2,3,4] sr ?_;refine A6 rfl (fun h2=>?_) (fun h2=>by cases h2);refine Ab (Ac (Am 3 sr ?_));refine Ai g func171 ?_ (hp:=by simp);refine Ag [4] [4] sr ?_;exact Ak (Ad sr rfl)
  ·rw [A1v h (by omega)];rw [Ar2,if_neg o]at d;rw [Ar2,if_pos (by omega)]at f;have g:=Kc q (k-n) (Aj (Th (Yk k n)) om);obtain⟨c,x,u,t⟩:=Eg (sgn q (k-n));rw [u]at g|-;have e:=Ah (B1 (k-n));generalize Au (B1 (k-n))=z at f g e;refine Ab (Ac (Am 4 sr ?_));refine Ai d func258 ?_ (hp:=by simp);refine Ag [2,3,4,5,6] [2,3,4] sr ?_;refine Aa [2,3,4,5,30] [2,3,4] sr ?_;refine A6 rfl (fun h2=>by cases h2) (fun h2=>Ae (Ab (Ac (Am 4 sr ?_))));refine Ai f func258 ?_ (hp:=by simp);refine Ag [3,4,7] [3,4] sr ?_;refine Ab (Ac (Am 3 sr ?_));refine Ai g func171 ?_ (hp:=by simp);refine Ag [4] [4] sr ?_;exact Ak (Ad sr rfl)
theorem Auu(a:RI)(h1:a.ok 1099511627776):AC prog 292 [a.v] (fun r=>r=(nI (-a.val)).v):=by
 obtain⟨h1,f⟩:=h1;obtain⟨p,l⟩:=a;simp only at h1 f;have e:=Adt (!p) l h1 f;have d:=Ah l;rw [RI.v,RI.val];simp only;rw [A6r]at e;obtain⟨c,lw,h,g⟩:=Eg (-sgn p (Bg l));rw [h]at e|-;generalize Au l=lv at e d|-;refine Ay func292 (fun w0 N0=>?_);refine Aa [1,2] [1,2] sr (Ab (Ac (Am 5 sr ?_)));refine Ai e func171 ?_ (hp:=by simp);refine Ag [2] [2] sr ?_;exact Ak (Ad sr rfl)
theorem A61(a b:RI)(h1:a.ok 274877906944)(h2:b.ok 274877906944):AC prog 282 [a.v,b.v] (fun r=>r=(nI (a.val-b.val)).v):=by
 have f:=Auu b ⟨h2.1,Aj h2.2 dc⟩;have d:=Zi a (nI (-b.val)) h1 (Ht (by rw [Oc,N8];exact RI.sz h2));rw [I2,<- Int.sub_eq_add_neg]at d;have h:=Ah a.mag;have i:=Ah b.mag;obtain⟨c,lw,l,k⟩:=Eg (a.val-b.val);obtain⟨c2,m,g,e⟩:=Eg (-b.val);rw [l]at d|-;rw [g]at f d;rw [RI.v]at d|-;rw [RI.v]at f|-;generalize Au a.mag=av at d h|-;generalize Au b.mag=bv at f i|-;refine Ay func282 (fun w0 N0=>?_);refine Aa [2,3,4] [2,3,4] sr (Ab (C4 [(0,[]),(1,[]),(2,[]),(3,[]),(4,[])] Dm kr ?_));refine Ch 2 sr ?_;refine Bw (fun j=>f) func292 rfl kr rfl rfl sr rfl rfl sr (by simp) sr ?_;refine Bw (fun j=>d) func225 rfl kr rfl rfl sr rfl rfl sr (by simp) sr ?_;refine C5 [4] [4] sr ?_;exact Ak (Ad sr rfl)
theorem RR.vp(a:RR):a.v.pureV=true:=by
 have h1:=Ah a.num.mag;have h2:=Ah a.den;simpa [RR.v]using⟨h1,h2⟩
theorem Lo(q:Rat):∃c a d,(nR q).v=.agg [.bool c,.ro 1 a,.ro 1 d]/\a.all V.pureE=true/\d.all V.pureE=true:=⟨_,_,_,rfl,Ah _,Ah _⟩
def pV(a:RR):V:=.tup [a.p.num.v,.ro 1 (Au a.p.den)]
theorem Mp(a:RR)(h:Ed a.den):AC prog 86 [a.v] (fun r=>r=pV a):=by
 refine AC.relaxP ?_;obtain⟨⟨b,l⟩,d⟩:=a;simp only at h;have f:=(Afi d [] h (by simp [Ed])).argsR (args:=[.ro 1 (Au d),.nils]) (.cons (Bl.refl _) (.cons (nils_ro 1) .nil));have hp:=Ah d;have k:=Ah l;have n:=Afh 1 dc;rw [pV,RR.p,RR.v];simp only [Bg]at f|-;have j:(Rv (Bg d) 0=0)↔Bg d=0:=by unfold Rv;constructor<;>intro h<;>(repeat' split at h)<;>(repeat' split)<;>omega
 generalize Rv (Bg d) 0=c at f j;generalize m:Au d=dv at f hp|-;generalize g:Au l=lv at k|-;refine Ay func86 (fun w0 N0=>?_);refine Aa [1,2] [1,2] sr (Ab (Ab (Ac (Am 2 sr ?_))));refine Ai f func128 ?_ (hp:=by simp);refine Ag [1,2,7] [1,2] sr ?_
 refine Ao (fun h1=>?_) (fun h1=>Ae ?_)
 ·have e:Bg d=0:=j.1 (by simpa using h1);rw [if_pos e];simp only [RI.v];generalize Au (B1 1)=ov at n|-;refine Ab (Ac (Am 1 sr ?_));refine Ai n func129 ?_;refine Ag [2,3] [2] sr ?_;refine Ak (Ad sr ?_);exact Bl.tup (.cons (Bl.agg (.cons (Bl.refl _) (.cons (nils_ro 1) .nil))) (.cons (Bl.refl _) .nil))
 ·have e:¬Bg d=0:=fun h=>by simp [j.2 h]at h1
  rw [if_neg e];simp only [RI.v,m,g];refine Ab (V6 (.take 0 [] (.take 2 [] (.take 1 [] (.alt 3 (.take 4 [] (.take 5 [] .done)) (.alt 4 (.take 3 [] (.take 5 [] .done)) .stop))))) Dm kr (Py (L:=[2,3]) (M:=[2]) sr ?_));intro T o;have i:=(show T=_ by simpa using o);subst i;refine Ak (Ad sr ?_);exact Bl.refl _
theorem Sk(a:RI)(d:List Nat)(h1:a.ok 1099511627776)(h2:Ed d)(h3:d.length<=1099511627776)(x:Bg d≠0):AC prog 170 [a.v,.ro 1 (Au d)] (fun r=>r=(nR (mkRat a.val (Bg d))).v):=by
 obtain⟨h1,t⟩:=h1;obtain⟨b,l⟩:=a;simp only at h1 t;have o:=A16 l d h1 h2 t h3;have e0:(RI.mk b l).val=sgn b (Bg l):=rfl;rw [e0,Bej b (Bg l) (Bg d) x];have l1:=Aj (K6 h1) t;obtain⟨n,hn⟩:∃n,n=Bg l:=⟨_,rfl⟩;obtain⟨m,w⟩:∃m,m=Bg d:=⟨_,rfl⟩;have f:=Sj l (B1 (n.gcd m)) h1 (Cr _) t;have e:=Sj d (B1 (n.gcd m)) h2 (Cr _) h3;rw [C2,<- hn]at f;rw [C2,<- w]at e;rw [<- hn,<- w]at o|-;rw [<- hn]at l1;rw [<- w]at x
 have z:n.gcd m≠0:=by
  intro h;exact x (Nat.gcd_eq_zero_iff.1 h).2
 rw [Alb,if_neg z]at f e;have u:=Kc b (n/n.gcd m) (Aj (Th (H6 _ _)) l1);obtain⟨c,lw,hv,aa⟩:=Eg (sgn b (n/n.gcd m));rw [hv]at u
 have y:(RR.mk (nI (sgn b (n/n.gcd m))) (B1 (m/n.gcd m))).v=.agg [.bool c,.ro 1 lw,.ro 1 (Au (B1 (m/n.gcd m)))]:=by
  have g:=hv;rw [RI.v]at g;injection g with g;simp only [List.cons.injEq,and_true]at g;rw [RR.v];simp only [g.1,g.2]
 rw [y];have k:=Ah l;have j:=Ah d;have i:=Ah (B1 (n.gcd m));have s:=Ah (B1 (n/n.gcd m));rw [RI.v];simp only;rw [Uw]at o;rw [Uw,Uw]at f e;generalize Au (B1 (n.gcd m))=gv at o f e i;generalize Au (B1 (n/n.gcd m))=qv at f u s;generalize Au (B1 (m/n.gcd m))=rv at e|-;generalize Au l=lv at o f k|-;generalize Au d=dv at o e j|-;generalize Au (B1 (n%n.gcd m))=x1 at f;generalize Au (B1 (m%n.gcd m))=x2 at e;refine Ay func170 (fun w0 N0=>?_);refine Aa [1,2,4] [2,4] sr (Ab (Ac (Am 3 sr ?_)));refine Ai o func103 ?_ (hp:=by simp);refine Ag [1,2,4,5] [2,4] sr ?_;refine Ab (Ac (Am 3 sr ?_));refine Ai f func104 ?_ (hp:=by simp);refine Ag [1,2,4,5,6] [2,4] sr ?_;refine Ab (Ac (Am 2 sr ?_));refine Ai e func104 ?_ (hp:=by simp);refine Ag [2,4,6,9] [2,4] sr ?_;refine Ab (Ac (Am 3 sr ?_));refine Ai u func171 ?_ (hp:=by simp);refine Ag [4] [4] sr ?_;exact Ak (Ad sr rfl)
theorem Sl(l:List Nat)(h:Ed l)(hs:l.length<=1099511627776):AC prog 134 [.ro 1 (Au l)] (fun r=>r=(nI (Bg l)).v):=by
 have a:=Adt false l h hs;have hp:=Ah l;rw [show sgn false (Bg l)=(Bg l:Int)by simp [sgn]]at a;obtain⟨c,lw,e,d⟩:=Eg (Bg l);rw [e]at a|-;generalize Au l=lv at a hp|-;refine Ay func134 (fun w0 N0=>?_);refine Aa [0,2] [2] sr (Ab (Ac (Am 1 sr ?_)));refine Ai a func171 ?_ (hp:=by simp);refine Ag [2] [2] sr ?_;exact Ak (Ad sr rfl)
theorem Auv(a b:RR)(h1:a.ok 137438953472)(h2:b.ok 137438953472):AC prog 143 [a.v,b.v] (fun r=>r=(nR (a.val*b.val)).v):=by
 have l:=Mp a h1.lim;have k:=Mp b h2.lim;have g:=RR.p_ok h1 dc;have f:=RR.p_ok h2 dc;have z:=RR.p_val a;have e2:=RR.p_val b;have d1:=RR.p_ne a;have d2:=RR.p_ne b;rw [pV]at l k;have u:=RR.vp a;have w:=RR.vp b;have ea:a.v=.agg [.bool a.num.neg,.ro 1 (Au a.num.mag),.ro 1 (Au a.den)]:=rfl;have eb:b.v=.agg [.bool b.num.neg,.ro 1 (Au b.num.mag),.ro 1 (Au b.den)]:=rfl;rw [ea]at l u|-;rw [eb]at k w|-;rw [<- z,<- e2];generalize a.p=a' at*;generalize b.p=b' at*;clear z e2 h1 h2;obtain⟨x,d⟩:=a';obtain⟨y,e⟩:=b';simp only at l k d1 d2;have m:=O4 x y ⟨g.num.1,Aj g.num.2 dc⟩ ⟨f.num.1,Aj f.num.2 dc⟩;have m2:=Ala d e g.lim f.lim (Aj g.len dc) (Aj f.len dc)
 have s1:Oc (x.val*y.val)<=274877906944:=by
  rw [Oc,Q6];exact Aj (Ns (RI.sz g.num) (RI.sz f.num)) dc
 have s2:(B1 (Bg d*Bg e)).length<=274877906944:=Aj (Ns (Aj (K6 g.lim) g.len) (Aj (K6 f.lim) f.len)) dc;have h:=Sk (nI (x.val*y.val)) (B1 (Bg d*Bg e)) (Ht (Aj s1 dc)) (Cr _) (Aj s2 dc) (by rw [C2];exact Jl d1 d2);rw [I2,C2,<- Rat.mkRat_mul_mkRat]at h;show AC _ _ _ (fun r=>r=(nR (mkRat x.val (Bg d)*mkRat y.val (Bg e))).v)
 generalize mkRat x.val (Bg d)*mkRat y.val (Bg e)=q at h|-;obtain⟨c,lw,dw,hv,ah,ae⟩:=Lo q;rw [hv]at h|-;obtain⟨c2,aa,o,j⟩:=Eg (x.val*y.val);rw [o]at m h;have i:=Ah (B1 (Bg d*Bg e));have hx:=Ah x.mag;have hy:=Ah y.mag;have n:=Ah d;have s:=Ah e;have ex:x.v=.agg [.bool x.neg,.ro 1 (Au x.mag)]:=rfl;have t:y.v=.agg [.bool y.neg,.ro 1 (Au y.mag)]:=rfl;rw [ex]at l m;rw [t]at k m;clear ea eb ex t;generalize Au (B1 (Bg d*Bg e))=nv at m2 h i;generalize Au x.mag=xv,Au y.mag=yv,Au d=ab,Au e=ag,Au a.num.mag=av,Au b.num.mag=bv,Au a.den=ad,Au b.den=af at*;refine Ay func143 (fun w0 N0=>?_);refine Aa [2,3,4] [2,3,4] sr (Ab (Ac (Am 1 sr ?_)));refine Ai l func86 ?_ (hp:=by simpa using u);refine Ag [3,4,5,6] [3,4,5] sr ?_;refine Ab (Ac (Am 1 sr ?_));refine Ai k func86 ?_ (hp:=by simpa using w);refine Ag [4,5,6,7,8] [4,5,7] sr ?_;refine Ab (Ac (Am 2 sr ?_));refine Ai m func133 ?_ (hp:=by simp);refine Am 2 sr ?_;refine Ai m2 func172 ?_ (hp:=by simp);refine Ai h func170 ?_ (hp:=by simp);refine Ag [4] [4] sr ?_;exact Ak (Ad sr rfl)
theorem Ti{x y:Int}{k:Nat}(h1:Oc x<=k)(h2:Oc y<=k):Oc (x+y)<=k+1:=by
 have h:=Ads h1 h2;rw [Oc];refine Aj (Th (Int.natAbs_add_le x y)) ?_;rw [Nat.max_self]at h;exact h
theorem Auw(a b:RR)(h1:a.ok 68719476736)(h2:b.ok 68719476736):AC prog 259 [a.v,b.v] (fun r=>r=(nR (a.val+b.val)).v):=by
 have p1:=Mp a h1.lim;have n:=Mp b h2.lim;have g:=RR.p_ok h1 dc;have f:=RR.p_ok h2 dc;have e1:=RR.p_val a;have e2:=RR.p_val b;have d1:=RR.p_ne a;have d2:=RR.p_ne b;rw [pV]at p1 n;have pa:=RR.vp a;have pb:=RR.vp b;have ea:a.v=.agg [.bool a.num.neg,.ro 1 (Au a.num.mag),.ro 1 (Au a.den)]:=rfl;have eb:b.v=.agg [.bool b.num.neg,.ro 1 (Au b.num.mag),.ro 1 (Au b.den)]:=rfl;rw [ea]at p1 pa|-;rw [eb]at n pb|-;rw [<- e1,<- e2];generalize a.p=a' at*;generalize b.p=b' at*;clear e1 e2 h1 h2;obtain⟨x,d⟩:=a';obtain⟨y,e⟩:=b';simp only at p1 n d1 d2;have l1:=Aj (K6 g.lim) g.len;have l2:=Aj (K6 f.lim) f.len;have z1:Oc (Bg d:Int)<=68719476736:=by rw [Oc,Es];exact l1
 have z2:Oc (Bg e:Int)<=68719476736:=by rw [Oc,Es];exact l2
 have w1:=Sl d g.lim (Aj g.len dc);have w2:=Sl e f.lim (Aj f.len dc);have m1:=O4 x (nI (Bg e)) ⟨g.num.1,Aj g.num.2 dc⟩ (Ht (Aj z2 dc));have m2:=O4 y (nI (Bg d)) ⟨f.num.1,Aj f.num.2 dc⟩ (Ht (Aj z1 dc));rw [I2]at m1 m2
 have s1:Oc (x.val*(Bg e:Int))<=137438953472:=by
  rw [Oc,Q6];exact Aj (Ns (RI.sz g.num) z2) dc
 have s2:Oc (y.val*(Bg d:Int))<=137438953472:=by
  rw [Oc,Q6];exact Aj (Ns (RI.sz f.num) z1) dc
 have m4:=Zi (nI (x.val*(Bg e:Int))) (nI (y.val*(Bg d:Int))) (Ht (Aj s1 dc)) (Ht (Aj s2 dc));rw [I2,I2]at m4;have s3:=Ti s1 s2;have m5:=Ala d e g.lim f.lim (Aj g.len dc) (Aj f.len dc);have s4:(B1 (Bg d*Bg e)).length<=274877906944:=Aj (Ns l1 l2) dc;have i:=Sk (nI (x.val*(Bg e:Int)+y.val*(Bg d:Int))) (B1 (Bg d*Bg e)) (Ht (Aj s3 dc)) (Cr _) (Aj s4 dc) (by rw [C2];exact Jl d1 d2);rw [I2,C2,<- Rat.mkRat_add_mkRat x.val y.val d1 d2]at i;show AC _ _ _ (fun r=>r=(nR (mkRat x.val (Bg d)+mkRat y.val (Bg e))).v)
 generalize mkRat x.val (Bg d)+mkRat y.val (Bg e)=q at i|-;obtain⟨c,lw,dw,hv,an,aj⟩:=Lo q;rw [hv]at i|-;obtain⟨c2,ae,u,l⟩:=Eg (x.val*(Bg e:Int));rw [u]at m1 m4;obtain⟨c3,af,z,w⟩:=Eg (y.val*(Bg d:Int));rw [z]at m2 m4;obtain⟨c4,am,aa,o⟩:=Eg (x.val*(Bg e:Int)+y.val*(Bg d:Int));rw [aa]at i m4;obtain⟨c5,ah,k,ab⟩:=Eg (Bg d:Int);rw [k]at w1 m2;obtain⟨c6,ao,s,m⟩:=Eg (Bg e:Int);rw [s]at w2 m1;have j:=Ah (B1 (Bg d*Bg e));have hx:=Ah x.mag;have hy:=Ah y.mag;have t:=Ah d;have ad:=Ah e;have ex:x.v=.agg [.bool x.neg,.ro 1 (Au x.mag)]:=rfl;have ey:y.v=.agg [.bool y.neg,.ro 1 (Au y.mag)]:=rfl;rw [ex]at p1 m1;rw [ey]at n m2;clear ea eb ex ey hv u z aa k s;generalize Au (B1 (Bg d*Bg e))=nv at m5 i j;generalize Au x.mag=xv,Au y.mag=yv,Au d=ag,Au e=al,Au a.num.mag=av,Au b.num.mag=bv,Au a.den=ai,Au b.den=ak at*;refine Ay func259 (fun w0 N0=>?_);refine Aa [2,3,4] [2,3,4] sr (Ab (Ac (Am 1 sr ?_)));refine Ai p1 func86 ?_ (hp:=by simpa using pa);refine Ag [3,4,5,6] [3,4,5] sr ?_;refine Ab (Ac (Am 1 sr ?_));refine Ai n func86 ?_ (hp:=by simpa using pb);refine Ag [4,5,6,7,8] [4,5,7] sr ?_;refine Ab (C4 [(1,[]),(2,[]),(5,[]),(0,[9]),(3,[]),(6,[]),(4,[9]),(7,[]),(8,[]),(9,[]),(10,[])] Dm kr ?_);refine Ch 1 sr ?_;refine Bw (fun h=>w2) func134 rfl kr rfl rfl sr rfl rfl sr (by simp) sr ?_;refine Ch 2 sr ?_;refine Bw (fun h=>m1) func133 rfl kr rfl rfl sr rfl rfl sr (by simp) sr ?_;refine Bw (fun h=>w1) func134 rfl kr rfl rfl sr rfl rfl sr (by simp) sr ?_;refine Ch 1 sr ?_;refine Bw (fun h=>m2) func133 rfl kr rfl rfl sr rfl rfl sr (by simp) sr ?_;refine Bw (fun h=>m4) func225 rfl kr rfl rfl sr rfl rfl sr (by simp) sr ?_;refine C5 [4,6,8,9] [4,9] sr ?_;refine Ab (C4 [(1,[]),(2,[]),(3,[]),(0,[]),(4,[]),(5,[])] Dm kr ?_);refine Ch 2 sr ?_;refine Bw (fun h=>m5) func172 rfl kr rfl rfl sr rfl rfl sr (by simp) sr ?_;refine Ch 1 sr ?_;refine Bw (fun h=>i) func170 rfl kr rfl rfl sr rfl rfl sr (by simp) sr ?_;refine C5 [4] [4] sr ?_;exact Ak (Ad sr rfl)
theorem Rg(a b:RR)(h1:a.ok 137438953472)(h2:b.ok 137438953472):AC prog 89 [a.v,b.v] (fun r=>r=.int .i64 (Nt a.val b.val)):=by
 have w:=Mp a h1.lim;have j:=Mp b h2.lim;have f:=RR.p_ok h1 dc;have e:=RR.p_ok h2 dc;have e1:=RR.p_val a;have e2:=RR.p_val b;have d1:=RR.p_ne a;have d2:=RR.p_ne b;rw [pV]at w j;have pa:=RR.vp a;have pb:=RR.vp b;have ea:a.v=.agg [.bool a.num.neg,.ro 1 (Au a.num.mag),.ro 1 (Au a.den)]:=rfl;have eb:b.v=.agg [.bool b.num.neg,.ro 1 (Au b.num.mag),.ro 1 (Au b.den)]:=rfl;rw [ea]at w pa|-;rw [eb]at j pb|-;rw [<- e1,<- e2];generalize a.p=a' at*;generalize b.p=b' at*;clear e1 e2 h1 h2;obtain⟨x,c⟩:=a';obtain⟨y,d⟩:=b';simp only at w j d1 d2;have l1:=Aj (K6 f.lim) f.len;have l2:=Aj (K6 e.lim) e.len;have z1:Oc (Bg c:Int)<=137438953472:=by rw [Oc,Es];exact l1
 have z2:Oc (Bg d:Int)<=137438953472:=by rw [Oc,Es];exact l2
 have w1:=Sl c f.lim (Aj f.len dc);have w2:=Sl d e.lim (Aj e.len dc);have t:=O4 x (nI (Bg d)) ⟨f.num.1,Aj f.num.2 dc⟩ (Ht (Aj z2 dc));have o:=O4 y (nI (Bg c)) ⟨e.num.1,Aj e.num.2 dc⟩ (Ht (Aj z1 dc));rw [I2]at t o;have s:=A60 (nI (x.val*(Bg d:Int))) (nI (y.val*(Bg c:Int))) (Cr _) (Cr _);rw [I2,I2]at s;show AC _ _ _ (fun r=>r=.int .i64 (Nt (mkRat x.val (Bg c)) (mkRat y.val (Bg d))))
 rw [Auq d1 d2];generalize cmpI (x.val*(Bg d:Int)) (y.val*(Bg c:Int))=af at s|-;obtain⟨c2,ad,l,h⟩:=Eg (x.val*(Bg d:Int));rw [l]at t s;obtain⟨c3,ae,n,m⟩:=Eg (y.val*(Bg c:Int));rw [n]at o s;obtain⟨c5,ah,g,u⟩:=Eg (Bg c:Int);rw [g]at w1 o;obtain⟨c6,al,k,i⟩:=Eg (Bg d:Int);rw [k]at w2 t;have hx:=Ah x.mag;have hy:=Ah y.mag;have aa:=Ah c;have ab:=Ah d;have ex:x.v=.agg [.bool x.neg,.ro 1 (Au x.mag)]:=rfl;have ey:y.v=.agg [.bool y.neg,.ro 1 (Au y.mag)]:=rfl;rw [ex]at w t;rw [ey]at j o;clear ea eb ex ey l n g k;generalize Au x.mag=xv,Au y.mag=yv,Au c=ag,Au d=ak,Au a.num.mag=av,Au b.num.mag=bv,Au a.den=ai,Au b.den=aj at*;refine Ay func89 (fun w0 N0=>?_);refine Aa [2,3] [2,3] sr (Ab (Ac (Am 1 sr ?_)));refine Ai w func86 ?_ (hp:=by simpa using pa);refine Ag [3,5,6] [3,5] sr ?_;refine Ab (Ac (Am 1 sr ?_));refine Ai j func86 ?_ (hp:=by simpa using pb);refine Ag [5,6,7,8] [5,7] sr ?_;refine Ab (C4 [(1,[]),(2,[]),(5,[]),(0,[]),(3,[]),(6,[]),(4,[]),(7,[]),(8,[]),(9,[])] Dm kr ?_);refine Ch 1 sr ?_;refine Bw (fun z=>w2) func134 rfl kr rfl rfl sr rfl rfl sr (by simp) sr ?_;refine Ch 2 sr ?_;refine Bw (fun z=>t) func133 rfl kr rfl rfl sr rfl rfl sr (by simp) sr ?_;refine Bw (fun z=>w1) func134 rfl kr rfl rfl sr rfl rfl sr (by simp) sr ?_;refine Ch 1 sr ?_;refine Bw (fun z=>o) func133 rfl kr rfl rfl sr rfl rfl sr (by simp) sr ?_;refine Bw (fun z=>s) func132 rfl kr rfl rfl sr rfl rfl sr (by simp) sr ?_;refine C5 [4] [] sr ?_;exact Ak (Ad sr rfl)
theorem Aof(a:RR)(h1:Ed a.den)(h2:Ed a.num.mag):AC prog 57 [a.v] (fun r=>r=.int .i64 (Acq a.val)):=by
 have d:=Mp a h1;have k:=RR.p_val a;have h:=RR.p_ne a
 have c:Ed a.p.num.mag:=by
  unfold RR.p
  split
  ·simp [Ed]
  ·exact h2
 rw [pV]at d;have e:=RR.vp a;have f:a.v=.agg [.bool a.num.neg,.ro 1 (Au a.num.mag),.ro 1 (Au a.den)]:=rfl;rw [f]at d e|-;rw [<- k];generalize a.p=o at*;obtain⟨x,g⟩:=o;simp only at d h c;have m:=Zh x c;show AC _ _ _ (fun r=>r=.int .i64 (Acq (mkRat x.val (Bg g))))
 rw [A1x h];have i:=Ah x.mag;have ex:x.v=.agg [.bool x.neg,.ro 1 (Au x.mag)]:=rfl;rw [ex]at d m;clear f ex;generalize Au x.mag=xv,Au g=j,Au a.num.mag=av,Au a.den=l,Hp x.val=n at*;refine Ay func57 (fun w0 N0=>?_);refine Aa [1] [1] sr (Ab (Ac (Am 1 sr ?_)));refine Ai d func86 ?_ (hp:=by simpa using e);refine Ag [3] [3] sr ?_;refine Ab (Ac (Am 1 sr ?_));refine Ai m func87 ?_ (hp:=by simp);refine Ag [2] [] sr ?_;exact Ak (Ad sr rfl)
theorem A62(a:RR)(h1:a.ok 1099511627776):AC prog 260 [a.v] (fun r=>r=(nR (-a.val)).v):=by
 have h:=Mp a h1.lim;have i:=RR.p_ok h1 dc;have m:=RR.p_val a;have s:=RR.p_ne a;rw [pV]at h;have l:=RR.vp a;have o:a.v=.agg [.bool a.num.neg,.ro 1 (Au a.num.mag),.ro 1 (Au a.den)]:=rfl;rw [o]at h l|-;rw [<- m];generalize a.p=a' at*;clear m h1;obtain⟨x,e⟩:=a';simp only at h s;have k:=Auu x i.num;have d:=Sk (nI (-x.val)) e (Ht (by rw [Oc,N8];exact RI.sz i.num)) i.lim i.len s;rw [I2,<- Rat.neg_mkRat]at d;show AC _ _ _ (fun r=>r=(nR (-mkRat x.val (Bg e))).v)
 generalize -mkRat x.val (Bg e)=q at d|-;obtain⟨c,lw,dw,n,aa,y⟩:=Lo q;rw [n]at d|-;obtain⟨c2,t,g,f⟩:=Eg (-x.val);rw [g]at k d;have z:=Ah x.mag;have j:=Ah e;have ex:x.v=.agg [.bool x.neg,.ro 1 (Au x.mag)]:=rfl;rw [ex]at h k;clear o ex n g;generalize Au x.mag=xv,Au e=u,Au a.num.mag=av,Au a.den=w at*;refine Ay func260 (fun w0 N0=>?_);refine Aa [1,2] [1,2] sr (Ab (Ac (Am 1 sr ?_)));refine Ai h func86 ?_ (hp:=by simpa using l);refine Ag [2,3,4] [2,3] sr ?_;refine Ab (Ac (Am 1 sr ?_));refine Ai k func292 ?_ (hp:=by simp);refine Am 1 sr ?_;refine Ai d func170 ?_ (hp:=by simp);refine Ag [2] [2] sr ?_;exact Ak (Ad sr rfl)
theorem Ald(q:Rat):P1 (-q)=P1 q:=by rw [P1,P1,Rat.neg_num,Rat.neg_den,Oc,Oc,N8]
theorem A63(a b:RR)(h1:a.ok 68719476736)(h2:b.ok 68719476736):AC prog 227 [a.v,b.v] (fun r=>r=(nR (a.val-b.val)).v):=by
 have i:=A62 b ⟨⟨h2.num.1,Aj h2.num.2 dc⟩,h2.lim,Aj h2.len dc⟩;have d:=Auw a (nR (-b.val)) h1 (Na (by rw [Ald];exact RR.sz h2 dc));rw [Me,<- Rat.sub_eq_add_neg]at d;have o:=RR.vp a;have t:=RR.vp b;obtain⟨c,lw,dw,l,z,w⟩:=Lo (a.val-b.val);obtain⟨c2,s,aa,f,e,g⟩:=Lo (-b.val);rw [l]at d|-;rw [f]at i d;have m:a.v=.agg [.bool a.num.neg,.ro 1 (Au a.num.mag),.ro 1 (Au a.den)]:=rfl;have k:b.v=.agg [.bool b.num.neg,.ro 1 (Au b.num.mag),.ro 1 (Au b.den)]:=rfl;rw [m]at d o|-;rw [k]at i t|-;have x:=Ah a.num.mag;have hy:=Ah b.num.mag;have h:=Ah a.den;have j:=Ah b.den;clear m k l f;generalize Au a.num.mag=av,Au b.num.mag=bv,Au a.den=u,Au b.den=y at*;refine Ay func227 (fun w0 N0=>?_);refine Aa [2,3,4] [2,3,4] sr (Ab (C4 [(0,[]),(1,[]),(2,[]),(3,[]),(4,[])] Dm kr ?_));refine Ch 2 sr ?_;refine Bw (fun n=>i) func260 rfl kr rfl rfl sr rfl rfl sr (by simp) sr ?_;refine Bw (fun n=>d) func259 rfl kr rfl rfl sr rfl rfl sr (by simp) sr ?_;refine C5 [4] [4] sr ?_;exact Ak (Ad sr rfl)
theorem A64:(nR 0).v=.agg [.bool false,.ro 1 [],.ro 1 (Au (B1 1))]:=by
 have h:nR 0=⟨nI 0,B1 1⟩:=rfl;rw [h,RR.v];simp [nI,Ei]
theorem A65:AC prog 169 [] (fun r=>r=(nR 0).v):=by
 refine AC.relaxP ?_;have a:=Afh 1 dc;rw [A64];generalize Au (B1 1)=ov at a|-;refine Ay func169 (fun w0 N0=>?_);refine Aa [0] [0] sr (Ab (Ac (Ai a func129 ?_)));refine Ag [0] [0] sr ?_;refine Ak (Ad sr ?_);exact Bl.agg (.cons (Bl.refl _) (.cons (nils_ro 1) (.cons (Bl.refl _) .nil)))
theorem A66{b:Bool}{n d:Nat}(h:d≠0):mkRat (n:Int) d=Sh (mkRat (sgn b n) d):=by
 have e:(0:Rat)=mkRat 0 1:=by rw [Q5]
 have a:mkRat (sgn b n) d<0↔sgn b n<0:=by rw [e,A1w h (by decide)];simp
 unfold Sh
 by_cases hs:sgn b n<0
 ·rw [if_pos (a.2 hs),Rat.neg_mkRat]
  congr 1
  cases b
  ·simp [sgn]at hs;omega
  ·simp [sgn]
 ·rw [if_neg (fun h=>hs (a.1 h))]
  congr 1
  cases b
  ·simp [sgn]
  ·simp only [sgn,if_true]at hs|-;omega
theorem A67(a:RR)(h1:a.ok 1099511627776):AC prog 226 [a.v] (fun r=>r=(nR (Sh a.val)).v):=by
 have i:=Mp a h1.lim;have d:=RR.p_ok h1 dc;have m:=RR.p_val a;have k:=RR.p_ne a;rw [pV]at i;have l:=RR.vp a;have o:a.v=.agg [.bool a.num.neg,.ro 1 (Au a.num.mag),.ro 1 (Au a.den)]:=rfl;rw [o]at i l|-;rw [<- m];generalize a.p=a' at*;clear m h1;obtain⟨x,f⟩:=a';simp only at i k;have s:=Sl x.mag d.num.lim d.num.len;have hl:Oc (Bg x.mag:Int)<=1099511627776:=by rw [Oc,Es];exact Aj (K6 d.num.lim) d.num.len
 have e:=Sk (nI (Bg x.mag)) f (Ht hl) d.lim d.len k;rw [I2,A66 (b:=x.neg) k]at e;show AC _ _ _ (fun r=>r=(nR (Sh (mkRat (sgn x.neg (Bg x.mag)) (Bg f)))).v)
 generalize Sh (mkRat (sgn x.neg (Bg x.mag)) (Bg f))=q at e|-;obtain⟨c,lw,dw,n,aa,y⟩:=Lo q;rw [n]at e|-;obtain⟨c2,t,h,g⟩:=Eg (Bg x.mag);rw [h]at s e;have z:=Ah x.mag;have j:=Ah f;have ex:x.v=.agg [.bool x.neg,.ro 1 (Au x.mag)]:=rfl;rw [ex]at i;clear o ex n h;generalize Au x.mag=xv,Au f=u,Au a.num.mag=av,Au a.den=w at*;refine Ay func226 (fun w0 N0=>?_);refine Aa [1,2] [1,2] sr (Ab (Ac (Am 1 sr ?_)));refine Ai i func86 ?_ (hp:=by simpa using l);refine Ag [2,3,4] [2,3] sr ?_;refine Ab (Ac (Am 2 sr ?_));refine Ai s func134 ?_ (hp:=by simp);refine Am 1 sr ?_;refine Ai e func170 ?_ (hp:=by simp);refine Ag [2] [2] sr ?_;exact Ak (Ad sr rfl)
def Ov(x y:Int):V:=if y=0 then .tup [(nR 0).v,.bool false]else .tup [(nR (mkRat (x*Hp y) y.natAbs)).v,.bool true]
theorem Ar7(y:Int):Hp y=0↔y=0:=by unfold Hp;(repeat' split)<;>omega
theorem Aog(b c:Bool)(n m:Nat)(h:sgn c m≠0):sgn (b != c) n=sgn b n*Hp (sgn c m):=by
 have:Hp (sgn c m)=sgn c 1:=by
  unfold Hp sgn at*;cases c<;>simp at h|-<;>omega
 rw [this,Aup,Gn]
theorem Zj(a b:RI)(h1:a.ok 1099511627776)(h2:b.ok 1099511627776):AC prog 130 [a.v,b.v] (fun r=>r=Ov a.val b.val):=by
 have e:=Zh b h2.lim;have y:=A65;have i:=Adt (a.neg != b.neg) a.mag h1.lim h1.len;have o:=Ah a.mag;have g:=Ah b.mag;obtain⟨p,l⟩:=a;obtain⟨q,m⟩:=b;simp only at i o g;have e1:(RI.mk p l).v=.agg [.bool p,.ro 1 (Au l)]:=rfl;have e2:(RI.mk q m).v=.agg [.bool q,.ro 1 (Au m)]:=rfl;have e3:(RI.mk p l).val=sgn p (Bg l):=rfl;have z:(RI.mk q m).val=sgn q (Bg m):=rfl;rw [e2,z]at e;rw [e1,e2,e3,z];have k:=Ar7 (sgn q (Bg m))
 by_cases d:sgn q (Bg m)=0
 ·rw [Ov,if_pos d];rw [k.2 d]at e;obtain⟨c,lw,dw,w,x,u⟩:=Lo 0;rw [w]at y|-;generalize Au l=lv at o|-;generalize Au m=mv at g e|-;refine Ay func130 (fun w0 N0=>?_);refine Aa [2,3,4] [2,3,4] sr (Ab (Ab (Ac (Am 1 sr ?_))));refine Ai e func87 ?_ (hp:=by simp);refine Ag [2,3,4,8] [2,3,4] sr ?_;refine A6 rfl (fun h1=>?_) (fun h1=>by cases h1);refine Ab (Ac (Ai y func169 ?_));refine Ag [4,5] [4] sr ?_;exact Ak (Ad sr rfl)
 ·rw [Ov,if_neg d];have s:Bg m≠0:=by intro h;rw [h]at d;exact d (by unfold sgn;split<;>rfl)
  have f:=Sk (nI (sgn (p != q) (Bg l))) m (Ht (by rw [Oc,Wa];exact Aj (K6 h1.lim) h1.len)) h2.lim h2.len s;rw [I2,Aog p q _ _ d]at f;rw [Aog p q _ _ d]at i;rw [Wa];have n:Hp (sgn q (Bg m))≠0:=fun h=>d (k.1 h)
  obtain⟨c2,aa,t,j⟩:=Eg (sgn p (Bg l)*Hp (sgn q (Bg m)));rw [t]at i f;generalize mkRat (sgn p (Bg l)*Hp (sgn q (Bg m))) (Bg m)=qq at f|-;obtain⟨c,lw,dw,w,x,u⟩:=Lo qq;rw [w]at f|-;generalize Hp (sgn q (Bg m))=sg at e n;generalize Au l=lv at o i|-;generalize Au m=mv at g e f|-;refine Ay func130 (fun w0 N0=>?_);refine Aa [2,3,4] [2,3,4] sr (Ab (Ab (Ac (Am 1 sr ?_))));refine Ai e func87 ?_ (hp:=by simp);refine Ag [2,3,4,8] [2,3,4] (by simp [n]<;>rfl) ?_;refine A6 rfl (fun h1=>by cases h1) (fun h1=>Ae (Ab (C4 [(0,[]),(2,[]),(5,[]),(8,[]),(1,[]),(3,[]),(4,[]),(6,[]),(7,[]),(9,[]),(10,[]),(11,[]),(12,[])] Dm kr ?_)));refine Ch 8 sr ?_;refine Bw (c:=true) (fun hg=>i) func171 rfl kr rfl rfl sr rfl rfl (by cases p<;>cases q<;>rfl) (by simp) sr ?_;refine Ch 1 sr ?_;refine Bw (fun hg=>f) func170 rfl kr rfl rfl sr rfl rfl sr (by simp) sr ?_;refine C5 [4,5] [4] sr ?_;exact Ak (Ad sr rfl)
theorem L0{z:Int}(h1: -18446744073709551616<=z)(h2:z<=18446744073709551616):Oc z<=3:=E0 (m:=3) om
theorem Ale(x y:Int):∃c a d b,Ov x y=.tup [.agg [.bool c,.ro 1 a,.ro 1 d],.bool b]/\a.all V.pureE=true/\d.all V.pureE=true:=by
 unfold Ov
 split
 ·exact⟨_,_,_,_,rfl,Ah _,Ah _⟩
 ·exact⟨_,_,_,_,rfl,Ah _,Ah _⟩
theorem Ux(x y:Int)(h1: -9223372036854775808<=x)(h2:x<9223372036854775808)(l: -9223372036854775808<=y)(s:y<9223372036854775808):AC prog 88 [.int .i64 x,.int .i64 y] (fun r=>r=Ov x y):=by
 have k:=Ar6 x h1 h2;have h:=Ar6 y l s;have a:=Zj (nI x) (nI y) (Ht (Aj (L0 om om) dc)) (Ht (Aj (L0 om om) dc));rw [I2,I2]at a;obtain⟨c,lw,m,e⟩:=Eg x;obtain⟨c2,n,f,d⟩:=Eg y;obtain⟨c3,o,t,b3,g,j,i⟩:=Ale x y;rw [m]at k a;rw [f]at h a;rw [g]at a|-;refine Ay func88 (fun w0 N0=>?_);refine Aa [0,1,4] [4] sr (Ab (Ac (Am 1 sr ?_)));refine Ai k func131 ?_;refine Am 1 sr ?_;refine Ai h func131 ?_;refine Ai a func130 ?_ (hp:=by simp);refine Ag [4,5] [4] sr ?_;exact Ak (Ad sr rfl)
def Uy(z:Int):V:=if -9223372036854775808<=z/\z<=9223372036854775807 then .tup [.int .i64 z,.bool true]else .tup [.int .i64 0,.bool false]
theorem Axi(x:Int):IntKind.i64.wrap x=(x+9223372036854775808)%18446744073709551616-9223372036854775808:=by rw [IntKind.wrap_i64]
theorem A17(a:RI)(h:Ed a.mag):AC prog 229 [a.v] (fun r=>r=Uy a.val):=by
 obtain⟨b,l⟩:=a;simp only at h;have c:=A6z l h _ rfl;have hp:=Ah l;have j:(RI.mk b l).v=.agg [.bool b,.ro 1 (Au l)]:=rfl;have i:(RI.mk b l).val=sgn b (Bg l):=rfl;rw [j,i];generalize Au l=lv at c hp|-;generalize Bg l=n at c|-
 by_cases g:n<18446744073709551616
 ·rw [if_pos g]at c
  cases b
  ·refine Ay func229 (fun w0 N0=>?_);refine Aa [1] [1] sr (Ab (Ac (Am 2 sr ?_)));refine Ai c func262 ?_ (hp:=by simp);refine Ag [1,4,5] [1] sr ?_;refine Ab (Aa [1,4,13] [1] sr ?_);refine A6 rfl (fun h1=>by cases h1) (fun h1=>Ae (Ab (Aa [4,15] [] sr ?_)));refine A6 rfl (fun h2=>by cases h2) (fun h2=>Ae (Ab (Aa [4,22] [] sr ?_)))
   refine Ao (fun e=>?_) (fun e=>Ae ?_)
   ·refine Aa [2,3] [] sr ?_;refine Ak (Ad sr ?_);simp at e;rw [Uy,if_neg (by simp only [sgn];rw [if_neg (by decide)];omega)]
   ·simp at e;have f:IntKind.i64.wrap (n:Int)=n:=Bb om om;refine Aa [2,3] [] (by simp [f]<;>rfl) ?_;refine Ak (Ad sr ?_);rw [Uy,if_pos (by simp only [sgn];rw [if_neg (by decide)];omega)];rfl
  ·have hw0:IntKind.i64.wrap (IntKind.u64.wrap (-(n:Int)))= -(n:Int)\/9223372036854775808<n:=by
    rw [Axi,Ly];omega
   refine Ay func229 (fun w0 N0=>?_);refine Aa [1] [1] sr (Ab (Ac (Am 2 sr ?_)));refine Ai c func262 ?_ (hp:=by simp);refine Ag [1,4,5] [1] sr ?_;refine Ab (Aa [1,4,13] [1] sr ?_);refine A6 rfl (fun h1=>by cases h1) (fun h1=>Ae (Ab (Aa [4,15] [] sr ?_)));refine A6 rfl (fun h2=>?_) (fun h2=>by cases h2);refine Ab (Aa [4,17] [] sr ?_)
   refine Ao (fun d=>?_) (fun d=>Ae ?_)
   ·simp at d;refine Aa [2,3] [] sr ?_;refine Ak (Ad sr ?_);rw [Uy,if_neg (by simp only [sgn,if_true];omega)]
   ·simp at d;have f:=hw0.resolve_right om;refine Aa [2,3] [] (by simp [f]<;>rfl) ?_;refine Ak (Ad sr ?_);rw [Uy,if_pos (by simp only [sgn,if_true];omega)];rfl
 ·rw [if_neg g]at c;refine Ay func229 (fun w0 N0=>?_);refine Aa [1] [1] sr (Ab (Ac (Am 2 sr ?_)));refine Ai c func262 ?_ (hp:=by simp);refine Ag [1,4,5] [1] sr ?_;refine Ab (Aa [1,4,13] [1] sr ?_);refine A6 rfl (fun h1=>?_) (fun h1=>by cases h1);refine Aa [2,3] [] sr ?_;refine Ak (Ad sr ?_);rw [Uy,if_neg (by unfold sgn;split<;>omega)]
theorem A18{n d:Nat}(b:Bool)(hd:0<d)(h:b=false\/n%d=0):sgn b (n/d)=sgn b n/(d:Int)/\sgn b (n%d)=sgn b n%(d:Int):=by
 cases b
 ·exact⟨by simp [sgn],by simp [sgn]⟩
 ·have c:n%d=0:=by simpa using h
  have f:n=d*(n/d):=by have:=Hh n d;omega
  have e:=(Int.ediv_emod_unique (a:=sgn true n) (b:=(d:Int)) (r:=sgn true (n%d)) (q:=sgn true (n/d)) om).2 ⟨by
   rw [c];simp only [sgn,if_true]
   conv=>rhs;rw [f]
   rw [Fi,Vt];simp,by rw [c];simp [sgn],by rw [c];simp [sgn];omega⟩
  exact⟨e.1.symm,e.2.symm⟩
theorem A19{n d:Nat}(g:0<d)(h:n%d≠0):sgn true (n/d+1)=sgn true n/(d:Int)/\sgn false (d-n%d)=sgn true n%(d:Int):=by
 have e:=Df n g;have c:=Hh n d
 have f:=(Int.ediv_emod_unique (a:=sgn true n) (b:=(d:Int)) (r:=sgn false (d-n%d)) (q:=sgn true (n/d+1)) om).2 ⟨by
   simp only [sgn,if_true];rw [if_neg (by decide)];generalize n/d=q at c|-;generalize n%d=r at c e|-;subst c;rw [Vt,Dd,Dd,Fi,Int.mul_add];omega,by simp only [sgn];rw [if_neg (by decide)];omega,by simp only [sgn];rw [if_neg (by decide)];omega⟩
 exact⟨f.1.symm,f.2.symm⟩
theorem Axj(b:Bool)(j i e a:List V)(k:Nat)(A B:V)(c1 w:Bool)(u x:List V)(o:A=.agg [.bool c1,.ro 1 u])(t:B=.agg [.bool w,.ro 1 x])(s:AC prog 104 [.ro 1 j,.ro 1 i] (fun r=>r=.tup [.ro 1 e,.ro 1 a,.bool true]))
  (l:j.all V.pureE=true)(g:i.all V.pureE=true)(c:e.all V.pureE=true)(d:a.all V.pureE=true)(hl:a.length=k)(f:b=false\/k=0)
  (z:AC prog 171 [.bool b,.ro 1 e] (fun r=>r=A))(y:AC prog 171 [.bool b,.ro 1 a] (fun r=>r=B)):
  AC prog 263 [.agg [.bool b,.ro 1 j],.agg [.bool false,.ro 1 i]] (fun r=>r=.tup [A,B,.bool true]):=by
 subst o;subst t;refine Ay func263 (fun w0 N0=>?_);refine Aa [2,3,4,5] [2,3,4,5] sr (Ab (Ac (Am 4 sr ?_)));refine Ai s func104 ?_ (hp:=by simp);refine Ag [2,3,4,5,7,8,9] [2,3,4,5] sr ?_;refine Ab (Aa [2,3,4,5,7,8,20] [2,3,4,5] sr ?_);refine A6 rfl (fun h1=>by cases h1) (fun h1=>Ae (Ab ?_));have n:b=true->k=0:=fun h=>f.resolve_left (by rw [h];decide)
 cases b
 all_goals
  refine Aa [2,3,4,5,7,8,32] [2,3,4,5] (by simp [hl,n]<;>rfl) ?_;refine A6 rfl (fun h2=>?_) (fun h2=>by cases h2);refine Ab (C4 [(0,[]),(2,[]),(5,[]),(7,[]),(9,[]),(1,[]),(3,[]),(4,[]),(6,[]),(8,[]),(10,[]),(11,[]),(12,[]),(13,[])] Dm kr ?_);refine Ch 8 sr ?_;refine Bw (fun m=>z) func171 rfl kr rfl rfl sr rfl rfl sr (by simp) sr ?_;refine Ch 1 sr ?_;refine Bw (fun m=>y) func171 rfl kr rfl rfl sr rfl rfl sr (by simp) sr ?_;refine C5 [4,5,6] [4,5] sr ?_;exact Ak (Ad sr rfl)
theorem Axk(n e i d l a s:List V)(k:Nat)(A B:V)(c1 c2:Bool)(w1 w2:List V)(x:A=.agg [.bool c1,.ro 1 w1])(z:B=.agg [.bool c2,.ro 1 w2])(y:AC prog 104 [.ro 1 n,.ro 1 e] (fun r=>r=.tup [.ro 1 i,.ro 1 d,.bool true]))
  (o:n.all V.pureE=true)(c:e.all V.pureE=true)(g:i.all V.pureE=true)(h:d.all V.pureE=true)(f:l.all V.pureE=true)(m:a.all V.pureE=true)(j:s.all V.pureE=true)(hl:d.length=k)(u:k≠0)
  (ho:AC prog 129 [.int .u64 1] (fun r=>r=.ro 1 l))(w:AC prog 257 [.ro 1 i,.ro 1 l] (fun r=>r=.ro 1 a))(hs:AC prog 258 [.ro 1 e,.ro 1 d] (fun r=>r=.tup [.ro 1 s,.bool true]))
  (m1:AC prog 171 [.bool true,.ro 1 a] (fun r=>r=A))(m2:AC prog 171 [.bool false,.ro 1 s] (fun r=>r=B)):
  AC prog 263 [.agg [.bool true,.ro 1 n],.agg [.bool false,.ro 1 e]] (fun r=>r=.tup [A,B,.bool true]):=by
 subst x;subst z;refine Ay func263 (fun w0 N0=>?_);refine Aa [2,3,4,5] [2,3,4,5] sr (Ab (Ac (Am 4 sr ?_)));refine Ai y func104 ?_ (hp:=by simp);refine Ag [2,3,4,5,7,8,9] [2,3,4,5] sr ?_;refine Ab (Aa [2,3,4,5,7,8,20] [2,3,4,5] sr ?_);refine A6 rfl (fun h1=>by cases h1) (fun h1=>Ae (Ab (Aa [2,3,4,5,7,8,32] [2,3,4,5] (by simp [hl,u]<;>rfl) ?_)));refine A6 rfl (fun h2=>by cases h2) (fun h2=>Ae (Ab (Ac (Am 1 sr ?_))));refine Ai ho func129 ?_;refine Ai w func257 ?_ (hp:=by simp);refine Ag [3,4,5,7,8] [3,4,5] sr ?_;refine Ab (Ac (Am 3 sr ?_));refine Ai hs func258 ?_ (hp:=by simp);refine Ag [3,4,5,7,8] [3,4,5] sr ?_;refine Ab (C4 [(0,[]),(1,[]),(2,[]),(4,[]),(3,[]),(5,[]),(6,[]),(7,[]),(8,[])] Dm kr ?_);refine Ch 1 sr ?_;refine Bw (fun t=>m1) func171 rfl kr rfl rfl sr rfl rfl sr (by simp) sr ?_;refine Ch 3 sr ?_;refine Bw (fun t=>m2) func171 rfl kr rfl rfl sr rfl rfl sr (by simp) sr ?_;refine C5 [4,5,6] [4,5] sr ?_;exact Ak (Ad sr rfl)
theorem A68(a:RI)(m:List Nat)(h1:a.ok 274877906944)(h2:Ed m)(h3:m.length<=274877906944)(j:Bg m≠0):AC prog 263 [a.v,(RI.mk false m).v] (fun r=>r=.tup [(nI (a.val/(Bg m:Int))).v,(nI (a.val%(Bg m:Int))).v,.bool true]):=by
 obtain⟨b,l⟩:=a;obtain⟨h1,k1⟩:=h1;simp only at h1 k1;have n:=Sj l m h1 h2 om;rw [Alb,if_neg j,Uw,Uw]at n;have i:=Ah l;have g:=Ah m;have e:=Ah (B1 (Bg l/Bg m));have f:=Ah (B1 (Bg l%Bg m));have l1:=Aj (K6 h1) k1;have l2:=Aj (K6 h2) h3;have lq:(B1 (Bg l/Bg m)).length<=274877906944:=Aj (Th (H6 _ _)) l1;have lr:(B1 (Bg l%Bg m)).length<=274877906944:=Aj (Th (Nat.mod_le _ _)) l1;have hl:(Au (B1 (Bg l%Bg m))).length=(B1 (Bg l%Bg m)).length:=sm;have hz:(B1 (Bg l%Bg m)).length=0↔Bg l%Bg m=0:=by rw [Ar];exact Uq
 show AC _ _ [.agg [.bool b,.ro 1 (Au l)],.agg [.bool false,.ro 1 (Au m)]] (fun r=>r=.tup [(nI (sgn b (Bg l)/(Bg m:Int))).v,(nI (sgn b (Bg l)%(Bg m:Int))).v,.bool true])
 by_cases k:b=false\/Bg l%Bg m=0
 ·obtain⟨s,w⟩:=A18 b (Ia j) k;rw [<- s,<- w];obtain⟨x,o,c,_⟩:=Eg (sgn b (Bg l/Bg m));obtain⟨t,u,d,_⟩:=Eg (sgn b (Bg l%Bg m));exact Axj b _ _ _ _ _ _ _ x t o u c d n i g e f hl (k.imp id hz.2) (Kc b _ om) (Kc b _ om)
 ·have hb:b=true:=by cases b<;>simp at k|-
  subst hb;have z:Bg l%Bg m≠0:=fun h=>k (.inr h)
  obtain⟨s,w⟩:=A19 (Ia j) z;rw [<- s,<- w];obtain⟨x,o,c,_⟩:=Eg (sgn true (Bg l/Bg m+1));obtain⟨t,u,d,_⟩:=Eg (sgn false (Bg m-Bg l%Bg m));have y:=Ar1 (B1 (Bg l/Bg m)) (B1 1) (Cr _) (Cr _) om (by rw [Ak8];decide);rw [C2,C2]at y;have hs:=Ar3 m (B1 (Bg l%Bg m)) h2 (Cr _) om om;rw [C2,Ar2,if_pos (Ie (Df _ (Ia j)))]at hs;have l5:=Ads lq (show(B1 1).length<=1 by rw [Ak8];decide);exact Axk _ _ _ _ _ _ _ _ _ _ x t o u c d n i g e f (Ah _) (Ah _) (Ah _) hl (fun h=>z (hz.1 h)) (Afh 1 dc) y hs (Kc true _ om) (Kc false _ (Aj (Th (Yk _ _)) om))
theorem A2a(b:Bool)(n d:Nat)(h:d≠0):(mkRat (sgn b n) d).floor=sgn b n/(d:Int):=by
 obtain⟨h1,h2⟩:=Ut b n d h;rw [Rat.floor_def,h1,h2];have f:n.gcd d≠0:=fun e=>h (Nat.gcd_eq_zero_iff.1 e).2
 obtain⟨c,i⟩:=Nat.gcd_dvd_left n d;obtain⟨d',j⟩:=Nat.gcd_dvd_right n d;generalize n.gcd d=g at*;subst i;subst j;have a:0<g:=Ia f;rw [Kh _ a,Kh _ a];have e:sgn b (g*c)=(g:Int)*sgn b c:=by unfold sgn;cases b<;>simp [Vt]
 rw [e,Fi,Int.mul_ediv_mul_of_pos _ _ (by omega)]
theorem Axl(a:RR)(h1:a.ok 274877906944):AC prog 230 [a.v] (fun r=>r=(nI a.val.floor).v):=by
 have i:=Mp a h1.lim;have j:=RR.p_ok h1 dc;have y:=RR.p_val a;have o:=RR.p_ne a;rw [pV]at i;have s:=RR.vp a;have z:a.v=.agg [.bool a.num.neg,.ro 1 (Au a.num.mag),.ro 1 (Au a.den)]:=rfl;rw [z]at i s|-;rw [<- y];generalize a.p=a' at*;clear y h1;obtain⟨x,d⟩:=a';simp only at i o;have w:=Sl d j.lim (Aj j.len dc)
 have n:nI (Bg d)=⟨false,B1 (Bg d)⟩:=by
  rw [nI,Es];congr 1
 have f:=A68 x (B1 (Bg d)) j.num (Cr _) (Aj (K6 j.lim) j.len) (by rw [C2];exact o);rw [<- n,C2]at f;show AC _ _ _ (fun r=>r=(nI (mkRat (sgn x.neg (Bg x.mag)) (Bg d)).floor).v)
 rw [A2a _ _ _ o];have t:x.val=sgn x.neg (Bg x.mag):=rfl;rw [t]at f;obtain⟨c,lw,m,af⟩:=Eg (sgn x.neg (Bg x.mag)/(Bg d:Int));obtain⟨c3,ab,h,u⟩:=Eg (sgn x.neg (Bg x.mag)%(Bg d:Int));obtain⟨c2,aa,e,g⟩:=Eg (Bg d:Int);rw [m,e,h]at f;rw [e]at w;rw [m];have hx:=Ah x.mag;have l:=Ah d;have ex:x.v=.agg [.bool x.neg,.ro 1 (Au x.mag)]:=rfl;rw [ex]at i f;clear z ex m e h t;generalize Au x.mag=xv,Au d=ad,Au a.num.mag=av,Au a.den=ae at*;refine Ay func230 (fun w0 N0=>?_);refine Aa [1,2] [1,2] sr (Ab (Ac (Am 1 sr ?_)));refine Ai i func86 ?_ (hp:=by simpa using s);refine Ag [2,3,4] [2,3] sr ?_;refine Ab (V6 (.take 1 [] (.take 2 [] (.take 0 [5,6] (.take 3 [] (.take 4 [] (.take 5 [] (.take 6 [] (.take 7 [] (.alt 8 (.take 9 [] (.take 10 [] (.take 11 [] (.take 12 [] .done)))) (.alt 9 (.take 8 [] (.take 10 [] (.take 11 [] (.take 12 [] .done)))) .stop)))))))))) Dm kr ?_);refine Tf sr ?_;refine Anx (fun hg=>w) func134 rfl kr rfl rfl sr rfl rfl sr (by simp) sr ?_;refine Tf sr ?_;refine Anx (fun hg=>f) func263 rfl kr rfl rfl sr rfl rfl sr (by simp) sr ?_;refine Py (L:=[2,5]) (M:=[2,5]) sr ?_;intro T hT;have k:=(show T=_ by simpa using hT);subst k;exact Aa [2] [2] sr (Ak (Ad sr rf))
end Go.Proofs.YtpaccopbbffkaaaGreatDoor
namespace Go.Proofs
open Go.Shelf
def Tryz.lays125_ren:Go.Shelf.Ren:=⟨fun|125=>146|128=>188|129=>189|n=>n,fun|46=>246|3=>3|51=>149|53=>42|4=>4|5=>5|9=>9|n=>n,fun|n=>n⟩
theorem Tryz.lays125:Go.Proofs.Lays.n125 prog lays125_ren:=Go.ly
theorem Tryz.bits_Len(x:Int)(w:World)(a:0<=x)(h1:x<=18446744073709551615):
  Calls prog 146 #[.int .u64 x] w fun e w'=>e=.returned (.int .i64 (Lib.bitLen x.toNat))/\w'=w:=Any.bits_Len lays125 x w a h1
def Tryz.lays219_ren:Go.Shelf.Ren:=⟨fun|219=>250|217=>286|225=>287|224=>288|267=>289|266=>305|314=>306|n=>n,fun|9=>9|3=>3|4=>4|5=>5|46=>246|146=>399|51=>149|n=>n,fun|1=>0|n=>n⟩
def Tryz.lays144_ren:Go.Shelf.Ren:=⟨fun|144=>178|143=>214|219=>250|217=>286|225=>287|224=>288|267=>289|266=>305|314=>306|n=>n,fun|9=>9|4=>4|3=>3|5=>5|46=>246|146=>399|51=>149|n=>n,fun|1=>0|n=>n⟩
theorem Tryz.lays144:Go.Proofs.Lays.n144 prog lays144_ren:=Go.ly
open Go.RowKit Go.Lib in
theorem Tryz.strings_Contains(s sub:ByteArray)(m:Int)(w:World)(hs:s.size<4294967281)(hm:w.cell? ⟨0,0,none⟩=some (.int .i64 m)):
  Calls prog 178 #[.string s,.string sub] w fun e w'=>e=.returned (.bool (Lib.contains s.data.toList sub.data.toList))/\w'=w:=Any.strings_Contains lays144 s sub m w hs hm
def Tryz.lays145_ren:Go.Shelf.Ren:=⟨fun|145=>173|220=>211|219=>250|217=>286|225=>287|224=>288|267=>289|266=>305|314=>306|n=>n,fun|9=>9|4=>4|59=>277|3=>3|5=>5|46=>246|146=>399|51=>149|n=>n,fun|1=>0|n=>n⟩
theorem Tryz.lays145:Go.Proofs.Lays.n145 prog lays145_ren:=Go.ly
open Go.RowKit Go.Lib in
theorem Tryz.strings_Cut(s sep:ByteArray)(m:Int)(w:World)(hs:s.size<4294967281)(hm:w.cell? ⟨0,0,none⟩=some (.int .i64 m)):
  Calls prog 173 #[.string s,.string sep] w fun e w'=>e=.returned (.tuple #[.string ⟨(Lib.cut s.data.toList sep.data.toList).1.toArray⟩,.string ⟨(Lib.cut s.data.toList sep.data.toList).2.1.toArray⟩,.bool (Lib.cut s.data.toList sep.data.toList).2.2])/\∃n,w'=w.drewN n:=Any.strings_Cut lays145 s sep m w hs hm
def Tryz.lays189_ren:Go.Shelf.Ren:=⟨fun|189=>101|125=>146|257=>145|128=>188|129=>189|294=>179|295=>180|296=>181|297=>182|298=>183|299=>184|216=>185|300=>186|301=>187|328=>220|329=>221|330=>222|331=>223|332=>224|215=>204|343=>256|n=>n,fun|28=>25|3=>3|46=>246|0=>0|51=>149|53=>42|4=>4|183=>282|182=>281|131=>261|5=>5|9=>9|218=>320|222=>324|228=>352|229=>353|n=>n,fun|n=>n⟩
theorem Tryz.lays189:Go.Proofs.Lays.n189 prog lays189_ren:=Go.ly
open Go.Sort Go.RowKit in
theorem Tryz.slices_Sort_int(blk off cap:Nat)(zs:List Int)(w:World)(hH:Holds (Value.int .i64) w blk off zs.toArray)(hblk:blk<w.heap.size)(hsz:zs.length<4611686018427387904):
  Calls prog 101 #[.slice (some ⟨blk,off,none⟩) zs.length cap] w fun e w'=>
   e=.returned (.tuple #[])/\∃n os,w'=grow (putRow (Value.int .i64) (Sort.ahead w n) blk off (zs.mergeSort fun x y=>decide (x<=y)).toArray) os:=Any.slices_Sort_int lays189 blk off cap zs w hH hblk hsz
def Tryz.lays154_ren:Go.Shelf.Ren:=⟨fun|154=>174|138=>212|165=>213|143=>214|166=>215|197=>216|169=>217|195=>251|218=>252|240=>253|241=>254|219=>250|260=>255|276=>290|277=>291|217=>286|225=>287|224=>288|267=>289|266=>305|314=>306|n=>n,fun|9=>9|3=>3|4=>4|72=>310|0=>0|76=>314|105=>316|21=>21|5=>5|70=>308|20=>20|37=>162|75=>313|127=>351|164=>382|46=>246|119=>385|139=>388|138=>387|146=>399|51=>149|80=>318|n=>n,fun|1=>0|3=>1|4=>2|n=>n⟩
def Tryz.lays155_ren:Go.Shelf.Ren:=⟨fun|155=>138|154=>174|138=>212|165=>213|143=>214|166=>215|197=>216|169=>217|195=>251|218=>252|240=>253|241=>254|219=>250|260=>255|276=>290|277=>291|217=>286|225=>287|224=>288|267=>289|266=>305|314=>306|n=>n,fun|9=>9|3=>3|4=>4|72=>310|0=>0|76=>314|105=>316|21=>21|5=>5|70=>308|20=>20|37=>162|75=>313|127=>351|164=>382|46=>246|119=>385|139=>388|138=>387|146=>399|51=>149|80=>318|n=>n,fun|1=>0|3=>1|4=>2|n=>n⟩
theorem Tryz.lays155:Go.Proofs.Lays.n155 prog lays155_ren:=Go.ly
theorem Tryz.Builder_Extra_155:Builder.Extra prog lays155_ren:=Go.lx
open Go.RowKit Go.Lib in
theorem Tryz.strings_ReplaceAll(s old new:ByteArray)(m:Int)(w:World)(hs:s.size<4294967281)(hm:w.cell? ⟨0,0,none⟩=some (.int .i64 m))(h1:1<=old.size)(hlen:s.size+Lib.countB s old*new.size<=140737488355328):
  Calls prog 138 #[.string s,.string old,.string new] w fun e w'=>
   e=.returned (.string ⟨(Lib.replaceAll s.data.toList old.data.toList new.data.toList).toArray⟩)/\Below w.heap.size w w':=Any.strings_ReplaceAll lays155 Builder_Extra_155 s old new m w hs hm h1 hlen
def Tryz.laysNm220_ren:Go.Shelf.Ren:=⟨fun|20=>102|n=>n,fun|22=>25|3=>3|4=>4|0=>0|n=>n,fun|n=>n⟩
theorem Tryz.laysNm220:Go.Proofs.Lays2.n20 prog laysNm220_ren:=Go.ly
open Go.RowKit Go.Lib Go.Sort in
theorem Tryz.slices_Compact_int(blk off cap:Nat)(zs:List Int)(w:World)(hH:Holds (Value.int .i64) w blk off zs.toArray)(hsz:zs.length<=9223372036854775807)(hcap:zs.length<=cap):
  Calls prog 102 #[.slice (some ⟨blk,off,none⟩) zs.length cap] w fun e w'=>e=.returned (.slice (some ⟨blk,off,none⟩) (Lib.compact zs).length cap)/\∃q,w'=putRow (Value.int .i64) (Sort.ahead w q) blk off (Lib.compact zs++List.replicate (zs.length-(Lib.compact zs).length) 0).toArray:=Any.slices_Compact_int laysNm220 blk off cap zs w hH hsz hcap
open Go.RowKit Go.Lib Go.Sort in
theorem Tryz.slices_Compact_int_empty(a:Option Addr)(cap:Nat)(w:World):
  Calls prog 102 #[.slice a 0 cap] w fun e w'=>e=.returned (.slice a 0 cap)/\w'=w:=Any.slices_Compact_int_empty laysNm220 a cap w
end Go.Proofs
set_option linter.unusedSimpArgs false
set_option maxRecDepth 4000
namespace Go.Proofs.YtpaccopbbffkaaaGreatDoor
open Go.Eng Go.Eng.Limb Go.RowKit Go.Sort Go.Lib
def gv:Gp where
 P:=fun w=>∃m,w.cell? ⟨0,0,none⟩=some (.int .i64 m)
 bl:=fun b=>b=0
 stable:=by
  rintro w w'⟨m,h1⟩hk;refine⟨m,?_⟩;rw [World.cell?_of_block (hk 0 rfl)];exact h1
 low:=by
  rintro w⟨m,h1⟩b rfl
  rcases Dn 0 w.heap.size with h|h
  ·exact h
  ·simp [World.cell?,C0 h]at h1
theorem Aoh{w:World}{N:Nat->Prop}{xs:List Value}{v u:V}(a:xs.length= [v,u].length)(hp:∀(i:Nat)x z,xs[i]? =some x->[v,u][i]? =some z->Pur w N x z):∃x y,xs= [x,y]/\Pur w N x v/\Pur w N y u:=by
 cases xs with
 |nil=>simp at a
 |cons x r=>cases r with
  |nil=>simp at a
  |cons y r=>cases r with
   |nil=>exact⟨x,y,rfl,hp 0 x v rfl rfl,hp 1 y u rfl rfl⟩
   |cons _ _ =>simp at a
theorem Aoi(w:World)(k:Nat):Below w.heap.size w (w.drewN k):=by
 have:=Lib.below_grow w.heap.size w (A8 _) k #[];simpa using this
theorem A69(s a:List UInt8)(hs:s.length<4294967281):Hm gv prog 173 [.str s,.str a] (fun r=>r=.tup [.str (Lib.cut s a).1,.str (Lib.cut s a).2.1,.bool (Lib.cut s a).2.2]):=by
 intro w N xs h _ j hp;obtain⟨x,y,rfl,d,g⟩:=Aoh j hp;cases d;cases g
 obtain⟨m,l⟩:=h;refine(strings_Cut ⟨s.toArray⟩ ⟨a.toArray⟩ m w (by rw [Lib.size_eq];simpa using hs) l).mono ?_;rintro e w'⟨rfl,k,rfl⟩;refine⟨_,_,rfl,rfl,.tup _ _ rfl ?_,Aoi w k⟩;intro i x c d f
 rcases i with _ |_ |_ |i
 ·simp at d f;subst d;subst f;exact .str _
 ·simp at d f;subst d;subst f;exact .str _
 ·simp at d f;subst d;subst f;exact .bool _
 ·simp at d
end Go.Proofs.YtpaccopbbffkaaaGreatDoor
set_option linter.unusedSimpArgs false
set_option maxRecDepth 4000
namespace Go.Proofs.YtpaccopbbffkaaaGreatDoor
open Go.Eng Go.Eng.Limb
abbrev Ng(l:List (List UInt8)):List V:=l.map V.str
theorem Bfk{l:List UInt8}{k:Nat}(h:k<l.length):Hs l k=some l[k]:=by rw [C1];simp [h]
def okB(c:UInt8):Bool:=(decide (65<=c.toNat)&&decide (c.toNat<=90))||(decide (48<=c.toNat)&&decide (c.toNat<=57))
def Afj(s:List UInt8):Bool:=s.all okB&&(decide (1<=s.length)&&decide (s.length<=8))
theorem Ac6(s:List UInt8)(hs:s.length<=1000):AC prog 136 [.str s] (fun r=>r=.bool (Afj s)):=by
 have m:=fun(k:Nat)(h:k<s.length)=>Bfk h
 refine Ay func136 (fun w0 N0=>?_);refine Aa [0] [] sr (Ab (Aa [0,3] [] sr (Ap (Bq (fun k nx=>⟨[(0,.str s),(3,.int .i64 k)],[],nx,40⟩) (fun k=>(s.take k).all okB=true) s.length _ sm (AS.le_refl _) ?_))));intro k nx hk g;refine Ab (Aa [0,3,7] [] sr ?_)
 refine Ao (fun h1=>Ae ?_) (fun h1=>?_)
 ·have a:k<s.length:=by simp at h1;omega
  have j:=m k a;have t:=A7 (k:=k) om;have e:=A3 (l:=s) (i:=k) a;have d:s[k]∈s:=Aw a;generalize s[k]=c at j e d;refine Ab (Ap (Aa [0,3,31] [] (by simp [j,a]<;>rfl) ?_))
  refine Ao (fun h2=>?_) (fun h2=>Ae ?_)
  ·refine Aa [2] [] sr ?_;refine Ak (Ad sr ?_);have:s.all okB=false:=Jr.2 ⟨c,d,by simp [okB]at h2|-;omega⟩;simp [Afj,this]
  have n:okB c=true:=by simp [okB]at h2|-;omega
  refine A2 [0,3] [] (by simp [t]<;>rfl) ?_;exact⟨a,by rw [e,Iw,g];simp [n],_,AS.le_refl _⟩
 ·refine A9 ?_;refine Aa [2] [] sr ?_;refine Ak (Ad sr ?_);have f:k=s.length:=by simp at h1;omega
  rw [f,Bo]at g;have u:((1:Int)<=s.length)=(1<=s.length):=by simp;omega
  have o:((s.length:Int)<=8)=(s.length<=8):=by simp;omega
  simp [Afj,g,u,o]
def Pr:Nat->List (List UInt8)->List UInt8->List (List UInt8)× Nat × Bool
 |0,done,_ =>(done,0,false)
 |n+1,done,a=>
  if(Lib.cut a [46]).2.2=false then(done++[(Lib.cut a [46]).1]++List.replicate n [],done.length+1,true)
  else Pr n (done++[(Lib.cut a [46]).1]) (Lib.cut a [46]).2.1
def A7a(p:List (List UInt8)× Nat × Bool):V:=.tup [.agg (Ng p.1),.int .i64 p.2.1,.bool p.2.2]
theorem Aux(s a:List UInt8):(Lib.cut s a).2.1.length<=s.length/\(Lib.cut s a).1.length<=s.length:=by
 unfold Lib.cut
 split
 ·simp only [B9,F9];omega
 ·simp
theorem Aoj:∀(n:Nat)(done:List (List UInt8))(a:List UInt8),(Pr n done a).1.length=done.length+n
 |0,done,a=>by simp [Pr]
 |n+1,done,a=>by
  rw [Pr]
  split
  ·simp
  ·rw [Aoj n];simp;omega
theorem Bbu{α:Type}:∀(l:List α),l.length=5->∃a b c d e,l= [a,b,c,d,e]
 | [a,b,c,d,e],_ =>⟨a,b,c,d,e,rfl⟩
theorem Alf(g:List UInt8)(hs:g.length<=1000):Hm gv prog 135 [.str g] (fun r=>r=A7a (Pr 5 [] g)):=by
 refine Bx func135 (fun w0 N0 hG=>?_);refine Aa [0,2] [2] sr (Aa [0,2,5] [2,5] sr (Ab (Aa [0,2,5,10] [2,5] sr (Ap ?_))))
 refine Dr (fun p:List (List UInt8)× List UInt8 × Nat=>⟨[(0,.str p.2.1),(2,.bp 2 0 5 0 0),(5,.bp 5 3 5 0 0),(10,.int .i64 p.1.length)],[(2,⟨0,5,230,[.agg [.str [],.str [],.str [],.str [],.str []]]⟩),(5,⟨3,5,230,[.agg (Ng (p.1++List.replicate (5-p.1.length) []))]⟩)],p.2.2,30⟩)
  (fun p=>p.1.length<=5/\p.2.1.length<=1000/\Pr (5-p.1.length) p.1 p.2.1=Pr 5 [] g) (fun p=>5-p.1.length) ([],g,_) ⟨by simp,hs,rfl⟩ (AS.le_refl _) ?_
 rintro⟨done,cd,nx⟩⟨hd,ah,l⟩;simp only at hd ah l;have s:(Ng (done++List.replicate (5-done.length) [])).length=5:=by simp;omega
 by_cases af:done.length<5
 ·obtain⟨n,hn⟩:∃n,5-done.length=n+1:=⟨4-done.length,by omega⟩;rw [hn]at l s|-;rw [Pr]at l;have hc:=A69 cd [46] om;have m:=Aux cd [46];have w:(Ng (done++List.replicate (n+1) [])).take done.length=Ng done:=sm
  have t:(Ng (done++List.replicate (n+1) [])).drop (done.length+1)=Ng (List.replicate n []):=by
   have e:Ng (done++List.replicate (n+1) [])=Ng done++(V.str []::Ng (List.replicate n [])):=by simp [G7]
   have hl:done.length+1=(Ng done++[V.str []]).length:=sm;have e2:Ng done++(V.str []::Ng (List.replicate n []))=(Ng done++[V.str []])++Ng (List.replicate n []):=sm;rw [e,e2,hl,List.drop_left]
  generalize Lib.cut cd [46]=ct at hc l m;obtain⟨i,tl,more⟩:=ct;simp only at hc l m;obtain⟨k,hk⟩:∃k,done.length=k:=⟨_,rfl⟩;have x:Ng (done++[i]++List.replicate n [])=Ng done++ .str i::Ng (List.replicate n []):=sm;generalize ai:Ng (done++List.replicate (n+1) [])=av at s w t|-;rw [hk]at w t af hn|-;have ag:(k:Int)<5:=om;have aa:=A7 (k:=k) om;have ab:k<=4:=om;have u:av.take k++ .str i::av.drop (k+1)=Ng (done++[i]++List.replicate n []):=by rw [w,t,x]
  have j:more=false->A7a (Pr 5 [] g)=.tup [.agg (Ng (done++[i]++List.replicate n [])),.int .i64 (k+1:Nat),.bool true]:=fun h=>by
   rw [<- l,if_pos h,A7a,hk]
  have z:more≠false->Pr n (done++[i]) tl=Pr 5 [] g:=fun h=>by rw [if_neg h]at l;exact l
  have ad:(done++[i]++List.replicate n []).length=5:=by simp;omega
  obtain⟨a,b,c,d,f,y⟩:=Bbu _ ad;rw [y]at u j;simp only [Ng,Cw,Gx]at u j;refine Aa [0,2,5,10,11] [2,5] sr (Ab (A6 rfl (fun h1=>Ae ?_) (fun h1=>by simp at h1;omega)));refine Ab (Ap (Aa [0,2,5,6,10] [2,5] sr (Ab (Ac (Am 1 sr ?_)))));refine Be hG hc func173 ?_;refine Ag [2,5,6,7,8,9,10] [2,5] sr ?_;refine Aa [2,5,6,8,9,10] [2,5] (by simp [ag,s,ab,u]<;>rfl) (Ab (Aa [2,5,6,8,10,23] [2,5] sr ?_))
  refine Ao (fun h2=>?_) (fun h2=>Ae ?_)
  ·refine Aa [2,3,4] [2] (by simp [aa]<;>rfl) ?_;refine Ak (Ad sr ?_);rw [j (by simpa using h2)];have o:((k+1:Nat):Int)=(k:Int)+1:=om;rw [o]
  refine A2 [0,2,5,10] [2,5] sr (A2 [0,2,5,10] [2,5] (by simp [aa]<;>rfl) ?_)
  refine⟨(done++[i],tl,nx+1+2+9+4+2+2+2),⟨by simp;omega,by simp only;omega,?_⟩,by simp;omega,?_⟩
  ·simp only [Bi,Bc,B0,hk];rw [show 5-(k+(0+1))=n by omega];exact z (by simpa using h2)
  ·have o:((k+1:Nat):Int)=(k:Int)+1:=om;have ae:5-(k+1)=n:=om;simp only [Bi,Bc,B0,hk,Ds,o,ae,y,Ng,Cw,Gx];exact AS.le_refl _
 ·have h5:done.length=5:=om;obtain⟨a,b,c,d,f,rfl⟩:=Bbu _ h5;rw [h5,Gf,Pr]at l;refine Aa [0,2,5,10,11] [2,5] sr (Ab (A6 rfl (fun h1=>by simp at h1) (fun h1=>?_)));refine A9 ?_;refine Aa [2,3,4] [2] sr ?_;refine Ak (Ad sr ?_);rw [<- l];rfl
theorem Afk:∀(n:Nat)(done:List (List UInt8))(c:List UInt8),(∀x∈done,x.length<=1000)->c.length<=1000->∀x∈(Pr n done c).1,x.length<=1000
 |0,done,c,h,_ =>by simpa [Pr]using h
 |n+1,done,c,h,hc=>by
  have d:=Aux c [46];rw [Pr]
  split
  ·intro x a
   rcases B3.1 a with a|a
   ·rcases B3.1 a with a|a
    ·exact h x a
    ·simp at a;subst a;omega
   ·have:=(List.mem_replicate.1 a).2;subst this;simp
  ·refine Afk n _ _ (fun x a=>?_) om
   rcases B3.1 a with a|a
   ·exact h x a
   ·simp at a;subst a;omega
theorem A2b:∀(n:Nat)(done:List (List UInt8))(a:List UInt8),(Pr n done a).2.1<=done.length+n
 |0,done,a=>by simp [Pr]
 |n+1,done,a=>by
  rw [Pr]
  split
  ·simp
  ·have:=A2b n (done++[(Lib.cut a [46]).1]) (Lib.cut a [46]).2.1;simp at this;omega
def Ow(a:List UInt8):Bool:=decide (a.length<=24)&&((Pr 5 [] a).2.2&&((Pr 5 [] a).1.take (Pr 5 [] a).2.1).all Afj)
theorem X0(e:List UInt8):Hm gv prog 90 [.str e] (fun r=>r=.bool (Ow e)):=by
 refine Bx func90 (fun w0 N0 hG=>?_);refine Aa [0] [] sr (Ab (Aa [0,10] [] sr ?_))
 refine Ao (fun h1=>?_) (fun h1=>Ae ?_)
 ·refine Aa [2] [] sr ?_;refine Ak (Ad sr ?_);have:¬e.length<=24:=by simp at h1;omega
  simp [Ow,this]
 have aj:e.length<=24:=by simp at h1;omega
 have y:=Alf e om;have o:=Afk 5 [] e sm om;have hn:=A2b 5 [] e;have u:=Aoj 5 [] e;have g:Ow e=((Pr 5 [] e).2.2&&((Pr 5 [] e).1.take (Pr 5 [] e).2.1).all Afj):=by simp [Ow,aj]
 generalize Pr 5 [] e=p at y o hn u g;obtain⟨A,n,ok⟩:=p;simp only [B0,Ds]at o hn u g;rw [A7a]at y;simp only at y;obtain⟨a,b,c,d,f,hA⟩:=Bbu A u;have ad:Ng A= [.str a,.str b,.str c,.str d,.str f]:=by rw [hA];rfl
 rw [ad]at y;refine Ab (Ac (Am 1 sr ?_));refine Be hG y func135 ?_;refine Ag [3,4,5] [3] sr ?_;refine Ab (Aa [3,4,18] [3] sr ?_)
 refine Ao (fun h2=>?_) (fun h2=>Ae ?_)
 ·refine Aa [2] [] sr ?_;refine Ak (Ad sr ?_);have:ok=false:=by simpa using h2
  simp [g,this]
 have ag:ok=true:=by simpa using h2
 rw [ag,Bool.true_and]at g;refine Bt 3 [3,4] [] sr ?_;have ah:(n:Int)<=5:=om;refine Ab (Aa [20,21,22] [] (by simp [ah]<;>rfl) ?_);have s:List.take n [V.str a,.str b,.str c,.str d,.str f]=Ng (A.take n):=by rw [<- ad];simp [Ng]
 have ai:(A.take n).length=n:=by simp;omega
 have m:=fun(k:Nat)(h:k<(A.take n).length)=>(show Hs (Ng (A.take n)) k=some (.str (A.take n)[k])by rw [C1,Ng,Bd,Al h];rfl)
 have ab:∀x∈A.take n,x.length<=1000:=fun x hx=>o x (Bz hx)
 have w:(Ng (A.take n)).length=n:=by simp;omega
 have af:min n 5=n:=om;simp only [s,af];generalize A.take n=sl at g ai m ab w|-;generalize Ng sl=sv at m w|-;refine Ap (Bq (fun k nx=>⟨[(20,.ro 1 sv),(21,.int .i64 n),(22,.int .i64 k)],[],nx,30⟩) (fun k=>(sl.take k).all Afj=true) n _ sm (AS.le_refl _) ?_);intro k nx hk hI;refine Aa [20,21,22,23] [] sr (Ab ?_)
 refine Ao (fun h3=>Ae ?_) (fun h3=>?_)
 ·have t:k<sl.length:=by simp at h3;omega
  have z:k<sv.length:=om;have ga:=m k t;have hw:=A7 (k:=k) om;have ae:=A3 (l:=sl) (i:=k) t;have j:sl[k]∈sl:=Aw t;have aa:=Ac6 sl[k] (ab _ j);generalize sl[k]=x at ga ae j aa;refine Ab (Ap (Aa [7,20,21,22] [] (by simp [ga,z]<;>rfl) (Ab (Ac (Am 1 sr ?_)))));refine Jk aa func136 rfl kr rfl rfl rfl rfl rfl sr ?_;refine Ag [20,21,22,28] [] sr ?_
  refine Ao (fun h4=>?_) (fun h4=>Ae ?_)
  ·refine Aa [2] [] sr ?_;refine Ak (Ad sr ?_);have:sl.all Afj=false:=Jr.2 ⟨x,j,by simpa using h4⟩;rw [g,this]
  refine A2 [20,21,22] [] (by simp [hw]<;>rfl) ?_;exact⟨by omega,by rw [ae,Iw,hI];simp;simpa using h4,_,AS.le_refl _⟩
 ·refine A9 ?_;refine Aa [2] [] sr ?_;refine Ak (Ad sr ?_);have ak:k=sl.length:=by simp at h3;omega
  rw [ak,Bo]at hI;rw [g,hI]
theorem Axm(t:TypeId)(cs:List V):Bl (.ifc t (.agg cs)) (.dm t cs):=by
 refine⟨fun w N x c=>?_,fun _ =>rfl⟩;cases c with
 |ifc _ y _ _ e=>cases e with
  |agg xs _ f d a=>exact .dm t xs cs f d a
def Aok(r:Ru):TypeId:=
 if r.kind=1 then 210 else if r.kind=2 then 212 else if r.kind=3 then 213 else if r.kind=4 then 214 else if r.kind=5 then 216 else if r.kind=6 then 218 else if r.kind=7 then 220 else if r.kind=8 then 221 else 223
def Afl(r:Ru):List V:=
 if r.kind=1 then [.int .i64 r.mn,.int .i64 r.mx,.fc 121 [] [.rp r.v],.str r.code]
 else if r.kind=2 then [.int .i64 r.mn,.int .i64 r.mx,.fn 124]
 else if r.kind=3 then [.int .i64 r.mn,.int .i64 r.mx,.fn 125]
 else if r.kind=4 then [.int .i64 r.mn,.int .i64 r.mx,.fn 126]
 else if r.kind=5 then [.int .i64 r.mn,.int .i64 r.mx,.fc 127 [] [.rp r.v],.int .i64 r.n]
 else if r.kind=6 then [.int .i64 r.mn,.int .i64 r.mx,.int .i64 r.n]
 else if r.kind=7 then [.int .i64 r.n]
 else if r.kind=8 then [.int .i64 r.n]
 else []
def X1(r:Ru):V:=.dm (Aok r) (Afl r)
theorem Abk(a b:Int):AC prog 343 [.agg [.int .i64 a,.int .i64 b]] (fun r=>r=.int .i64 (Afg a b)):=by
 unfold Afg;refine Ay func343 (fun w0 N0=>?_);refine Aa [1] [1] sr (Ab (Aa [1,20] [1] sr ?_))
 refine Ao (fun h1=>?_) (fun h1=>Ae ?_)
 ·exact Aa [2] [] sr (Ak (Ad sr (by rw [if_pos (by simp at h1;omega)])))
 rw [if_neg (by simp at h1;omega)];refine Ab (Aa [25] [] sr ?_)
 refine Ao (fun h2=>?_) (fun h2=>Ae ?_)
 ·exact Aa [2] [] sr (Ak (Ad sr (by rw [if_pos (by simpa using h2)])))
 exact Aa [2] [] sr (Ak (Ad sr (by rw [if_neg (by simpa using h2)])))
theorem Adu(n:Int):AC prog 59 [.int .i64 n] (fun r=>r=.bool (Wx n)):=by
 refine Ay func59 (fun w0 N0=>?_);refine Aa [0] [] sr ?_;exact Aa [2] [] sr (Ak (Ad sr (by simp [Wx])))
def J1(b:Bool):Int:=if b=true then 1 else 0
theorem Uz(b:Bool):AC prog 122 [.bool b] (fun r=>r=.int .i64 (J1 b)):=by
 unfold J1;refine Ay func122 (fun w0 N0=>?_);refine Aa [0] [] sr (Ab (Aa [3] [] sr ?_))
 refine Ao (fun h1=>?_) (fun h1=>Ae ?_)
 ·exact Aa [2] [] sr (Ak (Ad sr (by rw [if_pos h1])))
 exact Aa [2] [] sr (Ak (Ad sr (by rw [if_neg (by rw [h1];decide)])))
theorem A7b:Tg prog 210 "examboard/blueprint.check" 4 347 0 4:=by
 intro xs w e
 match xs,e with
 | [a,b,c,d],_ =>show _ =_;kernel_rfl
theorem A7c:Tg prog 212 "examboard/blueprint.check" 3 343 0 2:=by
 intro xs w d
 match xs,d with
 | [a,b,c],_ =>show _ =_;kernel_rfl
theorem A7d:Tg prog 213 "examboard/blueprint.check" 3 343 0 2:=by
 intro xs w d
 match xs,d with
 | [a,b,c],_ =>show _ =_;kernel_rfl
theorem A7e:Tg prog 214 "examboard/blueprint.check" 3 343 0 2:=by
 intro xs w d
 match xs,d with
 | [a,b,c],_ =>show _ =_;kernel_rfl
theorem A7f:Tg prog 216 "examboard/blueprint.check" 4 352 0 4:=by
 intro xs w e
 match xs,e with
 | [a,b,c,d],_ =>show _ =_;kernel_rfl
theorem A7g:Tg prog 218 "examboard/blueprint.check" 3 355 0 3:=by
 intro xs w d
 match xs,d with
 | [a,b,c],_ =>show _ =_;kernel_rfl
theorem A7h:Tg prog 220 "examboard/blueprint.check" 1 361 0 1:=by
 intro xs w c
 match xs,c with
 | [a],_ =>show _ =_;kernel_rfl
theorem A7i:Tg prog 221 "examboard/blueprint.check" 1 371 0 1:=by
 intro xs w c
 match xs,c with
 | [a],_ =>show _ =_;kernel_rfl
theorem A7j:Tg prog 223 "examboard/blueprint.check" 0 377 0 0:=by
 intro xs w a
 match xs,a with
 | [],_ =>show _ =_;kernel_rfl
theorem Bbv(a b:Int)(f:V)(c:List UInt8):Hm gv prog 347 [.agg [.int .i64 a,.int .i64 b,.fc 121 [] [.rp f],.str c]] (fun r=>r=.int .i64 (if Ow c=false then 2 else Afg a b)):=by
 have d:=X0 c;have e:=Abk a b;generalize Ow c=q at d|-;refine Bx func347 (fun w0 N0 g=>?_);refine Aa [1] [1] sr (Ab (Ab (Ac (Am 2 sr ?_))));refine Be g d func90 ?_;refine Ag [1,6] [1] sr ?_
 refine Ao (fun h1=>?_) (fun h1=>Ae ?_)
 ·exact Aa [2] [] sr (Ak (Ad sr (by rw [if_pos (by simpa using h1)])))
 rw [if_neg (by simpa using h1)];refine Ab (Ac (Am 3 sr ?_));refine Ai e func343 ?_;refine Ag [2] [] sr ?_;exact Ak (Ad sr rfl)
theorem Bbw(a b n:Int)(d:V):AC prog 352 [.agg [.int .i64 a,.int .i64 b,.fc 127 [] [.rp d],.int .i64 n]] (fun r=>r=.int .i64 (if n<1\/10<n then 3 else Afg a b)):=by
 have c:=Abk a b;refine Ay func352 (fun w0 N0=>?_);refine Aa [1] [1] sr (Ab (Aa [1,10] [1] sr ?_))
 refine Ao (fun h1=>?_) (fun h1=>Ae ?_)
 ·exact Aa [2] [] sr (Ak (Ad sr (by rw [if_pos (by simp at h1;omega)])))
 rw [if_neg (by simp at h1;omega)];refine Ab (Ac (Am 3 sr ?_));refine Ai c func343 ?_;refine Ag [2] [] sr ?_;exact Ak (Ad sr rfl)
theorem Bbx(a b n:Int):AC prog 355 [.agg [.int .i64 a,.int .i64 b,.int .i64 n]] (fun r=>r=.int .i64 (if Wx n=false\/a=0 then 3 else Afg a b)):=by
 have c:=Adu n;have d:=Abk a b;generalize Wx n=q at c|-;refine Ay func355 (fun w0 N0=>?_);refine Aa [1] [1] sr (Ab (Ab (Ac (Am 2 sr ?_))));refine Ai c func59 ?_;refine Ag [1,12] [1] sr ?_
 refine Ao (fun h1=>?_) (fun h1=>Ae ?_)
 ·exact Aa [2] [] sr (Ak (Ad sr (by rw [if_pos (by simpa using h1)])))
 rw [if_neg (by simpa using h1)];refine Ab (Ac (Am 2 sr ?_));refine Ai d func343 ?_;refine Ag [2] [] sr ?_;exact Ak (Ad sr rfl)
theorem Bby(n:Int):AC prog 361 [.agg [.int .i64 n]] (fun r=>r=.int .i64 (if Wx n=false then 3 else 0)):=by
 have a:=Adu n;generalize Wx n=q at a|-;refine Ay func361 (fun w0 N0=>?_);refine Aa [1] [1] sr (Ab (Ab (Ac (Am 2 sr ?_))));refine Ai a func59 ?_;refine Ag [6] [] sr ?_
 refine Ao (fun h1=>?_) (fun h1=>Ae ?_)
 ·exact Aa [2] [] sr (Ak (Ad sr (by rw [if_pos (by simpa using h1)])))
 exact Aa [2] [] sr (Ak (Ad sr (by rw [if_neg (by simpa using h1)])))
theorem Bbz(n:Int):AC prog 371 [.agg [.int .i64 n]] (fun r=>r=.int .i64 (if Wx n=false then 3 else 0)):=by
 have a:=Adu n;generalize Wx n=q at a|-;refine Ay func371 (fun w0 N0=>?_);refine Aa [1] [1] sr (Ab (Ab (Ac (Am 2 sr ?_))));refine Ai a func59 ?_;refine Ag [6] [] sr ?_
 refine Ao (fun h1=>?_) (fun h1=>Ae ?_)
 ·exact Aa [2] [] sr (Ak (Ad sr (by rw [if_pos (by simpa using h1)])))
 exact Aa [2] [] sr (Ak (Ad sr (by rw [if_neg (by simpa using h1)])))
theorem Bb0:AC prog 377 [.agg []] (fun r=>r=.int .i64 0):=by
 refine Ay func377 (fun w0 N0=>?_);refine Aa [] [] sr ?_;exact Aa [2] [] sr (Ak (Ad sr rf))
def Alg(r:Ru):Int:=
 if r.kind=1 then(if Ow r.code=false then 2 else Afg r.mn r.mx)
 else if r.kind=2\/r.kind=3\/r.kind=4 then Afg r.mn r.mx
 else if r.kind=5 then(if r.n<1\/10<r.n then 3 else Afg r.mn r.mx)
 else if r.kind=6 then(if Wx r.n=false\/r.mn=0 then 3 else Afg r.mn r.mx)
 else if r.kind=7\/r.kind=8 then(if Wx r.n=false then 3 else 0)
 else 0
theorem Ai9{r:Ru}(h:r.fits=true):r.kind=1\/r.kind=2\/r.kind=3\/r.kind=4\/r.kind=5\/r.kind=6\/r.kind=7\/r.kind=8\/r.kind=9:=by
 unfold Ru.fits at h
 (repeat' split at h)<;>first|omega|cases h
theorem X2{r:Ru}(h:r.fits=true):r.known:=by
 have:=Ai9 h;unfold Ru.known;omega
theorem A7k(r:Ru)(h:r.known):ICQ gv prog (X1 r) "examboard/blueprint.check" [] (fun x=>x=.int .i64 (Alg r)):=by
 unfold X1 Aok Afl Alg;have a:r.kind=1\/r.kind=2\/r.kind=3\/r.kind=4\/r.kind=5\/r.kind=6\/r.kind=7\/r.kind=8\/r.kind=9:=by unfold Ru.known at h;omega
 rcases a with e|e|e|e|e|e|e|e|e<;>simp only [e,if_true,if_false,Int.reduceEq,or_false,or_true]
 ·exact⟨210,_,347,_,0,4,.inl rfl,A7b,func347,rfl,by kernel_rfl,Bbv _ _ _ _⟩
 ·exact⟨212,_,343,_,0,2,.inl rfl,A7c,func343,rfl,by kernel_rfl,(Abk _ _).q gv⟩
 ·exact⟨213,_,343,_,0,2,.inl rfl,A7d,func343,rfl,by kernel_rfl,(Abk _ _).q gv⟩
 ·exact⟨214,_,343,_,0,2,.inl rfl,A7e,func343,rfl,by kernel_rfl,(Abk _ _).q gv⟩
 ·exact⟨216,_,352,_,0,4,.inl rfl,A7f,func352,rfl,by kernel_rfl,(Bbw _ _ _ _).q gv⟩
 ·exact⟨218,_,355,_,0,3,.inl rfl,A7g,func355,rfl,by kernel_rfl,(Bbx _ _ _).q gv⟩
 ·exact⟨220,_,361,_,0,1,.inl rfl,A7h,func361,rfl,by kernel_rfl,(Bby _).q gv⟩
 ·exact⟨221,_,371,_,0,1,.inl rfl,A7i,func371,rfl,by kernel_rfl,(Bbz _).q gv⟩
 ·exact⟨223,_,377,_,0,0,.inl rfl,A7j,func377,rfl,by kernel_rfl,Bb0.q gv⟩
theorem L1(g:Gr):AC prog 56 [g.v] (fun r=>r=.int .i64 (Lm g)):=by
 obtain⟨a,c⟩:=g;show AC _ _ [.agg [.ro 1 (As a),.ro 1 (As c)]] _
 have hp:∀(k:Nat)(h:k<a.length),Hs (As a) k=some (.int .i64 a[k]):=fun k h=>Fj h
 have hq:∀(k:Nat)(h:k<c.length),Hs (As c) k=some (.int .i64 c[k]):=fun k h=>Fj h
 have t:=A5 a;have lq:=A5 c;unfold Lm;simp only;generalize As a=pv at hp t|-;generalize As c=w at hq lq|-;refine Ay func56 (fun w0 N0=>?_);refine Aa [1] [1] sr (Ab (Aa [1,9] [1] sr ?_))
 refine Ao (fun h1=>?_) (fun h1=>Ae ?_)
 ·exact Aa [2] [] sr (Ak (Ad sr (by rw [if_pos (by simp at h1;omega)])))
 rw [if_neg (by simp at h1;omega)];refine Ab (Aa [1,13] [1] sr ?_)
 refine Ao (fun h2=>?_) (fun h2=>Ae ?_)
 ·exact Aa [2] [] sr (Ak (Ad sr (by rw [if_pos (by rw [<- t];simpa using h2)])))
 rw [if_neg (by rw [<- t];simpa using h2)];refine Ab (Aa [1,20] [1] sr ?_)
 refine Ao (fun h3=>?_) (fun h3=>Ae ?_)
 ·exact Aa [2] [] sr (Ak (Ad sr (by rw [if_pos (by simp at h3;omega)])))
 have ae:c.length=a.length:=by simp at h3;omega
 have ad:a.length<=21:=by simp at h1;omega
 rw [if_neg (by omega)];refine Ab (Aa [1,22,23,24] [1] sr (Ap (Bq (fun k nx=>⟨[(1,.bp 1 0 2 0 0),(22,.ro 1 pv),(23,.int .i64 a.length),(24,.int .i64 k)],[(1,⟨0,2,27,[.agg [.ro 1 pv,.ro 1 w]]⟩)],nx,71⟩) (fun k=>Rx (a.drop k) (c.drop k)=Rx a c) a.length _ sm (by rw [t];exact AS.le_refl _) ?_)));intro k nx hk i;refine Aa [1,22,23,24,25] [1] sr (Ab ?_)
 refine Ao (fun u=>Ae ?_) (fun u=>?_)
 ·have d:k<a.length:=by simp at u;omega
  have e:k<pv.length:=om;have s:k<w.length:=om;have j:=hp k d;have o:=hq k om;have hw:=A7 (k:=k) om;have f:=Aoc (l:=a) (m:=c) d om;generalize a[k]=p at j f;generalize c[k]=q at o f;refine Ab (Ap (Aa [1,3,4,22,23,24] [1] (by simp [j,e]<;>rfl) (Aa [1,22,23,24,50] [1] (by simp [o,s]<;>rfl) ?_)))
  refine Ao (fun z=>?_) (fun z=>Ae ?_)
  ·refine Aa [2] [] sr ?_;refine Ak (Ad sr ?_);have:Afc p q=true:=by simp [Afc]at z|-;omega
   rw [if_pos (by rw [<- i,f,this];rfl)]
  refine A2 [1,22,23,24] [1] (by simp [hw]<;>rfl) ?_;have:Afc p q=false:=by simp [Afc]at z|-;omega
  exact⟨d,by rw [<- i,f,this];rfl,_,AS.le_refl _⟩
 ·have ab:k=a.length:=by simp at u;omega
  rw [if_neg (by rw [<- i,ab,Ca];simp [Rx])];refine A9 ?_;refine Ab (Aa [1,5] [1] sr (Ap (Bq (fun k nx=>⟨[(1,.bp 1 0 2 0 0),(5,.int .i64 ((k:Int)+1))],[(1,⟨0,2,27,[.agg [.ro 1 pv,.ro 1 w]]⟩)],nx,71⟩) (fun k=>Uu (a.drop k)=Uu a) a.length _ sm (AS.le_refl _) ?_)));intro k nx hk i;refine Ab (Aa [1,5,56] [1] sr ?_)
  refine Ao (fun h6=>Ae ?_) (fun h6=>?_)
  ·have d:k+1<a.length:=by simp at h6;omega
   have e:(k:Int)+1<(pv.length:Int):=om;have n:(k:Int)<(pv.length:Int):=om;have aa:(0:Int)<=(k:Int)+1:=om;have x:((k:Int)+1).toNat=k+1:=om;have j:=hp k om;have o:=hp (k+1) d;have hw:IntKind.i64.wrap ((k:Int)+1+1)=(k:Int)+1+1:=Bb om om;have Pq:IntKind.i64.wrap (k:Int)=(k:Int):=Bb om om;have f:=Ary (l:=a) (k:=k) d;generalize a[k]=p at j f;generalize a[k+1]=q at o f;refine Ab (Ap (Di [(0,[]),(2,[]),(5,[]),(7,[]),(8,[]),(1,[]),(3,[]),(4,[]),(6,[]),(9,[]),(10,[]),(11,[])] [1,5,70] [1] Dm kr (by simp [j,o,Pq,e,n,aa,x]<;>rfl) ?_))
   refine Ao (fun h7=>?_) (fun h7=>Ae ?_)
   ·refine Aa [2] [] sr ?_;refine Ak (Ad sr ?_);have:decide (p<q)=false:=by simp at h7|-;omega
    rw [if_pos (by rw [<- i,f,this];rfl)]
   refine A2 [1,5] [1] (by simp [hw]<;>rfl) ?_;have:decide (p<q)=true:=by simp at h7|-;omega
   exact⟨by omega,by rw [<- i,f,this];simp,_,AS.le_refl _⟩
  ·refine A9 ?_;refine Aa [2] [] sr ?_;refine Ak (Ad sr ?_);have y:a.length<=k+1:=by simp at h6;omega
   rw [if_neg (by rw [<- i,Axb y];simp)]
theorem Qu(x:Int):Ov x 1=.tup [(nR x).v,.bool true]:=by
 have:mkRat (x*Hp 1) (1:Int).natAbs=(x:Rat):=by
  show mkRat (x*1) 1=_
  rw [Int.mul_one,Rat.mkRat_one]
 rw [Ov,if_neg dc,this]
theorem P4{x:Int}(h1: -18446744073709551616<=x)(h2:x<=18446744073709551616):P1 (x:Rat)<=3:=by
 have:=L0 h1 h2;have hd:(B1 (x:Rat).den).length<=3:=by rw [Rat.den_intCast,Ak8];decide
 rw [P1,Rat.num_intCast];omega
theorem Tj{z:Int}{d k:Nat}(h:d≠0)(h1:Oc z<=k)(h2:(B1 d).length<=k):P1 (mkRat z d)<=k:=by
 have e:sgn (decide (z<0)) z.natAbs=z:=by unfold sgn;split<;>rename_i h<;>simp at h<;>omega
 have:=Abg (b:=decide (z<0)) (n:=z.natAbs) h h1 h2
 rwa [e]at this
theorem L3{x y:Int}{i j:Nat}(h1:Oc x<=i)(h2:Oc y<=j):Oc (x*y)<=i+j:=by
 rw [Oc,Q6];exact Ns h1 h2
theorem Wc{n k:Nat}(h:(B1 n).length<=k):Oc (n:Int)<=k:=by rw [Oc,Es];exact h
theorem Adv{q:Rat}{k:Nat}(h:P1 q<=k):Oc q.num<=k:=by unfold P1 at h;omega
theorem Wd{q:Rat}{k:Nat}(h:P1 q<=k):(B1 q.den).length<=k:=by unfold P1 at h;omega
theorem Alh{a b:Rat}{i j:Nat}(h1:P1 a<=i)(h2:P1 b<=j):P1 (a+b)<=i+j+1:=by
 rw [Rat.add_def'];refine Tj (Jl a.den_nz b.den_nz) ?_ (Aj (Ns (Wd h1) (Wd h2)) om);refine Ti (L3 (Adv h1) (Wc (Wd h2))) ?_;exact Aj (L3 (Adv h2) (Wc (Wd h1))) om
theorem Auy{a b:Rat}{i j:Nat}(h1:P1 a<=i)(h2:P1 b<=j):P1 (a*b)<=i+j:=by
 rw [Rat.mul_def'];exact Tj (Jl a.den_nz b.den_nz) (L3 (Adv h1) (Adv h2)) (Ns (Wd h1) (Wd h2))
theorem Auz{a b:Rat}{i j:Nat}(h1:P1 a<=i)(h2:P1 b<=j):P1 (a-b)<=i+j+1:=by
 rw [Rat.sub_eq_add_neg];exact Alh h1 (by rw [Ald];exact h2)
theorem A7l{a:Rat}{i:Nat}(h:P1 a<=i):P1 (Sh a)<=i:=by
 unfold Sh;split
 ·rw [Ald];exact h
 ·exact h
theorem Aol(p:Int)(hp: -1000<=p/\p<=1000)(q:RR)(c:q.ok 34359738368):AC prog 198 [.int .i64 p,q.v] (fun r=>r=(nR (Sh (p-q.val))).v):=by
 have k:=Ux p 1 om om dc dc;rw [Qu]at k;have d:=P4 (x:=p) om om;have h:(nR (p:Rat)).ok 68719476736:=Na (Aj d dc);have hs:=A63 (nR p) q h ⟨⟨c.num.1,Aj c.num.2 dc⟩,c.lim,Aj c.len dc⟩;have t:(nR ((p:Rat)-q.val)).ok 1099511627776:=Na (Aj (Auz d (RR.sz c dc)) dc);have g:=A67 (nR ((p:Rat)-q.val)) t;rw [Me]at g hs;have e:q.v=.agg [.bool q.num.neg,.ro 1 (Au q.num.mag),.ro 1 (Au q.den)]:=rfl;have a:=Ah q.num.mag;have f:=Ah q.den;rw [e]at hs|-;clear e t;obtain⟨c1,l1,d1,j,i,o⟩:=Lo (p:Rat);obtain⟨c2,l2,d2,l,s,m⟩:=Lo ((p:Rat)-q.val);obtain⟨c3,l3,d3,n,u,w⟩:=Lo (Sh ((p:Rat)-q.val));rw [j]at k hs;rw [l]at hs g;rw [n]at g|-;generalize Au q.num.mag=qa at hs a|-;generalize Au q.den=qb at hs f|-;refine Ay func198 (fun w0 N0=>?_);refine Aa [0,3,4] [3,4] sr (Ab (Ac (Am 1 sr ?_)));refine Ai k func88 ?_;refine Ag [3,4,5] [3,4,5] sr ?_;refine Ab (Ac (Am 2 sr ?_));refine Ai hs func227 ?_ (hp:=by simp);refine Ai g func226 ?_ (hp:=by simp);refine Ag [4] [4] sr ?_;exact Ak (Ad sr rfl)
theorem A2c{c:Nat}{r:List Int}(h:r.length≠c):Abh c r=1:=by unfold Abh;rw [if_pos h]
theorem Rz(m:Mo)(n:Int):AC prog 91 [moV m,.int .i64 n] (fun r=>r=.int .i64 (Ln m n)):=by
 have hn:=fun(k:Nat)(h:k<m.length)=>Sg h
 have hl:=Lz m;unfold moV Ln;generalize Ek m=s at hn hl|-;refine Ay func91 (fun w0 N0=>?_);refine Aa [1,2] [2] sr (Ab (Aa [2,23] [2] sr ?_))
 refine Ao (fun h1=>?_) (fun h1=>Ae ?_)
 ·exact Aa [4] [] sr (Ak (Ad sr (by rw [if_pos (by simp at h1;omega)])))
 have ag:1<=n/\n<=21/\(m.length:Int)=n:=by simp at h1;omega
 rw [if_neg (by omega)];have i:0<m.length:=om;have g0:=hn 0 i;have ae:0<s.length:=om
 have hc:Wv m=m[0].length:=by
  cases m with
  |nil=>simp at i
  |cons r m=>rfl
 rw [hc];have li:=A5 m[0];generalize As m[0]=iv at g0 li;generalize ai:m[0].length=a at li|-;refine Aa [2,5] [2] (by simp [g0,ae]<;>rfl) (Ab (Aa [2,5,34] [2] sr ?_))
 refine Ao (fun h2=>?_) (fun h2=>Ae ?_)
 ·exact Aa [4] [] sr (Ak (Ad sr (by rw [if_pos (by simp at h2;omega)])))
 have af:2<=a/\a<=6:=by simp at h2;omega
 rw [if_neg (by omega)];refine Ab (Aa [5,36,37,38] [] sr (Ap (Bq (fun k nx=>⟨[(5,.int .i64 a),(36,.ro 1 s),(37,.int .i64 m.length),(38,.int .i64 k)],[],nx,65⟩) (fun k=>Kr (Abh a) (m.drop k)=Kr (Abh a) m) m.length _ sm (by rw [hl,li];exact AS.le_refl _) ?_)));intro k nx hk e;refine Aa [5,36,37,38,39] [] sr (Ab ?_)
 refine Ao (fun h3=>Ae ?_) (fun h3=>?_)
 ·have f:k<m.length:=by simp at h3;omega
  have g:k<s.length:=om;have gk:=hn k f;have hw:=A7 (k:=k) om;rw [Ou _ f]at e;generalize m[k]=r at gk e;have hr:=fun(j:Nat)(h:j<r.length)=>Fj h
  have lr:=A5 r;generalize As r=rv at gk hr lr;refine Ab (Ap (Aa [5,7,36,37,38] [] (by simp [gk,g]<;>rfl) (Ab (Aa [5,7,36,37,38,45] [] sr ?_))))
  refine Ao (fun w=>?_) (fun w=>Ae ?_)
  ·refine Aa [4] [] sr ?_;refine Ak (Ad sr ?_);have:Abh a r=1:=A2c (by simp at w;omega);rw [<- e,if_pos (by rw [this];decide),this]
  have ah:r.length=a:=by simp at w;omega
  refine Aa [5,7,8,36,37,38] [] sr (Ab (Aa [5,8,36,37,38,46,47,48] [] sr (Ap ?_)))
  refine Dr (fun t:Nat × Nat × Int=>⟨[(5,.int .i64 a),(8,.int .i64 t.2.2),(36,.ro 1 s),(37,.int .i64 m.length),(38,.int .i64 k),(46,.ro 1 rv),(47,.int .i64 r.length),(48,.int .i64 (t.1:Nat))],[],t.2.1,65⟩)
   (fun t=>t.1<=r.length/\0<=t.2.2/\t.2.2<=1000*t.1/\(r.drop t.1).any Ahs=r.any Ahs/\t.2.2+Ahr (r.drop t.1)=Ahr r) (fun t=>r.length-t.1) (0,_,0) ⟨by simp,by simp,by simp,by simp,by simp⟩ (by rw [lr];exact AS.le_refl _) ?_
  rintro⟨j,aj,sm⟩⟨i1,i2,i3,c,l⟩;simp only at i1 i2 i3 c l|-;refine Aa [5,8,36,37,38,46,47,48,49] [] sr (Ab ?_)
  refine Ao (fun h5=>Ae ?_) (fun h5=>?_)
  ·have y:j<r.length:=by simp at h5;omega
   have ab:j<rv.length:=om;have gj:=hr j y;have u:=A7 (k:=j) om;rw [A1y _ y]at c;rw [Axc y]at l;generalize r[j]=x at gj c l;refine Ab (Ap (Aa [5,8,10,36,37,38,46,47,48] [] (by simp [gj,ab]<;>rfl) (Ab (Aa [5,8,10,36,37,38,46,47,48,57] [] sr ?_))))
   refine Ao (fun h6=>?_) (fun h6=>Ae ?_)
   ·refine Aa [4] [] sr ?_;refine Ak (Ad sr ?_);have o:Ahs x=true:=by simp [Ahs]at h6|-;omega
    have:Abh a r=3:=by unfold Abh;rw [if_neg om,if_pos (by rw [<- c,o];rfl)]
    rw [<- e,if_pos (by rw [this];decide),this]
   have o:Ahs x=false:=by simp [Ahs]at h6|-;omega
   have hx:1<=x/\x<=1000:=by simp [Ahs]at o;omega
   have z:IntKind.i64.wrap (sm+x)=sm+x:=Bb om om;refine A2 [5,8,36,37,38,46,47,48] [] (by simp [z]<;>rfl) (A2 [5,8,36,37,38,46,47,48] [] (by simp [u]<;>rfl) ?_);exact⟨(j+1,_,sm+x),⟨by simp only;omega,by simp only;omega,by simp only;omega,by rw [<- c,o];rfl,by simp only;omega⟩,by simp only;omega,AS.le_refl _⟩
  ·refine A9 ?_;have aa:j=r.length:=by simp at h5;omega
   rw [aa,Ca]at c l;simp only [List.any_nil,Ahr]at c l;refine Aa [5,36,37,38,63] [] sr ?_
   have d:Abh a r=if Ahr r≠1000 then 19 else 0:=by
    unfold Abh;rw [if_neg om,if_neg (by rw [<- c];decide)]
   refine Ao (fun h7=>?_) (fun h7=>Ae ?_)
   ·refine Aa [4] [] sr ?_;refine Ak (Ad sr ?_);have:Abh a r=19:=by rw [d,if_pos (by simp at h7;omega)]
    rw [<- e,if_pos (by rw [this];decide),this]
   have:Abh a r=0:=by rw [d,if_neg (by simp at h7;omega)]
   refine A2 [5,36,37,38] [] (by simp [hw]<;>rfl) ?_;exact⟨f,by rw [<- e,this];rfl,_,AS.le_refl _⟩
 ·refine A9 ?_;refine Aa [4] [] sr ?_;refine Ak (Ad sr ?_);have ad:k=m.length:=by simp at h3;omega
  rw [<- e,ad,Ca];rfl
theorem Ali(m:Mo):AC prog 63 [moV m] (fun r=>r=.int .i64 (Wv m:Nat)):=by
 have i:=fun(k:Nat)(h:k<m.length)=>Sg h
 have l:=Lz m;unfold moV
 by_cases e:0<m.length
 ·have d:=i 0 e
  have j:Wv m=m[0].length:=by
   cases m with
   |nil=>simp at e
   |cons r m=>rfl
  rw [j];have g:=A5 m[0];generalize As m[0]=iv at d g;generalize Ek m=f at d l|-;have a:0<f.length:=om;have c:f≠ []:=by intro h;rw [h]at a;simp at a
  refine Ay func63 (fun w0 N0=>?_);refine Aa [1] [1] sr (Ab (Aa [1,6] [1] sr ?_));refine A6 rfl (fun h1=>by simp at h1;exact absurd h1 c) (fun h1=>Ae ?_);exact Aa [2] [] (by simp [d,a]<;>rfl) (Ak (Ad sr (by rw [g])))
 ·have:m= []:=by cases m with
   |nil=>rfl
   |cons r m=>simp at e
  subst this;refine Ay func63 (fun w0 N0=>?_);refine Aa [1] [1] (by simp [ntmps63,Ek]<;>rfl) (Ab (Aa [1,6] [1] sr ?_));refine A6 rfl (fun h1=>?_) (fun h1=>by simp at h1);exact Aa [2] [] sr (Ak (Ad sr rf))
structure Pit where
 id:Int
 code:List UInt8
 fam:Int
 st:Int
 wo:Int
 se:Int
 pt:Int
 ky:Int
 m:Mo
def Pit.cs(p:Pit):List V:=[.int .i64 p.id,.str p.code,.int .i64 p.fam,.int .i64 p.st,.int .i64 p.wo,.int .i64 p.se,.int .i64 p.pt,.int .i64 p.ky,.ro 1 (Ek p.m)]
def Pit.v(p:Pit):V:=.agg p.cs
def B8(l:List Pit):List V:=l.map Pit.v
@[simp]theorem Da(l:List Pit):(B8 l).length=l.length:=by simp [B8]
theorem I7{l:List Pit}{k:Nat}(h:k<l.length):Hs (B8 l) k=some l[k].v:=by rw [C1];simp [B8,h]
theorem B4(l:List Pit):(B8 l).all V.pureE=true:=by
 rw [Ax];intro x a;simp only [B8,Bk]at a;obtain⟨n,_,rfl⟩:=a;rfl
def Beo(a c g d e f:Int):Bool:=
 (decide (a<0)||decide (9999999<a))||((decide (c<0)||decide (9999999<c))||((decide (g<0)||decide (2000<g))||((decide (d<1)||decide (2000<d))||((decide (e<1)||decide (5<e))||((decide (f<0)||decide (10<f)))))))
def Ar8(n:Int)(p:Pit):Int:=
 if Ow p.code=false then 2 else if Beo p.fam p.st p.wo p.se p.pt p.ky=true then 3 else Ln p.m n
theorem Aht(p:Pit)(n:Int):Hm gv prog 60 [p.v,.int .i64 n] (fun r=>r=.int .i64 (Ar8 n p)):=by
 have g:=X0 p.code;have c:=Rz p.m n;obtain⟨id,code,d,l,u,o,t,s,m⟩:=p;unfold Ar8 Beo Pit.v Pit.cs;simp only at g c|-;have ev:moV m=.agg [.ro 1 (Ek m)]:=rfl;have x:=Dw m;rw [ev]at c;generalize Ek m=mv at c x|-;generalize Ln m n=me at c|-;generalize Ow code=cv at g|-;refine Bx func60 (fun w0 N0 y=>?_);refine Aa [1,2] [2] sr (Ab (Ab (Ac (Am 2 sr ?_))));refine Be y g func90 ?_;refine Ag [1,2,8] [2] sr ?_
 refine Ao (fun h1=>?_) (fun h1=>Ae ?_)
 ·exact Aa [4] [] sr (Ak (Ad sr (by rw [if_pos (by simpa using h1)])))
 rw [if_neg (by simpa using h1)];refine Ab (Ap (Ab (Aa [1,2,9] [2] sr ?_)))
 refine Ao (fun h=>Ae ?_) (fun h=>?_)
 ·have e:(decide (d<0)||decide (9999999<d))=true:=by simpa using h
  refine A6 rfl (fun _ =>?_) (fun a=>by rw [h]at a;cases a);exact Aa [4] [] sr (Ak (Ad sr (by rw [if_pos (by rw [e];rfl)])))
 have e:(decide (d<0)||decide (9999999<d))=false:=by simpa using h
 refine Aa [1,2,9] [2] sr ?_
 refine Ao (fun h=>Ae ?_) (fun h=>?_)
 ·have f:(decide (l<0)||decide (9999999<l))=true:=by simpa using h
  refine A6 rfl (fun _ =>?_) (fun a=>by rw [h]at a;cases a);exact Aa [4] [] sr (Ak (Ad sr (by rw [if_pos (by rw [e,f];rfl)])))
 have f:(decide (l<0)||decide (9999999<l))=false:=by simpa using h
 refine Aa [1,2,9] [2] sr ?_
 refine Ao (fun h=>Ae ?_) (fun h=>?_)
 ·have i:(decide (u<0)||decide (2000<u))=true:=by simpa using h
  refine A6 rfl (fun _ =>?_) (fun a=>by rw [h]at a;cases a);exact Aa [4] [] sr (Ak (Ad sr (by rw [if_pos (by rw [e,f,i];rfl)])))
 have i:(decide (u<0)||decide (2000<u))=false:=by simpa using h
 refine Aa [1,2,9] [2] sr ?_
 refine Ao (fun h=>Ae ?_) (fun h=>?_)
 ·have j:(decide (o<1)||decide (2000<o))=true:=by simpa using h
  refine A6 rfl (fun _ =>?_) (fun a=>by rw [h]at a;cases a);exact Aa [4] [] sr (Ak (Ad sr (by rw [if_pos (by rw [e,f,i,j];rfl)])))
 have j:(decide (o<1)||decide (2000<o))=false:=by simpa using h
 refine Aa [1,2,9] [2] sr ?_
 refine Ao (fun h=>Ae ?_) (fun h=>?_)
 ·have k:(decide (t<1)||decide (5<t))=true:=by simpa using h
  refine A6 rfl (fun _ =>?_) (fun a=>by rw [h]at a;cases a);exact Aa [4] [] sr (Ak (Ad sr (by rw [if_pos (by rw [e,f,i,j,k];rfl)])))
 have k:(decide (t<1)||decide (5<t))=false:=by simpa using h
 refine A2 [1,2,9] [2] sr ?_
 refine Ao (fun h=>?_) (fun h=>Ae ?_)
 ·have w:(decide (s<0)||decide (10<s))=true:=by simpa using h
  exact Aa [4] [] sr (Ak (Ad sr (by rw [if_pos (by rw [e,f,i,j,k,w];rfl)])))
 have w:(decide (s<0)||decide (10<s))=false:=by simpa using h
 rw [if_neg (by rw [e,f,i,j,k,w];decide)];refine Ab (Ac (Am 3 sr ?_));refine Ai c func91 ?_ (hp:=by simp);refine Ag [4] [] sr ?_;exact Ak (Ad sr rfl)
def Sm(a:Int):List Int->Bool
 | []=>true
 |x::r=>Wx x&&decide (a<x)&&Sm x r
def I3(l:List Pit):List Int:=l.map Pit.id
def Kd(l:List Pit)(n:Int):Int:=if 18<l.length then 5 else if Sm 0 (I3 l)=false then 23 else Kr (Ar8 n) l
def Afm(l:List Int)(k:Nat):Int:=if k=0 then 0 else(l[k-1]?).getD 0
theorem Axn{l:List Int}{k:Nat}(h:k<l.length)(p:Int):Sm p (l.drop k)=(Wx l[k]&&decide (p<l[k])&&Sm l[k] (l.drop (k+1))):=by
 rw [Bu h,Sm]
theorem Mq(l:List Pit)(n:Int):Hm gv prog 35 [.ro 9 (B8 l),.int .i64 n] (fun r=>r=.int .i64 (Kd l n)):=by
 have hn:=fun(k:Nat)(h:k<l.length)=>I7 h
 have hl:=Da l;have ag:=fun(p:Pit)=>Aht p n
 unfold Kd;generalize B8 l=lv at hn hl|-;refine Bx func35 (fun w0 N0 hG=>?_);refine Aa [0,1] [] sr (Ab (Aa [0,1,12] [] sr ?_))
 refine Ao (fun h1=>?_) (fun h1=>Ae ?_)
 ·exact Aa [4] [] sr (Ak (Ad sr (by rw [if_pos (by simp at h1;omega)])))
 have ai:l.length<=18:=by simp at h1;omega
 rw [if_neg (by omega)];refine Ab (Aa [0,1,13,14,15] [] sr (Ap (Bq (fun k nx=>⟨[(0,.ro 9 lv),(1,.int .i64 n),(13,.ro 9 lv),(14,.int .i64 l.length),(15,.int .i64 k)],[],nx,53⟩) (fun k=>Sm (Afm (I3 l) k) ((I3 l).drop k)=Sm 0 (I3 l)) l.length _ (by simp [Afm]) (by rw [hl];exact AS.le_refl _) ?_)));intro k nx hk a;refine Aa [0,1,13,14,15,16] [] sr (Ab ?_)
 refine Ao (fun h2=>Ae ?_) (fun h2=>?_)
 ·have d:k<l.length:=by simp at h2;omega
  have j:k<lv.length:=om;have gk:=hn k d;have hw:=A7 (k:=k) om;have ah:(I3 l).length=l.length:=by simp [I3]
  rw [Axn (by omega)]at a;have aa:(I3 l)[k]'(by omega)=l[k].id:=by simp [I3]
  have e:Afm (I3 l) (k+1)=l[k].id:=by
   unfold Afm;rw [if_neg om,show k+1-1=k by omega,Al om,aa];rfl
  rw [aa]at a;have g:=Adu l[k].id;have er:l[k].v=.agg [.int .i64 l[k].id,.str l[k].code,.int .i64 l[k].fam,.int .i64 l[k].st,.int .i64 l[k].wo,.int .i64 l[k].se,.int .i64 l[k].pt,.int .i64 l[k].ky,.ro 1 (Ek l[k].m)]:=rfl;rw [er]at gk;have i:Wx l[k].id=true->0<l[k].id:=fun h=>by simp [Wx]at h;omega
  generalize Wx l[k].id=nb at g a i;generalize l[k].id=ab,l[k].code=x1,l[k].fam=x2,l[k].st=x3,l[k].wo=x4,l[k].se=x5,l[k].pt=x6,l[k].ky=x7,Ek l[k].m=x8 at*;refine Ab (Ap (Aa [0,1,5,6,13,14,15] [6] (by simp [gk,j]<;>rfl) ?_));have t:IntKind.i64.wrap (-1)= -1:=Bb om om
  rcases E9 k with rfl|aj
  ·cases nb with
   |false=>
    refine Ab (C4 [(0,[]),(1,[]),(2,[]),(3,[]),(4,[]),(5,[]),(6,[]),(7,[]),(8,[]),(10,[]),(11,[]),(12,[]),(13,[]),(14,[]),(9,[]),(15,[]),(16,[]),(17,[]),(18,[])] Dm kr ?_);refine Ch 2 sr ?_;refine Bw (fun hg=>g) func59 rfl kr rfl rfl sr rfl rfl sr sm sr ?_;refine Ch 8 (by simp<;>rfl) ?_;refine C5 [0,1,13,14,15,38] [] (by simp [t]<;>rfl) ?_;refine A6 rfl (fun f=>?_) (fun f=>by simp at f);refine Aa [4] [] sr ?_;refine Ak (Ad sr ?_);rw [if_pos (by rw [<- a];rfl)]
   |true=>
    have ad:0<ab:=i rfl;refine Ab (C4 [(0,[]),(1,[]),(2,[]),(3,[]),(4,[]),(5,[]),(6,[]),(7,[]),(8,[]),(10,[]),(11,[]),(12,[]),(13,[]),(14,[]),(9,[]),(15,[]),(16,[]),(17,[]),(18,[])] Dm kr ?_);refine Ch 2 sr ?_;refine Bw (fun hg=>g) func59 rfl kr rfl rfl sr rfl rfl sr sm sr ?_;refine Ch 8 (by simp<;>rfl) ?_;refine C5 [0,1,13,14,15,38] [] (by simp [t]<;>rfl) ?_;refine A6 rfl (fun f=>by simp at f) (fun f=>Ae (A2 [0,1,13,14,15] [] (by simp<;>rfl) ?_));exact⟨d,by rw [<- a,e];simp [Afm,ad],_,AS.le_refl _⟩
  ·have s:(0:Int)<(k:Int):=om;have x:(1:Int)<=(k:Int):=om;have y:IntKind.i64.wrap ((k:Int)-1)=(k:Int)-1:=Bb om om;have u:(0:Int)<=(k:Int)-1:=om;have w:(k:Int)-1<(lv.length:Int):=om;have o:((k:Int)-1).toNat=k-1:=om;have gp:=hn (k-1) om
   have af:Afm (I3 l) k=l[k-1].id:=by
    unfold Afm;rw [if_neg om,Al (by omega)];simp [I3]
   rw [af]at a;have ep:l[k-1].v=.agg [.int .i64 l[k-1].id,.str l[k-1].code,.int .i64 l[k-1].fam,.int .i64 l[k-1].st,.int .i64 l[k-1].wo,.int .i64 l[k-1].se,.int .i64 l[k-1].pt,.int .i64 l[k-1].ky,.ro 1 (Ek l[k-1].m)]:=rfl;rw [ep]at gp;generalize l[k-1].id=ip at*;cases nb with
   |false=>
    refine Ab (C4 [(0,[]),(1,[]),(2,[]),(3,[]),(4,[]),(5,[]),(6,[]),(7,[]),(8,[]),(10,[]),(11,[]),(12,[]),(13,[]),(14,[]),(9,[]),(15,[]),(16,[]),(17,[]),(18,[])] Dm kr ?_);refine Ch 2 sr ?_;refine Bw (fun hg=>g) func59 rfl kr rfl rfl sr rfl rfl sr sm sr ?_;refine Ch 8 (by simp<;>rfl) ?_;refine C5 [0,1,13,14,15,38] [] (by simp [y,w,o,x,gp]<;>rfl) ?_;refine A6 rfl (fun f=>?_) (fun f=>by simp at f);refine Aa [4] [] sr ?_;refine Ak (Ad sr ?_);rw [if_pos (by rw [<- a];rfl)]
   |true=>
    refine Ab (C4 [(0,[]),(1,[]),(2,[]),(3,[]),(4,[]),(5,[]),(6,[]),(7,[]),(8,[]),(10,[]),(11,[]),(12,[]),(13,[]),(14,[]),(9,[]),(15,[]),(16,[]),(17,[]),(18,[])] Dm kr ?_);refine Ch 2 sr ?_;refine Bw (fun hg=>g) func59 rfl kr rfl rfl sr rfl rfl sr sm sr ?_;refine Ch 8 (by simp<;>rfl) ?_;refine C5 [0,1,13,14,15,38] [] (by simp [y,w,o,x,gp]<;>rfl) ?_
    refine Ao (fun f=>?_) (fun f=>Ae ?_)
    ·have ak:ab<=ip:=by simp at f;omega
     refine Aa [4] [] sr ?_;refine Ak (Ad sr ?_);rw [if_pos (by rw [<- a];simp;intro h;omega)]
    have ae:ip<ab:=by simp at f;omega
    refine A2 [0,1,13,14,15] [] (by simp [hw]<;>rfl) ?_;exact⟨d,by rw [<- a,e];simp [ae],_,AS.le_refl _⟩
 ·refine A9 ?_;have z:k=l.length:=by simp at h2;omega
  have ah:(I3 l).length=l.length:=by simp [I3]
  rw [z,List.drop_of_length_le (by omega)]at a;rw [if_neg (by rw [<- a];simp [Sm])];refine Ab (Aa [1,40,41,42] [] sr (Ap (Bq (fun k nx=>⟨[(1,.int .i64 n),(40,.ro 9 lv),(41,.int .i64 l.length),(42,.int .i64 k)],[],nx,53⟩) (fun k=>Kr (Ar8 n) (l.drop k)=Kr (Ar8 n) l) l.length _ sm (by rw [hl];exact AS.le_refl _) ?_)));clear a z hk;intro k nx hk a;refine Aa [1,40,41,42,43] [] sr (Ab ?_)
  refine Ao (fun h4=>Ae ?_) (fun h4=>?_)
  ·have d:k<l.length:=by simp at h4;omega
   have j:k<lv.length:=om;have gk:=hn k d;have hw:=A7 (k:=k) om;rw [Ou _ d]at a;have c:=ag l[k];have er:l[k].v=.agg [.int .i64 l[k].id,.str l[k].code,.int .i64 l[k].fam,.int .i64 l[k].st,.int .i64 l[k].wo,.int .i64 l[k].se,.int .i64 l[k].pt,.int .i64 l[k].ky,.ro 1 (Ek l[k].m)]:=rfl;have pm:=Dw l[k].m;rw [er]at gk c;generalize Ar8 n l[k]=pe at c a;generalize Ek l[k].m=mv at gk c pm;refine Ab (Ap (Aa [1,8,40,41,42] [8] (by simp [gk,j]<;>rfl) (Ab (Ac (Am 2 sr ?_)))));refine Be hG c func60 ?_ (hp:=by simp);refine Ag [1,9,40,41,42] [] sr ?_;refine Aa [1,9,40,41,42,50] [] sr ?_
   refine Ao (fun h5=>?_) (fun h5=>Ae ?_)
   ·exact Aa [4] [] sr (Ak (Ad sr (by rw [<- a,if_pos (by simpa using h5)])))
   refine A2 [1,40,41,42] [] (by simp [hw]<;>rfl) ?_;exact⟨d,by rw [<- a,if_neg (by simpa using h5)],_,AS.le_refl _⟩
  ·refine A9 ?_;refine Aa [4] [] sr ?_;refine Ak (Ad sr ?_);have z:k=l.length:=by simp at h4;omega
   rw [<- a,z,Ca];rfl
@[simp]theorem Bfl:Ef prog 223=some (.agg []):=by kernel_rfl
def Aja(r:Ru):V:=
 if r.kind=1 then .dm 210 [.int .i64 r.mn,.int .i64 r.mx,.fc 121 [] [.rp r.v],.str r.code]
 else if r.kind=2 then .ifc 212 (.agg [.int .i64 r.mn,.int .i64 r.mx,.fn 124])
 else if r.kind=3 then .ifc 213 (.agg [.int .i64 r.mn,.int .i64 r.mx,.fn 125])
 else if r.kind=4 then .ifc 214 (.agg [.int .i64 r.mn,.int .i64 r.mx,.fn 126])
 else if r.kind=5 then .dm 216 [.int .i64 r.mn,.int .i64 r.mx,.fc 127 [] [.rp r.v],.int .i64 r.n]
 else if r.kind=6 then .ifc 218 (.agg [.int .i64 r.mn,.int .i64 r.mx,.int .i64 r.n])
 else if r.kind=7 then .ifc 220 (.agg [.int .i64 r.n])
 else if r.kind=8 then .ifc 221 (.agg [.int .i64 r.n])
 else if r.kind=9 then .ifc 223 (.agg [])
 else .nili
theorem Aom{r:Ru}(h:r.known):Bl (Aja r) (X1 r):=by
 have a:r.kind=1\/r.kind=2\/r.kind=3\/r.kind=4\/r.kind=5\/r.kind=6\/r.kind=7\/r.kind=8\/r.kind=9:=by unfold Go.Eng.Limb.Ru.known at h;omega
 unfold Aja X1 Aok Afl;rcases a with e|e|e|e|e|e|e|e|e<;>simp only [e,if_true,if_false,Int.reduceEq]<;>first|exact Bl.refl _ |exact Axm _ _
theorem A2d{r:Ru}(h:¬r.known):Aja r=.nili:=by
 unfold Go.Eng.Limb.Ru.known at h;unfold Aja
 (repeat' split)<;>first|rfl|omega
theorem Zk(r:Ru):AC prog 85 [r.v] (fun x=>x=.tup [Aja r,.bool r.fits]):=by
 obtain⟨k,n,a,b,c⟩:=r;unfold Aja Ru.fits Ru.v Ru.cs;simp only;refine Ay func85 (fun w0 N0=>?_);refine Aa [1] [1] sr (Bt 1 [1] [] sr (Aa [1,4] [4] sr ?_));refine Di [(0,[]),(3,[]),(6,[]),(9,[]),(1,[]),(2,[]),(12,[]),(4,[]),(5,[]),(13,[]),(7,[]),(8,[]),(14,[]),(10,[]),(11,[]),(15,[])] [1,4,5,6,7,8] [4] Dm kr sr ?_;refine Ab (Aa [1,4,5,6,7,8,32] [4] sr (Ap (Aa [1,4,5,6,7,8,32,33] [4] sr ?_)))
 refine Ao (fun h1=>?_) (fun h1=>?_)
 ·have e:k=1:=by simpa using h1
  subst e;refine Aa [1,4,5,9] [4] sr ?_;exact Aa [2,3] [] sr (Ak (Ad sr sm))
 refine Aa [1,4,5,6,7,8,32,44] [4] sr ?_
 refine Ao (fun h2=>?_) (fun h2=>?_)
 ·have e:k=2:=by simpa using h2
  subst e;refine Aa [4,5,6,8,10] [4] sr ?_;exact Aa [2,3] [] sr (Ak (Ad sr sm))
 refine Aa [1,4,5,6,7,8,32,58] [4] sr ?_
 refine Ao (fun d=>?_) (fun d=>?_)
 ·have e:k=3:=by simpa using d
  subst e;refine Aa [4,5,6,8,11] [4] sr ?_;exact Aa [2,3] [] sr (Ak (Ad sr sm))
 refine Aa [1,4,5,6,7,8,32,72] [4] sr ?_
 refine Ao (fun g=>?_) (fun g=>?_)
 ·have e:k=4:=by simpa using g
  subst e;refine Aa [4,5,8,12] [4] sr ?_;exact Aa [2,3] [] sr (Ak (Ad sr sm))
 refine Aa [1,4,5,6,7,8,32,83] [4] sr ?_
 refine Ao (fun l=>?_) (fun l=>?_)
 ·have e:k=5:=by simpa using l
  subst e;refine Aa [1,4,8,13] [4] sr ?_;exact Aa [2,3] [] sr (Ak (Ad sr sm))
 refine Aa [1,4,5,6,7,8,32,94] [4] sr ?_
 refine Ao (fun h=>?_) (fun h=>?_)
 ·have e:k=6:=by simpa using h
  subst e;exact Aa [2,3] [] sr (Ak (Ad sr sm))
 refine Aa [1,5,6,7,8,32,102] [] sr ?_
 refine Ao (fun j=>?_) (fun j=>?_)
 ·have e:k=7:=by simpa using j
  subst e;exact Aa [2,3] [] sr (Ak (Ad sr sm))
 refine Aa [1,5,6,7,8,32,115] [] sr ?_
 refine Ao (fun i=>?_) (fun i=>?_)
 ·have e:k=8:=by simpa using i
  subst e;exact Aa [2,3] [] sr (Ak (Ad sr sm))
 refine Aa [5,6,7,8,128] [] sr ?_
 refine Ao (fun f=>?_) (fun f=>Ae ?_)
 ·have e:k=9:=by simpa using f
  subst e;exact Aa [2,3] [] sr (Ak (Ad sr sm))
 refine Aa [2,3] [] sr ?_;have e1:¬k=1:=by simpa using h1
 have w:¬k=2:=by simpa using h2
 have t:¬k=3:=by simpa using d
 have u:¬k=4:=by simpa using g
 have m:¬k=5:=by simpa using l
 have s:¬k=6:=by simpa using h
 have z:¬k=7:=by simpa using j
 have o:¬k=8:=by simpa using i
 have y:¬k=9:=by simpa using f
 exact Ak (Ad sr (by simp [e1,w,t,u,m,s,z,o,y]))
theorem Acr{r:Ru}(h:r.known):AC prog 85 [r.v] (fun x=>x=.tup [.dm (Aok r) (Afl r),.bool r.fits]):=
 (Zk r).relax (Bl.tup (.cons (Aom h) (.cons (Bl.refl _) .nil)))
theorem Aon{r:Ru}(h:¬r.known):AC prog 85 [r.v] (fun x=>x=.tup [.nili,.bool false]):=by
 have:=Zk r;rw [A2d h]at this
 have a:r.fits=false:=by
  cases hh:r.fits with
  |false=>rfl
  |true=>exact absurd (X2 hh) h
 rwa [a]at this
def Ee(l:List Ru):List V:=l.map Ru.v
@[simp]theorem Qv(l:List Ru):(Ee l).length=l.length:=by simp [Ee]
theorem Sn{l:List Ru}{k:Nat}(h:k<l.length):Hs (Ee l) k=some l[k].v:=by rw [C1];simp [Ee,h]
theorem Cq(l:List Ru):(Ee l).all V.pureE=true:=by
 rw [Ax];intro x a;simp only [Ee,Bk]at a;obtain⟨n,_,rfl⟩:=a;rfl
def Ajb(r:Ru):Int:=if r.fits=false then 1 else Alg r
def Sp(len:Int)(rs:List Ru):Int:=if len<1\/18<len then 3 else if 20<rs.length then 5 else Kr Ajb rs
def Qw(len:Int)(rs:List Ru):V:=.agg [.int .i64 len,.ro 5 (Ee rs)]
theorem Xh(len:Int)(rs:List Ru):Hm gv prog 55 [Qw len rs] (fun r=>r=.int .i64 (Sp len rs)):=by
 have y:=fun(k:Nat)(h:k<rs.length)=>Sn h
 have z:=Qv rs;unfold Qw Sp;generalize Ee rs=u at y z|-;refine Bx func55 (fun w0 N0 hG=>?_);refine Aa [1] [1] sr (Ab (Aa [1,15] [1] sr ?_))
 refine Ao (fun h1=>?_) (fun h1=>Ae ?_)
 ·exact Aa [2] [] sr (Ak (Ad sr (by rw [if_pos (by simpa using h1)])))
 rw [if_neg (by simpa using h1)];refine Ab (Aa [1,19] [1] sr ?_)
 refine Ao (fun h2=>?_) (fun h2=>Ae ?_)
 ·exact Aa [2] [] sr (Ak (Ad sr (by rw [if_pos (by simp at h2;omega)])))
 have w:rs.length<=20:=by simp at h2;omega
 rw [if_neg (by omega)];refine Ab (Aa [21,22,23] [] sr (Ap (Bq (fun k nx=>⟨[(21,.ro 5 u),(22,.int .i64 rs.length),(23,.int .i64 k)],[],nx,40⟩) (fun k=>Kr Ajb (rs.drop k)=Kr Ajb rs) rs.length _ sm (by rw [z];exact AS.le_refl _) ?_)));intro k nx hk g;refine Aa [21,22,23,24] [] sr (Ab ?_)
 refine Ao (fun s=>Ae ?_) (fun s=>?_)
 ·have i:k<rs.length:=by simp at s;omega
  have f:k<u.length:=om;have m:=y k i;have hw:=A7 (k:=k) om;rw [Ou Ajb i]at g;generalize rs[k]=r at m g;have x:r.v=.agg [.int .i64 r.kind,.int .i64 r.n,.int .i64 r.mn,.int .i64 r.mx,.str r.code]:=rfl;have a:Ajb r=if r.fits=false then 1 else Alg r:=rfl
  by_cases d:r.known
  case neg=>
   have c:=Aon d
   have hf:r.fits=false:=by
    cases hh:r.fits with
    |false=>rfl
    |true=>exact absurd (X2 hh) d
   rw [x]at m c;rw [if_pos hf]at a;refine Ab (Ap (Aa [4,21,22,23] [4] (by simp [m,f]<;>rfl) (Ab (Ac (Am 1 sr ?_)))));refine Ai c func85 ?_;refine Ag [5,6,21,22,23] [] sr ?_;refine Ab (Aa [5,21,22,23,33] [] sr ?_);refine A6 rfl (fun j=>?_) (fun j=>by simp at j);refine Aa [2] [] sr ?_;refine Ak (Ad sr ?_);rw [<- g,if_pos (by rw [a];decide),a]
  have c:=Acr d;have l:=A7k r d;rw [x]at m c;unfold X1 at l;generalize Aok r=dt at c l;generalize Afl r=dc at c l;generalize Alg r=ce at l a;generalize r.fits=fb at c a;refine Ab (Ap (Aa [4,21,22,23] [4] (by simp [m,f]<;>rfl) (Ab (Ac (Am 1 sr ?_)))));refine Ai c func85 ?_;refine Ag [5,6,21,22,23] [] sr ?_;refine Ab (Aa [5,21,22,23,33] [] sr ?_)
  refine Ao (fun j=>?_) (fun j=>Ae ?_)
  ·refine Aa [2] [] sr ?_;refine Ak (Ad sr ?_);have e:fb=false:=by simpa using j
   subst e;rw [if_pos rfl]at a;rw [<- g,if_pos (by rw [a];decide),a]
  have e:fb=true:=by simpa using j
  subst e;rw [if_neg (by decide)]at a;refine Ab (Ac (Am 1 sr ?_));refine Ai0 hG l sm rfl rfl sr sr sm sr ?_;refine Ag [7,21,22,23] [] sr ?_;refine Aa [7,21,22,23,37] [] sr ?_
  refine Ao (fun o=>?_) (fun o=>Ae ?_)
  ·refine Aa [2] [] sr ?_;refine Ak (Ad sr ?_);rw [<- g,a,if_pos (by simpa using o)]
  refine A2 [21,22,23] [] (by simp [hw]<;>rfl) ?_;exact⟨i,by rw [<- g,a,if_neg (by simpa using o)],_,AS.le_refl _⟩
 ·refine A9 ?_;refine Aa [2] [] sr ?_;refine Ak (Ad sr ?_);have t:k=rs.length:=by simp at s;omega
  rw [<- g,t,Ca];rfl
def Ks(w:List Nat)(m:Nat):Prop:=∀x∈w,(B1 x).length<=m
theorem Ar9{p:Int}(h: -1000<=p/\p<=1000):Oc p<=1:=E0 (m:=1) om
theorem Alj{w:List Nat}(h:Ks w 1000):∀k,k<=w.length->Oc (G5 (w.take k):Int)<=1000+k
 |0,_ =>by simp [G5,Oc,Ei]
 |k+1,hk=>by
  have ih:=Alj h k om;have a:=h w[k] (Aw om);rw [Wb om,Dd];have:=Ti ih (Aj (Wc a) (by omega:1000<=1000+k));omega
theorem Alk{l:List Int}{w:List Nat}(h:Ks w 1000)(hp:∀p∈l,-1000<=p/\p<=1000)(c:w.length=l.length):∀k,k<=w.length->Oc (Mz (l.take k) (w.take k))<=1001+k
 |0,_ =>by simp [Mz,Oc,Ei]
 |k+1,hk=>by
  have ih:=Alk h hp c k om;have a:=h w[k] (Aw om);rw [Ai5 om (by omega)];have:=Ti ih (Aj (L3 (Wc a) (Ar9 (hp l[k] (Aw om)))) (by omega:1000+1<=1001+k));omega
theorem All{l:List Int}{w:List Nat}(h:Ks w 1000)(hp:∀p∈l,-1000<=p/\p<=1000)(d:w.length=l.length):∀k,k<=w.length->Oc (Ry (l.take k) (w.take k))<=1002+k
 |0,_ =>by simp [Ry,Oc,Ei]
 |k+1,hk=>by
  have ih:=All h hp d k om;have c:=h w[k] (Aw om);have a:=Ar9 (hp l[k] (Aw om));rw [Ai6 om (by omega)];have:=Ti ih (Aj (L3 (L3 (Wc c) a) a) (by omega:1000+1+1<=1002+k));omega
theorem Bep(n:Nat):sgn false n=(n:Int):=rfl
theorem Au0(g:Gr)(w:List Nat)(hg:Lm g=0)(s:w.length=g.pts.length)(hw:Ks w 1000)(h0:G5 w≠0):
  AC prog 196 [g.v,.ro 1 (Bv w)] (fun r=>r=.tup [(nI (G5 w)).v,(nI (Mz g.pts w)).v,(nI (Ry g.pts w)).v,.int .i64 0]):=by
 have hv:=L1 g;rw [hg]at hv;obtain⟨aj,ag,ai,l,-,-⟩:=J3 hg;obtain⟨pts,m⟩:=g;simp only at s aj ag ai l|-;have ev:(Gr.mk pts m).v=.agg [.ro 1 (As pts),.ro 1 (As m)]:=rfl;rw [ev]at hv|-;have z0:=Alj hw;have z1:=Alk hw l s;have z2:=All hw l s;have hp:∀(k:Nat)(h:k<pts.length),Hs (As pts) k=some (.int .i64 pts[k]):=fun k h=>Fj h
 have hq:∀(k:Nat)(h:k<w.length),Hs (Bv w) k=some (.ro 1 (Fo w[k])):=fun k h=>Kb h
 have lp:=A5 pts;have lq:=H2 w;have pp:=Af pts;have pq:=Af m;have pw:=Br w;have t:=Zh (nI (G5 w)) (Cr _);rw [I2,Ar0]at t;have ab:Hp (G5 w)=1:=by unfold Hp;rw [if_neg om,if_pos (by omega)]
 rw [ab]at t;simp only [Ar0];generalize As pts=pv at hp lp hv pp|-;generalize As m=qv at hv pq|-;generalize Bv w=wv at hq lq pw|-;refine Ay func196 (fun w0 N0=>?_);refine Aa [1,2,4,5,6] [2,4,5,6] sr (Ab (Ab (Ac (Am 1 sr ?_))));refine Ai hv func56 ?_ (hp:=by simp);refine Ag [1,2,4,5,6,8] [2,4,5,6] sr ?_;refine Aa [1,2,4,5,6,8,20] [2,4,5,6] sr ?_;refine A6 rfl (fun h1=>by simp at h1) (fun h1=>Ae (Ab (Aa [1,2,4,5,6,30] [2,4,5,6] sr ?_)));refine A6 rfl (fun h2=>by simp at h2;omega) (fun h2=>Ae (Aa [1,2,4,5,6,9,10,11] [2,4,5,6,9,10,11] sr ?_));refine V1 9 1 109 1 149 [1,2,4,5,6,9,10,11] [2,4,5,6,9,10,11,109] sr ?_;refine Bt 109 [1,2,4,5,6,9,10,11] [2,4,5,6,9,10,11] sr ?_;refine V1 10 1 109 1 149 [1,2,4,5,6,9,10,11] [2,4,5,6,9,10,11,109] sr ?_;refine Bt 109 [1,2,4,5,6,9,10,11] [2,4,5,6,9,10,11] sr ?_;refine V1 11 1 109 1 149 [1,2,4,5,6,9,10,11] [2,4,5,6,9,10,11,109] sr ?_;refine Bt 109 [1,2,4,5,6,9,10,11] [2,4,5,6,9,10,11] sr (Ab (Aa [1,4,5,6,9,10,11,35,36,37] [4,5,6,9,10,11] sr (Ap ?_)))
 refine Bq (fun k nx=>⟨[(1,V.ro 1 wv),(4,V.bp 4 1 2 0 0),(5,V.bp 5 2 2 0 0),(6,V.bp 6 3 2 0 0),(9,V.bp 9 16 2 0 0),(10,V.bp 10 17 2 0 0),(11,V.bp 11 18 2 0 0),(35,V.ro 1 pv),(36,V.int IntKind.i64 pts.length),(37,V.int IntKind.i64 k)],
  [(4,{ v:=1,sz:=2,ty:=32,es:=[V.agg [V.bool false,V.nils]]}),(5,{ v:=2,sz:=2,ty:=32,es:=[V.agg [V.bool false,V.nils]]}),(6,{ v:=3,sz:=2,ty:=32,es:=[V.agg [V.bool false,V.nils]]}),
   (9,{ v:=16,sz:=2,ty:=32,es:=[V.agg [V.bool (nIb (G5 (w.take k))),V.ro 1 (nIl (G5 (w.take k)))]]}),(10,{ v:=17,sz:=2,ty:=32,es:=[V.agg [V.bool (nIb (Mz (pts.take k) (w.take k))),V.ro 1 (nIl (Mz (pts.take k) (w.take k)))]]}),
   (11,{ v:=18,sz:=2,ty:=32,es:=[V.agg [V.bool (nIb (Ry (pts.take k) (w.take k))),V.ro 1 (nIl (Ry (pts.take k) (w.take k)))]]})],nx,73⟩) (fun k=>True) pts.length 26 trivial ?_ ?_
 ·rw [lp];simp only [H0,G5,Mz,Ry,Int.natCast_zero,A1z,A10];exact AS.le_refl _
 intro k nx hk _;refine Aa [1,4,5,6,9,10,11,35,36,37,38] [4,5,6,9,10,11] sr (Ab ?_)
 refine Ao (fun h3=>Ae ?_) (fun h3=>?_)
 ·have j:k<pts.length:=by simp at h3;omega
  have y:k<pv.length:=om;have aa:k<wv.length:=om;have a:k<w.length:=om;have gp:=hp k j;have gq:=hq k a;have ah:=A7 (k:=k) om;have y0:=z0 k om;have y1:=z1 k om;have y2:=z2 k om;have e0:=Wb a;have e1:=Ai5 j a;have e2:=Ai6 j a;have ae:=hw w[k] (Aw a);have ad:=l pts[k] (Aw j);generalize pts[k]=p at gp ad e1 e2;generalize w[k]=x at gq ae e0 e1 e2;generalize G5 (w.take k)=s0 at y0 e0|-;generalize Mz (pts.take k) (w.take k)=s1 at y1 e1|-;generalize Ry (pts.take k) (w.take k)=s2 at y2 e2|-;have sp:=Ar9 ad;have sx:=Wc ae;have c:=Kc false x om;have o:=Ar6 p om om;have n:=O4 (nI x) (nI p) (Ht om) (Ht om);have sm:=L3 sx sp;have f:=Zi (nI s0) (nI x) (Ht om) (Ht om);have i:=Zi (nI s1) (nI (x*p)) (Ht om) (Ht om);have e:=O4 (nI (x*p)) (nI p) (Ht om) (Ht om);have al:=L3 sm sp;have d:=Zi (nI s2) (nI (x*p*p)) (Ht om) (Ht om);rw [Bep]at c;simp only [I2,Ar0]at c o n f i e d;change AC _ _ [.bool false,.ro 1 (Fo x)] _ at c;have u:∀z:Int,(nIl z).all V.pureE=true:=Uv;have pn:=Ex x;refine Ab (Ap (Aa [1,4,5,6,9,10,11,12,13,35,36,37] [4,5,6,9,10,11] (by simp [gp,y]<;>rfl) (Ab (Ac (Am 4 (by simp [gq,aa]<;>rfl) ?_)))));refine Ai c func171 ?_ (hp:=by simp);refine Ag [1,4,5,6,9,10,11,13,14,35,36,37] [4,5,6,9,10,11,14] sr ?_;refine Ab (Ac (Am 1 sr ?_));refine Ai o func131 ?_;refine Ag [1,4,5,6,9,10,11,14,15,35,36,37] [4,5,6,9,10,11,14,15] sr ?_;refine Ab (Ac (Am 2 sr ?_));refine Ai n func133 ?_ (hp:=by simp);refine Ag [1,4,5,6,9,10,11,14,15,16,35,36,37] [4,5,6,9,10,11,14,15,16] sr ?_;refine Ab (Ac (Am 2 sr ?_));refine Ai f func225 ?_ (hp:=by simp);refine Ag [1,4,5,6,9,10,11,15,16,35,36,37] [4,5,6,9,10,11,15,16] sr ?_;refine Ab (Ac (Am 2 sr ?_));refine Ai i func225 ?_ (hp:=by simp);refine Ag [1,4,5,6,9,10,11,15,16,35,36,37] [4,5,6,9,10,11,15,16] sr ?_;refine C4 [(0,[]),(1,[]),(2,[]),(3,[]),(4,[]),(5,[])] Dm kr ?_;refine Ch 3 sr ?_;refine Bw (fun hg=>e) func133 rfl kr rfl rfl sr rfl rfl sr (by simp) sr ?_;refine Bw (fun hg=>d) func225 rfl kr rfl rfl sr rfl rfl sr (by simp) sr ?_;refine C5 [1,4,5,6,9,10,11,35,36,37] [4,5,6,9,10,11] sr ?_;refine A2 [1,4,5,6,9,10,11,35,36,37] [4,5,6,9,10,11] (by simp [ah]<;>rfl) ?_;exact⟨j,trivial,_,by simp only [e0,e1,e2,Dd];exact AS.le_refl _⟩
 ·refine A9 ?_;have ak:k=pts.length:=by simp at h3;omega
  subst ak;have ew:w.take pts.length=w:=Bf om;have ep:pts.take pts.length=pts:=Bf om;simp only [ew,ep];refine Ab (Ab (Ac (Am 1 sr ?_)));refine Ai t func87 ?_ (hp:=by simp);refine Ag [4,5,6,9,10,11,66] [4,5,6,9,10,11] sr ?_;refine A6 rfl (fun h4=>by simp at h4) (fun h4=>Ae (Ab (V6 (.take 0 [] (.alt 1 (.alt 2 (.take 3 [] (.take 4 [] (.take 5 [] (.take 6 [] .done)))) (.alt 3 (.alt 2 (.take 4 [] (.take 5 [] (.take 6 [] .done))) (.alt 4 (.take 2 [] (.take 5 [] (.take 6 [] .done))) .stop)) .stop)) (.alt 2 (.alt 1 (.take 3 [] (.take 4 [] (.take 5 [] (.take 6 [] .done)))) (.alt 3 (.take 1 [] (.take 4 [] (.take 5 [] (.take 6 [] .done)))) .stop)) (.alt 3 (.take 1 [] (.alt 2 (.take 4 [] (.take 5 [] (.take 6 [] .done))) (.alt 4 (.take 2 [] (.take 5 [] (.take 6 [] .done))) .stop))) .stop)))) Dm kr ?_)));refine Py (L:=[4,5,6,7]) (M:=[4,5,6]) sr ?_;intro T hT;have af:=(show T=_ by simpa using hT);subst af;exact Ak (Ad (by simp [results196]<;>rfl) rfl)
theorem Tk(x:Int){n:Nat}(h:n≠0):Ov x (n:Int)=.tup [(nR (mkRat x n)).v,.bool true]:=by
 have h1:Hp (n:Int)=1:=by unfold Hp;rw [if_neg om,if_pos (by omega)]
 rw [Ov,if_neg om,h1,Int.mul_one,Es]
def Pu(g:Gr)(w:List Nat):Rat:=mkRat (Mz g.pts w) (G5 w)
def X3(g:Gr)(w:List Nat):Rat:=mkRat ((G5 w:Int)*Ry g.pts w-Mz g.pts w*Mz g.pts w) (G5 w*G5 w)
structure sumsOk(g:Gr)(w:List Nat):Prop where
 grid:Lm g=0
 len:w.length=g.pts.length
 sz:Ks w 1000
 pos:G5 w≠0
theorem sumsOk.sz0{g:Gr}{w:List Nat}(h:sumsOk g w):Oc (G5 w)<=1021:=by
 have:=Alj h.sz w.length (A8 _);rw [Bo]at this;have hl:=(J3 h.grid).len;have:=h.len;omega
theorem sumsOk.sz1{g:Gr}{w:List Nat}(h:sumsOk g w):Oc (Mz g.pts w)<=1022:=by
 have:=Alk h.sz (J3 h.grid).pts h.len w.length (A8 _);rw [Bo,Bf (by have:=h.len;omega)]at this;have hl:=(J3 h.grid).len;have:=h.len;omega
theorem sumsOk.sz2{g:Gr}{w:List Nat}(h:sumsOk g w):Oc (Ry g.pts w)<=1023:=by
 have:=All h.sz (J3 h.grid).pts h.len w.length (A8 _);rw [Bo,Bf (by have:=h.len;omega)]at this;have hl:=(J3 h.grid).len;have:=h.len;omega
theorem Abl{n k:Nat}(h:Oc (n:Int)<=k):(B1 n).length<=k:=by rwa [Oc,Es]at h
theorem A2e{g:Gr}{w:List Nat}(h:sumsOk g w):P1 (Pu g w)<=1022:=Tj h.pos h.sz1 (Aj (Abl h.sz0) dc)
theorem A7m(g:Gr)(w:List Nat)(h:sumsOk g w):AC prog 151 [g.v,.ro 1 (Bv w)] (fun r=>r=.tup [(nR (Pu g w)).v,.int .i64 0]):=by
 have c:=Au0 g w h.grid h.len h.sz h.pos;have a:=Zj (nI (Mz g.pts w)) (nI (G5 w)) (Ht (Aj h.sz1 dc)) (Ht (Aj h.sz0 dc));rw [I2,I2,Tk _ h.pos]at a;change AC _ _ _ (fun r=>r=.tup [(nR (Pu g w)).v,.bool true])at a;simp only [Ar0,Ww]at c a|-;have k:=Uv;have e:=Jb (Pu g w);have d:=Jc (Pu g w);have ev:g.v=.agg [.ro 1 (As g.pts),.ro 1 (As g.pri)]:=rfl;rw [ev]at c|-;have i:=Br w;have f:=Af g.pts;have j:=Af g.pri;generalize Bv w=wv at c i|-;generalize As g.pts=pv at c f|-;generalize As g.pri=qv at c j|-;generalize nRb (Pu g w)=mb at a|-;generalize nRl (Pu g w)=ml at a e|-;generalize nRd (Pu g w)=md at a d|-;refine Ay func151 (fun w0 N0=>?_);refine Aa [1,2,4] [2,4] sr (Ab (Ac (Am 2 sr ?_)));refine Ai c func196 ?_ (hp:=by simp);refine Ag [4,6,7,9] [4,6,7] sr ?_;refine Ab (Aa [4,6,7,9,21] [4,6,7] sr ?_);refine A6 rfl (fun h1=>by simp at h1) (fun h1=>Ae (Ab (Ac (Am 2 sr ?_))));refine Ai a func130 ?_ (hp:=by simp);refine Ag [4,10] [4,10] sr ?_;refine Aa [4,5] [4] sr ?_;exact Ak (Ad (by simp [results151]<;>rfl) rfl)
theorem Aoo(g:Gr)(w:List Nat)(h:sumsOk g w):AC prog 248 [g.v,.ro 1 (Bv w)] (fun r=>r=.tup [(nR (X3 g w)).v,.int .i64 0]):=by
 have c:=Au0 g w h.grid h.len h.sz h.pos;have m:=h.sz0;have n:=h.sz1;have k2:=h.sz2;have f:=O4 (nI (G5 w)) (nI (Ry g.pts w)) (Ht om) (Ht om);have d:=O4 (nI (Mz g.pts w)) (nI (Mz g.pts w)) (Ht om) (Ht om);have e:=O4 (nI (G5 w)) (nI (G5 w)) (Ht om) (Ht om);have m1:=L3 m k2;have m2:=L3 n n;have m3:=L3 m m;simp only [I2]at f d e;have i:=A61 (nI ((G5 w:Int)*Ry g.pts w)) (nI (Mz g.pts w*Mz g.pts w)) (Ht om) (Ht om)
 have m4:Oc ((G5 w:Int)*Ry g.pts w-Mz g.pts w*Mz g.pts w)<=3000:=by
  rw [Int.sub_eq_add_neg];have:=Ti (k:=2044) (x:=(G5 w:Int)*Ry g.pts w) (y:= -(Mz g.pts w*Mz g.pts w)) om (by rw [Oc,N8];exact m2);omega
 have a:=Zj (nI ((G5 w:Int)*Ry g.pts w-Mz g.pts w*Mz g.pts w)) (nI ((G5 w:Int)*G5 w)) (Ht om) (Ht om);simp only [I2]at i a;rw [<- Fi,Tk _ (Jl h.pos h.pos)]at a;rw [Fi]at a;change AC _ _ _ (fun r=>r=.tup [(nR (X3 g w)).v,.bool true])at a;simp only [Ar0,Ww]at c a f d e i|-;have j:=Uv;have s:=Jb (X3 g w);have o:=Jc (X3 g w);have ev:g.v=.agg [.ro 1 (As g.pts),.ro 1 (As g.pri)]:=rfl;rw [ev]at c|-;have u:=Br w;have t:=Af g.pts;have z:=Af g.pri;generalize Bv w=wv at c u|-;generalize As g.pts=pv at c t|-;generalize As g.pri=qv at c z|-;generalize nRb (X3 g w)=mb at a|-;generalize nRl (X3 g w)=ml at a s|-;generalize nRd (X3 g w)=md at a o|-;refine Ay func248 (fun w0 N0=>?_);refine Aa [1,2,4] [2,4] sr (Ab (Ac (Am 2 sr ?_)));refine Ai c func196 ?_ (hp:=by simp);refine Ag [4,6,7,8,9] [4,6,7,8] sr ?_;refine Ab (Aa [4,6,7,8,9,22] [4,6,7,8] sr ?_);refine A6 rfl (fun h1=>by simp at h1) (fun h1=>Ae (Ab (C4 [(0,[10]),(1,[10]),(2,[]),(3,[10]),(4,[10]),(5,[]),(6,[]),(7,[]),(8,[])] Dm kr ?_)));refine Ch 2 sr ?_;refine Bw (fun l=>f) func133 rfl kr rfl rfl sr rfl rfl sr (by simp) sr ?_;refine Ch 2 sr ?_;refine Bw (fun l=>d) func133 rfl kr rfl rfl sr rfl rfl sr (by simp) sr ?_;refine Bw (fun l=>i) func282 rfl kr rfl rfl sr rfl rfl sr (by simp) sr ?_;refine C5 [4,6,10] [4,6,10] sr ?_;refine Ab (C4 [(0,[11]),(1,[11]),(2,[11]),(3,[]),(4,[]),(5,[]),(6,[]),(7,[]),(8,[]),(9,[]),(10,[])] Dm kr ?_);refine Ch 3 sr ?_;refine Bw (fun l=>e) func133 rfl kr rfl rfl sr rfl rfl sr (by simp) sr ?_;refine Bw (fun l=>a) func130 rfl kr rfl rfl sr rfl rfl sr (by simp) sr ?_;refine C5 [4,11] [4,11] sr ?_;refine Aa [4,5] [4] sr ?_;exact Ak (Ad (by simp [results248]<;>rfl) rfl)
theorem A7n(g:Gr)(hg:Lm g=0)(q:Rat)(hq:P1 q<=34359738368):AC prog 152 [g.v,(nR q).v] (fun r=>r=.tup [.int .i64 (Afe g.pts q:Nat),.int .i64 0]):=by
 have f:=L1 g;rw [hg]at f;obtain⟨ai,m,-,hpt,-,-⟩:=J3 hg;have c:=fun(p:Int)(hp: -1000<=p/\p<=1000)=>Aol p hp (nR q) (Na hq)
 simp only [Me]at c;have z:∀p:Int,-1000<=p/\p<=1000->P1 (Sh (p-q))<=34359738372:=fun p hp=>A7l (Auz (P4 (x:=p) om om) hq)
 have i:=fun(a b:Rat)(ha:P1 a<=34359738372)(hb:P1 b<=34359738372)=>Rg (nR a) (nR b) (Na (Aj ha dc)) (Na (Aj hb dc))
 simp only [Me]at i;obtain⟨pts,n⟩:=g;simp only at ai m hpt|-;have ev:(Gr.mk pts n).v=.agg [.ro 1 (As pts),.ro 1 (As n)]:=rfl;rw [ev]at f|-;have hp:∀(k:Nat)(h:k<pts.length),Hs (As pts) k=some (.int .i64 pts[k]):=fun k h=>Fj h
 have lp:=A5 pts;have pp:=Af pts;have pq:=Af n;simp only [Ww]at c i|-;have p1:=Jb;have p2:=Jc;generalize As pts=pv at hp lp f pp|-;generalize As n=qv at f pq|-;have g0:=hp 0 m;have o:=hpt _ (Aw m);have ag:=z _ o;have af:=c _ o
 have s:Afe pts q=Si q (pts.drop 1) 1 0 (Sh (pts[0]-q)):=by
  cases pts with
  |nil=>simp at m
  |cons p r=>rfl
 have ah:0<pv.length:=om;refine Ay func152 (fun w0 N0=>?_);refine Aa [2,3] [2,3] sr (Ab (Ab (Ac (Am 1 sr ?_))));refine Ai f func56 ?_ (hp:=by simp);refine Ag [2,3,6] [2,3] sr ?_;refine Aa [2,3,6,14] [2,3] sr ?_;refine A6 rfl (fun h1=>by simp at h1) (fun h1=>Ae (Aa [2,3,7] [2,3] sr (Ab (C4 [(0,[]),(1,[8]),(2,[]),(3,[8]),(4,[8]),(5,[]),(6,[]),(7,[])] Dm kr ?_))));refine Ch 5 (by simp [g0,ah]<;>rfl) ?_;refine Bw (fun hg=>af) func198 rfl kr rfl rfl sr rfl rfl sr (by simp) sr ?_;refine C5 [2,3,7,8] [2,3,8] sr ?_;refine Ab (Aa [2,3,7,8,9] [2,3,8] sr (Ap ?_))
 refine Dr (fun t:Nat × Nat × Rat × Nat=>⟨[(2,V.bp 2 0 2 0 0),(3,V.bp 3 1 3 0 0),(7,V.int IntKind.i64 (t.2.1:Nat)),(8,V.bp 8 16 3 0 0),(9,V.int IntKind.i64 ((t.1:Nat):Int))],
  [(2,{ v:=0,sz:=2,ty:=27,es:=[V.agg [V.ro 1 pv,V.ro 1 qv]]}),(3,{ v:=1,sz:=3,ty:=34,es:=[V.agg [V.bool (nRb q),V.ro 1 (nRl q),V.ro 1 (nRd q)]]}),(8,{ v:=16,sz:=3,ty:=34,es:=[V.agg [V.bool (nRb t.2.2.1),V.ro 1 (nRl t.2.2.1),V.ro 1 (nRd t.2.2.1)]]})],t.2.2.2,43⟩)
  (fun t=>1<=t.1/\t.1<=pts.length/\P1 t.2.2.1<=34359738372/\Si q (pts.drop t.1) t.1 t.2.1 t.2.2.1=Afe pts q) (fun t=>pts.length-t.1) (1,0,Sh (pts[0]-q),19) ⟨by simp,by simp only;omega,ag,s.symm⟩ (AS.le_refl _) ?_
 rintro⟨k,b,d,nx⟩⟨i1,i2,i3,j⟩;simp only at i1 i2 i3 j|-;refine Ab (Aa [2,3,7,8,9,26] [2,3,8] sr ?_)
 refine Ao (fun h2=>Ae ?_) (fun h2=>?_)
 ·have w:k<pts.length:=by simp at h2;omega
  have ab:k<pv.length:=om;have gp:=hp k w;have ad:=A7 (k:=k) om;have l:=hpt _ (Aw w);rw [Arz q w]at j;generalize pts[k]=p at gp l j;have aa:=c p l;have u:=z p l;have y:=i _ d u i3;generalize Sh (p-q)=e at aa u y j;refine Ab (Ap (Ab (C4 [(0,[]),(2,[]),(1,[10]),(3,[]),(4,[10]),(5,[10]),(6,[]),(7,[]),(8,[])] Dm kr ?_)));refine Ch 6 (by simp [gp,ab]<;>rfl) ?_;refine Bw (fun hg=>aa) func198 rfl kr rfl rfl sr rfl rfl sr (by simp) sr ?_;refine C5 [2,3,7,8,9,10] [2,3,8,10] sr ?_;refine Ab (Ac (Am 2 sr ?_));refine Ai y func89 ?_ (hp:=by simp);refine Ag [2,3,7,8,9,10,39] [2,3,8,10] sr ?_;have ae:Nt e d<0↔e<d:=by unfold Nt;by_cases h:e<d<;>simp [h];split<;>decide
  refine Ao (fun h3=>?_) (fun h3=>Ae ?_)
  ·refine Tc [(0,[]),(2,[]),(1,[]),(3,[])] [2,3,7,8,9] [2,3,8] Dm kr sr ?_;refine A2 [2,3,7,8,9] [2,3,8] (by simp [ad]<;>rfl) ?_;rw [if_pos (ae.1 (by simpa using h3))]at j;exact⟨(k+1,k,e,_),⟨by simp,by simp only;omega,u,j⟩,by simp only;omega,AS.le_refl _⟩
  refine A2 [2,3,7,8,9] [2,3,8] (by simp [ad]<;>rfl) ?_;rw [if_neg (fun h=>by rw [<- ae]at h;simp at h3;omega)]at j;exact⟨(k+1,b,d,_),⟨by simp,by simp only;omega,i3,j⟩,by simp only;omega,AS.le_refl _⟩
 ·refine A9 ?_;have aj:k=pts.length:=by simp at h2;omega
  rw [aj,Ca]at j;simp only [Si]at j;exact Aa [4,5] [] sr (Ak (Ad sr (by rw [j])))
def Tl(q a:Rat):Bool:=decide (a<q)&&decide (q<=1)
theorem Aop{a b:Rat}:0<Nt a b↔b<a:=by
 unfold Nt
 by_cases h:a<b
 ·have c:¬b<a:=fun h2=>Rat.not_lt.2 (Rat.le_of_lt h) h2
  simp [h,c]
 ·by_cases h2:b<a<;>simp [h,h2]
theorem Au1{a b:Rat}:Nt a b<=0↔a<=b:=by
 rw [<- Rat.not_lt,<- Aop];omega
theorem Aoq(a:RR)(h:a.ok 137438953472)(x y:Int)(h1: -9223372036854775808<=x)(h2:x<9223372036854775808)(h3:0<y)(h4:y<9223372036854775808):
  AC prog 58 [a.v,.int .i64 x,.int .i64 y] (fun r=>r=.bool (Tl a.val (mkRat x y.natAbs))):=by
 have hy:∃n:Nat,y=n/\n≠0:=⟨y.natAbs,by omega,by omega⟩;obtain⟨n,rfl,s⟩:=hy;rw [Es];have g:=Ux x n h1 h2 om h4;have f:=Ux 1 1 dc dc dc dc;rw [Tk _ s]at g;rw [Qu]at f;have t:P1 (mkRat x n)<=3:=Tj s (L0 om om) (Abl (L0 (z:=(n:Int)) om om));have e:=Rg a (nR (mkRat x n)) h (Na (Aj t dc));have d:=Rg a (nR ((1:Int):Rat)) h (Na (Aj (P4 dc dc) dc));rw [Me]at e d;have e1:((1:Int):Rat)=1:=rfl;rw [e1]at f d;have k:=Aop (a:=a.val) (b:=mkRat x n);have m:=Au1 (a:=a.val) (b:=1)
 have o:Tl a.val (mkRat x n)=(decide (0<Nt a.val (mkRat x n))&&decide (Nt a.val 1<=0)):=by
  unfold Tl;simp only [k,m]
 rw [o];have u:a.v=.agg [.bool a.num.neg,.ro 1 (Au a.num.mag),.ro 1 (Au a.den)]:=rfl;have pa:=RR.vp a;rw [u]at e d pa|-;simp only [Ww]at g f e d;have w:=Jb;have l:=Jc;have i:=Ah a.num.mag;have j:=Ah a.den;generalize Nt a.val (mkRat x n)=z1 at e|-;generalize Nt a.val 1=z2 at d|-;generalize Au a.num.mag=am,Au a.den=ad at*;clear k m o u t;refine Ay func58 (fun w0 N0=>?_);refine Aa [1,2,3] [3] sr (Ab (Ac (Am 2 sr ?_)));refine Ai g func88 ?_;refine Ag [3,7] [3,7] sr ?_;refine Ab (Ac (Ai f func88 ?_));refine Ag [3,7,9] [3,7,9] sr ?_;refine Ab (Ac (Am 2 sr ?_));refine Ai e func89 ?_ (hp:=by simp);refine Am 4 sr ?_;refine De (c:=decide (0<z1)) (fun hg=>d) func89 rfl kr sm rfl rfl sr (by simp) sr ?_;refine Ag [6] [] sr ?_;exact Ak (Ad sr sm)
def A0(l:List (Int × Int)):List V:=l.map fun p=>.agg [.int .i64 p.1,.int .i64 p.2]
@[simp]theorem Dq(l:List (Int × Int)):(A0 l).length=l.length:=by simp [A0]
theorem Hu{l:List (Int × Int)}{k:Nat}(h:k<l.length):Hs (A0 l) k=some (.agg [.int .i64 l[k].1,.int .i64 l[k].2]):=by rw [C1];simp [A0,h]
theorem A4(l:List (Int × Int)):(A0 l).all V.pureE=true:=by
 rw [Ax];intro x a;simp only [A0,Bk]at a;obtain⟨n,_,rfl⟩:=a;rfl
structure Po where
 len:Int
 rules:List Ru
 g:Gr
 en:List (Int × Int)
 mn:Int
 var:RR
 cut:Int
 lvl:RR
 top:Int
 rate:RR
 slack:Int
def Po.cs(p:Po):List V:=
 [.int .i64 p.len,.ro 5 (Ee p.rules),.ro 1 (As p.g.pts),.ro 1 (As p.g.pri),.ro 2 (A0 p.en),.int .i64 p.mn,
  .bool p.var.num.neg,.ro 1 (Au p.var.num.mag),.ro 1 (Au p.var.den),.int .i64 p.cut,
  .bool p.lvl.num.neg,.ro 1 (Au p.lvl.num.mag),.ro 1 (Au p.lvl.den),.int .i64 p.top,
  .bool p.rate.num.neg,.ro 1 (Au p.rate.num.mag),.ro 1 (Au p.rate.den),.int .i64 p.slack]
def Po.v(p:Po):V:=.agg p.cs
structure Po.ok(p:Po):Prop where
 var:p.var.ok 137438953472
 lvl:p.lvl.ok 137438953472
 rate:p.rate.ok 34359738368
def A7o(p:Po):Bool:=
 (decide (p.mn<0)||decide (p.len<p.mn))||(decide (Acq p.var.val<0)||((decide (p.cut<0)||decide ((p.g.pts.length:Int)-1<p.cut))||((!decide (p.cut=0)&& !Tl p.lvl.val (mkRat 1 2))||
 ((decide (p.top<1)||decide (5<p.top))||((!Tl p.rate.val (mkRat 0 1))||(decide (p.slack<0)||decide (1000000<p.slack)))))))
def U0(p:Po):Int:=
 if Sp p.len p.rules≠0 then Sp p.len p.rules else if Lm p.g≠0 then Lm p.g else if 400<p.en.length then 5 else if A7o p=true then 3 else 0
theorem P5(p:Po)(e:p.ok):Hm gv prog 34 [p.v] (fun r=>r=.int .i64 (U0 p)):=by
 have t:=Xh p.len p.rules;have n:=L1 p.g;have u:=Aof p.var e.var.lim e.var.num.lim;have j:=Aoq p.lvl e.lvl 1 2 dc dc dc dc;have f:=Aoq p.rate ⟨⟨e.rate.num.lim,Aj e.rate.num.len dc⟩,e.rate.lim,Aj e.rate.len dc⟩ 0 1 dc dc dc dc;change AC _ _ _ (fun r=>r=.bool (Tl p.lvl.val (mkRat 1 2)))at j;change AC _ _ _ (fun r=>r=.bool (Tl p.rate.val (mkRat 0 1)))at f;obtain⟨len,rules,⟨a,l⟩,en,mn,⟨⟨vb,z⟩,vd⟩,k,⟨⟨lb,lm⟩,ld⟩,o,⟨⟨rb,rm⟩,rd⟩,d⟩:=p;unfold U0 A7o Po.v Po.cs;simp only at t n u j f|-;have m:=A5 a;have le:=Dq en;have q1:=Cq rules;have q2:=Af a;have q3:=Af l;have q4:=Ah z;have q5:=Ah vd;have q6:=Ah lm;have q7:=Ah ld;have q8:=Ah rm;have q9:=Ah rd;have e1:Qw len rules=.agg [.int .i64 len,.ro 5 (Ee rules)]:=rfl;have e2:(Gr.mk a l).v=.agg [.ro 1 (As a),.ro 1 (As l)]:=rfl;have e3:(RR.mk ⟨vb,z⟩ vd).v=.agg [.bool vb,.ro 1 (Au z),.ro 1 (Au vd)]:=rfl;have e4:(RR.mk ⟨lb,lm⟩ ld).v=.agg [.bool lb,.ro 1 (Au lm),.ro 1 (Au ld)]:=rfl;have e5:(RR.mk ⟨rb,rm⟩ rd).v=.agg [.bool rb,.ro 1 (Au rm),.ro 1 (Au rd)]:=rfl;rw [e1]at t;rw [e2]at n;rw [e3]at u;rw [e4]at j;rw [e5]at f;clear e1 e2 e3 e4 e5 e;generalize Sp len rules=x1 at t|-;have aa:Lm ⟨a,l⟩=0->a.length<=21:=fun h=>(J3 h).len
 generalize Lm ⟨a,l⟩=x2 at n aa|-;generalize Acq (RR.mk ⟨vb,z⟩ vd).val=x3 at u|-;generalize Tl (RR.mk ⟨lb,lm⟩ ld).val (mkRat 1 2)=x4 at j|-;generalize Tl (RR.mk ⟨rb,rm⟩ rd).val (mkRat 0 1)=x5 at f|-;generalize Ee rules=w1,As a=w2,As l=w3,Au z=w4,Au vd=w5,Au lm=w6,Au ld=w7,Au rm=w8,Au rd=w9,A0 en=w0 at*;refine Bx func34 (fun w0 N0 hG=>?_);refine Aa [1] [1] sr (Ab (Ab (Ac (Am 2 sr ?_))));refine Be hG t func55 ?_ (hp:=by simp);refine Ag [1,3] [1] sr ?_;refine Aa [1,3,9] [1] sr ?_
 refine Ao (fun h1=>?_) (fun h1=>Ae ?_)
 ·exact Aa [2] [] sr (Ak (Ad sr (by rw [if_pos (by simpa using h1)])))
 rw [if_neg (by simpa using h1)];refine Ab (Ab (Ac (Am 2 sr ?_)));refine Ai n func56 ?_ (hp:=by simp);refine Ag [1,4] [1] sr ?_;refine Aa [1,4,15] [1] sr ?_
 refine Ao (fun h2=>?_) (fun h2=>Ae ?_)
 ·exact Aa [2] [] sr (Ak (Ad sr (by rw [if_pos (by simpa using h2)])))
 rw [if_neg (by simpa using h2)];refine Ab (Aa [1,20] [1] sr ?_)
 refine Ao (fun h3=>?_) (fun h3=>Ae ?_)
 ·exact Aa [2] [] sr (Ak (Ad sr (by rw [if_pos (by simp at h3;omega)])))
 rw [if_neg (by simp at h3;omega)];refine Ab (Ap (Ab (Aa [1,21] [1] sr ?_)))
 refine Ao (fun h=>Ae ?_) (fun h=>?_)
 ·have s:(decide (mn<0)||decide (len<mn))=true:=by simpa [m]using h
  refine A6 rfl (fun _ =>?_) (fun i=>by rw [h]at i;cases i);exact Aa [2] [] sr (Ak (Ad sr (by rw [if_pos (by rw [s];rfl)])))
 have s:(decide (mn<0)||decide (len<mn))=false:=by simpa [m]using h
 refine Ab (Ac (Am 2 sr ?_));refine Ai u func57 ?_ (hp:=by simp);refine Ag [1,21] [1] sr ?_
 refine Ao (fun h=>Ae ?_) (fun h=>?_)
 ·have w:decide (x3<0)=true:=by simpa [m]using h
  refine A6 rfl (fun _ =>?_) (fun i=>by rw [h]at i;cases i);exact Aa [2] [] sr (Ak (Ad sr (by rw [if_pos (by rw [s,w];rfl)])))
 have w:decide (x3<0)=false:=by simpa [m]using h
 have ab:x2=0:=by simpa using h2
 have ad:=aa ab;have C9:IntKind.i64.wrap ((w2.length:Int)-1)=(w2.length:Int)-1:=Bb om om;refine Aa [1,21] [1] (by simp [C9]<;>rfl) ?_
 refine Ao (fun h=>Ae ?_) (fun h=>?_)
 ·have x:(decide (k<0)||decide ((a.length:Int)-1<k))=true:=by simpa [m]using h
  refine A6 rfl (fun _ =>?_) (fun i=>by rw [h]at i;cases i);exact Aa [2] [] sr (Ak (Ad sr (by rw [if_pos (by rw [s,w,x];rfl)])))
 have x:(decide (k<0)||decide ((a.length:Int)-1<k))=false:=by simpa [m]using h
 refine Ab (Ac (Am 6 sr ?_));refine De (c:= !decide (k=0)) (fun hg=>j) func58 rfl kr sm rfl rfl sr (by simp) sr ?_;refine Ag [1,21] [1] sr ?_
 refine Ao (fun h=>Ae ?_) (fun h=>?_)
 ·have y:(!decide (k=0)&& !x4)=true:=by simpa [m]using h
  refine A6 rfl (fun _ =>?_) (fun i=>by rw [h]at i;cases i);exact Aa [2] [] sr (Ak (Ad sr (by rw [if_pos (by rw [s,w,x,y];rfl)])))
 have y:(!decide (k=0)&& !x4)=false:=by simpa [m]using h
 refine Aa [1,21] [1] sr ?_
 refine Ao (fun h=>Ae ?_) (fun h=>?_)
 ·have g4:(decide (o<1)||decide (5<o))=true:=by simpa [m]using h
  refine A6 rfl (fun _ =>?_) (fun i=>by rw [h]at i;cases i);exact Aa [2] [] sr (Ak (Ad sr (by rw [if_pos (by rw [s,w,x,y,g4];rfl)])))
 have g4:(decide (o<1)||decide (5<o))=false:=by simpa [m]using h
 refine Ab (Ac (Am 2 sr ?_));refine Ai f func58 ?_ (hp:=by simp);refine Ag [1,21] [1] sr ?_
 refine Ao (fun h=>Ae ?_) (fun h=>?_)
 ·have g5:(!x5)=true:=by simpa [m]using h
  refine A6 rfl (fun _ =>?_) (fun i=>by rw [h]at i;cases i);exact Aa [2] [] sr (Ak (Ad sr (by rw [if_pos (by rw [s,w,x,y,g4,g5];rfl)])))
 have g5:(!x5)=false:=by simpa [m]using h
 refine A2 [21] [] sr ?_
 refine Ao (fun h=>?_) (fun h=>Ae ?_)
 ·have g6:(decide (d<0)||decide (1000000<d))=true:=by simpa using h
  exact Aa [2] [] sr (Ak (Ad sr (by rw [if_pos (by rw [s,w,x,y,g4,g5,g6];rfl)])))
 have g6:(decide (d<0)||decide (1000000<d))=false:=by simpa using h
 exact Aa [2] [] sr (Ak (Ad sr (by rw [if_neg (by rw [s,w,x,y,g4,g5,g6];decide)])))
def Ox(l:List Int):List Nat:=l.map Int.toNat
theorem Qh{w:List Nat}{k:Nat}(h:k<w.length):(Bv w)[k]? =some (.ro 1 (Fo w[k])):=by rw [<- C1];exact Kb h
theorem A2f(g:Gr)(hg:Lm g=0):AC prog 98 [g.v] (fun r=>r=.tup [.ro 1 (Bv (Ox g.pri)),.int .i64 0]):=by
 have l:=L1 g;rw [hg]at l;obtain⟨ab,y,aa,-,hpr,-⟩:=J3 hg;obtain⟨d,pri⟩:=g;simp only at ab y aa hpr|-;have ev:(Gr.mk d pri).v=.agg [.ro 1 (As d),.ro 1 (As pri)]:=rfl;rw [ev]at l|-;have hq:∀(k:Nat)(h:k<pri.length),Hs (As pri) k=some (.int .i64 pri[k]):=fun k h=>Fj h
 have lq:=A5 pri;have pp:=Af d;have pq:=Af pri;have hz:(Ox pri).length=pri.length:=by simp [Ox]
 have hn:∀(k:Nat)(h:k<pri.length),(Bv (Ox pri))[k]? =some (.ro 1 (Fo pri[k].toNat)):=fun k h=>by rw [Qh (by omega)];simp [Ox]
 have s:(Bv (Ox pri)).length=pri.length:=by rw [H2,hz]
 have x:=Br (Ox pri);generalize As d=pv,As pri=m,Bv (Ox pri)=f at*;refine Ay func98 (fun w0 N0=>?_);refine Aa [1] [1] sr (Ab (Ab (Ac (Am 1 sr ?_))));refine Ai l func56 ?_ (hp:=by simp);refine Ag [1,4] [1] sr ?_;refine Aa [1,4,11] [1] sr ?_;refine A6 rfl (fun h1=>by simp at h1) (fun h1=>Ae ?_);have u:(m.length:Int)<=9223372036854775807:=om;have w:24*(m.length:Int)<=281474976710656:=om;refine Aa [1,5] [1,16] (by simp [u,w]<;>rfl) (Ab (Aa [5,18,19,20] [16] sr (Ap (Bq (fun k nx=>⟨[(5,V.sl 16 (11) 1 m.length),(18,V.ro 1 m),(19,V.int .i64 m.length),(20,V.int .i64 k)],[(16,{ v:=11,sz:=1,ty:=30,es:=Fy f .nils k})],nx,33⟩) (fun k=>True) pri.length _ trivial (by rw [I8,s,<- lq];exact AS.le_refl _) ?_))));intro k nx hk hI;have t:=J6 f .nils k om;refine Aa [5,18,19,20,21] [16] sr (Ab ?_)
 refine Ao (fun h2=>Ae ?_) (fun h2=>?_)
 ·have c:k<pri.length:=by simp at h2;omega
  have i:k<m.length:=om;have j:k<f.length:=om;have ga:=hq k c;have a:=J8 f .nils k j (hn k c);have o:Hs (Fy f .nils k) k=some .nils:=J7 f .nils k j;have hw:=A7 (k:=k) om;have ad:=hpr _ (Aw c);generalize pri[k]=p at ga a ad;obtain⟨n,rfl⟩:∃n:Nat,p=n:=⟨p.toNat,by omega⟩;rw [Dv]at a;have e:=Afh n om;change AC _ _ _ (fun r=>r=.ro 1 (Fo n))at e;have z:=wrap_u64 (n:=n) om;have pn:=Ex n;generalize Fy f .nils k=row at o a t|-;refine Ab (Ap (Aa [5,6,7,18,19,20] [16] (by simp [ga,i]<;>rfl) (Ac (Am 4 (by simp [z]<;>rfl) ?_))));refine Ai e func129 ?_;refine Ag [5,18,19,20] [16] (by simp [i,o,a]<;>rfl) ?_;refine A2 [5,18,19,20] [16] (by simp [hw]<;>rfl) ?_;exact⟨c,trivial,_,AS.le_refl _⟩
 ·refine A9 ?_;have ae:k=pri.length:=by simp at h2;omega
  rw [K1 f .nils k (by omega)];refine Bt 16 [5] [] (by simp [x,s,lq]<;>rfl) ?_;exact Aa [2,3] [] sr (Ak (Ad sr rf))
theorem A2g(g:Gr)(c:Lm g=0):AC prog 65 [g.v] (fun r=>r=.tup [.ro 1 (Bv (Ox g.pri)),.int .i64 0]):=by
 have a:=A2f g c;have ev:g.v=.agg [.ro 1 (As g.pts),.ro 1 (As g.pri)]:=rfl;rw [ev]at a|-;have d:=Af g.pts;have f:=Af g.pri;have e:=Br (Ox g.pri);generalize As g.pts=pv,As g.pri=qv,Bv (Ox g.pri)=nv at*;refine Ay func65 (fun w0 N0=>?_);refine Aa [1] [1] sr (Ab (Ac (Am 1 sr ?_)));refine Ai a func98 ?_ (hp:=by simp);refine Ag [2,3] [] sr ?_;exact Ak (Ad (by simp [results65]<;>rfl) (rfl))
end Go.Proofs.YtpaccopbbffkaaaGreatDoor
