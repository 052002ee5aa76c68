/- Sessions: part 3 of the proof. No condition. -/
import Derived.Test.YtpaccopbbffkaaaGreatDoorP2
import Derived.Test.YtpaccopbbffkaaaGreatDoorProg
import Derived.IntWalk
import Derived.Shelf.Strings.Builder1
import Derived.Shelf.Strings.Builder2
import Derived.Shelf.Small.Bits
import Derived.Shelf.Strconv.Itoa0
import Derived.Shelf.Strings.Search1
import Derived.Shelf.Strings.Search2
import Derived.Shelf.Strings.Search3
import Derived.Shelf.Strings.Cut
import Derived.Shelf.Strings.Count
import Derived.Shelf.LaysM
import Derived.Shelf.Strings.Shaped
import Derived.Shelf.Sort.Plain
import Derived.Shelf.Strings.Split
import Derived.Shelf.Strings.Replace
import Derived.Shelf.Unicode.DecodeSlow
import Derived.Ground.Names2Prog
import Derived.Shelf.Slices.CompactI
import Derived.Shelf.Slices.Cells
import Derived.Ground.SlsfProg
import Derived.Shelf.SlSortCmp.Insertion
import Derived.Shelf.SlSortCmp.Median1
import Derived.Shelf.SlSortCmp.ReverseRange1
import Derived.Lib.AppendIntMem
set_option maxHeartbeats 8000000
set_option linter.all false
open Go.Proofs.Tryz
set_option linter.unusedSimpArgs false
namespace Go.Eng.Limb
def D6(l:List Nat):Prop:=∀x∈l,x<4294967296
def Bd:List Nat->Nat
 | []=>0
 |x::r=>x+4294967296*Bd r
def Mi:List Nat->List Nat
 | []=>[]
 |x::r=>if Mi r= []then(if x=0 then []else [x])else x::Mi r
theorem Ac0:∀(a:List Nat),Mi (a++[0])=Mi a
 | []=>by simp [Mi]
 |x::a=>by simp [Mi,Ac0 a]
theorem Ac1(y:Nat)(h:y≠0):∀(a:List Nat),Mi (a++[y])=a++[y]
 | []=>by simp [Mi,h]
 |x::a=>by simp [Mi,Ac1 y h a]
theorem K7:∀(l:List Nat),(Mi l).length<=l.length
 | []=>by simp [Mi]
 |x::r=>by
  have:=K7 r;rw [Mi]
  split
  ·split<;>simp
  ·simp;omega
def B1(n:Nat):List Nat:=if h:n=0 then []else n%4294967296::B1 (n/4294967296)
 termination_by n
 decreasing_by omega
theorem Ea:B1 0= []:=by rw [B1];simp
theorem Ks{n:Nat}(h:n≠0):B1 n=n%4294967296::B1 (n/4294967296):=by rw [B1];simp [h]
theorem Kb:∀(l:List Nat),D6 l->Mi l=B1 (Bd l)
 | [],_ =>by simp [Mi,Bd,Ea]
 |x::r,h=>by
  have hx:x<4294967296:=h x sm;have ih:=Kb r (fun y e=>h y (by simp [e]));rw [Mi,Bd,ih]
  by_cases c:Bd r=0
  ·rw [c,Ea]
   by_cases d:x=0
   ·subst d;simp [Ea]
   ·rw [if_pos rfl,if_neg d,Ks Go.om];rw [show(x+4294967296*0)%4294967296=x by omega,show(x+4294967296*0)/4294967296=0 by omega,Ea]
  ·have a:B1 (Bd r)≠ []:=by rw [Ks c];simp
   rw [if_neg a,Ks (n:=x+4294967296*Bd r) Go.om];rw [show(x+4294967296*Bd r)%4294967296=x by omega,show(x+4294967296*Bd r)/4294967296=Bd r by omega]
theorem Cv(n:Nat):Bd (B1 n)=n:=by
 induction n using Nat.strongRecOn with
 |_ n ih=>
  by_cases h:n=0
  ·subst h;simp [Ea,Bd]
  ·rw [Ks h,Bd,ih _ Go.om];omega
theorem Cn(n:Nat):D6 (B1 n):=by
 induction n using Nat.strongRecOn with
 |_ n ih=>
  by_cases h:n=0
  ·subst h;simp [Ea,D6]
  ·rw [Ks h];intro x a
   rcases Cj.1 a with h1|h1
   ·omega
   ·exact ih _ om x h1
def Cb:Nat->Nat->List Nat
 |0,_ =>[]
 |k+1,v=>v%4294967296::Cb k (v/4294967296)
@[simp]theorem Xk:∀(k v:Nat),(Cb k v).length=k
 |0,_ =>rfl
 |k+1,v=>by simp [Cb,Xk k]
theorem Nr:∀(k v:Nat),D6 (Cb k v)
 |0,_ =>by simp [Cb,D6]
 |k+1,v=>by
  intro x a
  rcases Cj.1 a with h|h
  ·rw [h];exact C9 _ dc
  ·exact Nr k _ x h
theorem Q5:∀(k v:Nat),Bd (Cb k v)=v%4294967296^k
 |0,v=>by simp [Cb,Bd,Ue]
 |k+1,v=>by
  rw [Cb,Bd,Q5 k,Ck,Bj (4294967296^k) 4294967296,Uf]
theorem Aiv:∀(l:List Nat),D6 l->Cb l.length (Bd l)=l
 | [],_ =>rfl
 |x::r,h=>by
  have hx:x<4294967296:=h x sm;rw [Ba,Cb,Bd,show(x+4294967296*Bd r)%4294967296=x by omega,show(x+4294967296*Bd r)/4294967296=Bd r by omega,Aiv r (fun y a=>h y (by simp [a]))]
theorem Alh:∀(k v i:Nat),i<k->(Cb k v)[i]? =some (v/4294967296^i%4294967296)
 |0,_,_,h=>by omega
 |k+1,v,0,_ =>by simp [Cb]
 |k+1,v,i+1,h=>by
  rw [Cb,Fy,Alh k _ i om,Cq,Ck,Bj]
theorem Zi:∀(k v:Nat),Cb (k+1) v=Cb k v++[v/4294967296^k%4294967296]
 |0,v=>by simp [Cb]
 |k+1,v=>by
  rw [Cb,Zi k,Cb,Cq,Ck,Bj];rfl
theorem Zj:∀(k v i:Nat),i<=k->(Cb k v).take i=Cb i v
 |_,_,0,_ =>by simp [Cb]
 |0,_,i+1,h=>by omega
 |k+1,v,i+1,h=>by rw [Cb,Lq,Zj k _ i om,Cb]
theorem Agv:∀(k v i:Nat),i<=k->(Cb k v).drop i=Cb (k-i) (v/4294967296^i)
 |k,v,0,_ =>by simp
 |0,_,i+1,h=>by omega
 |k+1,v,i+1,h=>by
  rw [Cb,List.drop_succ_cons,Agv k _ i om,Cq,Ck,Bj,Nat.add_sub_add_right]
theorem Tf(k v:Nat):Cb k (v%4294967296^k)=Cb k v:=by
 have:=Aiv (Cb k v) (Nr k v)
 rwa [Xk,Q5]at this
theorem Xl(k m v:Nat):Cb (k+m) v=Cb k v++Cb m (v/4294967296^k):=by
 have h1:=Zj (k+m) v k om;have h2:=Agv (k+m) v k om;rw [show k+m-k=m by omega]at h2;rw [<- h1,<- h2,Gi]
theorem Aud{k v:Nat}(h:v<4294967296^k):Mi (Cb k v)=B1 v:=by
 rw [Kb _ (Nr k v),Q5,Ci h]
theorem Ac2(k m a b:Nat)(c:a<4294967296^k):Cb k a++Cb m b=Cb (k+m) (a+4294967296^k*b):=by
 have hp:0<4294967296^k:=Fe dc;rw [Xl,Ky _ _ hp,Ga c,Dj,<- Tf k (a+4294967296^k*b),Nat.add_mul_mod_self_left,Tf]
theorem Aiw:∀(l:List Nat),D6 l->Bd l<4294967296^l.length
 | [],_ =>by simp [Bd]
 |x::r,h=>by
  have hx:x<4294967296:=h x sm;have ih:=Aiw r (fun y a=>h y (by simp [a]));rw [Bd,Ba,Ck];have:4294967296*(Bd r+1)<=4294967296*4294967296^r.length:=D9 _ ih;rw [Bj (4294967296^r.length)];omega
theorem Oe:∀(a b:List Nat),Bd (a++b)=Bd a+4294967296^a.length*Bd b
 | [],b=>by simp [Bd]
 |x::a,b=>by
  simp only [Ch,Bd,Oe a b,Ba,Ck];rw [Dw,<- B5,Bj 4294967296 (4294967296^a.length)];omega
theorem O8(n:Nat):B1 n=Cb (B1 n).length n:=by
 have:=Aiv (B1 n) (Cn n);rw [Cv]at this;exact this.symm
theorem J1(n:Nat):n<4294967296^(B1 n).length:=by
 have:=Aiw (B1 n) (Cn n)
 rwa [Cv]at this
theorem Tg{n:Nat}:B1 n= []↔n=0:=by
 constructor
 ·intro h;have:=Cv n;rw [h]at this;simpa [Bd]using this.symm
 ·rintro rfl;exact Ea
theorem Uv:∀(k n:Nat),(B1 n).length=k+1->4294967296^k<=n
 |0,n,h=>by
  rcases Es n with a|a
  ·subst a;rw [Ea]at h;simp at h
  ·rw [Sc];exact a
 |k+1,n,h=>by
  have a:n≠0:=by rintro rfl;rw [Ea]at h;simp at h
  rw [Ks a,Ba]at h;have ih:=Uv k (n/4294967296) om;have h2:=E4 n 4294967296;exact Ai (B3 4294967296 ih) h2
set_option maxRecDepth 20000
theorem A7o{u v d a W:Nat}(c:0<a)(hu:u<(d+1)*W)(f:a*W<=v):u/v<=d/a:=by
 rw [Gj c];have h1:=E4 u v;have h2:u/v*(a*W)<=u/v*v:=D9 _ f;have e:u/v*a*W<(d+1)*W:=by rw [B5];omega
 have:=Ir e;omega
theorem A7p{u v c a W:Nat}(hW:0<W)(hu:c*W<=u)(i:v<(a+1)*W)(f:u/v<a)(e:0<v):c/a<=u/v+1:=by
 have d:0<a:=Fi (B4 _) f
 rcases De (u/v+1) (c/a)with h|h
 ·exfalso
  have h1:(u/v+2)*a<=c:=(Gj d).1 h
  have h2:u<(u/v+1)*v:=by
   have:=Ib u e
   rwa [Bj]at this
  have h3:(u/v+2)*a*W<=c*W:=B3 _ h1;have h4:(u/v+1)*v<=(u/v+1)*((a+1)*W):=D9 _ (Ho i)
  have j:(u/v+2)*a*W<(u/v+1)*(a+1)*W:=by
   rw [B5 (u/v+1)];omega
  have g:=Ir j;generalize u/v=q at g f;rw [B9,Dw,B9]at g;omega
 ·exact h
def Ali(a x y:Nat):Nat->Nat->Nat->Nat
 |0,d,_ =>d
 |m+1,d,r=>if 4294967296<=d\/r*4294967296+y<d*x then(if 4294967296<=r+a then d-1 else Ali a x y m (d-1) (r+a))else d
theorem A3j{a x y c:Nat}(ha:2147483648<=a)(ab:a<4294967296)(hx:x<4294967296)(hy:y<4294967296)(j:c<(a+1)*4294967296):
  ∀(m d r:Nat),d*a+r=c->r<4294967296->4294967296<=r+m*a->min ((c*4294967296+y)/(a*4294967296+x)) 4294967295<=d->Ali a x y m d r=min ((c*4294967296+y)/(a*4294967296+x)) 4294967295:=by
 have g:0<a*4294967296+x:=om
 have f:∀d r,d*a+r=c->(d<=(c*4294967296+y)/(a*4294967296+x)↔d*x<=r*4294967296+y):=fun d r h=>by
  rw [Gj g,Dw,<- B5,<- h,B9];omega
 generalize(c*4294967296+y)/(a*4294967296+x)=q at f|-;intro m
 induction m with
 |zero=>intro d r _ hr s _;omega
 |succ m ih=>
  intro d r t hr s hq;have o:=f d r t;rw [Ali]
  split
  ·rename_i hc
   have z:0<d:=by
    rcases Es d with l|l
    ·subst l;omega
    ·exact l
   obtain⟨e,rfl⟩:∃e,d=e+1:=⟨d-1,by omega⟩;rw [Nat.add_sub_cancel];have u:e*a+(r+a)=c:=by rw [<- t,B9];omega
   have n:min q 4294967295<=e:=by
    rcases De e (min q 4294967295)with h|h
    ·exfalso
     have h1:e+1<=q:=om;have h2:=o.1 h1;omega
    ·exact h
   split
   ·rename_i i;have k:=f e (r+a) u
    have aa:e<4294967296:=by
     rcases De e 4294967296 with h|h
     ·exact h
     ·exfalso
      have:=B3 a h;rw [B9]at j;omega
    have h3:e*x<=(r+a)*4294967296+y:=by
     have h4:e*x<=4294967296*4294967296:=Hx om om;have h5:4294967296*4294967296<=(r+a)*4294967296:=B3 _ i;omega
    have:=k.2 h3;omega
   ·rename_i i;exact ih e (r+a) u om (by rw [B9]at s;omega) n
  ·rename_i hc;have w:d<4294967296:=om;have:=o.2 om;omega
theorem Aya{c a:Nat}(b1:2147483648*4294967296<=a)(b2:a<4294967296*4294967296)(b3:c<(a+1)*4294967296):
  Ali (a/4294967296) (a%4294967296) (c%4294967296) 3 (c/4294967296/(a/4294967296)) (c/4294967296%(a/4294967296))=min (c/a) 4294967295:=by
 have i:2147483648<=a/4294967296:=om;have f:a/4294967296<4294967296:=om;have g:c/4294967296<(a/4294967296+1)*4294967296:=om
 have h:=A3j (x:=a%4294967296) (y:=c%4294967296) i f om om g 3 (c/4294967296/(a/4294967296)) (c/4294967296%(a/4294967296)) (by
   have:=Gq (c/4294967296) (a/4294967296);rw [Bj]at this;exact this) (Sb (C9 (c/4294967296) (show 0<a/4294967296 by omega)) f) (Ai (show 4294967296<=3*(a/4294967296)by omega) (Nat.le_add_left _ _)) (by
   have e:c/4294967296*4294967296+c%4294967296=c:=om;have d:a/4294967296*4294967296+a%4294967296=a:=Nat.div_add_mod' a 4294967296;rw [e,d];refine Ai (Nat.min_le_left _ _) ?_;rw [Gj (show 0<a/4294967296 by omega),Gj (show 0<4294967296 by decide)];have:=E4 c a;have h2:c/a*(a/4294967296*4294967296)<=c/a*a:=D9 _ (E4 _ _);rw [<- B5]at h2;exact Ai h2 this)
 have e:c/4294967296*4294967296+c%4294967296=c:=om;have d:a/4294967296*4294967296+a%4294967296=a:=Nat.div_add_mod' a 4294967296;rw [e,d]at h;exact h
theorem Api{n u v:Nat}(hn:2<=n)(s:4294967296^n<=2*v)(j:v<4294967296^n)(hu:u<v*4294967296)(d:Nat)
  (i:d=Ali (v/4294967296^(n-1)) (v/4294967296^(n-2)%4294967296) (u/4294967296^(n-2)%4294967296) 3 (u/4294967296^(n-1)/(v/4294967296^(n-1))) (u/4294967296^(n-1)%(v/4294967296^(n-1)))):
  d<4294967296/\(d=u/v\/d=u/v+1):=by
 obtain⟨k,rfl⟩:∃k,n=k+2:=⟨n-2,by omega⟩;rw [show k+2-1=k+1 by omega,show k+2-2=k by omega]at i;have m:0<4294967296^k:=Fe dc;have o:4294967296^(k+1)=4294967296^k*4294967296:=Ck ..;have t:4294967296^(k+2)=4294967296^k*4294967296*4294967296:=by rw [Ck,Ck]
 rw [o,<- Cq,<- Cq]at i;rw [t]at s j;clear o t;generalize 4294967296^k=W at*
 have h:0<v:=by
  rcases Es v with l|l
  ·subst l;omega
  ·exact l
 obtain⟨a,f⟩:∃a,a=v/W:=⟨_,rfl⟩;obtain⟨g,c⟩:∃g,g=u/W:=⟨_,rfl⟩;rw [<- f,<- c]at i;have w:a*W<=v:=by rw [f];exact E4 v W
 have r:v<(a+1)*W:=by have:=Ib v m;rw [<- f,Bj]at this;exact this
 have y:g*W<=u:=by rw [c];exact E4 u W
 have a4:u<(g+1)*W:=by have:=Ib u m;rw [<- c,Bj]at this;exact this
 have z:2147483648*4294967296<=a:=by
  have:W*(2147483648*4294967296)<W*(a+1):=by
   have h1:W*4294967296*4294967296<=2*v:=s;have h2:W*4294967296*4294967296=2*(W*(2147483648*4294967296)):=by rw [B5 W,<- B5 2,Bj 2 W,B5]
   rw [Bj W (a+1)];omega
  exact Nat.le_of_lt_succ (Nat.lt_of_mul_lt_mul_left this)
 have b2:a<4294967296*4294967296:=by
  have h1:a*W<4294967296*4294967296*W:=by rw [Bj (4294967296*4294967296) W,<- B5];omega
  exact Ir h1
 have hq:u/v<4294967296:=by rw [Cz h,Bj];exact hu
 have b3:g<(a+1)*4294967296:=by
  have h1:g*W<(a+1)*4294967296*W:=by
   have:v*4294967296<=(a+1)*W*4294967296:=B3 _ (Ho r);have e:(a+1)*W*4294967296=(a+1)*4294967296*W:=by rw [B5,Bj W,B5]
   omega
  exact Ir h1
 have c1:=A7o om a4 w;have c2:=A7p m y r om h;have x:=Aya z b2 b3;rw [i,x];omega
theorem Th(v P:Nat):v%(P*4294967296)=v%P+P*(v/P%4294967296):=Uf
theorem Ayb{x d v u P c b y b':Nat}(h:x+d*(v%P)=u%P+P*(c+b))(j:y+(d*(v/P%4294967296)+c)%4294967296+b=u/P%4294967296+4294967296*b'):
  (x+P*y)+d*(v%(P*4294967296))=u%(P*4294967296)+P*4294967296*((d*(v/P%4294967296)+c)/4294967296+b'):=by
 rw [Th,Th];generalize v/P%4294967296=a,u/P%4294967296=f at*;have hp:=Gq (d*a+c) 4294967296;generalize(d*a+c)/4294967296=q,(d*a+c)%4294967296=r at*;have h1:P*y+P*r+P*b=P*f+P*(4294967296*b'):=by rw [<- Dw,<- Dw,j,Dw]
 have h2:P*(4294967296*q)+P*r=P*(d*a)+P*c:=by rw [<- Dw,hp,Dw]
 have e:d*(v%P+P*a)=d*(v%P)+P*(d*a):=by rw [Dw,M8]
 have g:P*(c+b)=P*c+P*b:=Dw ..;have i:P*4294967296*(q+b')=P*(4294967296*q)+P*(4294967296*b'):=by rw [B5,Dw,Dw]
 rw [e,i];rw [g]at h;omega
theorem Ayc{x v u P c y c':Nat}(h:x+P*c=u%P+v%P)(a:y+4294967296*c'=u/P%4294967296+v/P%4294967296+c):
  (x+P*y)+P*4294967296*c'=u%(P*4294967296)+v%(P*4294967296):=by
 rw [Th,Th];generalize v/P%4294967296=d,u/P%4294967296=e at*;have h1:P*y+P*(4294967296*c')=P*e+P*d+P*c:=by rw [<- Dw,<- Dw,<- Dw,a]
 rw [B5];omega
theorem Ayd{a s P:Nat}(c:0<P)(hs:0<s):(a%P*s)/P<s/\a%(P*4294967296)*s=a%P*s+P*(a/P%4294967296*s):=by
 constructor
 ·rw [Cz c,Bj s P];exact Fw (C9 _ c) hs
 ·rw [Th,B9,B5]
set_option maxRecDepth 4000
theorem Mz(k:Nat):0<4294967296^k:=Fe dc
theorem Aye{n b s t:Nat}(f:t=b/4294967296^n)(h1:2147483648<=t*2^s)(h2:t*2^s<4294967296)(hs:s<=32):
  4294967296^(n+1)<=2*(b*2^s)/\b*2^s<4294967296^(n+1):=by
 have j:=Mz n;rw [Ck];generalize 4294967296^n=P at*;have c:t*P<=b:=by rw [f];exact E4 b P
 have d:b<(t+1)*P:=by have:=Ib b j;rw [<- f,Bj]at this;exact this
 have k:0<2^s:=Fe dc;obtain⟨e,m⟩:∃e,4294967296=2^s*e:=⟨2^(32-s),by rw [<- F4,show s+(32-s)=32 by omega]⟩
 have i:(t+1)*2^s<=4294967296:=by
  rw [m,Bj]at h2|-;exact D9 _ (Nat.lt_of_mul_lt_mul_left h2)
 generalize 2^s=S at*
 constructor
 ·have a:t*P*S<=b*S:=B3 _ c;have h:P*2147483648<=P*(t*S):=D9 _ h1;have g:t*P*S=P*(t*S):=by rw [Bj t P,B5]
  rw [g]at a;have l:P*4294967296=2*(P*2147483648):=by rw [M8]
  rw [l];exact D9 2 (Ai h a)
 ·have a:b*S<(t+1)*P*S:=Fw d k;have h:P*((t+1)*S)<=P*4294967296:=D9 _ i;have g:(t+1)*P*S=P*((t+1)*S):=by rw [Bj (t+1) P,B5]
  omega
theorem Ayf{V R P q u:Nat}(c:0<P)(e:0<V)(i:R<V*(P*4294967296))(d:u=R/P)(a:q=u/V):
  u<V*4294967296/\q<4294967296/\q*V<=u/\R=q*V*P+((u-q*V)*P+R%P)/\(u-q*V)*P+R%P<V*P:=by
 have h1:u<V*4294967296:=by
  rw [d,Cz c,B5,Bj 4294967296 P];exact i
 have h2:q*V<=u:=by rw [a];exact E4 u V
 have f:u<(q+1)*V:=by have:=Ib u e;rw [<- a,Bj]at this;exact this
 have g:q<4294967296:=by
  rw [a,Cz e,Bj];exact h1
 have h5:u*P+R%P=R:=by rw [d];exact Nat.div_add_mod' R P
 have h6:=C9 R c
 refine⟨h1,g,h2,?_,?_⟩
 ·rw [Nat.sub_mul];have:q*V*P<=u*P:=B3 _ h2;omega
 ·have j:u-q*V<V:=by rw [B9]at f;omega
  have h:(u-q*V+1)*P<=V*P:=B3 _ j;rw [B9]at h;omega
theorem A3k{a b S Q R:Nat}(f:0<S)(g:0<b)(h:a*S=Q*(b*S)+R)(e:R<b*S):Q=a/b/\R/S=a%b:=by
 have h1:a*S=S*(Q*b)+R:=by rw [h];congr 1;rw [Bj b S,M8]
 have h2:S∣R:=by
  refine(Nat.dvd_add_right (Nat.dvd_mul_right S (Q*b))).1 ?_;rw [<- h1];exact Nat.dvd_mul_left S a
 obtain⟨r,rfl⟩:=h2
 have c:a=Q*b+r:=by
  rw [<- Dw,Bj a S]at h1;exact Nat.eq_of_mul_eq_mul_left f h1
 have d:r<b:=by rw [Bj b S]at e;exact Nat.lt_of_mul_lt_mul_left e
 constructor
 ·rw [c,Bj Q b,Nat.mul_add_div g,Ga d,Dy]
 ·rw [Js _ f,c,Bj Q b,Nat.mul_add_mod,Ci d]
theorem Ayg{m n j R w:Nat}(hj:j+n<=m)(c:w<4294967296^n)(d:R<4294967296^(j+n)):
  Cb j R++Cb n w++Cb (m-j-n) (R/4294967296^(j+n))=Cb m (w*4294967296^j+R%4294967296^j):=by
 have h1:=Ac2 j n (R%4294967296^j) w (C9 _ (Mz j));rw [Tf]at h1;rw [h1,Ga d]
 have h2:R%4294967296^j+4294967296^j*w<4294967296^(j+n):=by
  have:=C9 R (Mz j);have a:4294967296^j*(w+1)<=4294967296^j*4294967296^n:=D9 _ c;rw [Dw,<- F4]at a;generalize 4294967296^j=J,4294967296^(j+n)=K at*;generalize J*w=L at*;omega
 rw [Ac2 _ _ _ _ h2,Sf,Dy,show j+n+(m-j-n)=m by omega,Sg,Bj]
end Go.Eng.Limb
set_option linter.unusedSimpArgs false
namespace Go.Eng.Limb
open Go.Eng
theorem Bh{x:Int}(h1: -9223372036854775808<=x)(h2:x<9223372036854775808):IntKind.i64.wrap x=x:=by
 rw [IntKind.wrap_i64];omega
theorem A6{k:Nat}(h:(k:Int)<9223372036854775807):IntKind.i64.wrap ((k:Int)+1)=((k+1:Nat):Int):=by
 rw [Bh om Go.om];omega
theorem wrap_u32(n:Nat):IntKind.u32.wrap (n:Int)=((n%4294967296:Nat):Int):=by rw [IntKind.wrap_u32];omega
theorem wrap_u64{n:Nat}(h:n<18446744073709551616):IntKind.u64.wrap (n:Int)=(n:Int):=by rw [IntKind.wrap_u64];omega
theorem Xm(n:Nat):(n:Int).fdiv (2^min 32 IntKind.u64.bits)=((n/4294967296:Nat):Int):=by
 show(n:Int).fdiv 4294967296=_
 rw [G6 _ Go.om];omega
abbrev Va(n:Nat):V:=.int .u32 (n:Int)
abbrev Av(l:List Nat):List V:=l.map Va
theorem Ak(l:List Nat):(Av l).all V.pureE=true:=by
 rw [Aw];intro v a;obtain⟨s,_,rfl⟩:=Bm.1 a;rfl
def Fz(l:List Nat)(i:Nat):Nat:=match l[i]? with|some x=>x|none=>0
theorem Apj(l:List Nat)(k:Nat)(h:k<l.length):G8 (Av l) k=some (.int .u32 (Fz l k)):=by
 rw [C0,Bc,Fz,Al h];rfl
theorem Alj{k v i:Nat}(h:i<k):Fz (Cb k v) i=v/4294967296^i%4294967296:=by
 unfold Fz;rw [Alh k v i h]
theorem Xn{k v i:Nat}(h:i<k):G8 (Av (Cb k v)) i=some (.int .u32 ((v/4294967296^i%4294967296:Nat):Int)):=by
 rw [Apj _ _ (by simpa using h),Alj h]
def Qn(x y:Nat):Int:=if x<y then -1 else if y<x then 1 else 0
theorem Ac3{a b P:Nat}(hP:0<P)(h:a/(P*4294967296)=b/(P*4294967296))(hl:a/P%4294967296<b/P%4294967296):a<b:=by
 rw [<- Cq,<- Cq]at h;have h1:a/P<b/P:=om
 rcases De a b with h2|h2
 ·exact h2
 ·have:=Nat.div_le_div_right (c:=P) h2;omega
theorem Apk{a b P:Nat}(h:a/(P*4294967296)=b/(P*4294967296))(hl:a/P%4294967296=b/P%4294967296):a/P=b/P:=by
 rw [<- Cq,<- Cq]at h;omega
theorem Uw(a b:Nat)(c:a<2^64/\b<2^64):bits .or .u64 a b=((a|||b:Nat):Int):=by
 have d:BitVec.ofInt 64 (a:Int)=BitVec.ofNat 64 a:=sm;have e:BitVec.ofInt 64 (b:Int)=BitVec.ofNat 64 b:=sm;have h1:a|||b<2^64:=Nat.or_lt_two_pow c.1 c.2
 show IntKind.u64.wrap ((BitVec.ofInt 64 (a:Int)|||BitVec.ofInt 64 (b:Int)).toNat:Int)=_
 rw [d,e,BitVec.toNat_or,Mb,Mb,Ci c.1,Ci c.2,IntKind.wrap_u64];omega
theorem Apl{x y k:Nat}(h:x<2^k):y*2^k|||x=y*2^k+x:=by
 have:=Nat.two_pow_add_eq_or_of_lt (i:=k) (b:=x) h y;rw [Bj]at this;exact this.symm
theorem Er{n m:Nat}(h:n<4294967296^m):(B1 n).length<=m:=by
 rw [<- Aud h];have:=K7 (Cb m n)
 rwa [Xk]at this
theorem Alk(x:Nat)(r:List Nat)(k:Nat):Fz (x::r) (k+1)=Fz r k:=by simp [Fz]
theorem Agw:∀(l:List Nat)(k:Nat),k<l.length->Bd (l.take (k+1))=Bd (l.take k)+Fz l k*4294967296^k
 |x::r,0,_ =>by simp [Bd,Fz]
 |x::r,k+1,h=>by
  have:=Agw r k (by simpa using h);rw [Alk,Lq,Bd,this,Lq,Bd,Ck,Dw,<- B5,<- B5,Bj 4294967296 (Fz r k),Nat.mul_right_comm (Fz r k)];omega
theorem N7(l:List Nat)(k:Nat)(h:l.length<=k):Bd (l.take k)=Bd l:=by rw [Bg h]
theorem Apm(n:Nat):Bd (List.replicate n 0)=0:=by
 induction n with
 |zero=>rfl
 |succ n ih=>simp [Gc,Bd,ih]
theorem Ow{a b:List Nat}(h:D6 a)(k:D6 b):D6 (a++b):=fun x c=>by
 rcases Cc.1 c with h1|h1
 ·exact h x h1
 ·exact k x h1
theorem Ns{l:List Nat}(h:D6 l)(i:Nat):Fz l i<4294967296:=by
 unfold Fz
 split
 ·rename_i x a;exact h x (Ay a)
 ·omega
theorem Ayh{a b c x y T P:Nat}(h:T+c*P=a+b)(z:Nat)(d:z=x+y+c):(T+z%4294967296*P)+z/4294967296*(P*4294967296)=(a+x*P)+(b+y*P):=by
 have h1:z%4294967296*P+z/4294967296*(P*4294967296)=z*P:=by
  rw [Bj P 4294967296,<- B5,<- B9]
  congr 1
  omega
 have h2:z*P=x*P+y*P+c*P:=by rw [d,B9,B9]
 omega
theorem Ayi{l:List Nat}{k:Nat}(h:l.length<=k):Bd (l.take (k+1))=Bd (l.take k)+Fz l k*4294967296^k:=by
 have:Fz l k=0:=by unfold Fz;rw [Gk h]
 rw [this,N7 _ _ h,N7 _ _ Go.om];omega
theorem O9(l:List Nat)(k:Nat):Bd (l.take (k+1))=Bd (l.take k)+Fz l k*4294967296^k:=by
 by_cases h:k<l.length
 ·exact Agw l k h
 ·exact Ayi om
def Kf(done:List Nat)(n:Nat):List V:=Av (done++List.replicate n 0)
theorem Xo{done:List Nat}{k n:Nat}(h:done.length=k):G8 (Kf done (n+1)) k=some (.int .u32 0):=by
 rw [C0,Kf,Bc,Be om,h,Fv,Gc];rfl
theorem Xp{done:List Nat}{k n:Nat}(h:done.length=k)(z:Nat):(Kf done (n+1)).set k (.int .u32 (z:Int))=Kf (done++[z]) n:=by
 subst h;simp only [Kf,Av,Cr,Gc,Ct];rw [E0 _ _ (by simp)];simp
theorem Ti{done:List Nat}{n:Nat}:(Kf done n).length=done.length+n:=by simp [Kf]
theorem All(n:Nat):Kf [] n=List.replicate n (.int .u32 0):=by simp [Kf,Va]
theorem Abm{x y:Nat}(h:x+y<18446744073709551616):IntKind.u64.wrap ((x:Int)+(y:Int))=((x+y:Nat):Int):=by
 rw [<- C8];exact wrap_u64 h
theorem Alm:∀(q:List Nat)(m z:Nat),m<q.length->Bd (q.set m z)+Fz q m*4294967296^m=Bd q+z*4294967296^m
 |x::q,0,z,_ =>by simp [Bd,Fz];omega
 |x::q,m+1,z,h=>by
  have:=Alm q m z (by simpa using h);have e:Fz (x::q) (m+1)=Fz q m:=by simp [Fz]
  rw [e,List.set_cons_succ,Bd,Bd,Ck,<- B5,<- B5];omega
theorem Aue{q:List Nat}{n m:Nat}(h:m<q.length):G8 (Kf q n) m=some (.int .u32 (Fz q m)):=by
 rw [C0,Kf,Bc,Bn h,Fz,Al h];rfl
theorem Auf{q:List Nat}{n m:Nat}(h:m<q.length)(z:Nat):(Kf q n).set m (.int .u32 (z:Int))=Kf (q.set m z) n:=by
 simp only [Kf,Av,Cr];rw [List.set_append_left _ _ (by simpa using h),M9]
theorem Aug{q:List Nat}(h:D6 q)(m:Nat){z:Nat}(hz:z<4294967296):D6 (q.set m z):=fun x a=>by
 rcases Fg a with h1|h1
 ·exact h x h1
 ·omega
theorem Ayj{vq d vs x y c t u T a:Nat}(h:d+c*a=T)(hs:vs+u*a=d+t%4294967296*a)(e:t=x*y+u+c):
  vs+t/4294967296*(a*4294967296)=T+x*y*a:=by
 have h1:t%4294967296*a+t/4294967296*(a*4294967296)=t*a:=by
  rw [Bj a 4294967296,<- B5,<- B9]
  congr 1
  omega
 have h2:t*a=x*y*a+u*a+c*a:=by rw [e,B9,B9]
 omega
theorem A3l{x y u c:Nat}(hx:x<4294967296)(hy:y<4294967296)(hu:u<4294967296)(hc:c<4294967296):x*y+u+c<18446744073709551616:=by
 have:x*y<=4294967295*4294967295:=Hx om om;omega
theorem K8(x:Int):IntKind.u64.wrap x=x%18446744073709551616:=by rw [IntKind.wrap_u64]
theorem Agx(x:Int):IntKind.u32.wrap x=x%4294967296:=by rw [IntKind.wrap_u32]
theorem A68(x:Int):x.fdiv (2^min 63 IntKind.u64.bits)=x/9223372036854775808:=by
 show x.fdiv 9223372036854775808=_
 rw [G6 _ Go.om]
theorem A99{x y c:Nat}(hx:x<4294967296)(hy:y<4294967296)(hc:c<=1):
  ∃z c':Nat,IntKind.u32.wrap (IntKind.u64.wrap (IntKind.u64.wrap ((x:Int)-(c:Int))-(y:Int)))=z/\
   (IntKind.u64.wrap (IntKind.u64.wrap ((x:Int)-(c:Int))-(y:Int))).fdiv (2^min 63 IntKind.u64.bits)=c'/\z<4294967296/\c'<=1/\z+y+c=x+4294967296*c':=by
 simp only [A68,K8,Agx]
 by_cases h:y+c<=x
 ·refine⟨x-y-c,0,?_,?_,?_,?_,?_⟩<;>omega
 ·refine⟨x+4294967296-y-c,1,?_,?_,?_,?_,?_⟩<;>omega
theorem A7q(x c:Nat):IntKind.u64.wrap (IntKind.u64.wrap ((x:Int)-(c:Int))-((0:Nat):Int))=IntKind.u64.wrap ((x:Int)-(c:Int)):=by
 simp only [K8];omega
theorem Auh{D a b c x y z c' P:Nat}(h:D+b=a+c*P)(d:z+y+c=x+4294967296*c'):(D+z*P)+(b+y*P)=(a+x*P)+c'*(P*4294967296):=by
 have h1:z*P+y*P+c*P=x*P+c'*(P*4294967296):=by
  rw [<- B9,<- B9,d,B9,Bj 4294967296 c',B5,Bj 4294967296 P]
 omega
theorem Ayk{D a b c P:Nat}(h:D+b=a+c*P)(hD:D<P)(hc:c<=1)(d:b<=a):c=0/\D=a-b:=by
 have:c=0\/c=1:=om
 rcases this with rfl|rfl
 ·omega
 ·omega
theorem A7r{r x:Nat}(hr:r<4294967296)(a:x<4294967296):bits .or .u64 (IntKind.u64.wrap ((r:Int)*2^min (32:Int).toNat IntKind.u64.bits)) (x:Int)=((r*4294967296+x:Nat):Int):=by
 have e:IntKind.u64.wrap ((r:Int)*2^min (32:Int).toNat IntKind.u64.bits)=((r*4294967296:Nat):Int):=by
  show IntKind.u64.wrap ((r:Int)*4294967296)=_
  rw [K8];omega
 rw [e,Uw (r*4294967296) x ⟨by omega,by omega⟩];exact congrArg Nat.cast (Apl (k:=32) a)
theorem A3m{r x:Nat}(hr:r<4294967296)(a:x<4294967296):bits .or .u64 (x:Int) (IntKind.u64.wrap ((r:Int)*2^min (32:Int).toNat IntKind.u64.bits))=((r*4294967296+x:Nat):Int):=by
 have e:IntKind.u64.wrap ((r:Int)*2^min (32:Int).toNat IntKind.u64.bits)=((r*4294967296:Nat):Int):=by
  show IntKind.u64.wrap ((r:Int)*4294967296)=_
  rw [K8];omega
 rw [e,Uw x (r*4294967296) ⟨by omega,by omega⟩,Nat.or_comm];exact congrArg Nat.cast (Apl (k:=32) a)
theorem Ayl{A P d x r t:Nat}(c:0<d)(f:r=A/(P*4294967296)%d)(g:x=A/P%4294967296)(h:t=r*4294967296+x):
  t%d=A/P%d/\(d<4294967296->t/d<4294967296)/\A/P/d=A/(P*4294967296)/d*4294967296+t/d/\r<d:=by
 have e:A/P=A/(P*4294967296)*4294967296+x:=by
  rw [<- Cq,g];omega
 generalize A/(P*4294967296)=Y at*;have k:=Gq Y d;have a:r<d:=by rw [f];exact C9 _ c
 have i:A/P=d*(Y/d*4294967296)+t:=by
  rw [e,h]
  conv=>lhs;rw [<- k]
  rw [<- f,B9,B5];omega
 have j:x<4294967296:=by rw [g];exact C9 _ dc
 refine⟨by rw [i,Nat.mul_add_mod],fun _ =>?_,by rw [i,Nat.mul_add_div c],a⟩;rw [Cz c,h,Bj 4294967296 d];have:(r+1)*4294967296<=d*4294967296:=B3 _ a;omega
theorem Agy{k q Q:Nat}(hq:q<4294967296):Cb (k+1) (Q*4294967296+q)=q::Cb k Q:=by
 simp only [Cb]
 congr 1
 ·omega
 ·congr 1;omega
theorem Aln(a b:Nat):(a:Int).tdiv (b:Int)=((a/b:Nat):Int):=by rw [<- Int.ofNat_tdiv]
theorem Alo(a b:Nat):(a:Int).tmod (b:Int)=((a%b:Nat):Int):=by rw [<- Int.ofNat_tmod]
theorem Aix{r x:Nat}(c:r<4294967296)(a:x<4294967296):bits .or .u64 (IntKind.u64.wrap ((r:Int)*2^min 32 IntKind.u64.bits)) (x:Int)=((r*4294967296+x:Nat):Int):=A7r c a
theorem Aym{r x:Nat}(c:r<4294967296)(a:x<4294967296):bits .or .u64 (x:Int) (IntKind.u64.wrap ((r:Int)*2^min 32 IntKind.u64.bits))=((r*4294967296+x:Nat):Int):=A3m c a
theorem Aui(a b:Nat)(c:a<2^32/\b<2^32):bits .or .u32 a b=((a|||b:Nat):Int):=by
 have d:BitVec.ofInt 32 (a:Int)=BitVec.ofNat 32 a:=sm;have e:BitVec.ofInt 32 (b:Int)=BitVec.ofNat 32 b:=sm;have h1:a|||b<2^32:=Nat.or_lt_two_pow c.1 c.2
 show IntKind.u32.wrap ((BitVec.ofInt 32 (a:Int)|||BitVec.ofInt 32 (b:Int)).toNat:Int)=_
 rw [d,e,BitVec.toNat_or,Mb,Mb,Ci c.1,Ci c.2,IntKind.wrap_u32];omega
theorem Ayn{a s c t:Nat}(l:a<4294967296)(hs:s<32)(j:c<2^s)(h:t=a*2^s):
  t<18446744073709551616/\c|||t%4294967296=c+t%4294967296/\c+t%4294967296<4294967296/\t/4294967296<2^s:=by
 obtain⟨e,o,i⟩:∃e,4294967296=e*2^s/\0<e:=⟨2^(32-s),by rw [<- F4,show 32-s+s=32 by omega],Fe dc⟩
 have hS:2^s<=2147483648:=by
  have:2^s<=2^31:=Ee dc om;exact this
 have f:0<2^s:=Fe dc;have m:t%4294967296=a%e*2^s:=by rw [h,o,Nat.mul_mod_mul_right]
 have k:a%e*2^s|||c=a%e*2^s+c:=Apl j
 have d:=C9 a i;have g:(a%e+1)*2^s<=e*2^s:=B3 _ d;have n:a*2^s<4294967296*2^s:=Fw l f;rw [Nat.or_comm,m,k]
 refine⟨by omega,by omega,?_,?_⟩
 ·rw [B9]at g;omega
 ·rw [Cz dc,h,Bj (2^s)];exact n
theorem Ayo{A s k c t:Nat}(e:c=A%4294967296^k*2^s/4294967296^k)(f:t=A/4294967296^k%4294967296*2^s)(d:c+t%4294967296<4294967296)(i:t/4294967296<4294967296):
  Cb (k+2) (A%4294967296^(k+1)*2^s)=Cb k (A%4294967296^k*2^s)++[c+t%4294967296,t/4294967296]:=by
 have a:0<4294967296^k:=Fe dc
 have j:A%4294967296^(k+1)*2^s=A%4294967296^k*2^s+4294967296^k*t:=by
  rw [Ck,Uf,B9,B5,f]
 rw [Xl k 2,j];have h:(A%4294967296^k*2^s+4294967296^k*t)/4294967296^k=c+t:=by rw [Ky _ _ a,e]
 have g:Cb k (A%4294967296^k*2^s+4294967296^k*t)=Cb k (A%4294967296^k*2^s):=by
  rw [<- Tf k (_ +_),Nat.add_mul_mod_self_left,Tf]
 rw [h,g]
 congr 1
 simp only [Cb]
 congr 1
 ·omega
 ·congr 1;omega
theorem Ayp{A s k c:Nat}(a:c=A%4294967296^k*2^s/4294967296^k)(d:c<4294967296):Cb (k+1) (A%4294967296^k*2^s)=Cb k (A%4294967296^k*2^s)++[c]:=by
 rw [Zi,<- a,Ci d]
theorem Ayq{A P s:Nat}(hs:s<32):(A/P%4294967296+A/(P*4294967296)%4294967296*4294967296)/2^s%4294967296=A/2^s/P%4294967296:=by
 rw [<- Cq,Cq A (2^s) P,Bj (2^s) P,<- Cq];generalize A/P=X;obtain⟨e,c⟩:∃e,4294967296=e*2^s:=⟨2^(32-s),by rw [<- F4,show 32-s+s=32 by omega]⟩;have a:0<2^s:=Fe dc;have h1:X=X%4294967296+X/4294967296%4294967296*4294967296+X/4294967296/4294967296*(4294967296*4294967296):=om
 have h2:X/4294967296/4294967296*(4294967296*4294967296)=2^s*(X/4294967296/4294967296*e*4294967296):=by
  conv=>lhs;rhs;lhs;rw [c]
  rw [B5 e,<- B5,M8]
 conv=>rhs;rw [h1,h2,Ky _ _ a,Nat.add_mul_mod_self_right]
theorem Ayr{s x:Nat}(hs:s<=64):(x:Int).fdiv (2^min (s:Int).toNat IntKind.u64.bits)=((x/2^s:Nat):Int):=by
 rw [show(s:Int).toNat=s by omega,Hb (show s<=IntKind.u64.bits from hs),G6 _ (Int.le_of_lt (Int.pow_pos dc))];rw [Int.natCast_ediv,Int.natCast_pow];rfl
theorem Ays{s x:Nat}(hs:s<=64)(h:x*2^s<18446744073709551616):IntKind.u64.wrap ((x:Int)*2^min (s:Int).toNat IntKind.u64.bits)=((x*2^s:Nat):Int):=by
 rw [show(s:Int).toNat=s by omega,Hb (show s<=IntKind.u64.bits from hs)];rw [show((x:Int)*2^s)=((x*2^s:Nat):Int)by rw [E7,Int.natCast_pow];rfl];exact wrap_u64 h
theorem Auj{s x:Nat}(hs:s<=64):(x:Int).fdiv (2^min s IntKind.u64.bits)=((x/2^s:Nat):Int):=Ayr hs
theorem Auk{s x:Nat}(hs:s<=64)(h:x*2^s<18446744073709551616):IntKind.u64.wrap ((x:Int)*2^min s IntKind.u64.bits)=((x*2^s:Nat):Int):=Ays hs h
theorem Ayt{x y c:Nat}(hx:x<4294967296)(hy:y<4294967296)(hc:c<=1):
  ∃z c':Nat,IntKind.u32.wrap (IntKind.u64.wrap (IntKind.u64.wrap ((x:Int)-(y:Int))-(c:Int)))=z/\
   (IntKind.u64.wrap (IntKind.u64.wrap ((x:Int)-(y:Int))-(c:Int))).fdiv (2^min 63 IntKind.u64.bits)=c'/\z<4294967296/\c'<=1/\z+y+c=x+4294967296*c':=by
 simp only [A68,K8,Agx]
 by_cases h:y+c<=x
 ·refine⟨x-y-c,0,?_,?_,?_,?_,?_⟩<;>omega
 ·refine⟨x+4294967296-y-c,1,?_,?_,?_,?_,?_⟩<;>omega
def Lm(pre:List V)(n U:Nat)(post:List V)(k x:Nat):List V:=pre++(Av (Cb k x++Cb (n+1-k) (U/4294967296^k))++post)
theorem Ac4{pre post:List V}{n U k x:Nat}(h:k<=n+1):(Lm pre n U post k x).length=pre.length+(n+1)+post.length:=by
 simp [Lm];omega
theorem Zk{pre post:List V}{n U:Nat}:Lm pre n U post 0 0=pre++(Av (Cb (n+1) U)++post):=by simp [Lm,Cb]
theorem Alp{pre post:List V}{n U x:Nat}:Lm pre n U post (n+1) x=pre++(Av (Cb (n+1) x)++post):=by simp [Lm,Cb]
theorem Alq{pre post:List V}{n U k x:Nat}(h:k<=n):G8 (Lm pre n U post k x) (pre.length+k)=some (Va (U/4294967296^k%4294967296)):=by
 obtain⟨m,a⟩:∃m,n+1-k=m+1:=⟨n-k,by omega⟩;rw [C0,Lm,a,Be om,Nat.add_sub_cancel_left,Bn sm,Bc,Be sm,Xk,Fv,Cb];rfl
theorem Alr{pre post:List V}{n U k x z:Nat}(h:k<=n)(c:x<4294967296^k)(e:z<4294967296):
  (Lm pre n U post k x).set (pre.length+k) (Va z)=Lm pre n U post (k+1) (x+4294967296^k*z):=by
 obtain⟨m,d⟩:∃m,n+1-k=m+1:=⟨n-k,by omega⟩
 have h1:Cb (k+1) (x+4294967296^k*z)=Cb k x++[z]:=by
  rw [<- Ac2 k 1 x z c];simp only [Cb,Ci e]
 have h2:U/4294967296^k/4294967296=U/4294967296^(k+1):=by rw [Cq,Ck]
 rw [Lm,Lm,d,h1,E0 _ _ om,Nat.add_sub_cancel_left,Cb,h2,show n+1-(k+1)=m by omega];have a:(Av (Cb k x)).length=k:=sm;simp only [Av,Cr,Ct,C3,Ch,Fm]at a|-;rw [E0 _ _ om,a,Fv,J3]
theorem Ayu{x z P:Nat}(hx:x<P)(a:z<4294967296):x+P*z<P*4294967296:=by
 have:P*(z+1)<=P*4294967296:=D9 _ a;rw [Dw]at this;omega
def Aiy(n U G:Nat):Nat:=if G<=U then U-G else U+4294967296^(n+1)-G
theorem Ayv{n U V g x c b z b':Nat}(d:U<4294967296^(n+1))(l:V<4294967296^n)(hx:x<4294967296^n)(m:x+g*(V%4294967296^n)=U%4294967296^n+4294967296^n*(c+b))
  (a:z+c+b=U/4294967296^n%4294967296+4294967296*b')(k:z<4294967296)(j:b'<=1):x+4294967296^n*z=Aiy n U (g*V)/\(b'=0↔g*V<=U):=by
 rw [Ci l]at m;have e:4294967296^(n+1)=4294967296^n*4294967296:=Ck ..;rw [Aiy,e];rw [e]at d;have i:0<4294967296^n:=Fe dc;generalize 4294967296^n=P at*;have h:U/P<4294967296:=by rw [Cz i,Bj];exact d
 rw [Ci h]at a;have hd:=Gq U P;generalize U/P=q,U%P=r,g*V=G at*;have h1:P*z+P*(c+b)=P*q+P*(4294967296*b'):=by rw [<- Dw,<- Dw,<- Jb,a]
 have o:b'=0\/b'=1:=om
 rcases o with rfl|rfl
 ·rw [if_pos Go.om];omega
 ·have h2:c+b>q:=om;have f:P*(q+1)<=P*(c+b):=D9 _ h2;rw [Dw]at f;rw [if_neg Go.om];omega
theorem Ayw{n U W x c z:Nat}(g:U<4294967296^(n+1))(k:W<4294967296^n)(f:x<4294967296^n)(h:x+4294967296^n*c=U%4294967296^n+W%4294967296^n)
  (a:z=(U/4294967296^n%4294967296+c)%4294967296):x+4294967296^n*z=(U+W)%4294967296^(n+1):=by
 rw [Ci k]at h;rw [Ck]at g|-;have d:0<4294967296^n:=Fe dc;generalize 4294967296^n=P at g f h a d|-;have j:U/P<4294967296:=by rw [Cz d,Bj];exact g
 rw [Ci j]at a;have i:=Gq U P;generalize U/P=q at i a;generalize U%P=r at i h;have e:U+W=x+P*(q+c):=by rw [Dw];omega
 rw [e,Uf,Nat.add_mul_mod_self_left,Ci f,Ky _ _ d,Ga f,Dj,a]
def Xq(m n j R:Nat):List V:=Av (Cb (m-j-n) (R/4294967296^(j+(n+1))))
theorem A7s{m n j R:Nat}(h:j+n<=m):Av (Cb (m+1) R)=Lm (Av (Cb j R)) n (R/4294967296^j) (Xq m n j R) 0 0:=by
 rw [Zk,Xq,show m+1=j+((n+1)+(m-j-n))by omega,Xl,Xl];simp only [Av,Cr];rw [Cq,<- F4]
theorem A3n{m n j R U w:Nat}(h:j+n<=m)(a:w<4294967296^(n+1))(c:R<4294967296^(j+(n+1))):
  Lm (Av (Cb j R)) n U (Xq m n j R) (n+1) w=Av (Cb (m+1) (w*4294967296^j+R%4294967296^j)):=by
 have:=Ayg (m:=m+1) (n:=n+1) (j:=j) (R:=R) (w:=w) om a c;rw [Alp,<- this,Xq,show m+1-j-(n+1)=m-j-n by omega];simp only [Av,Cr,C3]
theorem Apn{pre post:List V}{n U w:Nat}:Lm pre n U post (n+1) w=Lm pre n w post 0 0:=by rw [Alp,Zk]
theorem Arv{m n R:Nat}(h:n<=m+1):(Av (Cb (m+1) R)).take n=Av (Cb n R):=by
 rw [Av,<- Ke,Zj _ _ _ h]
theorem A3o{n u V d w:Nat}(hV:0<V)(c:d=u/V)(a:w=u-u/V*V):¬u<d*V/\Aiy n u (d*V)=w:=by
 have h1:=E4 u V;rw [<- c]at h1 a;exact⟨by omega,by rw [Aiy,if_pos h1,a]⟩
theorem A3p{n u V d w:Nat}(j:0<V)(a:V<4294967296^n)(i:d=u/V+1)(h:w=u-u/V*V):
  u<d*V/\Aiy n u (d*V)<4294967296^(n+1)/\(Aiy n u (d*V)+V)%4294967296^(n+1)=w/\w<V:=by
 have h1:=E4 u V;have h2:=Ib u j;have e:d*V=u/V*V+V:=by rw [i,B9,Ud]
 have g:V*(u/V+1)=u/V*V+V:=by rw [Bj,B9,Ud]
 rw [g]at h2;have f:4294967296^(n+1)=4294967296^n*4294967296:=Ck ..;rw [Aiy,e];generalize u/V*V=Q at h1 h2 h|-;have c:V<4294967296^(n+1):=by rw [f];omega
 clear f a;generalize 4294967296^(n+1)=M at c|-;rw [if_neg Go.om];refine⟨by omega,by omega,?_,by omega⟩;rw [show u+M-(Q+V)+V=w+M by omega,Nat.add_mod_right,Ci Go.om]
theorem A3q{A S Q q V R P a:Nat}(c:A*S=Q*(P*4294967296)*V+R)(d:R=q*V*P+a):A*S=(Q*4294967296+q)*P*V+a:=by
 rw [c,d,B9,B9,<- Jb]
 congr 1
 congr 1
 ·rw [Bj P 4294967296,<- B5 Q]
 ·rw [B5,B5,Bj V P]
theorem Aul{pre post:List V}{n U:Nat}:((Lm pre n U post 0 0).drop pre.length).take (n+1)=Av (Cb (n+1) U):=by
 rw [Zk,List.drop_left,List.take_left'];simp
def Xr(M i Q:Nat):List V:=List.replicate i (.int .u32 0)++Av (Cb (M-i) Q)
theorem Ayx{M i Q:Nat}(h:i<=M):(Xr M i Q).length=M:=by simp [Xr];omega
theorem Aum{M Q:Nat}:Xr M 0 Q=Av (Cb M Q):=by simp [Xr]
theorem Ayy{M Q:Nat}:Xr M M Q=List.replicate M (.int .u32 0):=by simp [Xr,Cb]
theorem Ayz{M i Q:Nat}:G8 (Xr M (i+1) Q) i=some (.int .u32 0):=by
 rw [C0,Xr,Bn sm,H1,if_pos Go.om]
theorem Ay0{M i Q q:Nat}(h:i+1<=M)(c:q<4294967296):(Xr M (i+1) Q).set i (.int .u32 (q:Int))=Xr M i (Q*4294967296+q):=by
 have a:M-i=(M-(i+1))+1:=om;rw [Xr,Xr,a,Agy c,List.replicate_succ',C3,E0 _ _ (by simp)];simp
structure RI where
 neg:Bool
 mag:List Nat
def sgn(b:Bool)(n:Nat):Int:=if b=true then -(n:Int)else n
def RI.val(a:RI):Int:=sgn a.neg (Bd a.mag)
def RI.v(a:RI):V:=.agg [.bool a.neg,.ro 1 (Av a.mag)]
structure RI.ok(a:RI)(k:Nat):Prop where
 lim:D6 a.mag
 len:a.mag.length<=k
def nI(z:Int):RI:=⟨decide (z<0),B1 z.natAbs⟩
def Nf(z:Int):Nat:=(B1 z.natAbs).length
theorem If(z:Int):(nI z).val=z:=by
 simp only [RI.val,nI,Cv,sgn]
 by_cases h:z<0
 ·rw [if_pos (by simpa using h)];omega
 ·rw [if_neg (by simpa using h)];omega
theorem Gx{z:Int}{k:Nat}(h:Nf z<=k):(nI z).ok k:=⟨Cn _,h⟩
theorem Ux(b:Bool)(n:Nat):(sgn b n).natAbs=n:=by unfold sgn;split<;>simp
theorem A3r(b:Bool)(n:Nat):decide (sgn b n<0)=(b&& !decide (n=0)):=by
 unfold sgn;rw [L4]
 cases b
 ·simp
 ·simp only [if_true,decide_eq_true_iff,Bool.true_and,I3,decide_eq_false_iff_not];omega
theorem RI.abs(a:RI):a.val.natAbs=Bd a.mag:=Ux _ _
theorem RI.sz{a:RI}{k:Nat}(h:a.ok k):Nf a.val<=k:=by
 rw [Nf,RI.abs];have:=K7 a.mag;rw [Kb a.mag h.lim]at this;exact Ai this h.len
theorem A7t(b:Bool)(n:Nat):(nI (sgn b n)).v=.agg [.bool (b&& !decide (n=0)),.ro 1 (Av (B1 n))]:=by
 rw [nI,RI.v];simp only [Ux,A3r]
def Gu(z:Int):Int:=if z<0 then -1 else if 0<z then 1 else 0
def cmpI(a b:Int):Int:=if a<b then -1 else if b<a then 1 else 0
theorem Ay1(b:Bool)(n:Nat):Gu (sgn b n)=if b=true then -Qn n 0 else Qn n 0:=by
 unfold Gu sgn Qn;cases b<;>simp<;>(repeat' split)<;>omega
theorem A3s(b c:Bool)(n m:Nat)(h1:¬Gu (sgn b n)<Gu (sgn c m))(h2:¬Gu (sgn c m)<Gu (sgn b n)):cmpI (sgn b n) (sgn c m)=Gu (sgn b n)*Qn n m:=by
 unfold cmpI Gu sgn Qn at*;cases b<;>cases c<;>simp at*<;>(repeat' split at h1)<;>(repeat' split at h2)<;>(repeat' split)<;>omega
theorem A3t(b:Bool)(n m:Nat):sgn b n+sgn b m=sgn b (n+m):=by unfold sgn;cases b<;>simp<;>omega
theorem A3u{b c:Bool}(h:b≠c){n m:Nat}(hm:m<=n):sgn b n+sgn c m=sgn b (n-m):=by unfold sgn;cases b<;>cases c<;>simp at*<;>omega
theorem Ay2{b c:Bool}(h:b≠c){n m:Nat}(hm:n<=m):sgn b n+sgn c m=sgn c (m-n):=by unfold sgn;cases b<;>cases c<;>simp at*<;>omega
theorem Arw(b c:Bool)(n m:Nat):sgn b n*sgn c m=sgn (b != c) (n*m):=by unfold sgn;cases b<;>cases c<;>simp [Int.neg_mul,Ug,E7]
theorem A3v(b:Bool)(n:Nat):sgn (!b) n= -sgn b n:=by unfold sgn;cases b<;>simp
theorem M0{a b i j:Nat}(h1:(B1 a).length<=i)(h2:(B1 b).length<=j):(B1 (a*b)).length<=i+j:=by
 refine Er ?_;have c:=J1 a;have d:=J1 b
 rcases Es (a*b)with h|h
 ·rw [h];exact Fe dc
 ·refine B6 (Nat.mul_lt_mul_of_lt_of_le c (Ho d) (Fe dc)) ?_
  ·rw [<- F4];exact Ee dc om
theorem Abn{a b i j:Nat}(h1:(B1 a).length<=i)(h2:(B1 b).length<=j):(B1 (a+b)).length<=max i j+1:=by
 refine Er ?_;have a1:=J1 a;have b1:=J1 b;have d:4294967296^(B1 a).length<=4294967296^max i j:=Ee dc om;have c:4294967296^(B1 b).length<=4294967296^max i j:=Ee dc om;rw [Ck];generalize 4294967296^max i j=P at d c|-;omega
theorem Ry{a b:Nat}(h:a<=b):(B1 a).length<=(B1 b).length:=Er (Fi h (J1 b))
theorem Kg{l:List Nat}(h:D6 l):(B1 (Bd l)).length<=l.length:=by rw [<- Kb l h];exact K7 l
structure RR where
 num:RI
 den:List Nat
def RR.v(a:RR):V:=.agg [.bool a.num.neg,.ro 1 (Av a.num.mag),.ro 1 (Av a.den)]
def RR.val(a:RR):Rat:=mkRat a.num.val (Bd a.den)
structure RR.ok(a:RR)(k:Nat):Prop where
 num:a.num.ok k
 lim:D6 a.den
 len:a.den.length<=k
def nR(q:Rat):RR:=⟨nI q.num,B1 q.den⟩
def Ox(q:Rat):Nat:=max (Nf q.num) ((B1 q.den).length)
theorem Ln(q:Rat):(nR q).val=q:=by simp [RR.val,nR,If,Cv,Rat.mkRat_self]
theorem Mj{q:Rat}{k:Nat}(h:Ox q<=k):(nR q).ok k:=⟨Gx (by unfold Ox at h;omega),Cn _,by unfold Ox at h;show(B1 q.den).length<=k;omega⟩
theorem Tj(b:Bool)(n d:Nat)(h:d≠0):(mkRat (sgn b n) d).num=sgn b (n/n.gcd d)/\(mkRat (sgn b n) d).den=d/n.gcd d:=by
 rw [mkRat,dif_neg h,Rat.normalize_eq];simp only [Ux];refine⟨?_,trivial⟩;have a:((n.gcd d:Nat):Int)∣(n:Int):=Int.natCast_dvd_natCast.2 (Nat.gcd_dvd_left n d);unfold sgn
 cases b
 ·simp
 ·simp only [if_true];rw [Int.neg_ediv_of_dvd a,<- Int.natCast_ediv]
theorem Baa(b:Bool)(n d:Nat)(h:d≠0):nR (mkRat (sgn b n) d)=⟨nI (sgn b (n/n.gcd d)),B1 (d/n.gcd d)⟩:=by
 obtain⟨h1,h2⟩:=Tj b n d h;rw [nR,h1,h2]
def RR.p(a:RR):RR:=if Bd a.den=0 then⟨⟨false,[]⟩,B1 1⟩else a
theorem Aiz:B1 1= [1]:=by rw [Ks Go.dc];simp [Ea]
theorem RR.p_val(a:RR):a.p.val=a.val:=by
 unfold RR.p
 split
 ·rename_i h;rw [RR.val,RR.val,h];simp [RI.val,sgn,Bd,Rat.mkRat_zero,P1]
 ·rfl
theorem RR.p_ne(a:RR):Bd a.p.den≠0:=by
 unfold RR.p
 split
 ·simp only [Cv];decide
 ·assumption
theorem RR.p_ok{a:RR}{k:Nat}(h:a.ok k)(c:1<=k):a.p.ok k:=by
 unfold RR.p
 split
 ·exact⟨⟨by simp [D6],by simp⟩,Cn _,by rw [Aiz];simpa using c⟩
 ·exact h
theorem Zl{b:Bool}{n d k:Nat}(h:d≠0)(h1:(B1 n).length<=k)(h2:(B1 d).length<=k):Ox (mkRat (sgn b n) d)<=k:=by
 obtain⟨c,a⟩:=Tj b n d h;rw [Ox,c,a,Nf,Ux];have a1:=Ry (Hd n (n.gcd d));have a2:=Ry (Hd d (n.gcd d));omega
theorem RR.sz{a:RR}{k:Nat}(h:a.ok k)(d:1<=k):Ox a.val<=k:=by
 rw [<- RR.p_val];have c:=RR.p_ok h d;exact Zl (RR.p_ne a) (Ai (Kg c.num.lim) c.num.len) (Ai (Kg c.lim) c.len)
theorem Ay3{f d:Int}{a c:Nat}(h1:a≠0)(h2:c≠0):mkRat f a<mkRat d c↔f*c<d*a:=by
 have h:(0:Rat)<(a:Rat):=Rat.natCast_pos.2 (Hm h1);have g:(0:Rat)<(c:Rat):=Rat.natCast_pos.2 (Hm h2);rw [Rat.mkRat_eq_div,Rat.mkRat_eq_div,Rat.div_lt_iff h]
 have e:(d:Rat)/(c:Rat)*(a:Rat)=((d:Rat)*(a:Rat))/(c:Rat):=by
  rw [Rat.div_def,Rat.div_def,Rat.mul_assoc,Rat.mul_comm _ (a:Rat),<- Rat.mul_assoc]
 rw [e,Rat.lt_div_iff g];rw [<- Rat.intCast_natCast,<- Rat.intCast_natCast,<- Rat.intCast_mul,<- Rat.intCast_mul,Rat.intCast_lt_intCast]
def M1(p q:Rat):Int:=if p<q then -1 else if q<p then 1 else 0
theorem Arx{e d:Int}{a c:Nat}(h1:a≠0)(h2:c≠0):M1 (mkRat e a) (mkRat d c)=cmpI (e*c) (d*a):=by
 unfold M1 cmpI;simp only [Ay3 h1 h2,Ay3 h2 h1]
def Aat(q:Rat):Int:=M1 q 0
theorem Ay4{n:Int}{d:Nat}(h:d≠0):Aat (mkRat n d)=Gu n:=by
 have e:(0:Rat)=mkRat 0 1:=by rw [P1]
 rw [Aat,e,Arx h Go.dc];unfold cmpI Gu;simp
def As(l:List Int):List V:=l.map (V.int .i64)
@[simp]theorem A4(l:List Int):(As l).length=l.length:=by simp [As]
theorem E8{l:List Int}{k:Nat}(h:k<l.length):G8 (As l) k=some (.int .i64 l[k]):=by rw [C0];simp [As,h]
theorem Ag(l:List Int):(As l).all V.pureE=true:=by
 rw [Aw];intro x a;simp only [As,Bm]at a;obtain⟨n,_,rfl⟩:=a;rfl
def Kt{α:Type}(f:α->Int):List α->Int
 | []=>0
 |x::r=>if f x≠0 then f x else Kt f r
theorem Nt{α:Type}(f:α->Int){l:List α}{k:Nat}(h:k<l.length):Kt f (l.drop k)=if f l[k]≠0 then f l[k]else Kt f (l.drop (k+1)):=by
 rw [Bt h,Kt]
theorem Ay5{α:Type}(f:α->Bool){l:List α}{k:Nat}(h:k<l.length):(l.drop k).any f=(f l[k]||(l.drop (k+1)).any f):=by
 rw [Bt h,Qy]
theorem Nu{α:Type}{f:α->Int}:∀ {l:List α},Kt f l=0->∀x∈l,f x=0
 | [],_,x,a=>by cases a
 |y::r,h,x,a=>by
  rw [Kt]at h
  split at h
  ·rename_i c;exact absurd h c
  ·rename_i c
   rcases Cj.1 a with e|e
   ·subst e;exact Classical.not_not.1 c
   ·exact Nu h x e
def Tk:List Int->Bool
 | []=>true
 | [_]=>true
 |a::b::r=>decide (a<b)&&Tk (b::r)
theorem Apo{l:List Int}{k:Nat}(h:k+1<l.length):Tk (l.drop k)=(decide (l[k]'(by omega)<l[k+1])&&Tk (l.drop (k+1))):=by
 rw [Bt (by omega:k<l.length),Bt h,Tk]
theorem Aun{l:List Int}{k:Nat}(h:l.length<=k+1):Tk (l.drop k)=true:=by
 have:(l.drop k).length<=1:=by simp;omega
 match hd:l.drop k,this with
 | [],_ =>rfl
 | [_],_ =>rfl
structure Gr where
 pts:List Int
 pri:List Int
def Gr.v(g:Gr):V:=.agg [.ro 1 (As g.pts),.ro 1 (As g.pri)]
def Ac5(p w:Int):Bool:=decide (p< -1000)||decide (1000<p)||decide (w<1)||decide (1000<w)
def Qo:List Int->List Int->Bool
 |p::ps,w::a=>Ac5 p w||Qo ps a
 |_,_ =>false
theorem Als:∀ {l m:List Int}{k:Nat}(h1:k<l.length)(h2:k<m.length),Qo (l.drop k) (m.drop k)=(Ac5 l[k] m[k]||Qo (l.drop (k+1)) (m.drop (k+1))):=by
 intro l m k h1 h2;rw [Bt h1,Bt h2,Qo]
def Ku(g:Gr):Int:=
 if 21<g.pts.length then 5 else if g.pts.length=0 then 20 else if g.pri.length≠g.pts.length then 1
 else if Qo g.pts g.pri=true then 3 else if Tk g.pts=false then 23 else 0
theorem Ac6:∀ {l m:List Int},l.length=m.length->Qo l m=false->(∀p∈l,-1000<=p/\p<=1000)/\∀w∈m,1<=w/\w<=1000
 | [],[],_,_ =>by simp
 |p::ps,w::c,d,h=>by
  rw [Qo,F3]at h;obtain⟨h1,h2⟩:=Ac6 (l:=ps) (m:=c) (by simpa using d) h.2;simp [Ac5]at h
  refine⟨fun x a=>?_,fun x a=>?_⟩
  ·rcases Cj.1 a with e|e
   ·subst e;omega
   ·exact h1 x e
  ·rcases Cj.1 a with e|e
   ·subst e;omega
   ·exact h2 x e
structure Gr.ok(g:Gr):Prop where
 len:g.pts.length<=21
 pos:0<g.pts.length
 same:g.pri.length=g.pts.length
 pts:∀p∈g.pts,-1000<=p/\p<=1000
 pri:∀w∈g.pri,1<=w/\w<=1000
 ord:Tk g.pts=true
theorem Jg{g:Gr}(h:Ku g=0):g.ok:=by
 unfold Ku at h
 (repeat' split at h)<;>try omega
 rename_i h1 h2 h3 d e;obtain⟨a,c⟩:=Ac6 (l:=g.pts) (m:=g.pri) om (by simpa using d);exact⟨by omega,by omega,by omega,a,c,by simpa using e⟩
def Bw(w:List Nat):List V:=w.map fun n=>.ro 1 (Av (B1 n))
@[simp]theorem Hk(w:List Nat):(Bw w).length=w.length:=by simp [Bw]
theorem Kc{w:List Nat}{k:Nat}(h:k<w.length):G8 (Bw w) k=some (.ro 1 (Av (B1 w[k]))):=by rw [C0];simp [Bw,h]
theorem Bv(w:List Nat):(Bw w).all V.pureE=true:=by
 rw [Aw];intro x a;simp only [Bw,Bm]at a;obtain⟨n,_,rfl⟩:=a;simpa [V.pureE]using Ak (B1 n)
def Gb:List Nat->Nat
 | []=>0
 |w::r=>w+Gb r
def L8:List Int->List Nat->Int
 |p::ps,w::r=>w*p+L8 ps r
 |_,_ =>0
def Qp:List Int->List Nat->Int
 |p::ps,w::r=>w*p*p+Qp ps r
 |_,_ =>0
abbrev Mo:=List (List Int)
def Eb(m:Mo):List V:=m.map fun r=>.ro 1 (As r)
@[simp]theorem K9(m:Mo):(Eb m).length=m.length:=by simp [Eb]
theorem Q6{m:Mo}{k:Nat}(h:k<m.length):G8 (Eb m) k=some (.ro 1 (As m[k])):=by rw [C0];simp [Eb,h]
theorem Do(m:Mo):(Eb m).all V.pureE=true:=by
 rw [Aw];intro x a;simp only [Eb,Bm]at a;obtain⟨n,_,rfl⟩:=a;simpa [V.pureE]using Ag n
def moV(m:Mo):V:=.agg [.ro 1 (Eb m)]
def Afk:List Int->Int
 | []=>0
 |x::r=>x+Afk r
def Afl(x:Int):Bool:=decide (x<1)||decide (1000<x)
def Zm(c:Nat)(r:List Int):Int:=if r.length≠c then 1 else if r.any Afl=true then 3 else if Afk r≠1000 then 19 else 0
def Vb(m:Mo):Nat:=match m with| []=>0|r::_ =>r.length
def Kv(m:Mo)(n:Int):Int:=
 if n<1\/21<n\/(m.length:Int)≠n then 1
 else if Vb m<2\/6<Vb m then 3 else Kt (Zm (Vb m)) m
theorem Auo{l:List Int}{k:Nat}(h:k<l.length):Afk (l.drop k)=l[k]+Afk (l.drop (k+1)):=by rw [Bt h,Afk]
structure moOk(m:Mo)(n:Nat):Prop where
 len:m.length=n
 pos:0<n
 le:n<=21
 two:2<=Vb m
 six:Vb m<=6
 row:∀r∈m,r.length=Vb m/\(∀x∈r,1<=x/\x<=1000)/\Afk r=1000
theorem Xs{m:Mo}{n:Nat}(h:Kv m n=0):moOk m n:=by
 unfold Kv at h
 (repeat' split at h)<;>try omega
 rename_i h1 h2;refine⟨by omega,by omega,by omega,by omega,by omega,fun r e=>?_⟩;have a:=Nu h r e;unfold Zm at a
 (repeat' split at a)<;>try omega
 rename_i h4 d h6;refine⟨by omega,fun x c=>?_,by omega⟩;have:=Na.1 (by simpa using d:r.any Afl=false) x c;simp [Afl]at this;omega
def Q7(q:Rat):Rat:=if q<0 then -q else q
def Q8(q:Rat):List Int->Nat->Nat->Rat->Nat
 | [],_,b,_ =>b
 |p::r,i,b,l=>if Q7 (p-q)<l then Q8 q r (i+1) i (Q7 (p-q))else Q8 q r (i+1) b l
def Ac7(a:List Int)(q:Rat):Nat:=match a with
 | []=>0
 |p::r=>Q8 q r 1 0 (Q7 (p-q))
theorem App(q:Rat){l:List Int}{k:Nat}(h:k<l.length)(i b:Nat)(d:Rat):Q8 q (l.drop k) i b d=if Q7 (l[k]-q)<d then Q8 q (l.drop (k+1)) (i+1) i (Q7 (l[k]-q))else Q8 q (l.drop (k+1)) (i+1) b d:=by
 rw [Bt h,Q8]
theorem Ac8(q:Rat):∀(l:List Int)(i b:Nat)(d:Rat),b<i->Q8 q l i b d<i+l.length
 | [],i,b,d,h=>by simpa [Q8]using h
 |p::r,i,b,d,h=>by
  rw [Q8]
  split
  ·have:=Ac8 q r (i+1) i (Q7 (p-q)) om;simp;omega
  ·have:=Ac8 q r (i+1) b d om;simp;omega
theorem A3w{a:List Int}(q:Rat)(h:0<a.length):Ac7 a q<a.length:=by
 cases a with
 |nil=>simp at h
 |cons p r=>have:=Ac8 q r 1 0 (Q7 (p-q)) Go.om;simp [Ac7];omega
def nIb(z:Int):Bool:=decide (z<0)
def nIl(z:Int):List V:=Av (B1 z.natAbs)
theorem Apq(z:Int):(nI z).v=.agg [.bool (nIb z),.ro 1 (nIl z)]:=rfl
theorem Tl(z:Int):(nIl z).all V.pureE=true:=Ak _
def nRl(q:Rat):List V:=nIl q.num
def nRd(q:Rat):List V:=Av (B1 q.den)
def nRb(q:Rat):Bool:=nIb q.num
theorem Vc(q:Rat):(nR q).v=.agg [.bool (nRb q),.ro 1 (nRl q),.ro 1 (nRd q)]:=rfl
theorem In(q:Rat):(nRl q).all V.pureE=true:=Ak _
theorem Io(q:Rat):(nRd q).all V.pureE=true:=Ak _
theorem Ay6:nIb 0=false:=rfl
theorem Ay7:nIl 0= []:=by simp [nIl,Ea,Av]
def F5(n:Nat):List V:=Av (B1 n)
theorem Ff(n:Nat):(F5 n).all V.pureE=true:=Ak _
theorem Uy{w:List Nat}{k:Nat}(h:k<w.length):Gb (w.take (k+1))=Gb (w.take k)+w[k]:=by
 have c:∀(a:List Nat)(x:Nat),Gb (a++[x])=Gb a+x:=by
  intro a x;induction a with
  |nil=>simp [Gb]
  |cons y a ih=>simp only [Ch,Gb,ih];omega
 rw [A1 h,c]
theorem Agz{l:List Int}{w:List Nat}{k:Nat}(h1:k<l.length)(h2:k<w.length):L8 (l.take (k+1)) (w.take (k+1))=L8 (l.take k) (w.take k)+w[k]*l[k]:=by
 have c:∀(a:List Int)(b:List Nat)(x:Int)(y:Nat),a.length=b.length->L8 (a++[x]) (b++[y])=L8 a b+y*x:=by
  intro a;induction a with
  |nil=>intro b x y h;cases b with
   |nil=>simp [L8]
   |cons _ _ =>simp at h
  |cons p a ih=>intro b x y h;cases b with
   |nil=>simp at h
   |cons q b=>simp only [Ch,L8,ih b x y (by simpa using h)];omega
 rw [A1 h1,A1 h2,c _ _ _ _ (by simp;omega)]
theorem Ag0{l:List Int}{w:List Nat}{k:Nat}(h1:k<l.length)(h2:k<w.length):Qp (l.take (k+1)) (w.take (k+1))=Qp (l.take k) (w.take k)+w[k]*l[k]*l[k]:=by
 have c:∀(a:List Int)(b:List Nat)(x:Int)(y:Nat),a.length=b.length->Qp (a++[x]) (b++[y])=Qp a b+y*x*x:=by
  intro a;induction a with
  |nil=>intro b x y h;cases b with
   |nil=>simp [Qp]
   |cons _ _ =>simp at h
  |cons p a ih=>intro b x y h;cases b with
   |nil=>simp at h
   |cons q b=>simp only [Ch,Qp,ih b x y (by simpa using h)];omega
 rw [A1 h1,A1 h2,c _ _ _ _ (by simp;omega)]
structure Ru where
 kind:Int
 n:Int
 mn:Int
 mx:Int
 code:List UInt8
def Ru.cs(r:Ru):List V:=[.int .i64 r.kind,.int .i64 r.n,.int .i64 r.mn,.int .i64 r.mx,.str r.code]
def Ru.v(r:Ru):V:=.agg r.cs
def Ru.known(r:Ru):Prop:=1<=r.kind/\r.kind<=9
def Ac9(a b:Int):Int:=if a<0\/9999999<a\/b<0\/9999999<b then 3 else if b<a then 23 else 0
def Vd(n:Int):Bool:=decide (1<=n)&&decide (n<=9999999)
def Ru.fits(r:Ru):Bool:=
 if r.kind=1 then decide (r.n=0)
 else if r.kind=2\/r.kind=3 then decide (r.n=0)&&decide (r.mn=0)&&decide (r.code= [])
 else if r.kind=4 then decide (r.n=0)&&decide (r.code= [])
 else if r.kind=5\/r.kind=6 then decide (r.code= [])
 else if r.kind=7\/r.kind=8 then decide (r.mn=0)&&decide (r.mx=0)&&decide (r.code= [])
 else if r.kind=9 then decide (r.n=0)&&decide (r.mn=0)&&decide (r.mx=0)&&decide (r.code= [])
 else false
end Go.Eng.Limb
namespace Go.Proofs.YtpaccopbbffkaaaGreatDoor
open Go.Eng
@[simp]theorem Bb0:Ab4 prog 2=some .i64/\Ie prog 3=some 1/\Ex prog 3=some false/\D7 prog 3=some (.int .i64 0)/\Sx prog 3=some 1/\Ji prog 3=some 8/\Ab4 prog 3=some .i64/\Ie prog 4=some 1/\Ex prog 4=some false/\D7 prog 4=some (.bool false)/\Arl prog 4=true/\D7 prog 5=some (.int .u8 0)/\Sx prog 5=some 1/\Ji prog 5=some 1/\Ab4 prog 5=some .u8/\Ie prog 9=some 1/\Ex prog 9=some false/\D7 prog 9=some (.str [])/\Sx prog 9=some 1/\Y3 prog 9=true/\Ab4 prog 9=none/\Ie prog 22=some 1/\Ex prog 22=some false/\Fr prog 22=some 86:=⟨kr,kr,kr,kr,kr,kr,kr,kr,kr,kr,kr,kr,kr,kr,kr,kr,kr,kr,kr,kr,kr,kr,kr,kr⟩
@[simp]theorem Bbp:Ie prog 24=some 2/\Ex prog 24=some true/\D7 prog 24=some (.agg [.int .i64 0,.nils])/\Bo prog 24 0=some (0,1,false)/\Bo prog 24 1=some (1,1,false)/\Ep prog 24=true/\Ie prog 25=some 1/\Ex prog 25=some false/\D7 prog 25=some (.nils)/\Sx prog 25=some 1/\Ji prog 25=some 24/\Fr prog 25=some 3/\Ie prog 27=some 2/\Ex prog 27=some true/\D7 prog 27=some (.agg [.nils,.nils])/\Sx prog 27=some 2/\Bo prog 27 0=some (0,1,false)/\Bo prog 27 1=some (1,1,false)/\Ep prog 27=true/\Ie prog 28=some 1/\Ex prog 28=some false/\Fr prog 28=some 368/\Ie prog 30=some 1/\Ex prog 30=some false:=⟨kr,kr,kr,kr,kr,kr,kr,kr,kr,kr,kr,kr,kr,kr,kr,kr,kr,kr,kr,kr,kr,kr,kr,kr⟩
@[simp]theorem Bbq:D7 prog 30=some (.nils)/\Sx prog 30=some 1/\Ji prog 30=some 24/\Fr prog 30=some 149/\Ie prog 32=some 2/\Ex prog 32=some true/\D7 prog 32=some (.agg [.bool false,.nils])/\Sx prog 32=some 2/\Bo prog 32 0=some (0,1,false)/\Bo prog 32 1=some (1,1,false)/\Ep prog 32=true/\Ie prog 34=some 3/\Ex prog 34=some true/\D7 prog 34=some (.agg [.bool false,.nils,.nils])/\Sx prog 34=some 3/\Bo prog 34 0=some (0,2,true)/\Bo prog 34 1=some (2,1,false)/\Ep prog 34=true/\Ie prog 36=some 18/\Ex prog 36=some true/\D7 prog 36=some (.agg [.int .i64 0,.nils,.nils,.nils,.nils,.int .i64 0,.bool false,.nils,.nils,.int .i64 0,.bool false,.nils,.nils,.int .i64 0,.bool false,.nils,.nils,.int .i64 0])/\Sx prog 36=some 18/\Bo prog 36 0=some (0,2,true)/\Bo prog 36 1=some (2,2,true):=⟨kr,kr,kr,kr,kr,kr,kr,kr,kr,kr,kr,kr,kr,kr,kr,kr,kr,kr,kr,kr,kr,kr,kr,kr⟩
@[simp]theorem Ba3:Bo prog 36 2=some (4,1,false)/\Bo prog 36 3=some (5,1,false)/\Bo prog 36 4=some (6,3,true)/\Bo prog 36 5=some (9,1,false)/\Bo prog 36 6=some (10,3,true)/\Bo prog 36 7=some (13,1,false)/\Bo prog 36 8=some (14,3,true)/\Bo prog 36 9=some (17,1,false)/\Ep prog 36=true/\Ie prog 37=some 1/\Ex prog 37=some false/\Fr prog 37=some 115/\Ie prog 38=some 1/\Ex prog 38=some false/\Fr prog 38=some 93/\Ie prog 39=some 1/\Ex prog 39=some false/\Fr prog 39=some 240/\Ie prog 41=some 3/\Ex prog 41=some true/\D7 prog 41=some (.agg [.int .i64 0,.int .i64 0,.int .i64 0])/\Bo prog 41 0=some (0,1,false)/\Bo prog 41 1=some (1,1,false)/\Bo prog 41 2=some (2,1,false):=⟨kr,kr,kr,kr,kr,kr,kr,kr,kr,kr,kr,kr,kr,kr,kr,kr,kr,kr,kr,kr,kr,kr,kr,kr⟩
@[simp]theorem Bbr:Ep prog 41=true/\Ie prog 42=some 1/\Ex prog 42=some false/\Ab4 prog 42=some .u64/\Ie prog 44=some 30/\Ex prog 44=some true/\D7 prog 44=some (.agg [.int .i64 0,.int .i64 0,.int .i64 0,.nils,.nils,.nils,.nils,.int .i64 0,.bool false,.nils,.nils,.int .i64 0,.bool false,.nils,.nils,.int .i64 0,.bool false,.nils,.nils,.int .i64 0,.nils,.nils,.nils,.nils,.int .i64 0,.int .i64 0,.int .i64 0,.int .i64 0,.int .i64 0,.int .u64 0])/\Sx prog 44=some 30/\Bo prog 44 0=some (0,1,false)/\Bo prog 44 1=some (1,1,false)/\Bo prog 44 2=some (2,18,true)/\Bo prog 44 3=some (20,1,false)/\Bo prog 44 4=some (21,1,false)/\Bo prog 44 5=some (22,1,false)/\Bo prog 44 6=some (23,1,false)/\Bo prog 44 7=some (24,1,false)/\Bo prog 44 8=some (25,1,false)/\Bo prog 44 9=some (26,3,true)/\Bo prog 44 10=some (29,1,false)/\Ep prog 44=true/\Fr prog 45=some 66/\Ie prog 50=some 1/\Ex prog 50=some false/\Fr prog 50=some 98:=⟨kr,kr,kr,kr,kr,kr,kr,kr,kr,kr,kr,kr,kr,kr,kr,kr,kr,kr,kr,kr,kr,kr,kr,kr⟩
@[simp]theorem Bbs:Ie prog 51=some 1/\Ex prog 51=some false/\Fr prog 51=some 30/\Ie prog 52=some 1/\Ex prog 52=some false/\Ie prog 54=some 6/\Ex prog 54=some true/\D7 prog 54=some (.agg [.nils,.nils,.int .i64 0,.nils,.int .u64 0,.int .i64 0])/\Sx prog 54=some 6/\Bo prog 54 0=some (0,1,false)/\Bo prog 54 1=some (1,1,false)/\Bo prog 54 2=some (2,1,false)/\Bo prog 54 3=some (3,1,false)/\Bo prog 54 4=some (4,1,false)/\Bo prog 54 5=some (5,1,false)/\Ep prog 54=true/\Ie prog 55=some 1/\Ex prog 55=some false/\Fr prog 55=some 62/\Ie prog 56=some 1/\Ex prog 56=some false/\Fr prog 56=some 64/\Ie prog 58=some 12/\Ex prog 58=some true:=⟨kr,kr,kr,kr,kr,kr,kr,kr,kr,kr,kr,kr,kr,kr,kr,kr,kr,kr,kr,kr,kr,kr,kr,kr⟩
@[simp]theorem Bbt:D7 prog 58=some (.agg [.int .i64 0,.int .i64 0,.int .i64 0,.int .i64 0,.nils,.nils,.int .i64 0,.nils,.int .u64 0,.int .i64 0,.nils,.nils])/\Sx prog 58=some 12/\Bo prog 58 0=some (0,1,false)/\Bo prog 58 1=some (1,1,false)/\Bo prog 58 2=some (2,1,false)/\Bo prog 58 3=some (3,1,false)/\Bo prog 58 4=some (4,6,true)/\Bo prog 58 5=some (10,1,false)/\Bo prog 58 6=some (11,1,false)/\Ep prog 58=true/\Ie prog 62=some 5/\Ex prog 62=some true/\D7 prog 62=some (.agg [.int .i64 0,.nils,.int .i64 0,.str [],.bool false])/\Sx prog 62=some 5/\Ji prog 62=some 64/\Bo prog 62 0=some (0,1,false)/\Bo prog 62 1=some (1,1,false)/\Bo prog 62 2=some (2,1,false)/\Bo prog 62 3=some (3,1,false)/\Bo prog 62 4=some (4,1,false)/\Ep prog 62=true/\Ie prog 64=some 4/\Ex prog 64=some true/\D7 prog 64=some (.agg [.int .i64 0,.int .i64 0,.int .i64 0,.int .i64 0]):=⟨kr,kr,kr,kr,kr,kr,kr,kr,kr,kr,kr,kr,kr,kr,kr,kr,kr,kr,kr,kr,kr,kr,kr,kr⟩
@[simp]theorem Bbu:Sx prog 64=some 4/\Ji prog 64=some 32/\Bo prog 64 0=some (0,1,false)/\Bo prog 64 1=some (1,1,false)/\Bo prog 64 2=some (2,1,false)/\Bo prog 64 3=some (3,1,false)/\Akp prog 64=some [0,0,0,0]/\Ie prog 66=some 11/\Ex prog 66=some true/\D7 prog 66=some (.agg [.int .i64 0,.int .i64 0,.int .i64 0,.nils,.int .i64 0,.str [],.bool false,.int .i64 0,.int .i64 0,.int .i64 0,.int .i64 0])/\Sx prog 66=some 11/\Ji prog 66=some 112/\Bo prog 66 0=some (0,1,false)/\Bo prog 66 1=some (1,1,false)/\Bo prog 66 2=some (2,5,true)/\Bo prog 66 3=some (7,4,true)/\Ep prog 66=true/\Akm prog 71=some (2,1)/\Fr prog 71=none/\Bo prog 79 0=some (0,11,true)/\Bo prog 79 1=some (11,1,false)/\Ie prog 86=some 5/\Ex prog 86=some true/\D7 prog 86=some (.agg [.int .i64 0,.int .i64 0,.int .i64 0,.int .i64 0,.str []]):=⟨kr,kr,kr,kr,kr,kr,kr,kr,kr,kr,kr,kr,kr,kr,kr,kr,kr,kr,kr,kr,kr,kr,kr,kr⟩
@[simp]theorem Bbv:Sx prog 86=some 5/\Bo prog 86 0=some (0,1,false)/\Bo prog 86 1=some (1,1,false)/\Bo prog 86 2=some (2,1,false)/\Bo prog 86 3=some (3,1,false)/\Bo prog 86 4=some (4,1,false)/\Ie prog 91=some 1/\Ex prog 91=some false/\Fr prog 91=some 9/\Ie prog 93=some 17/\Ex prog 93=some true/\D7 prog 93=some (.agg [.int .i64 0,.int .i64 0,.int .i64 0,.str [],.nils,.nils,.int .i64 0,.int .i64 0,.nils,.int .i64 0,.str [],.int .i64 0,.int .i64 0,.int .i64 0,.int .i64 0,.nils,.int .i64 0])/\Sx prog 93=some 17/\Bo prog 93 0=some (0,1,false)/\Bo prog 93 1=some (1,1,false)/\Bo prog 93 2=some (2,1,false)/\Bo prog 93 3=some (3,1,false)/\Bo prog 93 4=some (4,1,false)/\Bo prog 93 5=some (5,1,false)/\Bo prog 93 6=some (6,1,false)/\Bo prog 93 7=some (7,1,false)/\Bo prog 93 8=some (8,1,false)/\Bo prog 93 9=some (9,1,false)/\Bo prog 93 10=some (10,1,false):=⟨kr,kr,kr,kr,kr,kr,kr,kr,kr,kr,kr,kr,kr,kr,kr,kr,kr,kr,kr,kr,kr,kr,kr,kr⟩
@[simp]theorem Bab:Bo prog 93 11=some (11,1,false)/\Bo prog 93 12=some (12,1,false)/\Bo prog 93 13=some (13,1,false)/\Bo prog 93 14=some (14,1,false)/\Bo prog 93 15=some (15,1,false)/\Bo prog 93 16=some (16,1,false)/\Ep prog 93=true/\Ie prog 98=some 2/\Ex prog 98=some true/\D7 prog 98=some (.agg [.int .i64 0,.int .i64 0])/\Sx prog 98=some 2/\Ji prog 98=some 16/\Bo prog 98 0=some (0,1,false)/\Bo prog 98 1=some (1,1,false)/\Ep prog 98=true/\Akp prog 98=some [0,0]/\Ie prog 111=some 1/\Ex prog 111=some false/\Fr prog 111=some 25/\Ie prog 113=some 1/\Ex prog 113=some true/\D7 prog 113=some (.agg [.nils])/\Sx prog 113=some 1/\Bo prog 113 0=some (0,1,false):=⟨kr,kr,kr,kr,kr,kr,kr,kr,kr,kr,kr,kr,kr,kr,kr,kr,kr,kr,kr,kr,kr,kr,kr,kr⟩
@[simp]theorem Bba:Ep prog 113=true/\Ie prog 115=some 9/\Ex prog 115=some true/\D7 prog 115=some (.agg [.int .i64 0,.str [],.int .i64 0,.int .i64 0,.int .i64 0,.int .i64 0,.int .i64 0,.int .i64 0,.nils])/\Sx prog 115=some 9/\Ji prog 115=some 96/\Bo prog 115 0=some (0,1,false)/\Bo prog 115 1=some (1,1,false)/\Bo prog 115 2=some (2,1,false)/\Bo prog 115 3=some (3,1,false)/\Bo prog 115 4=some (4,1,false)/\Bo prog 115 5=some (5,1,false)/\Bo prog 115 6=some (6,1,false)/\Bo prog 115 7=some (7,1,false)/\Bo prog 115 8=some (8,1,true)/\Ep prog 115=true/\Ie prog 120=some 22/\Ex prog 120=some true/\D7 prog 120=some (.agg [.int .i64 0,.nils,.nils,.nils,.nils,.int .i64 0,.bool false,.nils,.nils,.int .i64 0,.bool false,.nils,.nils,.int .i64 0,.bool false,.nils,.nils,.int .i64 0,.nils,.nils,.int .i64 0,.int .u64 0])/\Sx prog 120=some 22/\Bo prog 120 0=some (0,18,true)/\Bo prog 120 1=some (18,1,false)/\Ep prog 120=true/\Ie prog 149=some 1:=⟨kr,kr,kr,kr,kr,kr,kr,kr,kr,kr,kr,kr,kr,kr,kr,kr,kr,kr,kr,kr,kr,kr,kr,kr⟩
@[simp]theorem Bbb:Ex prog 149=some false/\D7 prog 149=some (.int .u32 0)/\Sx prog 149=some 1/\Ji prog 149=some 4/\Ab4 prog 149=some .u32/\Fr prog 162=some 5/\Ab7 prog 162=true/\Ie prog 165=some 1/\Ex prog 165=some false/\D7 prog 165=some (.nili)/\Sx prog 165=some 1/\Ji prog 165=some 16/\Ie prog 180=some 1/\Ex prog 180=some false/\Ie prog 203=some 2/\Ex prog 203=some true/\D7 prog 203=some (.agg [.int .i64 0,.int .i64 0])/\Sx prog 203=some 2/\Bo prog 203 0=some (0,1,false)/\Bo prog 203 1=some (1,1,false)/\Ep prog 203=true/\Ie prog 206=some 1/\Ex prog 206=some false/\D7 prog 208=some (.agg [.int .i64 0,.int .i64 0,.nilf]):=⟨kr,kr,kr,kr,kr,kr,kr,kr,kr,kr,kr,kr,kr,kr,kr,kr,kr,kr,kr,kr,kr,kr,kr,kr⟩
@[simp]theorem Bac:Bo prog 208 0=some (0,2,true)/\Bo prog 208 1=some (2,1,false)/\Ep prog 208=true/\D7 prog 210=some (.agg [.int .i64 0,.int .i64 0,.nilf,.str []])/\Oc prog 210=true/\Bo prog 210 0=some (0,3,true)/\Bo prog 210 1=some (3,1,false)/\Ep prog 210=true/\D7 prog 212=some (.agg [.int .i64 0,.int .i64 0,.nilf])/\Oc prog 212=true/\Bo prog 212 0=some (0,3,true)/\Ep prog 212=true/\D7 prog 213=some (.agg [.int .i64 0,.int .i64 0,.nilf])/\Oc prog 213=true/\Bo prog 213 0=some (0,3,true)/\Ep prog 213=true/\D7 prog 214=some (.agg [.int .i64 0,.int .i64 0,.nilf])/\Oc prog 214=true/\Bo prog 214 0=some (0,3,true)/\Ep prog 214=true/\D7 prog 216=some (.agg [.int .i64 0,.int .i64 0,.nilf,.int .i64 0])/\Oc prog 216=true/\Bo prog 216 0=some (0,3,true)/\Bo prog 216 1=some (3,1,false):=⟨kr,kr,kr,kr,kr,kr,kr,kr,kr,kr,kr,kr,kr,kr,kr,kr,kr,kr,kr,kr,kr,kr,kr,kr⟩
@[simp]theorem Bbc:Ep prog 216=true/\Ie prog 218=some 3/\Ex prog 218=some true/\D7 prog 218=some (.agg [.int .i64 0,.int .i64 0,.int .i64 0])/\Oc prog 218=true/\Bo prog 218 0=some (0,2,true)/\Bo prog 218 1=some (2,1,false)/\Ep prog 218=true/\D7 prog 220=some (.agg [.int .i64 0])/\Oc prog 220=true/\Bo prog 220 0=some (0,1,false)/\Ep prog 220=true/\D7 prog 221=some (.agg [.int .i64 0])/\Oc prog 221=true/\Bo prog 221 0=some (0,1,false)/\Ep prog 221=true/\Ie prog 223=some 0/\Ex prog 223=some true/\Oc prog 223=true/\Ep prog 223=true/\Ie prog 230=some 5/\Ex prog 230=some true/\D7 prog 230=some (.agg [.str [],.str [],.str [],.str [],.str []])/\Sx prog 230=some 5:=⟨kr,kr,kr,kr,kr,kr,kr,kr,kr,kr,kr,kr,kr,kr,kr,kr,kr,kr,kr,kr,kr,kr,kr,kr⟩
@[simp]theorem Bbd:Akm prog 230=some (5,1)/\Fr prog 230=none/\Ie prog 240=some 2/\Ex prog 240=some true/\D7 prog 240=some (.agg [.int .i64 0,.int .i64 0])/\Sx prog 240=some 2/\Bo prog 240 0=some (0,1,false)/\Bo prog 240 1=some (1,1,false)/\Ab4 prog 246=some .u64/\Ie prog 255=some 1/\Ex prog 255=some false/\Fr prog 255=some 339/\Ie prog 257=some 3/\Ex prog 257=some true/\D7 prog 257=some (.agg [.nils,.nils,.nils])/\Sx prog 257=some 3/\Bo prog 257 0=some (0,1,false)/\Bo prog 257 1=some (1,1,false)/\Bo prog 257 2=some (2,1,false)/\Ep prog 257=true/\Ie prog 333=some 5/\Ex prog 333=some true/\D7 prog 333=some (.agg [.int .i64 0,.nils,.nils,.int .i64 0,.int .i64 0])/\Sx prog 333=some 5:=⟨kr,kr,kr,kr,kr,kr,kr,kr,kr,kr,kr,kr,kr,kr,kr,kr,kr,kr,kr,kr,kr,kr,kr,kr⟩
@[simp]theorem Bad:Bo prog 333 0=some (0,2,true)/\Bo prog 333 1=some (2,1,false)/\Bo prog 333 2=some (3,1,false)/\Bo prog 333 3=some (4,1,false)/\Ep prog 333=true/\Ie prog 339=some 3/\Ex prog 339=some true/\D7 prog 339=some (.agg [.nils,.int .i64 0,.int .i64 0])/\Sx prog 339=some 3/\Ji prog 339=some 40/\Bo prog 339 0=some (0,1,false)/\Bo prog 339 1=some (1,1,false)/\Bo prog 339 2=some (2,1,false)/\Ep prog 339=true/\Fr prog 363=some 165/\Ie prog 368=some 2/\Ex prog 368=some true/\D7 prog 368=some (.agg [.int .i64 0,.int .i64 0])/\Sx prog 368=some 2/\Ji prog 368=some 16/\Bo prog 368 0=some (0,1,false)/\Bo prog 368 1=some (1,1,false)/\Ep prog 368=true/\Akp prog 368=some [0,0]:=⟨kr,kr,kr,kr,kr,kr,kr,kr,kr,kr,kr,kr,kr,kr,kr,kr,kr,kr,kr,kr,kr,kr,kr,kr⟩
@[simp]theorem Bbe:D7 prog 376=some (.agg [.nils,.nils,.nils,.nils,.bool false,.bool false,.nils,.int .i64 0,.nils,.nils,.nils,.int .i64 0,.nils,.int .i64 0,.nils,.int .i64 0,.bool false])/\Bo prog 376 0=some (0,3,true)/\Bo prog 376 1=some (3,1,false)/\Bo prog 376 2=some (4,1,false)/\Bo prog 376 3=some (5,1,false)/\Bo prog 376 4=some (6,1,false)/\Bo prog 376 5=some (7,1,false)/\Bo prog 376 6=some (8,1,false)/\Bo prog 376 7=some (9,1,false)/\Bo prog 376 8=some (10,1,false)/\Bo prog 376 9=some (11,1,false)/\Bo prog 376 10=some (12,1,false)/\Bo prog 376 11=some (13,1,false)/\Bo prog 376 12=some (14,1,false)/\Bo prog 376 13=some (15,1,false)/\Bo prog 376 14=some (16,1,false)/\Ep prog 376=true:=⟨kr,kr,kr,kr,kr,kr,kr,kr,kr,kr,kr,kr,kr,kr,kr,kr,kr⟩
end Go.Proofs.YtpaccopbbffkaaaGreatDoor
set_option maxRecDepth 4000
namespace Go.Proofs.YtpaccopbbffkaaaGreatDoor
open Go.Eng Go.Eng.Limb
theorem _root_.Go.Eng.AC.relaxP{P:Program}{f:FuncId}{args:List V}{a:V}(h:AC P f args (fun r=>Bi r a)):AC P f args (fun r=>r=a):=
 fun w N xs h1 h2 c=>(h w N xs h1 h2 c).mono fun _ _⟨x,_,he,hR,hp,hb⟩=>⟨x,a,he,rfl,hR.1 _ _ _ hp,hb⟩
theorem Ds:prog.follows .mixedOrders=true:=by kernel_rfl
theorem Ay8(l:List Nat):AC prog 148 [.ro 1 (Av l)] (fun r=>r=.ro 1 (Av (Mi l))):=by
 refine Rs 0 rfl fun f=>?_;unfold maxLen at f;simp only [Eg]at f;refine Ax func148 fun w0 N0=>?_;refine Aa [0] [] sr (Ab (Ar (Di (fun p:List Nat × Nat=>⟨[(0,.ro 1 (Av p.1))],[],p.2,21⟩) (fun p=>Mi p.1=Mi l/\p.1.length<=l.length) (fun p=>p.1.length) (l,_) ⟨rfl,A9 _⟩ (AS.le_refl _) ?_)));rintro⟨b,nx⟩⟨j,d⟩;simp only at j d
 rcases List.eq_nil_or_concat b with rfl|⟨a,x,rfl⟩
 ·refine Ab (Aa [0,14] [] sr ?_);refine A7 rfl (fun h1=>by simp at h1) fun h1=>?_;refine Bb ?_;refine Aa [2] [] sr ?_;refine Aj (Ac sr ?_);rw [<- j];simp [Mi]
 simp only [List.concat_eq_append,Bf,Ba,Bx]at j d|-;have e:Av (a++[x])=Av a++[.int .u32 (x:Int)]:=sm;rw [e];have c:(Av a).length=a.length:=sm;have o:IntKind.i64.wrap (a.length:Int)=a.length:=Bh om om;have n:G8 (Av a++[V.int .u32 (x:Int)]) a.length=some (.int .u32 x):=by rw [<- c];exact Acp
 have i:(Av a++[V.int .u32 (x:Int)]).take a.length=Av a:=by rw [<- c];simp
 generalize g:Av a=av at c n i;have k:(a.length:Int)<(a.length:Int)+1:=om;have h:(a.length:Int)<=(a.length:Int)+1:=om;refine Ab (Aa [0,14] [] (by simp [c,o,n,k]<;>rfl) ?_)
 refine Ao (fun h1=>Ae ?_) fun h1=>?_
 ·have m:x=0:=by simp at h1;omega
  subst m;refine Ar (A3 [0] [] (by simp [c,o,h]<;>rfl) ?_);refine⟨(a,nx+12+6),⟨by rw [<- j,Ac0],by simp only;omega⟩,by simp,?_⟩;simp only [g];exact AS.le_refl _
 ·have m:x≠0:=by simp at h1;omega
  refine Bb ?_;refine Aa [2] [] sr ?_;refine Aj (Ac sr ?_);rw [<- j,Ac1 x m,e,g]
theorem H0(l:List Nat)(h:D6 l):AC prog 148 [.ro 1 (Av l)] (fun r=>r=.ro 1 (Av (B1 (Bd l)))):=by
 rw [<- Kb l h];exact Ay8 l
theorem Oy(l:List Nat)(h:D6 l):(B1 (Bd l)).length<=l.length:=by rw [<- Kb l h];exact K7 l
theorem Ag1:maxLen=9223372036854775807:=by decide
theorem Xt(l:List Nat)(h:D6 l)(hl:l.length<=1099511627776):AC prog 147 [.ro 1 (Av l)] (fun r=>r=.ro 1 (Av (B1 (Bd l)))):=by
 have d:=H0 l h;have hp:=Ak (B1 (Bd l));have c:=Ak l;have e:=Oy l h;have a:(Av (B1 (Bd l))).length=(B1 (Bd l)).length:=sm;have h1:(Av (B1 (Bd l))).length<=maxLen:=by rw [a,Ag1];omega
 have h2:(Av (B1 (Bd l))).length*4<=140737488355328:=om;generalize Av (B1 (Bd l))=rv at d hp h1 h2 a;refine Ax func147 fun w0 N0=>?_;refine Aa [0] [] sr (Ab (Ad (Am 1 sr ?_)));refine Ah d func148 ?_;refine Af [2] [5] (by simp [h1,h2]<;>rfl) ?_;exact Bp 5 [2] [] (by simp [hp,Eng.get]<;>rfl) (Aj (Ac sr rf))
theorem Ada(n:Nat)(hn:n<18446744073709551616):AC prog 129 [.int .u64 n] (fun r=>r=.ro 1 (Av (B1 n))):=by
 have a:=H0 [n%4294967296,n/4294967296] (by intro x d;simp at d;omega);have e:Bd [n%4294967296,n/4294967296]=n:=by simp [Bd];omega
 rw [e]at a;have hp:=Ak (B1 n);simp only [Av,Ct,F8,Va]at a;show AC _ _ _ (fun r=>r=V.ro 1 (List.map Va (B1 n)))
 generalize List.map Va (B1 n)=r at a hp|-;have c:=wrap_u32 n;have Pm:IntKind.u32.wrap ((n:Int).fdiv (2^min 32 IntKind.u64.bits))=((n/4294967296:Nat):Int):=by rw [Xm,wrap_u32];omega
 generalize((n%4294967296:Nat):Int)=lo at a c;generalize((n/4294967296:Nat):Int)=hi at a Pm;refine Ax func129 fun w0 N0=>?_;refine Aa [0] [] sr (Ab (Ad (Am 6 (by simp [c,Pm]<;>rfl) ?_)));refine I7 8 [8] [] sr ?_;refine Ah a func148 ?_;refine Af [2] [] sr ?_;exact Aj (Ac sr rfl)
theorem Adb(o l2:List Nat)(h1:D6 o)(h2:D6 l2):AC prog 128 [.ro 1 (Av o),.ro 1 (Av l2)] (fun r=>r=.int .i64 (Qn (Bd o) (Bd l2))):=by
 refine Rs 0 rfl fun aa=>?_;refine Rs 1 rfl fun ae=>?_;have l:=H0 o h1;have f:=H0 l2 h2;have ad:=Oy o h1;have u:=Oy l2 h2;have ai:=Ak o;have ag:=Ak l2;rw [Eg,Ag1]at aa ae;generalize Bd o=a at l ad|-;generalize Bd l2=b at f u|-;have ea:=O8 a;have eb:=O8 b;have ga:=J1 a;have gb:=J1 b;have na:=fun k=>Uv k a
 have nb:=fun k=>Uv k b
 generalize(B1 a).length=n at ea ga na ad;generalize(B1 b).length=m at eb gb nb u;rw [ea]at l;rw [eb]at f;have c:(Av (Cb n a)).length=n:=sm;have e:(Av (Cb m b)).length=m:=sm;have z:=fun i(h:i<n)=>Xn (v:=a) h
 have ab:=fun i(h:i<m)=>Xn (v:=b) h
 generalize Av (Cb n a)=av at l c z;generalize Av (Cb m b)=bv at f e ab;refine Ax func128 fun w0 N0=>?_;refine Aa [0,1] [] sr (Ab (Ad (Am 1 sr ?_)));refine Ah l func148 ?_;refine Am 1 sr ?_;refine Ah f func148 ?_;refine Af [0,1] [] sr ?_;refine Ab (Aa [0,1,14] [] (by simp [c,e]<;>rfl) ?_);have t:∀i j:Nat,i<=j->4294967296^i<=4294967296^j:=fun i j h=>Ee dc h
 refine Ao (fun h1=>?_) fun h1=>Ae ?_
 ·refine Aa [4] [] sr ?_;refine Aj (Ac sr ?_);have g:n<m:=by simp at h1;omega
  obtain⟨k,rfl⟩:∃k,m=k+1:=⟨m-1,by omega⟩;have q1:=nb k rfl;have q2:=t n k om;rw [Qn,if_pos (B6 ga (Ai q2 q1))]
 have ak:¬n<m:=by simp at h1;omega
 refine Ab (Aa [0,1,19] [] (by simp [c,e]<;>rfl) ?_)
 refine Ao (fun h2=>?_) fun h2=>Ae ?_
 ·refine Aa [4] [] sr ?_;refine Aj (Ac sr ?_);have g:m<n:=by simp at h2;omega
  obtain⟨k,rfl⟩:∃k,n=k+1:=⟨n-1,by omega⟩;have q1:=na k rfl;have q2:=t m k om;have q3:b<a:=B6 gb (Ai q2 q1);rw [Qn,if_neg (Sa.2 (Ho q3)),if_pos q3]
 have aj:n=m:=by simp at h2;omega
 subst aj;obtain⟨w1,Dg,af⟩:∃x:Int,IntKind.i64.wrap ((n:Int)-1)=x/\x=(n:Int)-1:=⟨_,rfl,Bh om om⟩;refine Ab (Aa [0,1,5] [] (by simp [c,Dg]<;>rfl) (Ar (Di (fun p:Nat × Nat=>⟨[(0,.ro 1 av),(1,.ro 1 bv),(5,.int .i64 ((p.1:Int)-1))],[],p.2,45⟩) (fun p=>p.1<=n/\a/4294967296^p.1=b/4294967296^p.1) (fun p=>p.1) (n,_) ⟨A9 _,by rw [Ga ga,Ga gb]⟩ (by simp only [af];exact AS.le_refl _) ?_)));rintro⟨k,nx⟩⟨hk,s⟩;simp only at hk s;refine Ab ?_;cases k with
 |zero=>
  refine Aa [0,1,5,24] [] sr ?_;refine A7 rfl (fun w=>by simp at w) fun w=>?_;refine Bb ?_;refine Aa [4] [] sr ?_;refine Aj (Ac sr ?_);have:a=b:=by simpa using s
  subst this;simp [Qn]
 |succ k=>
  have gA:=z k om;have gB:=ab k om;have e1:((k+1:Nat):Int)-1=(k:Int):=om;have g:(k:Int)<n:=om;have hw:IntKind.i64.wrap ((k:Int)-1)=(k:Int)-1:=Bh om om;have hP:=Mz k;rw [Ck]at s;have r1:=fun h=>Ac3 hP s h
  have r2:=fun h=>Ac3 hP s.symm h
  have r3:=fun h=>Apk s h
  generalize ah:4294967296^k=P at*;generalize a/P%4294967296=x at gA r1 r2 r3;generalize b/P%4294967296=y at gB r1 r2 r3;rw [e1];refine Aa [0,1,5,24] [] sr ?_;refine A7 rfl (fun w=>Ae ?_) (fun w=>by simp at w);refine Ab (Ar (Ab (Dq [(0,[]),(1,[]),(2,[]),(4,[]),(5,[]),(6,[]),(3,[]),(7,[]),(8,[])] [0,1,5,35] [] Ds kr (by simp [gA,gB,c,e,g]<;>rfl) ?_)))
  refine Ao (fun h4=>?_) fun h4=>Ae ?_
  ·refine Aa [4] [] sr ?_;refine Aj (Ac sr ?_);have d:x<y:=by simp at h4;omega
   rw [Qn,if_pos (r1 d)]
  refine Dq [(0,[]),(1,[]),(2,[]),(4,[]),(5,[]),(6,[]),(3,[]),(7,[]),(8,[])] [0,1,5,44] [] Ds kr (by simp [gA,gB,c,e,g]<;>rfl) ?_
  refine Ao (fun h5=>?_) fun h5=>Ae ?_
  ·refine Aa [4] [] sr ?_;refine Aj (Ac sr ?_);have d:y<x:=by simp at h5;omega
   have:=r2 d;rw [Qn,if_neg om,if_pos this]
  refine A3 [0,1,5] [] (by simp [hw]<;>rfl) ?_;have d:x=y:=by simp at h4 h5;omega
  exact⟨(k,_),⟨by simp only;omega,by simp only;rw [ah];exact r3 d⟩,by simp,AS.le_refl _⟩
theorem Apr(g l2:List Nat)(h1:D6 g)(h2:D6 l2)(aa:g.length<=1099511627776)(a9:l2.length<=1099511627776):AC prog 257 [.ro 1 (Av g),.ro 1 (Av l2)] (fun r=>r=.ro 1 (Av (B1 (Bd g+Bd l2)))):=by
 have au:=H0 g h1;have ak:=H0 l2 h2
 have a7:(B1 (Bd g)).length<=1099511627776:=by
  rw [<- Kb g h1];exact Ai (K7 g) aa
 have a5:(B1 (Bd l2)).length<=1099511627776:=by
  rw [<- Kb l2 h2];exact Ai (K7 l2) a9
 have ai:=Cn (Bd g);have ag:=Cn (Bd l2);have aj:=Cv (Bd g);have az:=Cv (Bd l2);generalize B1 (Bd g)=m1 at au a7 ai aj;generalize B1 (Bd l2)=m2 at ak a5 ag az;rw [<- aj,<- az];have b0:=Ak m1;have bz:=Ak m2;have al:=Ak g;have ax:=Ak l2;refine Ax func257 fun w0 N0=>?_;refine Aa [0,1] [] sr (Ab (Ad (Am 1 sr ?_)));refine Ah au func148 ?_;refine Am 1 sr ?_;refine Ah ak func148 ?_;refine Af [0,1] [] sr ?_
 refine Xg (fun p:List Nat × List Nat=>⟨[(0,.ro 1 (Av p.1)),(1,.ro 1 (Av p.2))],[],50,63⟩) (fun p=>D6 p.1/\D6 p.2/\p.2.length<=p.1.length/\p.1.length<=1099511627776/\Bd m1+Bd m2=Bd p.1+Bd p.2) ?_ ?_
 ·refine Aa [0,1,17] [] sr ?_
  refine Ao (fun h1=>?_) fun h1=>Ae ?_
  ·refine A3 [0,1] [] sr ?_;exact⟨(m2,m1),⟨ag,ai,by simp at h1;simp only;omega,a5,Sg _ _⟩,Agm rfl rfl rfl sy⟩
  ·exact⟨(m1,m2),⟨ai,ag,by simp at h1;simp only;omega,a7,rfl⟩,Oo [0,1] [] rfl rfl rfl sy⟩
 rintro⟨a,b⟩⟨ha,hb,ao,bl,hT⟩;simp only at ha hb ao bl hT;rw [hT];have o:(Av a).length=a.length:=sm;have a2:(Av b).length=b.length:=sm;have am:=fun k h=>Apj a k h
 have a1:=fun k h=>Apj b k h
 obtain⟨s1,aa,bw⟩:∃s:Int,IntKind.i64.wrap ((a.length:Int)+1)=s/\s=((a.length+1:Nat):Int):=⟨_,rfl,A6 om⟩;have br:4*s1<=281474976710656:=om;have bq:s1<=9223372036854775807:=om;have bb:0<=s1:=om;have m:s1.toNat=a.length+1:=om;have be:=Ak a;have ba:=Ak b;generalize Av a=av at o am be;generalize Av b=bv at a2 a1 ba;refine Aa [0,1,5] [23] (by simp [o,aa,br,bq,bb]<;>rfl) (Aa [0,1,5,6] [23] sr (Ab (Aa [0,1,5,6,25,26] [23] (by simp [o]<;>rfl) (Ar ?_))))
 refine Di (fun p:List Nat × Nat × Nat=>⟨[(0,.ro 1 av),(1,.ro 1 bv),(5,.sl 23 53 1 s1.toNat),(6,.int .u64 p.2.1),(25,.int .i64 a.length),(26,.int .i64 p.1.length)],[(23,⟨53,1,149,Kf p.1 (a.length+1-p.1.length)⟩)],p.2.2,63⟩)
  (fun p=>p.1.length<=a.length/\D6 p.1/\p.2.1<=1/\Bd p.1+p.2.1*4294967296^p.1.length=Bd (a.take p.1.length)+Bd (b.take p.1.length)) (fun p=>a.length-p.1.length) ([],0,_) ⟨by simp,by simp [D6],by simp,by simp [Bd]⟩ (by simp [m,All];exact AS.le_refl _) ?_
 rintro⟨done,c,nx⟩⟨hd,ah,hc,hI⟩;simp only at hd ah hc hI;refine Aa [0,1,5,6,25,26,27] [23] sr (Ab ?_)
 refine Ao (fun h2=>Ae ?_) fun h2=>?_
 ·have an:done.length<a.length:=by simp at h2;omega
  obtain⟨n,hn⟩:∃n,a.length+1-done.length=n+1:=⟨a.length-done.length,by omega⟩;have ad:=am done.length an;have e:=Xo (done:=done) (k:=done.length) (n:=n) rfl;obtain⟨k,hk⟩:∃k,done.length=k:=⟨_,rfl⟩;rw [hk]at ad e an hn hI;have bd:=Ns ha k;have bg:=Ns hb k;have aq:=O9 a k;have aw:=O9 b k;have a6:¬k<b.length->Fz b k=0:=fun h=>by unfold Fz;rw [Gk Go.om]
  have a4:=a1 k;have d:=fun z=>Xp (done:=done) (k:=k) (n:=n) hk z
  have f:(Kf done (n+1)).length=a.length+1:=by rw [Ti];omega
  have bk:=A6 (k:=k) om;simp only [hk,hn];generalize Fz a k=x at ad bd aq;generalize Fz b k=y at a4 bg aw a6;have a3:IntKind.u64.wrap (x:Int)=x:=wrap_u64 om;have ar:IntKind.u64.wrap (y:Int)=y:=wrap_u64 om;obtain⟨z1,bm,u⟩:∃z:Int,IntKind.u64.wrap ((x:Int)+(c:Int))=z/\z=((x+c:Nat):Int):=⟨_,rfl,Abm om⟩;obtain⟨z2,bf,j⟩:∃z:Int,IntKind.u64.wrap (z1+(y:Int))=z/\z=((x+y+c:Nat):Int):=⟨_,rfl,by rw [u,Abm Go.om];congr 1;omega⟩;have t:k<av.length:=om;have ae:(k:Int)<(a.length:Int)+1:=om;generalize bx:Kf done (n+1)=ro at e f d|-;refine Ab (Ar (Aa [0,1,5,6,7,25,26] [23] sr (Aa [0,1,5,7,8,25,26] [23] (by simp [ad,t,a3,bm]<;>rfl) ?_)))
  refine Ph ⟨[(0,.ro 1 av),(1,.ro 1 bv),(5,.sl 23 53 1 s1.toNat),(7,.int .i64 k),(8,.int .u64 z2),(25,.int .i64 a.length),(26,.int .i64 k)],[(23,⟨53,1,149,ro⟩)],nx+30,63⟩ ?_ ?_
  ·refine Aa [0,1,5,7,8,25,26,39] [23] (by simp [a2]<;>rfl) ?_
   refine Ao (fun h3=>?_) fun h3=>Ae ?_
   ·have ab:k<b.length:=by simp at h3;omega
    have a8:k<bv.length:=om;refine A3 [0,1,5,7,8,25,26] [23] (by simp [a4 ab,a8,ar,bf]<;>rfl) ?_;exact⟨rfl,Oo [0,1,5,7,8,25,26] [23] rfl rfl rfl sy⟩
   ·have ab:¬k<b.length:=by simp at h3;omega
    have bo:=a6 ab;have bh:z1=z2:=by rw [u,j,bo];congr 1
    rw [bh];exact⟨rfl,Oo [0,1,5,7,8,25,26] [23] rfl rfl rfl sy⟩
  have a0:IntKind.u32.wrap z2=(((x+y+c)%4294967296:Nat):Int):=by rw [j,wrap_u32]
  have ay:z2.fdiv (2^min 32 IntKind.u64.bits)=(((x+y+c)/4294967296:Nat):Int):=by rw [j,Xm]
  have i:=d ((x+y+c)%4294967296);generalize bt:(x+y+c)%4294967296=lo at a0 i;generalize bj:(x+y+c)/4294967296=hi at ay;refine Aa [0,1,5,8,25,26] [23] (by simp [e,a0,i,m,ae]<;>rfl) (A3 [0,1,5,6,25,26] [23] (by simp [ay]<;>rfl) (A3 [0,1,5,6,25,26] [23] (by simp [bk]<;>rfl) ?_))
  refine⟨(done++[lo],hi,nx+30+6+3+2),⟨by simp;omega,Ow ah (by intro q hq;simp at hq;omega),by simp only;omega,?_⟩,by simp;omega,?_⟩
  ·simp only [Bf,Ba,Bx,hk,Oe,Bd];have:=Ayh hI (x+y+c) rfl;rw [bt,bj]at this;rw [aq,aw,Ck];rw [Bj (4294967296^k)];omega
  ·have bn:((k+1:Nat):Int)=(k:Int)+1:=om;have bu:a.length+1-(k+1)=n:=om;simp only [Bf,Ba,Bx,hk,bu,m,Dj,bn];exact AS.le_refl _
 ·refine Bb ?_;have l:done.length=a.length:=by simp at h2;omega
  have e:=Xo (done:=done) (k:=a.length) (n:=0) l;have d:=Xp (done:=done) (k:=a.length) (n:=0) l c;have f:(Kf done 1).length=a.length+1:=by rw [Ti];omega
  have ae:(a.length:Int)<(a.length:Int)+1:=om;have bc:IntKind.u32.wrap (c:Int)=(c:Int):=by rw [wrap_u32];omega
  have af:=H0 (done++[c]) (Ow ah (by intro q hq;simp at hq;omega))
  have bp:Bd (done++[c])=Bd a+Bd b:=by
   rw [l,Bl,N7 b _ ao]at hI;rw [Oe,l,<- hI];simp only [Bd,Sf,Dy];rw [Bj (4294967296^a.length) c]
  rw [bp]at af;have bs:Kf (done++[c]) 0=Av (done++[c]):=by simp [Kf]
  have w:=Ak (done++[c]);rw [show a.length+1-done.length=0+1 by omega];simp only [Dj]at e d|-;rw [bs]at d;generalize Av (done++[c])=fin at d af w;have bi:fin.length=a.length+1:=by rw [<- d,Ha,f]
  generalize Kf done 1=ro at e d f|-;refine Aa [5] [23] (by simp [o,e,d,m,ae,bc]<;>rfl) (Ab (Ad (Am 1 sr ?_)));refine I7 23 [61] [] (by simp [w,bi]<;>rfl) ?_;refine Ah af func148 ?_;refine Af [4] [] sr ?_;refine Aj (Ac sr ?_);rfl
theorem Ai1(l1 l2:List Nat)(h1:D6 l1)(h2:D6 l2)(al:l1.length<=1099511627776)(bw:l2.length<=1099511627776):AC prog 172 [.ro 1 (Av l1),.ro 1 (Av l2)] (fun r=>r=.ro 1 (Av (B1 (Bd l1*Bd l2)))):=by
 have ao:=H0 l1 h1;have am:=H0 l2 h2
 have cg:(B1 (Bd l1)).length<=1099511627776:=by
  rw [<- Kb l1 h1];exact Ai (K7 l1) al
 have cd:(B1 (Bd l2)).length<=1099511627776:=by
  rw [<- Kb l2 h2];exact Ai (K7 l2) bw
 have ha:=Cn (Bd l1);have hb:=Cn (Bd l2);have az:=Cv (Bd l1);have bd:=Cv (Bd l2);generalize B1 (Bd l1)=a at ao cg ha az;generalize B1 (Bd l2)=b at am cd hb bd;rw [<- az,<- bd];have b7:=Ak a;have b5:=Ak b;have a1:=Ak l1;have a9:=Ak l2;have ay:(Av a).length=a.length:=sm;have ad:(Av b).length=b.length:=sm;have a2:=fun k h=>Apj a k h
 have bg:=fun k h=>Apj b k h
 obtain⟨s1,al,ch⟩:∃s:Int,IntKind.i64.wrap ((a.length:Int)+(b.length:Int))=s/\s=((a.length+b.length:Nat):Int):=⟨_,rfl,by rw [Bh om Go.om];omega⟩;have cf:4*s1<=281474976710656:=om;have ce:s1<=9223372036854775807:=om;have b0:0<=s1:=om;have aa:s1.toNat=a.length+b.length:=om;generalize Av a=av at ao ay a2 b7;generalize Av b=bv at am ad bg b5;refine Ax func172 fun w0 N0=>?_;refine Aa [0,1] [] sr (Ab (Ad (Am 1 sr ?_)));refine Ah ao func148 ?_;refine Am 1 sr ?_;refine Ah am func148 ?_;refine Af [0,1] [] sr ?_;refine Aa [0,1,5] [21] (by simp [ay,ad,al,cf,ce,b0]<;>rfl) (Ab (Aa [1,5,22,23,24] [21] (by simp [ay]<;>rfl) (Ar ?_)))
 refine Di (fun p:Nat × List Nat × Nat=>⟨[(1,.ro 1 bv),(5,.sl 21 12 1 s1.toNat),(22,.ro 1 av),(23,.int .i64 a.length),(24,.int .i64 p.1)],[(21,⟨12,1,149,Kf p.2.1 (a.length-p.1)⟩)],p.2.2,72⟩)
  (fun p=>p.1<=a.length/\p.2.1.length=p.1+b.length/\D6 p.2.1/\Bd p.2.1=Bd (a.take p.1)*Bd b) (fun p=>a.length-p.1) (0,List.replicate b.length 0,100) ⟨by simp,by simp,by intro x hx;simp at hx;omega,by simp [Apm,Bd]⟩ ?_ ?_
 ·have bz:Kf (List.replicate b.length 0) (a.length-0)=List.replicate s1.toNat (.int .u32 0):=by
   rw [Kf,aa,List.replicate_append_replicate];simp [Va,Sg]
  simp only [bz];exact Oo [1,5,22,23,24] [21] rfl rfl rfl sy
 rintro⟨i,q,nx⟩⟨hi,hq,ax,hI⟩;simp only at hi hq ax hI;refine Aa [1,5,22,23,24,25] [21] sr (Ab ?_)
 refine Ao (fun h1=>Ae ?_) fun h1=>?_
 ·have a4:i<a.length:=by simp at h1;omega
  obtain⟨n,hn⟩:∃n,a.length-i=n+1:=⟨a.length-i-1,by omega⟩;have a3:=a2 i a4;have bb:=Ns ha i;have a5:=O9 a i;have b8:=A6 (k:=i) om;have bc:i<av.length:=om;generalize Fz a i=x at a3 bb a5;have bk:IntKind.u64.wrap (x:Int)=x:=wrap_u64 om;rw [hn];refine Ab (Ar (Aa [1,5,6,7,22,23,24] [21] (by simp [a3,bc]<;>rfl) (Aa [1,5,6,7,8,22,23,24] [21] sr ?_)))
  refine Xg (fun p:List Nat × Nat × Nat=>⟨[(1,.ro 1 bv),(5,.sl 21 12 1 s1.toNat),(6,.int .i64 i),(8,.int .u64 p.2.1),(22,.ro 1 av),(23,.int .i64 a.length),(24,.int .i64 i)],[(21,⟨12,1,149,Kf p.1 (n+1)⟩)],p.2.2,72⟩)
   (fun p=>p.1.length=i+b.length/\D6 p.1/\p.2.1<4294967296/\Bd p.1+p.2.1*4294967296^(i+b.length)=Bd q+x*Bd b*4294967296^i) ?_ ?_
  ·refine Aa [1,5,6,7,8,22,23,24,29,30,31] [21] (by simp [ad]<;>rfl) (Ar ?_)
   refine Di (fun p:Nat × List Nat × Nat × Nat=>⟨[(1,.ro 1 bv),(5,.sl 21 12 1 s1.toNat),(6,.int .i64 i),(7,.int .u32 x),(8,.int .u64 p.2.2.1),(22,.ro 1 av),(23,.int .i64 a.length),(24,.int .i64 i),(29,.ro 1 bv),(30,.int .i64 b.length),(31,.int .i64 p.1)],[(21,⟨12,1,149,Kf p.2.1 (n+1)⟩)],p.2.2.2,72⟩)
    (fun p=>p.1<=b.length/\p.2.1.length=i+b.length/\D6 p.2.1/\p.2.2.1<4294967296/\Bd p.2.1+p.2.2.1*4294967296^(i+p.1)=Bd q+x*Bd (b.take p.1)*4294967296^i) (fun p=>b.length-p.1) (0,q,0,_) ⟨by simp,by simp only;omega,ax,by simp,by simp [Bd]⟩ (by simp;exact AS.le_refl _) ?_
   rintro⟨j,l,c,bh⟩⟨hj,f,d,hc,o⟩;simp only at hj f d hc o;refine Aa [1,5,6,7,8,22,23,24,29,30,31,32] [21] sr (Ab ?_)
   refine Ao (fun h2=>Ae ?_) fun h2=>?_
   ·have br:j<b.length:=by simp at h2;omega
    have bo:=bg j br;have bi:=Ns hb j;have a8:=O9 b j;have ca:=A6 (k:=j) om;have bq:j<bv.length:=om;generalize Fz b j=y at bo bi a8;have a6:IntKind.u64.wrap (y:Int)=y:=wrap_u64 om;obtain⟨m,hm⟩:∃m,i+j=m:=⟨_,rfl⟩;have aw:m<l.length:=om;have ah:=Aue (q:=l) (n:=n+1) aw;have a0:=Ns d m;have w:=fun z=>Auf (q:=l) (n:=n+1) aw z
    have be:=fun z=>Alm l m z aw
    have b9:=fun(z:Nat)(hz:z<4294967296)=>Aug d m hz
    have ab:(Kf l (n+1)).length=a.length+b.length:=by rw [Ti];omega
    generalize Fz l m=u at ah a0 be;have bl:IntKind.u64.wrap (u:Int)=u:=wrap_u64 om;have ci:=A3l bb bi a0 hc;obtain⟨z1,cb,bu⟩:∃z:Int,IntKind.u64.wrap ((x:Int)*(y:Int))=z/\z=((x*y:Nat):Int):=⟨_,rfl,by rw [<- E7];exact wrap_u64 om⟩;obtain⟨z2,b3,bt⟩:∃z:Int,IntKind.u64.wrap (z1+(u:Int))=z/\z=((x*y+u:Nat):Int):=⟨_,rfl,by rw [bu,Abm Go.om]⟩;obtain⟨z3,bx,aj⟩:∃z:Int,IntKind.u64.wrap (z2+(c:Int))=z/\z=((x*y+u+c:Nat):Int):=⟨_,rfl,by rw [bt,Abm Go.om]⟩;obtain⟨mi,af,bn⟩:∃z:Int,IntKind.i64.wrap ((i:Int)+(j:Int))=z/\z=(m:Int):=⟨_,rfl,by rw [Bh om Go.om];omega⟩;have ag:0<=mi/\mi<(a.length:Int)+b.length:=om;have ae:mi.toNat=m:=om;have bf:IntKind.u32.wrap z3=(((x*y+u+c)%4294967296:Nat):Int):=by rw [aj,wrap_u32]
    have ba:z3.fdiv (2^min 32 IntKind.u64.bits)=(((x*y+u+c)/4294967296:Nat):Int):=by rw [aj,Xm]
    have bj:=o;rw [hm]at bj;have au:=Ayj (vq:=0) (x:=x) (y:=y) (t:=x*y+u+c) bj (be _) rfl;have g:=w ((x*y+u+c)%4294967296);have ai:=b9 ((x*y+u+c)%4294967296) (C9 _ om);have a7:(x*y+u+c)/4294967296<4294967296:=om;generalize(x*y+u+c)%4294967296=lo at bf g ai au;generalize(x*y+u+c)/4294967296=hi' at ba au a7;generalize an:Kf l (n+1)=ro at ah ab g|-;refine Ab (Ar (Aa [1,5,6,7,8,9,10,22,23,24,29,30,31] [21] (by simp [bo,bq]<;>rfl) (Aa [1,5,6,7,9,11,22,23,24,29,30,31] [21] (by simp [bk,a6,bl,cb,b3,bx,af,ag,ae,ah,aa]<;>rfl) (Aa [1,5,6,7,11,22,23,24,29,30,31] [21] (by simp [af,ag,ae,ah,bf,g]<;>rfl) (A3 [1,5,6,7,8,22,23,24,29,30,31] [21] (by simp [ba]<;>rfl) (A3 [1,5,6,7,8,22,23,24,29,30,31] [21] (by simp [ca]<;>rfl) ?_))))))
    refine⟨(j+1,l.set m lo,hi',bh+1+5+16+8+3+2),⟨br,by rw [Ha];exact f,ai,a7,?_⟩,by simp only;omega,?_⟩
    ·simp only;rw [<- Jb i j 1,hm,Ck,au,a8];rw [Dw,B9,<- hm,F4]
     have e:x*(y*4294967296^j)*4294967296^i=x*y*(4294967296^i*4294967296^j):=by
      rw [<- B5 x y,B5 (x*y),Bj (4294967296^j)]
     rw [e];omega
    ·have aq:((j+1:Nat):Int)=(j:Int)+1:=om;simp only [aq,aa];exact AS.le_refl _
   ·refine Bb ?_;have b6:j=b.length:=by simp at h2;omega
    subst b6;rw [Bl]at o;exact⟨(l,c,bh+1),⟨f,d,hc,o⟩,Oo [1,5,6,8,22,23,24] [21] rfl rfl rfl sy⟩
  rintro⟨l,c,b2⟩⟨f,d,hc,o⟩;simp only at f d hc o;have b1:IntKind.u32.wrap (c:Int)=(c:Int):=by rw [wrap_u32];omega
  obtain⟨mi,af,bn⟩:∃z:Int,IntKind.i64.wrap ((i:Int)+(b.length:Int))=z/\z=((i+b.length:Nat):Int):=⟨_,rfl,by rw [Bh om Go.om];omega⟩;have ag:0<=mi/\mi<(a.length:Int)+b.length:=om;have ae:mi.toNat=i+b.length:=om;have bp:=Xo (done:=l) (k:=i+b.length) (n:=n) f;have w:=Xp (done:=l) (k:=i+b.length) (n:=n) f c;have bm:(Kf l (n+1)).length=a.length+b.length:=by rw [Ti];omega
  generalize an:Kf l (n+1)=ro at bp bm w|-;refine A3 [1,5,22,23,24] [21] (by simp [ad,af,ag,ae,bp,w,b1,aa]<;>rfl) (A3 [1,5,22,23,24] [21] (by simp [b8]<;>rfl) ?_)
  refine⟨(i+1,l++[c],b2+9+2),⟨a4,by simp;omega,Ow d (by intro z hz;simp at hz;omega),?_⟩,by simp only;omega,?_⟩
  ·simp only;rw [Oe,f,a5,B9,<- hI];simp only [Bd,Sf,Dy];rw [Bj (4294967296^(i+b.length)) c,o,B5 x,B5 x,Bj (Bd b)]
  ·have aq:((i+1:Nat):Int)=(i:Int)+1:=om;have cc:a.length-(i+1)=n:=om;simp only [aq,aa,cc];exact AS.le_refl _
 ·refine Bb ?_;have b4:i=a.length:=by simp at h1;omega
  subst b4;rw [Bl]at hI;have ar:=H0 q ax;rw [hI]at ar;have ak:=Ak q;have bs:(Av q).length=a.length+b.length:=by simpa using hq
  have an:Kf q (a.length-a.length)=Av q:=by simp [Kf]
  rw [an];generalize Av q=fin at ar ak bs;refine Ab (Ad (Am 1 sr ?_));refine I7 21 [70] [] (by simp [ak,bs,aa]<;>rfl) ?_;refine Ah ar func148 ?_;refine Af [4] [] sr ?_;refine Aj (Ac sr ?_);rfl
theorem nils_ro(sz:Nat):Bi .nils (.ro sz []):=⟨fun _ _ _ h=>h.nils_ro sz,fun _ =>rfl⟩
theorem Xu(a b:Nat):Qn a b<0↔a<b:=by unfold Qn;split<;>(try split)<;>omega
def Aps(a b:Nat):V:=if b<=a then .tup [.ro 1 (Av (B1 (a-b))),.bool true]else .tup [.ro 1 [],.bool false]
theorem Apt(f l2:List Nat)(h1:D6 f)(h2:D6 l2)(be:f.length<=1099511627776)(bc:l2.length<=1099511627776):AC prog 258 [.ro 1 (Av f),.ro 1 (Av l2)] (fun r=>r=Aps (Bd f) (Bd l2)):=by
 refine AC.relaxP ?_;have ae:=H0 f h1;have aa:=H0 l2 h2;have bp:=Ai (Oy f h1) be;have bl:=Ai (Oy l2 h2) bc;have ak:=Cn (Bd f);have ah:=Cn (Bd l2);have u:=Cv (Bd f);have af:=Cv (Bd l2);have i:=Adb _ _ ak ah;have d:Bd l2<=Bd f->(B1 (Bd l2)).length<=(B1 (Bd f)).length:=fun h=>Er (Fi h (J1 _))
 generalize B1 (Bd f)=a at ae bp ak u i d;generalize B1 (Bd l2)=b at aa bl ah af i d;rw [<- u,<- af]at d|-;clear u af;have a8:=Ak a;have a6:=Ak b;have aq:=Ak f;have ay:=Ak l2;have am:(Av a).length=a.length:=sm;have a2:(Av b).length=b.length:=sm;have ar:=fun k h=>Apj a k h
 have a1:=fun k h=>Apj b k h
 have bo:4*(a.length:Int)<=281474976710656:=om;have bn:(a.length:Int)<=9223372036854775807:=om;generalize Av a=av at ae am ar a8 i;generalize Av b=bv at aa a2 a1 a6 i;refine Ax func258 fun w0 N0=>?_;refine Aa [0,1] [] sr (Ab (Ad (Am 1 sr ?_)));refine Ah ae func148 ?_;refine Am 1 sr ?_;refine Ah aa func148 ?_;refine Af [0,1] [] sr ?_;refine Ab (Ab (Ad (Am 2 sr ?_)));refine Ah i func128 ?_;refine Af [0,1,17] [] sr ?_
 refine Ao (fun h3=>?_) fun h3=>Ae ?_
 ·have e:Bd a<Bd b:=by simpa [Xu]using h3
  refine Aa [4,5] [] sr ?_;refine Aj (Ac sr ?_);rw [Aps,if_neg Go.om];exact Bi.tup (.cons (nils_ro 1) (.cons (Bi.refl _) .nil))
 have al:Bd b<=Bd a:=by simpa [Xu]using h3
 have bf:=d al;refine Aa [0,1,6] [20] (by simp [am,bo,bn]<;>rfl) (Aa [0,1,6,7] [20] sr (Ab (Aa [0,1,6,7,22,23] [20] (by simp [am]<;>rfl) (Ar ?_))))
 refine Di (fun p:List Nat × Nat × Nat=>⟨[(0,.ro 1 av),(1,.ro 1 bv),(6,.sl 20 14 1 a.length),(7,.int .u64 p.2.1),(22,.int .i64 a.length),(23,.int .i64 p.1.length)],[(20,⟨14,1,149,Kf p.1 (a.length-p.1.length)⟩)],p.2.2,54⟩)
  (fun p=>p.1.length<=a.length/\D6 p.1/\p.2.1<=1/\Bd p.1+Bd (b.take p.1.length)=Bd (a.take p.1.length)+p.2.1*4294967296^p.1.length) (fun p=>a.length-p.1.length) ([],0,_) ⟨by simp,by simp [D6],by simp,by simp [Bd]⟩ (by simp [All];exact AS.le_refl _) ?_
 rintro⟨done,c,nx⟩⟨hd,l,hc,hI⟩;simp only at hd l hc hI;refine Aa [0,1,6,7,22,23,24] [20] sr (Ab ?_)
 refine Ao (fun h4=>Ae ?_) fun h4=>?_
 ·have e:done.length<a.length:=by simp at h4;omega
  obtain⟨n,hn⟩:∃n,a.length-done.length=n+1:=⟨a.length-done.length-1,by omega⟩;have ad:=ar done.length e;have an:=Xo (done:=done) (k:=done.length) (n:=n) rfl;obtain⟨k,hk⟩:∃k,done.length=k:=⟨_,rfl⟩;rw [hk]at ad an e hn hI;have a0:=Ns ak k;have a3:=Ns ah k;have au:=O9 a k;have ax:=O9 b k;have ba:¬k<b.length->Fz b k=0:=fun h=>by unfold Fz;rw [Gk Go.om]
  have a9:=a1 k;have m:=fun z=>Xp (done:=done) (k:=k) (n:=n) hk z
  have a7:(Kf done (n+1)).length=a.length:=by rw [Ti];omega
  have bj:=A6 (k:=k) om;simp only [hk,hn];generalize Fz a k=x at ad a0 au;generalize Fz b k=y at a9 a3 ax ba;obtain⟨z,c',ao,ai,bs,bd,bh⟩:=A99 a0 a3 hc;have a4:IntKind.u64.wrap (x:Int)=x:=wrap_u64 om;have aw:IntKind.u64.wrap (y:Int)=y:=wrap_u64 om;obtain⟨t1,o⟩:∃t:Int,IntKind.u64.wrap ((x:Int)-(c:Int))=t:=⟨_,rfl⟩;have az:=A7q x c;rw [o]at ao ai az;obtain⟨t2,g⟩:∃t:Int,IntKind.u64.wrap (t1-(y:Int))=t:=⟨_,rfl⟩;rw [g]at ao ai;have s:k<av.length:=om;have bg:(k:Int)<(a.length:Int):=om;generalize bt:Kf done (n+1)=ro at an a7 m|-;refine Ab (Ar (Aa [0,1,6,7,8,22,23] [20] sr (Aa [0,1,6,8,9,22,23] [20] (by simp [ad,s,a4,o]<;>rfl) ?_)))
  refine Ph ⟨[(0,.ro 1 av),(1,.ro 1 bv),(6,.sl 20 14 1 a.length),(8,.int .i64 k),(9,.int .u64 t2),(22,.int .i64 a.length),(23,.int .i64 k)],[(20,⟨14,1,149,ro⟩)],nx+30,54⟩ ?_ ?_
  ·refine Aa [0,1,6,8,9,22,23,36] [20] (by simp [a2]<;>rfl) ?_
   refine Ao (fun h5=>?_) fun h5=>Ae ?_
   ·have ab:k<b.length:=by simp at h5;omega
    have bb:k<bv.length:=om;refine A3 [0,1,6,8,9,22,23] [20] (by simp [a9 ab,bb,aw,g]<;>rfl) ?_;exact⟨rfl,Oo [0,1,6,8,9,22,23] [20] rfl rfl rfl sy⟩
   ·have ab:¬k<b.length:=by simp at h5;omega
    have bm:=ba ab;have bi:t1=t2:=by rw [<- g,bm,az]
    rw [bi];exact⟨rfl,Oo [0,1,6,8,9,22,23] [20] rfl rfl rfl sy⟩
  have aj:=m z;refine Aa [0,1,6,9,22,23] [20] (by simp [an,ao,aj,bg]<;>rfl) (A3 [0,1,6,7,22,23] [20] (by simp [ai]<;>rfl) (A3 [0,1,6,7,22,23] [20] (by simp [bj]<;>rfl) ?_))
  refine⟨(done++[z],c',nx+30+6+3+2),⟨by simp;omega,Ow l (by intro q hq;simp at hq;omega),bd,?_⟩,by simp;omega,?_⟩
  ·simp only [Bf,Ba,Bx,hk,Oe,Bd];have:=Auh hI bh;rw [au,ax,Ck,Bj (4294967296^k) (z+_)];simpa using this
  ·have bk:((k+1:Nat):Int)=(k:Int)+1:=om;have br:a.length-(k+1)=n:=om;simp only [Bf,Ba,Bx,hk,br,Dj,bk];exact AS.le_refl _
 ·refine Bb ?_;have j:done.length=a.length:=by simp at h4;omega
  rw [j,Bl,N7 b _ bf]at hI;have e:=Aiw done l;rw [j]at e;obtain⟨_,hD⟩:=Ayk hI e hc al;have ag:=H0 done l;rw [hD]at ag;have bq:Kf done (a.length-done.length)=Av done:=by simp [Kf,j]
  have w:=Ak done;have a5:(Av done).length=a.length:=by simpa using j
  rw [bq];generalize Av done=fin at ag w a5;refine Ab (Ad (Am 1 sr ?_));refine I7 20 [52] [] (by simp [w,a5]<;>rfl) ?_;refine Ah ag func148 ?_;refine Af [4,5] [] sr ?_;refine Aj (Ac sr ?_);rw [Aps,if_pos al];exact Bi.refl _
theorem Apu(n A d:Nat)(hA:A<4294967296^n)(hd:0<d)(ah:d<4294967296)(hn:n<=1099511627776):AC prog 149 [.ro 1 (Av (Cb n A)),.int .u32 d] (fun r=>r=.tup [.ro 1 (Av (B1 (A/d))),.int .u32 ((A%d:Nat):Int)]):=by
 have aa:=fun k(h:k<n)=>Xn (v:=A) h
 have c:(Av (Cb n A)).length=n:=sm;generalize Av (Cb n A)=av at aa c;have al:4*(n:Int)<=281474976710656:=om;have ak:(n:Int)<=9223372036854775807:=om;have f:IntKind.u64.wrap (d:Int)=d:=wrap_u64 om;have y:d≠0:=om;obtain⟨w1,Dg,af⟩:∃x:Int,IntKind.i64.wrap ((n:Int)-1)=x/\x=(n:Int)-1:=⟨_,rfl,Bh om om⟩;refine Ax func149 fun w0 N0=>?_;refine Aa [0,1] [] sr (Aa [0,1,6] [12] (by simp [c,al,ak]<;>rfl) (Aa [0,1,6,7] [12] sr (Ab (Aa [0,1,6,7,8] [12] (by simp [c,Dg]<;>rfl) (Ar ?_)))))
 refine Di (fun p:Nat × Nat=>⟨[(0,.ro 1 av),(1,.int .u32 d),(6,.sl 12 4 1 n),(7,.int .u64 ((A/4294967296^p.1%d:Nat):Int)),(8,.int .i64 ((p.1:Int)-1))],[(12,⟨4,1,149,List.replicate p.1 (.int .u32 0)++Av (Cb (n-p.1) (A/4294967296^p.1/d))⟩)],p.2,44⟩)
  (fun p=>p.1<=n) (fun p=>p.1) (n,_) (A9 _) (by simp only [af,Ga hA,Nat.zero_mod,Fv,Nat.zero_div,Cb,F8,Eo];exact AS.le_refl _) ?_
 rintro⟨k,nx⟩hk;simp only at hk;refine Ab ?_;cases k with
 |zero=>
  simp only [Sc,Nat.div_one,J4,List.replicate_zero,Fm];have j:=H0 (Cb n (A/d)) (Nr _ _);have e:A/d<4294967296^n:=Fi (Hd _ _) hA;rw [Q5,Ci e]at j;have g:=Ak (Cb n (A/d));have w:(Av (Cb n (A/d))).length=n:=sm
  have z:IntKind.u32.wrap ((A%d:Nat):Int)=((A%d:Nat):Int):=by
   have:=C9 A hd;rw [wrap_u32];omega
  generalize Av (Cb n (A/d))=fin at j g w;generalize((A%d:Nat):Int)=rest at z|-;refine Aa [0,1,6,7,8,17] [12] sr ?_;refine A7 rfl (fun h3=>by simp at h3) fun h3=>?_;refine Bb ?_;refine Ab (Ad (Am 1 sr ?_));refine I7 12 [7,40] [] (by simp [g,w]<;>rfl) ?_;refine Ah j func148 ?_;refine Af [4,5] [] (by simp [z]<;>rfl) ?_;refine Aj (Ac sr rfl)
 |succ k=>
  have gA:=aa k om;have e1:((k+1:Nat):Int)-1=(k:Int):=om;have e:(k:Int)<n:=om;have hw:IntKind.i64.wrap ((k:Int)-1)=(k:Int)-1:=Bh om om;obtain⟨D1,D2,D3,D4⟩:=Ayl (A:=A) (P:=4294967296^k) (d:=d) hd rfl rfl rfl;have i:=D2 ah;have ag:A/4294967296^k%4294967296<4294967296:=C9 _ dc;clear D2;rw [<- Ck]at D1 i D3 D4
  have a:∀q,q=(A/4294967296^(k+1)%d*4294967296+A/4294967296^k%4294967296)/d->(List.replicate (k+1) (V.int .u32 0)++Av (Cb (n-(k+1)) (A/4294967296^(k+1)/d))).set k (.int .u32 (q:Int))=List.replicate k (.int .u32 0)++Av (Cb (n-k) (A/4294967296^k/d)):=by
   intro q hq;have aj:n-k=(n-(k+1))+1:=om;rw [aj,D3,<- hq,Agy (by rw [hq];exact i),List.replicate_succ',C3,E0 _ _ (by simp)];simp
  have s:G8 (List.replicate (k+1) (V.int .u32 0)++Av (Cb (n-(k+1)) (A/4294967296^(k+1)/d))) k=some (.int .u32 0):=by
   rw [C0,Bn sm,H1,if_pos Go.om]
  have ae:(List.replicate (k+1) (V.int .u32 0)++Av (Cb (n-(k+1)) (A/4294967296^(k+1)/d))).length=n:=by simp;omega
  generalize List.replicate (k+1) (V.int .u32 0)++Av (Cb (n-(k+1)) (A/4294967296^(k+1)/d))=ro at a s ae|-;generalize A/4294967296^(k+1)%d=r,A/4294967296^k%4294967296=x at*;have m:=Aix (r:=r) (x:=x) om ag;have o:IntKind.u64.wrap (x:Int)=x:=wrap_u64 om;obtain⟨t,ht⟩:∃t,r*4294967296+x=t:=⟨_,rfl⟩;rw [ht]at D1 i a m;have ai:=Aln t d;have ab:=Alo t d;rw [D1]at ab;have l:=a _ rfl;clear a;generalize t/d=q at*;have u:IntKind.u64.wrap (q:Int)=q:=wrap_u64 om;have ad:IntKind.u32.wrap (q:Int)=q:=by rw [wrap_u32];omega
  rw [e1];refine Aa [0,1,6,7,8,17] [12] sr ?_;refine A7 rfl (fun h3=>Ae ?_) (fun h3=>by simp at h3);refine Ab (Ar (Aa [0,1,6,8,9] [12] (by simp [gA,c,e,o,m]<;>rfl) (Aa [0,1,6,8,9] [12] (by simp [s,e,f,y,ai,u,ad,l]<;>rfl) (A3 [0,1,6,7,8] [12] (by simp [f,y,ab]<;>rfl) (A3 [0,1,6,7,8] [12] (by simp [hw]<;>rfl) ?_)))));exact⟨(k,_),by simp only;omega,by simp,AS.le_refl _⟩
set_option linter.unusedSimpArgs false
def bitLen(n:Nat):Nat:=if n=0 then 0 else n.log2+1
theorem Zn(n:Nat):n<2^bitLen n:=by
 unfold bitLen
 split
 ·subst n;decide
 ·exact Nat.lt_log2_self
theorem Pa{n:Nat}(h:n≠0):2^(bitLen n-1)<=n:=by
 rw [bitLen,if_neg h];exact Nat.log2_self_le h
theorem Ag2{n k:Nat}(h1:2^k<=n)(h2:n<2^(k+1)):bitLen n=k+1:=by
 have c:n≠0:=by intro h;subst h;have:=Fe (n:=k) (show 0<2 by decide);omega
 rw [bitLen,if_neg c]
 congr 1
 have a:=(Nat.le_log2 c).2 h1;have b:=(Nat.log2_lt c).2 h2;omega
theorem A7u{n k:Nat}(h:n≠0):bitLen (n*2^k)=bitLen n+k:=by
 have a:=Pa h;have b:=Zn n;have hp:bitLen n≠0:=by rw [bitLen,if_neg h];omega
 obtain⟨m,c⟩:∃m,bitLen n=m+1:=⟨bitLen n-1,by omega⟩;rw [c]at a b|-
 rw [Ag2 (k:=m+k)]
 ·omega
 ·rw [F4];exact B3 _ a
 ·rw [show m+k+1=m+1+k by omega,F4];exact Fw b (Fe dc)
theorem Wf{n k:Nat}(h:2^k<=n):bitLen n=k+bitLen (n/2^k):=by
 have c:0<2^k:=Fe dc;have d:n/2^k≠0:=by have:=Nat.div_pos h c;omega
 have a:=Pa d;have b:=Zn (n/2^k);obtain⟨m,e⟩:∃m,bitLen (n/2^k)=m+1:=⟨(n/2^k).log2,by rw [bitLen,if_neg d]⟩;rw [e]at a b|-;simp only [Nat.add_sub_cancel]at a
 rw [Ag2 (k:=m+k)]
 ·omega
 ·rw [F4];exact(Gj c).1 a
 ·rw [show m+k+1=m+1+k by omega,F4];exact(Cz c).1 b
theorem A30:∀v:Nat,v<256->∃b:UInt8,G8 ([0,1,2,2,3,3,3,3,4,4,4,4,4,4,4,4,5,5,5,5,5,5,5,5,5,5,5,5,5,5,5,5,6,6,6,6,6,6,6,6,6,6,6,6,6,6,6,6,6,6,6,6,6,6,6,6,6,6,6,6,6,6,6,6,7,7,7,7,7,7,7,7,7,7,7,7,7,7,7,7,7,7,7,7,7,7,7,7,7,7,7,7,7,7,7,7,7,7,7,7,7,7,7,7,7,7,7,7,7,7,7,7,7,7,7,7,7,7,7,7,7,7,7,7,7,7,7,7,8,8,8,8,8,8,8,8,8,8,8,8,8,8,8,8,8,8,8,8,8,8,8,8,8,8,8,8,8,8,8,8,8,8,8,8,8,8,8,8,8,8,8,8,8,8,8,8,8,8,8,8,8,8,8,8,8,8,8,8,8,8,8,8,8,8,8,8,8,8,8,8,8,8,8,8,8,8,8,8,8,8,8,8,8,8,8,8,8,8,8,8,8,8,8,8,8,8,8,8,8,8,8,8,8,8,8,8,8,8,8,8,8,8,8,8,8,8,8,8,8,8,8,8,8,8,8,8]:List UInt8) v=some b/\b.toNat=bitLen v:=by
 have h:∀v:Fin 256,G8 ([0,1,2,2,3,3,3,3,4,4,4,4,4,4,4,4,5,5,5,5,5,5,5,5,5,5,5,5,5,5,5,5,6,6,6,6,6,6,6,6,6,6,6,6,6,6,6,6,6,6,6,6,6,6,6,6,6,6,6,6,6,6,6,6,7,7,7,7,7,7,7,7,7,7,7,7,7,7,7,7,7,7,7,7,7,7,7,7,7,7,7,7,7,7,7,7,7,7,7,7,7,7,7,7,7,7,7,7,7,7,7,7,7,7,7,7,7,7,7,7,7,7,7,7,7,7,7,7,8,8,8,8,8,8,8,8,8,8,8,8,8,8,8,8,8,8,8,8,8,8,8,8,8,8,8,8,8,8,8,8,8,8,8,8,8,8,8,8,8,8,8,8,8,8,8,8,8,8,8,8,8,8,8,8,8,8,8,8,8,8,8,8,8,8,8,8,8,8,8,8,8,8,8,8,8,8,8,8,8,8,8,8,8,8,8,8,8,8,8,8,8,8,8,8,8,8,8,8,8,8,8,8,8,8,8,8,8,8,8,8,8,8,8,8,8,8,8,8,8,8,8,8,8,8,8,8]:List UInt8) v.val=some (UInt8.ofNat (bitLen v.val))/\(UInt8.ofNat (bitLen v.val)).toNat=bitLen v.val:=dc;exact fun v a=>⟨_,h ⟨v,a⟩⟩
theorem Ary{k:IntKind}{s:Nat}(hs:s<=k.bits)(x:Nat):(x:Int).fdiv (2^min s k.bits)=((x/2^s:Nat):Int):=by
 rw [Hb hs,G6 _ (Int.le_of_lt (Int.pow_pos dc))];rw [Int.natCast_ediv,Int.natCast_pow];rfl
theorem Alt(x:Nat)(t:x<4294967296):AC prog 188 [.int .u32 x] (fun r=>r=.int .i64 (bitLen x:Nat)):=by
 have i:∀v:Nat,v<256->∃b:UInt8,G8 ([0,1,2,2,3,3,3,3,4,4,4,4,4,4,4,4,5,5,5,5,5,5,5,5,5,5,5,5,5,5,5,5,6,6,6,6,6,6,6,6,6,6,6,6,6,6,6,6,6,6,6,6,6,6,6,6,6,6,6,6,6,6,6,6,7,7,7,7,7,7,7,7,7,7,7,7,7,7,7,7,7,7,7,7,7,7,7,7,7,7,7,7,7,7,7,7,7,7,7,7,7,7,7,7,7,7,7,7,7,7,7,7,7,7,7,7,7,7,7,7,7,7,7,7,7,7,7,7,8,8,8,8,8,8,8,8,8,8,8,8,8,8,8,8,8,8,8,8,8,8,8,8,8,8,8,8,8,8,8,8,8,8,8,8,8,8,8,8,8,8,8,8,8,8,8,8,8,8,8,8,8,8,8,8,8,8,8,8,8,8,8,8,8,8,8,8,8,8,8,8,8,8,8,8,8,8,8,8,8,8,8,8,8,8,8,8,8,8,8,8,8,8,8,8,8,8,8,8,8,8,8,8,8,8,8,8,8,8,8,8,8,8,8,8,8,8,8,8,8,8,8,8,8,8,8,8]:List UInt8) v=some b/\((b.toNat:Nat):Int)=bitLen v/\IntKind.u8.wrap (v:Int)=v/\IntKind.i64.wrap ((b.toNat:Nat):Int)=bitLen v:=fun v c=>by
  obtain⟨b,h1,h2⟩:=A30 v c;have:=b.toNat_lt;exact⟨b,h1,by omega,by rw [IntKind.wrap_u8];omega,by rw [h2,Bh om Go.om]⟩
 have f:(x:Int).fdiv (2^min 16 IntKind.u32.bits)=((x/65536:Nat):Int):=Ary (k:=.u32) (s:=16) dc x;have e:∀x:Nat,(x:Int).fdiv (2^min 8 IntKind.u32.bits)=((x/256:Nat):Int):=fun x=>Ary (k:=.u32) (s:=8) dc x
 have m:=e (x/65536)
 have z:∀v,v<4294967296->bitLen v<=32:=fun v c=>by
  rcases De 32 (bitLen v)with h|h
  ·have w:v≠0:=by rintro rfl;revert h;decide
   have:=Pa w;have:2^32<=2^(bitLen v-1):=Ee dc om;omega
  ·exact h
 have u:=z x t;refine Ax func188 fun w0 N0=>?_;refine Aa [0,2] [] sr ?_
 refine Xg (fun p:Nat × Nat=>⟨[(0,.int .u32 p.1),(2,.int .i64 p.2)],[],10,19⟩) (fun p=>p.1<65536/\bitLen x=p.2+bitLen p.1) ?_ ?_
 ·refine Aa [0,2,4] [] sr ?_
  refine Ao (fun h1=>?_) fun h1=>Ae ?_
  ·have h2:65536<=x:=by simp at h1;omega
   refine Aa [0] [] (by simp [f]<;>rfl) (A3 [0,2] [] sr ?_);exact⟨(x/65536,16),⟨by simp only;omega,Wf (k:=16) h2⟩,Agm rfl rfl rfl sy⟩
  ·have h2:x<65536:=by simp at h1;omega
   exact⟨(x,0),⟨h2,by simp⟩,Oo [0,2] [] rfl rfl rfl sy⟩
 rintro⟨v,b⟩⟨c,a⟩;simp only at c a;have d:IntKind.i64.wrap ((b:Int)+8)=((b+8:Nat):Int):=by rw [Bh om Go.om];omega
 refine Xg (fun p:Nat × Nat=>⟨[(0,.int .u32 p.1),(2,.int .i64 p.2)],[],20,19⟩) (fun p=>p.1<256/\bitLen x=p.2+bitLen p.1) ?_ ?_
 ·refine Aa [0,2,8] [] sr ?_
  refine Ao (fun h1=>?_) fun h1=>Ae ?_
  ·have h2:256<=v:=by simp at h1;omega
   refine Aa [0,2] [] (by simp [e]<;>rfl) (A3 [0,2] [] (by simp [d]<;>rfl) ?_);refine⟨(v/256,b+8),⟨by simp only;omega,?_⟩,Agm rfl rfl rfl sy⟩;have:bitLen v=8+bitLen (v/256):=Wf (k:=8) h2;simp only;omega
  ·have h2:v<256:=by simp at h1;omega
   exact⟨(v,b),⟨h2,a⟩,Oo [0,2] [] rfl rfl rfl sy⟩
 clear c a d;clear v b;rintro⟨v,b⟩⟨c,a⟩;simp only at c a;obtain⟨y,n,l,o,j⟩:=i v c;have g:IntKind.i64.wrap ((b:Int)+(bitLen v:Int))=(bitLen x:Int):=by rw [Bh om Go.om];omega
 rw [l]at j;exact Aa [2] [] (by simp [n,o,j,l,g]<;>rfl) (Aj (Ac sr rf))
theorem Aup(x:Nat)(a:x<4294967296):AC prog 190 [.int .u32 x] (fun r=>r=.int .i64 ((32-bitLen x:Nat):Int)):=by
 have d:=Alt x a
 have hb:bitLen x<=32:=by
  rcases De 32 (bitLen x)with h|h
  ·have c:x≠0:=by rintro rfl;revert h;decide
   have:=Pa c;have:2^32<=2^(bitLen x-1):=Ee dc om;omega
  ·exact h
 have e:IntKind.i64.wrap (32-(bitLen x:Int))=((32-bitLen x:Nat):Int):=by rw [Bh om Go.om];omega
 generalize bitLen x=q at*;refine Ax func190 fun w0 N0=>?_;refine Aa [0] [] sr (Ab (Ad (Am 1 sr ?_)));refine Ah d func188 ?_;refine Af [2] [] (by simp [e]<;>rfl) ?_;exact Aj (Ac sr rfl)
theorem Auq(l:List Nat):(Av l).all Lu=true:=by
 simp only [Aw,Bm];rintro v⟨x,_,rfl⟩;rfl
theorem Arz(n A s:Nat)(hn:n<=1099511627776)(hs:s<32)(hA:A<4294967296^n):ACO prog 191 [.ro 1 (Av (Cb n A)),.int .i64 s] 1 149 (fun F es=>F=(fun d q=>.sl d q 1 (n+1))/\es=Av (Cb (n+1) (A*2^s))):=by
 have ah:=fun k(h:k<n)=>Xn (v:=A) h
 have f:(Av (Cb n A)).length=n:=sm;generalize Av (Cb n A)=av at ah f;obtain⟨s1,al,a3⟩:∃s:Int,IntKind.i64.wrap ((n:Int)+1)=s/\s=((n+1:Nat):Int):=⟨_,rfl,A6 om⟩;have au:4*s1<=281474976710656:=om;have aq:s1<=9223372036854775807:=om;have a0:0<=s1:=om;have ak:s1.toNat=n+1:=om;refine Kr func191 fun w0 N0=>?_;refine Aa [0,1] [] sr (Aa [0,1,5] [12] (by simp [f,al,au,aq,a0]<;>rfl) ?_);rw [ak];refine Ab (Aa [1,5,13,14,15] [12] (by simp [f]<;>rfl) (Ar ?_))
 refine Di (fun p:Nat × Nat=>⟨[(1,.int .i64 s),(5,.sl 12 4 1 (n+1)),(13,.ro 1 av),(14,.int .i64 n),(15,.int .i64 p.1)],[(12,⟨4,1,149,Av (Cb (p.1+1) (A%4294967296^p.1*2^s))++List.replicate (n-p.1) (.int .u32 0)⟩)],p.2,41⟩)
  (fun p=>p.1<=n) (fun p=>n-p.1) (0,_) (B4 _) (by simp [Cb,Ue,Gc,Va];exact AS.le_refl _) ?_
 rintro⟨k,nx⟩hk;simp only at hk;refine Aa [1,5,13,14,15,16] [12] sr (Ab ?_)
 refine Ao (fun h1=>Ae ?_) fun h1=>?_
 ·have g:k<n:=by simp at h1;omega
  obtain⟨m,hm⟩:∃m,n-k=m+1:=⟨n-k-1,by omega⟩;have gA:=ah k g;have hP:=Mz k;have aj:A/4294967296^k%4294967296<4294967296:=C9 _ dc;obtain⟨c,hc⟩:∃c,c=A%4294967296^k*2^s/4294967296^k:=⟨_,rfl⟩
  have a1:c<2^s:=by
   rw [hc];exact(Ayd (a:=A) (s:=2^s) hP (Fe dc)).1
  obtain⟨t,ht⟩:∃t,t=A/4294967296^k%4294967296*2^s:=⟨_,rfl⟩;obtain⟨D1,D2,D3,D4⟩:=Ayn aj hs a1 ht
  have hS:2^s<=2147483648:=by
   have:2^s<=2^31:=Ee dc om;exact this
  have hD:=Ayo hc ht D3 om;have am:=Ayp hc om;rw [am];have u:=Auk (s:=s) (x:=A/4294967296^k%4294967296) om (by rw [<- ht];exact D1);have i:IntKind.u64.wrap ((A/4294967296^k%4294967296:Nat):Int)=((A/4294967296^k%4294967296:Nat):Int):=wrap_u64 om;rw [<- ht]at u;generalize A/4294967296^k%4294967296=x at gA u i;have ay:IntKind.u32.wrap (t:Int)=((t%4294967296:Nat):Int):=wrap_u32 t
  have an:IntKind.u32.wrap ((t:Int).fdiv (2^min 32 IntKind.u64.bits))=((t/4294967296:Nat):Int):=by
   rw [Xm,wrap_u32];congr 1;omega
  have aa:=Aui c (t%4294967296) ⟨by omega,C9 _ dc⟩;rw [D2]at aa;generalize t%4294967296=lo,t/4294967296=hi at*;have ar:¬(s:Int)<0:=om;have az:=A6 (k:=k) om
  have j:G8 (Av (Cb k (A%4294967296^k*2^s)++[c])++List.replicate (n-k) (V.int .u32 0)) k=some (.int .u32 c):=by
   rw [C0,Bn sm,Bc,Be (by simp)];simp
  have l:G8 (Av (Cb k (A%4294967296^k*2^s)++[c])++List.replicate (n-k) (V.int .u32 0)) (k+1)=some (.int .u32 0):=by
   rw [C0,Be sm,H1,if_pos (by simp;omega)]
  have y:(Av (Cb k (A%4294967296^k*2^s)++[c])++List.replicate (n-k) (V.int .u32 0)).length=n+1:=by simp;omega
  have w:((Av (Cb k (A%4294967296^k*2^s)++[c])++List.replicate (n-k) (V.int .u32 0)).set k (.int .u32 ((c+lo:Nat):Int))).set (k+1) (.int .u32 (hi:Int))=Av (Cb (k+2) (A%4294967296^(k+1)*2^s))++List.replicate (n-(k+1)) (V.int .u32 0):=by
   rw [hD,hm,show n-(k+1)=m by omega];have hl:(List.map Va (Cb k (A%4294967296^k*2^s))).length=k:=sm;simp only [Av,Cr,Ct,F8,C3,Ch,Fm,Gc];rw [E0 _ _ om,hl,Fv,J3,E0 _ _ om,hl,show k+1-k=1 by omega];simp
  generalize Av (Cb k (A%4294967296^k*2^s)++[c])++List.replicate (n-k) (V.int .u32 0)=ro at l j y w|-;obtain⟨ae,e⟩:∃r,ro.set k (.int .u32 ((c+lo:Nat):Int))=r:=⟨_,rfl⟩;have ag:ae.length=n+1:=by rw [<- e];simpa using y
  rw [e]at w
  have af:G8 ae (k+1)=some (.int .u32 0):=by
   rw [<- e,C0,Hw om,<- C0,l]
  generalize((c+lo:Nat):Int)=z at*;have a2:k<n:=g;have ax:(k:Int)<(n:Int)+1:=om;have ab:(k:Int)<(n:Int):=om;obtain⟨k1,o⟩:∃k1:Int,IntKind.i64.wrap ((k:Int)+1)=k1:=⟨_,rfl⟩;have ao:k1=((k+1:Nat):Int):=by rw [<- o,az]
  have aw:0<=k1/\k1<(n:Int)+1:=om;have ai:k1.toNat=k+1:=om;refine Ab (Ar (Aa [1,5,6,7,13,14,15] [12] (by simp [gA,f,ab]<;>rfl) (Aa [1,5,6,8,13,14,15] [12] (by simp [i,u,ar]<;>rfl) (Aa [1,5,6,8,13,14,15] [12] (by simp [j,ax,ay,aa,e]<;>rfl) (A3 [1,5,13,14,15] [12] (by simp [o,aw,ai,an,af,w]<;>rfl) (A3 [1,5,13,14,15] [12] (by simp [o]<;>rfl) ?_))))));exact⟨(k+1,_),by simp only;omega,by simp only;omega,by simp only [ao];exact AS.le_refl _⟩
 ·have g:k=n:=by simp at h1;omega
  subst g;refine Bb ?_;rw [Ci hA,Fv,List.replicate_zero,Eo];have ad:=Auq (Cb (k+1) (A*2^s));generalize Av (Cb (k+1) (A*2^s))=fin at ad;refine Aa [4] [12] sr ?_;exact Aj (Ii 12 rfl rfl rfl ad sr ⟨rfl,rfl⟩)
theorem Ay9{k m v q z:Nat}(d:z=v/4294967296^k%4294967296)(a:q=m+1):(Av (Cb k v)++List.replicate q (V.int .u32 0)).set k (.int .u32 (z:Int))=Av (Cb (k+1) v)++List.replicate m (V.int .u32 0):=by
 subst a;have c:(Av (Cb k v)).length=k:=sm;rw [E0 _ _ om,c,Fv,Gc,J3,Zi,d];simp
theorem Aza{k m v q:Nat}(a:q=m+1):G8 (Av (Cb k v)++List.replicate q (V.int .u32 0)) k=some (.int .u32 0):=by
 subst a;rw [C0,Be sm,H1,if_pos (by simp)]
theorem A7v(n A s:Nat)(hn:n<=1099511627776)(hs:s<32)(hA:A<4294967296^n):AC prog 195 [.ro 1 (Av (Cb n A)),.int .i64 s] (fun r=>r=.ro 1 (Av (Cb n (A/2^s)))):=by
 have j:=fun k(h:k<n)=>Xn (v:=A) h
 have a:(Av (Cb n A)).length=n:=sm;generalize Av (Cb n A)=av at j a;have au:4*(n:Int)<=281474976710656:=om;have ar:(n:Int)<=9223372036854775807:=om;refine Ax func195 fun w0 N0=>?_;refine Aa [0,1] [] sr (Aa [0,1,5] [11] (by simp [a,au,ar]<;>rfl) (Ab (Aa [0,1,5,12,13,14] [11] (by simp [a]<;>rfl) (Ar ?_))))
 refine Di (fun p:Nat × Nat=>⟨[(0,.ro 1 av),(1,.int .i64 s),(5,.sl 11 3 1 n),(12,.ro 1 av),(13,.int .i64 n),(14,.int .i64 p.1)],[(11,⟨3,1,149,Av (Cb p.1 (A/2^s))++List.replicate (n-p.1) (.int .u32 0)⟩)],p.2,44⟩)
  (fun p=>p.1<=n) (fun p=>n-p.1) (0,_) (B4 _) (by simp [Cb];exact AS.le_refl _) ?_
 rintro⟨k,nx⟩hk;simp only at hk;refine Aa [0,1,5,12,13,14,15] [11] sr (Ab ?_)
 refine Ao (fun h1=>Ae ?_) fun h1=>?_
 ·have g:k<n:=by simp at h1;omega
  obtain⟨m,hm⟩:∃m,n-k=m+1:=⟨n-k-1,by omega⟩;have gA:=j k g;have gB:=j (k+1);have ak:A/4294967296^k%4294967296<4294967296:=C9 _ dc;have al:A/4294967296^(k+1)%4294967296<4294967296:=C9 _ dc;have o:=Ayq (A:=A) (P:=4294967296^k) (s:=s) hs;rw [<- Ck]at o
  have ao:¬k+1<n->A/4294967296^(k+1)%4294967296=0:=fun h=>by
   have:n=k+1:=om;rw [this]at hA;rw [Ga hA]
  have f:=Aza (k:=k) (v:=A/2^s) hm;have d:=fun z hz=>Ay9 (k:=k) (v:=A/2^s) (z:=z) hz hm
  rw [<- o]at d;have af:(Av (Cb k (A/2^s))++List.replicate (n-k) (V.int .u32 0)).length=n:=by simp;omega
  generalize Av (Cb k (A/2^s))++List.replicate (n-k) (V.int .u32 0)=ro at f d af|-;clear o;generalize A/4294967296^k%4294967296=x,A/4294967296^(k+1)%4294967296=y at*;have aa:IntKind.u64.wrap (x:Int)=x:=wrap_u64 om;have ah:IntKind.u64.wrap (y:Int)=y:=wrap_u64 om;have w:=Aym (r:=y) (x:=x) al ak;obtain⟨t,ht⟩:∃t,x+y*4294967296=t:=⟨_,rfl⟩;rw [Sg,ht]at w;rw [ht]at d;have ae:=Auj (s:=s) (x:=t) om;have l:=wrap_u32 (t/2^s);have e:=d _ rfl;generalize t/2^s%4294967296=z at e l;generalize((t/2^s:Nat):Int)=tz at ae l;have ay:¬(s:Int)<0:=om;have ax:=A6 (k:=k) om;obtain⟨u,c⟩:∃u:Int,IntKind.i64.wrap ((k:Int)+1)=u:=⟨_,rfl⟩;have aq:u=((k+1:Nat):Int):=by rw [<- c,ax]
  have ag:(k:Int)<n:=om;refine Ab (Ar (Aa [0,1,5,6,7,12,13,14] [11] (by simp [gA,a,ag]<;>rfl) (Aa [0,1,5,6,8,12,13,14] [11] (by simp [aa]<;>rfl) ?_)))
  refine Ph ⟨[(0,.ro 1 av),(1,.int .i64 s),(5,.sl 11 3 1 n),(6,.int .i64 k),(8,.int .u64 t),(12,.ro 1 av),(13,.int .i64 n),(14,.int .i64 k)],[(11,⟨3,1,149,ro⟩)],nx+40,44⟩ ?_ ?_
  ·refine Aa [0,1,5,6,8,12,13,14,25] [11] (by simp [a,c]<;>rfl) ?_
   refine Ao (fun h3=>?_) fun h3=>Ae ?_
   ·have i:k+1<n:=by simp at h3;omega
    have an:=gB i;have aw:0<=u/\u<n:=om;have aj:u.toNat=k+1:=om;refine A3 [0,1,5,6,8,12,13,14] [11] (by simp [c,aw,aj,an,a,ah,w]<;>rfl) ?_;exact⟨rfl,Oo [0,1,5,6,8,12,13,14] [11] rfl rfl rfl sy⟩
   ·have i:¬k+1<n:=by simp at h3;omega
    have az:=ao i;have ai:x=t:=om;rw [ai];exact⟨rfl,Oo [0,1,5,6,8,12,13,14] [11] rfl rfl rfl sy⟩
  refine A3 [0,1,5,12,13,14] [11] (by simp [f,ag,ae,ay,l,e]<;>rfl) (A3 [0,1,5,12,13,14] [11] (by simp [c]<;>rfl) ?_);have am:n-(k+1)=m:=om;exact⟨(k+1,_),by simp only;omega,by simp only;omega,by simp only [aq,am];exact AS.le_refl _⟩
 ·have g:k=n:=by simp at h1;omega
  subst g;refine Bb ?_;rw [Fv,List.replicate_zero,Eo];have ab:=Ak (Cb k (A/2^s));have ad:(Av (Cb k (A/2^s))).length=k:=sm;generalize Av (Cb k (A/2^s))=fin at ab ad;refine Ab (Ad (Am 1 sr ?_));refine I7 11 [43] [] (by simp [ab,ad]<;>rfl) ?_;refine Af [4] [] sr ?_;exact Aj (Ac sr rfl)
def A7w(n u v:Nat):Nat:=Ali (v/4294967296^(n-1)) (v/4294967296^(n-2)%4294967296) (u/4294967296^(n-2)%4294967296) 3 (u/4294967296^(n-1)/(v/4294967296^(n-1))) (u/4294967296^(n-1)%(v/4294967296^(n-1)))
theorem Azb(F:Nat->Nat->Nat->Nat)(cb:Nat->Nat->Bool)(ah:Nat->Bool)(uv vv:List V)(N M i1 i2:Int)(k a x y th tl ad d0 r0:Nat)(j:G8 uv k=some (.int .u32 y))(az:G8 uv (k+1)=some (.int .u32 tl))(ay:G8 uv (k+2)=some (.int .u32 th))
  (i:G8 vv k=some (.int .u32 x))(ae:G8 vv (k+1)=some (.int .u32 a))(a8:a<4294967296)(a7:2147483648<=a)(a6:x<4294967296)(a1:y<4294967296)
  (u:IntKind.i64.wrap (N-1)=i1)(g:IntKind.i64.wrap (N-2)=i2)(b1:0<=i1/\i1<N/\i1<M)(b2:0<=i2/\i2<N/\i2<M)(n1:i1.toNat=k+1)(n2:i2.toNat=k)
  (e:((uv.length:Nat):Int)=M)(c:((vv.length:Nat):Int)=N)(b3:0<=N/\N<M)(n3:N.toNat=k+2)(wa:IntKind.u64.wrap (a:Int)=a)(wx:IntKind.u64.wrap (x:Int)=x)(wy:IntKind.u64.wrap (y:Int)=y)
  (a5:IntKind.u64.wrap (th:Int)=th)(a0:IntKind.u64.wrap (tl:Int)=tl)(an:bits .or .u64 (IntKind.u64.wrap ((th:Int)*2^min 32 IntKind.u64.bits)) (tl:Int)=(ad:Int))(ai:a≠0)
  (hq:(ad:Int).tdiv (a:Int)=d0)(hr:(ad:Int).tmod (a:Int)=r0)(aq:IntKind.u64.wrap (d0:Int)=d0)(a2:d0<18446744073709551616)(av:r0<4294967296)
  (hF:∀m d r,F (m+1) d r=if cb d r=true then(if ah (r+a)=true then d-1 else F m (d-1) (r+a))else d)(a3:∀d r,cb d r=true↔(4294967296<=d\/r*4294967296+y<d*x))(ag:∀z,ah z=true↔4294967296<=z):
  AC prog 192 [.ro 1 uv,.ro 1 vv] (fun r=>r=.int .u64 (F 3 d0 r0:Nat)):=by
 refine Ax func192 fun w0 N0=>?_;refine Aa [0,1] [] sr (Aa [0,1,5] [] (by simp [c]<;>rfl) ?_);refine Dq [(0,[]),(1,[]),(2,[]),(6,[]),(7,[]),(8,[]),(9,[]),(3,[]),(4,[]),(5,[]),(10,[]),(11,[]),(12,[]),(13,[])] [0,1,5,6] [] Ds kr (by simp [u,b1,b3,n1,n3,e,az,ay,a5,a0,an]<;>rfl) ?_;refine Aa [0,1,5,6,7] [] (by simp [u,b1,n1,c,ae,wa,ai,hq,aq]<;>rfl) (Aa [0,1,5,7,8] [] (by simp [u,b1,n1,c,ae,wa,ai,hr]<;>rfl) (Ab (Ar ?_)));refine Di (fun p:Nat × Nat × Nat × Nat=>⟨[(0,.ro 1 uv),(1,.ro 1 vv),(5,.int .i64 N),(7,.int .u64 p.1),(8,.int .u64 p.2.1)],[],p.2.2.2,77⟩) (fun p=>p.1<18446744073709551616/\p.2.1<4294967296/\4294967296<=p.2.1+p.2.2.1*a/\F p.2.2.1 p.1 p.2.1=F 3 d0 r0) (fun p=>p.2.2.1) (d0,r0,3,_) ⟨a2,av,by simp only;omega,rfl⟩ (AS.le_refl _) ?_;rintro⟨d,r,m,nx⟩⟨hd,af,hm,hE⟩;simp only at hd af hm hE;cases m with
 |zero=>omega
 |succ m=>
 rw [<- hE];rw [hF];have n:=a3 d r;have s:=ag (r+a);have w:(d:Int).fdiv (2^min 32 IntKind.u64.bits)=((d/4294967296:Nat):Int):=Xm d;obtain⟨ra,o⟩:∃ra:Int,ra=((r+a:Nat):Int):=⟨_,rfl⟩;have ab:ra.fdiv (2^min 32 IntKind.u64.bits)=(((r+a)/4294967296:Nat):Int):=by rw [o];exact Xm (r+a)
 have a4:IntKind.u64.wrap ((r:Int)+(a:Int))=ra:=by rw [o,<- C8];exact wrap_u64 om
 have f:=Aix (r:=r) (x:=y) af a1
 have wd:1<=d->IntKind.u64.wrap ((d:Int)-1)=((d-1:Nat):Int):=fun h=>by
  rw [show(d:Int)-1=((d-1:Nat):Int)by omega];exact wrap_u64 om
 refine Ab ?_
 refine Ph ⟨[(0,.ro 1 uv),(1,.ro 1 vv),(5,.int .i64 N),(7,.int .u64 d),(8,.int .u64 r),(62,.bool (cb d r))],[],nx+40,77⟩ ?_ ?_
 ·by_cases ao:4294967296<=d
  ·have aa:¬d/4294967296=0:=om;generalize d/4294967296=dq at w aa;refine(C5 [(0,[]),(1,[]),(2,[]),(3,[]),(4,[]),(5,[]),(6,[]),(7,[]),(8,[]),(12,[]),(13,[]),(14,[]),(15,[]),(16,[]),(17,[]),(9,[]),(10,[]),(11,[]),(18,[]),(19,[]),(20,[]),(21,[]),(22,[])] Ds kr ?_);refine Cf 4 (by simp [w,aa]<;>rfl) ?_;refine Cf 6 (by simp [g,b2,n2,c,i]<;>rfl) ?_;refine Cf 6 (by simp [g,b2,n2,e,j]<;>rfl) ?_;refine Cf 6 (by simp [wx,wy,f]<;>rfl) ?_;refine C6 [0,1,5,7,8,62] [] sr ?_;have l:cb d r=true:=n.2 (.inl ao);rw [l];exact⟨rfl,Oo [0,1,5,7,8,62] [] rfl rfl rfl sy⟩
  ·have hz:d/4294967296=0:=om;rw [hz]at w
   have au:d*x<18446744073709551616:=by
    have:d*x<=4294967295*4294967295:=Hx om om;omega
   have t:IntKind.u64.wrap ((d:Int)*(x:Int))=((d*x:Nat):Int):=by rw [<- E7];exact wrap_u64 au
   have l:cb d r=decide (((r*4294967296+y:Nat):Int)<((d*x:Nat):Int)):=by
    rw [L4,n,decide_eq_true_iff];omega
   rw [l];obtain⟨dx,aj⟩:∃dx:Int,dx=((d*x:Nat):Int):=⟨_,rfl⟩;obtain⟨ry,al⟩:∃ry:Int,ry=((r*4294967296+y:Nat):Int):=⟨_,rfl⟩;rw [<- aj]at t|-;rw [<- al]at f|-;refine(C5 [(0,[]),(1,[]),(2,[]),(3,[]),(4,[]),(5,[]),(6,[]),(7,[]),(8,[]),(12,[]),(13,[]),(14,[]),(15,[]),(16,[]),(17,[]),(9,[]),(10,[]),(11,[]),(18,[]),(19,[]),(20,[]),(21,[]),(22,[])] Ds kr ?_);refine Cf 4 (by simp [w]<;>rfl) ?_;refine Cf 6 (by simp [g,b2,n2,c,i]<;>rfl) ?_;refine Cf 6 (by simp [g,b2,n2,e,j]<;>rfl) ?_;refine Cf 6 (by simp [wx,wy,f,t]<;>rfl) ?_;refine C6 [0,1,5,7,8,62] [] sr ?_;exact⟨rfl,Oo [0,1,5,7,8,62] [] rfl rfl rfl sy⟩
 refine Ao (fun h1=>Ae ?_) fun h1=>?_
 ·have ax:=n.1 h1;rw [if_pos h1]
  have ar:1<=d:=by
   rcases Es d with h0|h0
   ·subst h0;simp at ax
   ·exact h0
  have am:=wd ar;refine Ar (Aa [0,1,5,7,8] [] (by simp [am]<;>rfl) (Aa [0,1,5,7,8] [] (by simp [u,b1,n1,c,ae,wa,a4]<;>rfl) ?_))
  by_cases ak:4294967296<=r+a
  ·obtain⟨q,aw⟩:∃q:Int,q=(((r+a)/4294967296:Nat):Int):=⟨_,rfl⟩;have aa:¬q=0:=om;rw [<- aw]at ab;rw [if_pos (s.2 ak)];refine Aa [0,1,5,7,8,75] [] (by simp [ab,aa]<;>rfl) ?_;refine A7 rfl (fun h2=>?_) (fun h2=>by cases h2);refine Bb ?_;exact Aa [4] [] sr (Aj (Ac sr rf))
  ·have hz:(((r+a)/4294967296:Nat):Int)=0:=om;rw [hz]at ab;rw [if_neg (fun h=>ak (s.1 h))];refine Aa [0,1,5,7,8,75] [] (by simp [ab]<;>rfl) ?_;refine A7 rfl (fun h2=>by cases h2) fun h2=>Ae ?_
   refine⟨(d-1,r+a,m,nx+40+3+9+3),⟨by simp only;omega,by simp only;omega,?_,rfl⟩,by simp only;omega,?_⟩
   ·simp only;rw [B9]at hm;omega
   ·simp only [<- o];exact Oo [0,1,5,7,8] [] rfl rfl rfl sy
 ·rw [if_neg (by simp [h1])];refine Bb ?_;exact Aa [4] [] sr (Aj (Ac sr rf))
theorem A7x(n u v:Nat)(hn:2<=n)(a2:n<=1099511627776)(hv:4294967296^n<=2*v)(t:v<4294967296^n)(hu:u<4294967296^(n+1)):
  AC prog 192 [.ro 1 (Av (Cb (n+1) u)),.ro 1 (Av (Cb n v))] (fun r=>r=.int .u64 (A7w n u v:Nat)):=by
 obtain⟨k,rfl⟩:∃k,n=k+2:=⟨n-2,by omega⟩;have hP:=Mz k;have aa:=Xn (k:=k+2+1) (v:=u) (i:=k) om;have ab:=Xn (k:=k+2+1) (v:=u) (i:=k+1) om;have o:=Xn (k:=k+2+1) (v:=u) (i:=k+2) om;have w:=Xn (k:=k+2) (v:=v) (i:=k) om;have l:=Xn (k:=k+2) (v:=v) (i:=k+1) om;have az:(Av (Cb (k+2+1) u)).length=k+3:=sm;have ay:(Av (Cb (k+2) v)).length=k+2:=sm;generalize Av (Cb (k+2+1) u)=uv,Av (Cb (k+2) v)=vv at*;rw [A7w,show k+2-1=k+1 by omega,show k+2-2=k by omega];have e1:4294967296^(k+1)=4294967296^k*4294967296:=Ck ..;have e2:4294967296^(k+2)=4294967296^(k+1)*4294967296:=Ck ..;have e3:4294967296^(k+2+1)=4294967296^(k+2)*4294967296:=Ck ..;rw [e3]at hu;clear e3;generalize 4294967296^(k+2)=P2 at hv t hu o e2;generalize 4294967296^(k+1)=j at ab l e1 e2|-;generalize 4294967296^k=P0 at aa w e1 hP|-;have ae:0<j:=om;have al:0<P2:=om;have s:v/j<4294967296:=by rw [Cz ae,Bj,<- e2];exact t
 have am:2147483648<=v/j:=by
  rw [Gj ae];omega
 have e:u/j=u/P2*4294967296+u/j%4294967296:=by
  rw [e2,<- Cq u j];omega
 have ad:u/P2<4294967296:=by
  rw [Cz al,Bj];exact hu
 rw [Ci ad]at o;rw [Ci s]at l;have ar:u/j%4294967296<4294967296:=C9 _ dc;have aj:v/P0%4294967296<4294967296:=C9 _ dc;have ao:u/P0%4294967296<4294967296:=C9 _ dc;clear e1 e2 hv t hu hP ae al;generalize v/j=a at l s am|-;generalize u/j%4294967296=tl at ab e ar;generalize u/P2=th at o e ad;generalize u/j=c at e|-;generalize v/P0%4294967296=x at w aj|-;generalize u/P0%4294967296=y at aa ao|-;have g:c<18446744073709551616:=om;obtain⟨i1,ak,aq⟩:∃x:Int,IntKind.i64.wrap (((k+2:Nat):Int)-1)=x/\x=((k+1:Nat):Int):=⟨_,rfl,by rw [Bh om Go.om];omega⟩;obtain⟨i2,ag,ai⟩:∃x:Int,IntKind.i64.wrap (((k+2:Nat):Int)-2)=x/\x=(k:Int):=⟨_,rfl,by rw [Bh om Go.om];omega⟩;have b1:0<=i1/\i1<((k+2:Nat):Int)/\i1<((k+3:Nat):Int):=om;have b2:0<=i2/\i2<((k+2:Nat):Int)/\i2<((k+3:Nat):Int):=om;have n1:i1.toNat=k+1:=om;have n2:i2.toNat=k:=om;obtain⟨N,hN⟩:∃N:Int,((k+2:Nat):Int)=N:=⟨_,rfl⟩;obtain⟨M,hM⟩:∃M:Int,((k+3:Nat):Int)=M:=⟨_,rfl⟩;have ah:((uv.length:Nat):Int)=M:=om;have an:((vv.length:Nat):Int)=N:=om;have b3:0<=N/\N<M:=om;have n3:N.toNat=k+2:=om;rw [hN]at ak ag b1 b2;rw [hM]at b1 b2;clear hN hM az ay aq ai;have f:∀z:Nat,z<18446744073709551616->IntKind.u64.wrap (z:Int)=z:=fun z h=>wrap_u64 h
 have wa:=f a om;have wx:=f x om;have wy:=f y om;have a1:=f th om;have ax:=f tl om;have af:=Aix (r:=th) (x:=tl) ad ar;rw [<- e]at af;have aw:a≠0:=om;have hq:=Aln c a;have hr:=Alo c a;have au:=f (c/a) (Fi (Hd _ _) g);have a0:c/a<18446744073709551616:=Fi (Hd _ _) g;have av:c%a<4294967296:=Sb (C9 _ om) s;generalize c/a=d0,c%a=r0 at*;refine Azb (Ali a x y) (fun d r=>decide (4294967296<=d\/r*4294967296+y<d*x)) (fun z=>decide (4294967296<=z)) uv vv N M i1 i2 k a x y th tl c d0 r0 aa ab o w l s am aj ao ak ag b1 b2 n1 n2 ah an b3 n3 wa wx wy a1 ax af aw hq hr au a0 av (fun m d r=>?_) (fun d r=>by simp only [decide_eq_true_iff]) (fun z=>by simp only [decide_eq_true_iff]);simp only [decide_eq_true_iff,Ali]
theorem A31(d v off:Nat)(pre post:List V)(n U W g:Nat)(ho:pre.length=off)(hn:n<=1099511627776)(hU:U<4294967296^(n+1))(hW:W<4294967296^n)(hg:g<4294967296):
  ACS prog 193 [.ss d v 1 off (n+1),.ro 1 (Av (Cb n W)),.int .u64 g] [(d,⟨v,1,149,Lm pre n U post 0 0⟩)] (fun r q=>r=.bool (decide (U<g*W))/\q= [(d,⟨v,1,149,Lm pre n U post (n+1) (Aiy n U (g*W))⟩)]) (fun _ =>False):=by
 have aq:=fun k(h:k<n)=>Xn (v:=W) h
 have ae:(Av (Cb n W)).length=n:=sm;generalize Av (Cb n W)=wv at aq ae;refine Gs func193 fun w0 N0 a3=>?_;refine Aa [0,1,2] [d] sr (Aa [0,1,2,7,8] [d] sr (Ab (Aa [0,1,2,7,8,14,15,16] [d] (by simp [ae]<;>rfl) (Ar ?_))))
 refine Di (fun p:Nat × Nat × Nat × Nat × Nat=>⟨[(0,.ss d v 1 off (n+1)),(1,.ro 1 wv),(2,.int .u64 g),(7,.int .u64 p.2.2.1),(8,.int .u64 p.2.2.2.1),(14,.ro 1 wv),(15,.int .i64 n),(16,.int .i64 p.1)],[(d,⟨v,1,149,Lm pre n U post p.1 p.2.1⟩)],p.2.2.2.2,67⟩)
  (fun p=>p.1<=n/\p.2.1<4294967296^p.1/\p.2.2.1<4294967296/\p.2.2.2.1<=1/\p.2.1+g*(W%4294967296^p.1)=U%4294967296^p.1+4294967296^p.1*(p.2.2.1+p.2.2.2.1)/\a3<=p.2.2.2.2) (fun p=>n-p.1) (0,0,0,0,_) ⟨by simp,by simp,by simp,by simp,by simp [Ue],by simp only;omega⟩ (AS.le_refl _) ?_
 rintro⟨k,x,c,b,nx⟩⟨hk,hx,hc,hb,hI,bb⟩;simp only at hk hx hc hb hI bb;refine Aa [0,1,2,7,8,14,15,16,17] [d] sr (Ab ?_);have e:=Alq (pre:=pre) (post:=post) (U:=U) (x:=x) hk;have ai:=Ac4 (pre:=pre) (post:=post) (U:=U) (x:=x) (show k<=n+1 by omega);have ad:=fun z(hz:z<4294967296)=>Alr (pre:=pre) (post:=post) (U:=U) hk hx hz
 rw [ho]at e ad;have ah:U/4294967296^k%4294967296<4294967296:=C9 _ dc
 refine Ao (fun h1=>Ae ?_) fun h1=>?_
 ·have am:k<n:=by simp at h1;omega
  have a1:=aq k am;have a2:W/4294967296^k%4294967296<4294967296:=C9 _ dc;obtain⟨wk,aj⟩:∃y,y=W/4294967296^k%4294967296:=⟨_,rfl⟩;obtain⟨uk,l⟩:∃y,y=U/4294967296^k%4294967296:=⟨_,rfl⟩;rw [<- aj]at a1 a2;rw [<- l]at e ah
  have a8:g*wk+c<18446744073709551616:=by
   have:g*wk<=4294967295*4294967295:=Hx om om;omega
  obtain⟨m1,a5,ak⟩:∃z:Int,IntKind.u64.wrap ((g:Int)*(wk:Int))=z/\z=((g*wk:Nat):Int):=⟨_,rfl,by rw [<- E7];exact wrap_u64 om⟩;obtain⟨p,hp,al⟩:∃z:Int,IntKind.u64.wrap (m1+(c:Int))=z/\z=((g*wk+c:Nat):Int):=⟨_,rfl,by rw [ak,<- C8];exact wrap_u64 om⟩;obtain⟨c',a4,ax⟩:∃z:Nat,p.fdiv (2^min 32 IntKind.u64.bits)=z/\z=(g*wk+c)/4294967296:=⟨_,by rw [al];exact Xm _,rfl⟩;obtain⟨lo,a6,az⟩:∃z:Nat,IntKind.u32.wrap p=z/\z=(g*wk+c)%4294967296:=⟨_,by rw [al];exact wrap_u32 _,rfl⟩;have bc:c'<4294967296:=om;have bd:lo<4294967296:=om;have ab:IntKind.u64.wrap (uk:Int)=uk:=wrap_u64 om;have av:IntKind.u64.wrap (wk:Int)=wk:=wrap_u64 om;have aw:IntKind.u64.wrap (lo:Int)=lo:=wrap_u64 om;obtain⟨z,b',j,i,w,an,ag⟩:=Ayt ah bd hb;obtain⟨t1,af⟩:∃t:Int,IntKind.u64.wrap ((uk:Int)-(lo:Int))=t:=⟨_,rfl⟩;rw [af]at j i;obtain⟨t2,s⟩:∃t:Int,IntKind.u64.wrap (t1-(b:Int))=t:=⟨_,rfl⟩;rw [s]at j i;have a:=ad z w;have ao:=Ayu hx w;have f:=Ayb (x:=x) (d:=g) (v:=W) (u:=U) (P:=4294967296^k) (c:=c) (b:=b) (y:=z) (b':=b') hI (by rw [<- aj,<- l,<- az];exact ag);rw [<- aj,<- ax]at f;rw [<- Ck]at f ao;obtain⟨x',a0⟩:∃x',x'=x+4294967296^k*z:=⟨_,rfl⟩;rw [<- a0]at a f ao;have au:=A6 (k:=k) om;obtain⟨k1,ar⟩:∃k1:Int,IntKind.i64.wrap ((k:Int)+1)=k1:=⟨_,rfl⟩;have a7:k1=((k+1:Nat):Int):=by rw [<- ar,au]
  have ba:(k:Int)<n:=om;have m:(k:Int)<(n:Int)+1:=om;clear aj l az ax a0 ak al hI ad aq a8;have aa:off+k<(Lm pre n U post k x).length:=by rw [ai];omega
  generalize Lm pre n U post k x=ro at e a aa|-;clear ai;refine Ab (Ar (Aa [0,1,2,7,8,9,10,14,15,16] [d] (by simp [a1,ae,ba]<;>rfl) (Aa [0,1,2,8,9,11,14,15,16] [d] (by simp [av,a5,hp]<;>rfl) (Aa [0,1,2,7,8,9,11,14,15,16] [d] (by simp [a4]<;>rfl) (Aa [0,1,2,7,9,12,14,15,16] [d] (by simp [m,e,ab,a6,aw,af,s]<;>rfl) (Aa [0,1,2,7,12,14,15,16] [d] (by simp [m,e,j,a]<;>rfl) (A3 [0,1,2,7,8,14,15,16] [d] (by simp [i]<;>rfl) (A3 [0,1,2,7,8,14,15,16] [d] (by simp [ar]<;>rfl) ?_))))))));refine⟨(k+1,x',c',b',_),⟨by simp only;omega,ao,bc,an,f,?_⟩,by simp only;omega,by simp only [a7];exact AS.le_refl _⟩;simp only;omega
 ·have am:k=n:=by simp at h1;omega
  subst am;obtain⟨uk,l⟩:∃y,y=U/4294967296^k%4294967296:=⟨_,rfl⟩;rw [<- l]at e ah;obtain⟨z,b',j,i,w,an,ag⟩:=Ayt ah hc hb;have ab:IntKind.u64.wrap (uk:Int)=uk:=wrap_u64 om;obtain⟨t1,af⟩:∃t:Int,IntKind.u64.wrap ((uk:Int)-(c:Int))=t:=⟨_,rfl⟩;rw [af]at j i;obtain⟨t2,s⟩:∃t:Int,IntKind.u64.wrap (t1-(b:Int))=t:=⟨_,rfl⟩;rw [s]at j i;have a:=ad z w;obtain⟨E1,E2⟩:=Ayv (z:=z) (b':=b') hU hW hx hI (by rw [<- l];exact ag) w an;rw [E1]at a
  have ay:(!decide ((b':Int)=0))=decide (U<g*W):=by
   rw [L4];simp only [I3,decide_eq_false_iff_not,decide_eq_true_iff];omega
  obtain⟨bz,a9⟩:∃bz:Int,(b':Int)=bz:=⟨_,rfl⟩;rw [a9]at i ay;rw [<- ay];generalize Lm pre k U post (k+1) (Aiy k U (g*W))=fin at a|-;have aa:off+k<(Lm pre k U post k x).length:=by rw [ai];omega
  generalize Lm pre k U post k x=ro at e a aa|-;clear ai ad E1 hI l ag;have m:(k:Int)<(k:Int)+1:=om;refine Bb ?_;refine Aa [0,1,13] [d] (by simp [ae,m,e,ab,af,s]<;>rfl) (Aa [13] [d] (by simp [ae,m,e,j,a]<;>rfl) (Aa [6] [d] (by simp [i]<;>rfl) ?_))
  refine Aj (A97 sy ?_ (fun k o hk=>Dk ?_ hk))
  ·simp [results193]
  ·simp
theorem A32(d v off:Nat)(pre post:List V)(n U W:Nat)(ho:pre.length=off)(hn:n<=1099511627776)(hU:U<4294967296^(n+1))(hW:W<4294967296^n):
  ACS prog 194 [.ss d v 1 off (n+1),.ro 1 (Av (Cb n W))] [(d,⟨v,1,149,Lm pre n U post 0 0⟩)] (fun r q=>r=.tup []/\q= [(d,⟨v,1,149,Lm pre n U post (n+1) ((U+W)%4294967296^(n+1))⟩)]) (fun _ =>False):=by
 have ag:=fun k(h:k<n)=>Xn (v:=W) h
 have aa:(Av (Cb n W)).length=n:=sm;generalize Av (Cb n W)=wv at ag aa;refine Gs func194 fun w0 N0 au=>?_;refine Aa [0,1,4] [d] sr (Ab (Aa [0,1,4,8,9,10] [d] (by simp [aa]<;>rfl) (Ar ?_)))
 refine Di (fun p:Nat × Nat × Nat × Nat=>⟨[(0,.ss d v 1 off (n+1)),(1,.ro 1 wv),(4,.int .u64 p.2.2.1),(8,.ro 1 wv),(9,.int .i64 n),(10,.int .i64 p.1)],[(d,⟨v,1,149,Lm pre n U post p.1 p.2.1⟩)],p.2.2.2,42⟩)
  (fun p=>p.1<=n/\p.2.1<4294967296^p.1/\p.2.2.1<=1/\p.2.1+4294967296^p.1*p.2.2.1=U%4294967296^p.1+W%4294967296^p.1/\au<=p.2.2.2) (fun p=>n-p.1) (0,0,0,_) ⟨by simp,by simp,by simp,by simp [Ue],by simp only;omega⟩ (AS.le_refl _) ?_
 rintro⟨k,x,c,nx⟩⟨hk,hx,hc,hI,a0⟩;simp only at hk hx hc hI a0;refine Aa [0,1,4,8,9,10,11] [d] sr (Ab ?_);have e:=Alq (pre:=pre) (post:=post) (U:=U) (x:=x) hk;have w:=Ac4 (pre:=pre) (post:=post) (U:=U) (x:=x) (show k<=n+1 by omega);have j:=fun z(hz:z<4294967296)=>Alr (pre:=pre) (post:=post) (U:=U) hk hx hz
 rw [ho]at e j;have ak:U/4294967296^k%4294967296<4294967296:=C9 _ dc
 refine Ao (fun h1=>Ae ?_) fun h1=>?_
 ·have ae:k<n:=by simp at h1;omega
  have aq:=ag k ae;have ar:W/4294967296^k%4294967296<4294967296:=C9 _ dc;obtain⟨wk,ah⟩:∃y,y=W/4294967296^k%4294967296:=⟨_,rfl⟩;obtain⟨l,f⟩:∃y,y=U/4294967296^k%4294967296:=⟨_,rfl⟩;rw [<- ah]at aq ar;rw [<- f]at e ak;obtain⟨m1,aw,ab⟩:∃z:Int,IntKind.u64.wrap ((l:Int)+(wk:Int))=z/\z=((l+wk:Nat):Int):=⟨_,rfl,by rw [<- C8];exact wrap_u64 om⟩;obtain⟨p,hp,ad⟩:∃z:Int,IntKind.u64.wrap (m1+(c:Int))=z/\z=((l+wk+c:Nat):Int):=⟨_,rfl,by rw [ab,<- C8];exact wrap_u64 om⟩;obtain⟨c',av,ay⟩:∃z:Nat,p.fdiv (2^min 32 IntKind.u64.bits)=z/\z=(l+wk+c)/4294967296:=⟨_,by rw [ad];exact Xm _,rfl⟩;obtain⟨z,hz,t⟩:∃z:Nat,IntKind.u32.wrap p=z/\z=(l+wk+c)%4294967296:=⟨_,by rw [ad];exact wrap_u32 _,rfl⟩;have a1:c'<=1:=om;have s:z<4294967296:=om;have am:IntKind.u64.wrap (l:Int)=l:=wrap_u64 om;have al:IntKind.u64.wrap (wk:Int)=wk:=wrap_u64 om;have a:=j z s;have af:=Ayu hx s;have g:=Ayc (x:=x) (v:=W) (u:=U) (P:=4294967296^k) (c:=c) (y:=z) (c':=c') hI (by rw [<- ah,<- f];omega);rw [<- Ck]at g af;obtain⟨x',ao⟩:∃x',x'=x+4294967296^k*z:=⟨_,rfl⟩;rw [<- ao]at a g af;have aj:=A6 (k:=k) om;obtain⟨k1,ai⟩:∃k1:Int,IntKind.i64.wrap ((k:Int)+1)=k1:=⟨_,rfl⟩;have ax:k1=((k+1:Nat):Int):=by rw [<- ai,aj]
  have az:(k:Int)<n:=om;have m:(k:Int)<(n:Int)+1:=om;clear ah f t ay ao ab ad hI j ag;have i:off+k<(Lm pre n U post k x).length:=by rw [w];omega
  generalize Lm pre n U post k x=ro at e a i|-;clear w;refine Ab (Ar (Aa [0,1,4,5,6,8,9,10] [d] (by simp [aq,aa,az]<;>rfl) (Aa [0,1,5,7,8,9,10] [d] (by simp [m,e,am,al,aw,hp]<;>rfl) (Aa [0,1,7,8,9,10] [d] (by simp [m,e,hz,a]<;>rfl) (A3 [0,1,4,8,9,10] [d] (by simp [av]<;>rfl) (A3 [0,1,4,8,9,10] [d] (by simp [ai]<;>rfl) ?_))))));refine⟨(k+1,x',c',_),⟨by simp only;omega,af,a1,g,?_⟩,by simp only;omega,by simp only [ax];exact AS.le_refl _⟩;simp only;omega
 ·have ae:k=n:=by simp at h1;omega
  subst ae;obtain⟨l,f⟩:∃y,y=U/4294967296^k%4294967296:=⟨_,rfl⟩;rw [<- f]at e ak;obtain⟨z,hz,t⟩:∃z:Nat,IntKind.u32.wrap ((l:Int)+(c:Int))=z/\z=(l+c)%4294967296:=⟨_,by rw [<- C8];exact wrap_u32 _,rfl⟩;have s:z<4294967296:=om;have an:IntKind.u32.wrap (c:Int)=c:=by rw [wrap_u32];omega
  have a:=j z s;have E1:=Ayw (z:=z) hU hW hx hI (by rw [<- f];exact t);rw [E1]at a;generalize Lm pre k U post (k+1) _ =fin at a|-;have i:off+k<(Lm pre k U post k x).length:=by rw [w];omega
  generalize Lm pre k U post k x=ro at e a i|-;clear w j E1 hI f t;have m:(k:Int)<(k:Int)+1:=om;refine Bb ?_;refine A3 [] [d] (by simp [aa,m,e,an,hz,a]<;>rfl) ?_;exact⟨by simp only;omega,.tup [],[(d,⟨v,1,149,fin⟩)],by simp [results194],fun k o hk=>Dk gt hk,rfl,rfl⟩
theorem A7y(n A s:Nat)(d:n<=1099511627776)(hs:s<32)(c:A<4294967296^n):AC prog 191 [.ro 1 (Av (Cb n A)),.int .i64 s] (fun r=>r=.ro 1 (Av (Cb (n+1) (A*2^s)))):=by
 refine(Arz n A s d hs c).ac (fun F es⟨hF,he⟩=>⟨_,?_,rfl⟩);subst hF;subst he;have hp:=Ak (Cb (n+1) (A*2^s));have a:(Av (Cb (n+1) (A*2^s))).length=n+1:=sm;generalize Av (Cb (n+1) (A*2^s))=r at hp a|-;simp [AS.viewT,AS.view,AS.elems,AS.viewC,hp,a,Eng.get]
theorem Apv(m n A W:Nat)(hn:2<=n)(hm:m<=1099511627776)(cu:n<=m)(hA:A<4294967296^m)(ag:4294967296^(n-1)<=W)(hW:W<4294967296^n):
  AC prog 150 [.ro 1 (Av (Cb m A)),.ro 1 (Av (Cb n W))] (fun r=>r=.tup [.ro 1 (Av (B1 (A/W))),.ro 1 (Av (B1 (A%W)))]):=by
 obtain⟨k,rfl⟩:∃k,n=k+1:=⟨n-1,by omega⟩;rw [Nat.add_sub_cancel]at ag;have aj:(Av (Cb m A)).length=m:=sm;have bh:(Av (Cb (k+1) W)).length=k+1:=sm;have af:=Xn (k:=k+1) (v:=W) (i:=k) om;have a7:=Mz k
 have a4:W/4294967296^k<4294967296:=by
  rw [Cz a7,Bj,<- Ck];exact hW
 rw [Ci a4]at af;have ay:W/4294967296^k≠0:=by have:=Nat.div_pos ag a7;omega
 obtain⟨t,ht⟩:∃t,t=W/4294967296^k:=⟨_,rfl⟩;rw [<- ht]at af a4 ay;have c:=Aup t a4;have b9:=Pa ay;have b2:=Zn t;obtain⟨s,hs⟩:∃s,s=32-bitLen t:=⟨_,rfl⟩
 have cv:1<=bitLen t/\bitLen t<=32:=by
  constructor
  ·rw [bitLen,if_neg ay];omega
  ·rcases De 32 (bitLen t)with h|h
   ·have:2^32<=2^(bitLen t-1):=Ee dc om;omega
   ·exact h
 rw [<- hs]at c;have y:s<32:=om
 have be:2147483648<=t*2^s:=by
  have h1:2^(bitLen t-1)*2^s=2147483648:=by rw [<- F4,show bitLen t-1+s=31 by omega]
  rw [<- h1];exact B3 _ b9
 have bt:t*2^s<4294967296:=by
  have h1:2^bitLen t*2^s=4294967296:=by rw [<- F4,show bitLen t+s=32 by omega]
  rw [<- h1];exact Fw b2 (Fe dc)
 obtain⟨aq,a⟩:=Aye (n:=k) ht be bt om;have aa:=A7y (k+1) W s om y hW;have ai:=Arz m A s hm y hA;have a2:0<2^s:=Fe dc
 have cx:2^s<=2147483648:=by
  have:2^s<=2^31:=Ee dc om;exact this
 have ao:0<W:=B6 a7 ag;obtain⟨V,hV⟩:∃V,V=W*2^s:=⟨_,rfl⟩;obtain⟨R0,a6⟩:∃R0,R0=A*2^s:=⟨_,rfl⟩;rw [<- hV]at aq a aa;rw [<- a6]at ai;have a8:0<V:=by rw [hV];exact Nat.mul_pos ao a2
 have cf:R0<V*4294967296^(m-k):=by
  have e:4294967296^m=4294967296^k*4294967296^(m-k):=by rw [<- F4,show k+(m-k)=m by omega]
  rw [a6,hV];have h1:A*2^s<4294967296^k*4294967296^(m-k)*2^s:=by rw [<- e];exact Fw hA a2
  have h2:4294967296^k*4294967296^(m-k)*2^s<=W*4294967296^(m-k)*2^s:=B3 _ (B3 _ ag);rw [Nat.mul_right_comm W]at h2;exact B6 h1 h2
 have f:(Av (Cb (k+1+1) V)).take (k+1)=Av (Cb (k+1) V):=Arv om;have bj:(Av (Cb (k+1+1) V)).length=k+2:=sm;have aw:=Ak (Cb m A);have ar:=Ak (Cb (k+1) W);have b3:=Ak (Cb (k+1) V);generalize Av (Cb (k+1) W)=bv at bh af aa ar;generalize Av (Cb m A)=av at aj ai aw;generalize ck:Av (Cb (k+1+1) V)=b4 at aa f bj;obtain⟨i1,a1,bs⟩:∃x:Int,IntKind.i64.wrap (((k+1:Nat):Int)-1)=x/\x=(k:Int):=⟨_,rfl,by rw [Bh om Go.om];omega⟩;obtain⟨N,hN⟩:∃N:Int,N=((k+1:Nat):Int):=⟨_,rfl⟩;rw [<- hN]at a1;have l:((bv.length:Nat):Int)=N:=om;have b1:0<=i1/\i1<N:=om;have n1:i1.toNat=k:=om;have bf:N.toNat=k+1:=om;have ba:0<=N/\N<=((b4.length:Nat):Int):=om;obtain⟨q0,br,cm⟩:∃x:Int,IntKind.i64.wrap ((m:Int)-N)=x/\x=((m-(k+1):Nat):Int):=⟨_,rfl,by rw [Bh om Go.om];omega⟩;obtain⟨q1,cl,cp⟩:∃x:Int,IntKind.i64.wrap (q0+1)=x/\x=((m-k:Nat):Int):=⟨_,rfl,by rw [Bh om Go.om];omega⟩;have ci:4*q1<=281474976710656:=om;have bx:q1<=9223372036854775807:=om;have b8:0<=q1:=om;have b7:q1.toNat=m-k:=om;refine Ax func150 fun w0 N0=>?_;refine Aa [0,1] [] sr (Ab (Ad (Am 6 (by simp [l,a1,b1,n1,af]<;>rfl) ?_)));refine Ah c func190 ?_;refine Af [0,1,6] [] sr ?_;refine Ab (Ad (Am 2 sr ?_));refine Ah aa func191 ?_;refine Af [0,1,6,7] [] (by simp [l,ba,bf,f]<;>rfl) ?_;refine Ab (Ad (Am 2 sr ?_));refine L7 28 ai func191 rfl kr rfl rfl rfl sr (by simp [AS.views,AS.view,AS.viewC]<;>rfl) sr ?_;refine Af [0,1,6,7,8] [28] sr ?_;refine Aa [0,6,7,8,9] [28] (by simp [l]<;>rfl) (Aa [0,6,7,8,9,10] [28,36] (by simp [aj,br,cl,ci,bx,b8]<;>rfl) (Ab (Aa [6,7,8,9,10,11] [28,36] (by simp [aj,br]<;>rfl) ?_)));rw [b7];refine Ar ?_;clear af aa ai c bj f ba a1 bs b1 n1 aw ar aj bh l
 refine Di (fun p:Nat × Nat × Nat × Nat=>⟨[(6,.int .i64 s),(7,.ro 1 (Av (Cb (k+1) V))),(8,.sl 28 19 1 (m+1)),(9,.int .i64 N),(10,.sl 36 29 1 (m-k)),(11,.int .i64 ((p.1:Int)-1))],[(28,⟨19,1,149,Av (Cb (m+1) p.2.2.1)⟩),(36,⟨29,1,149,Xr (m-k) p.1 p.2.1⟩)],p.2.2.2,88⟩)
  (fun p=>p.1<=m-k/\p.2.2.1<V*4294967296^p.1/\A*2^s=p.2.1*4294967296^p.1*V+p.2.2.1) (fun p=>p.1) (m-k,0,R0,_) ⟨A9 _,cf,by simp only [O4,Dj];exact a6.symm⟩ (by
   have e:q0=((m-k:Nat):Int)-1:=om;simp only [<- e,Ayy];exact AS.le_refl _) ?_
 rintro⟨i,Q,R,nx⟩⟨hi,hR,hI⟩;simp only at hi hR hI;refine Ab ?_;cases i with
 |zero=>
  rw [Sc,F0]at hR hI;rw [hV]at hI hR;obtain⟨E1,E2⟩:=A3k a2 ao hI hR;have hq:=H0 (Cb (m-k) Q) (Nr _ _)
  have bw:Q<4294967296^(m-k):=by
   rw [E1,Cz ao];have e:4294967296^m=4294967296^(m-k)*4294967296^k:=by rw [<- F4,show m-k+k=m by omega]
   rw [e]at hA;exact B6 hA (D9 _ ag)
  rw [show Bd (Cb (m-k) Q)=A/W by rw [Q5,Ci bw,E1]]at hq;have ah:R<4294967296^(k+1):=by rw [<- hV]at hR;exact Sb hR a
  have b6:=A7v (k+1) R s om y ah;have bd:=H0 (Cb (k+1) (R/2^s)) (Nr _ _);rw [show Bd (Cb (k+1) (R/2^s))=A%W by rw [Q5,Ci (Fi (Hd _ _) ah),E2]]at bd;have bc:=Arv (m:=m) (n:=k+1) (R:=R) om;have ae:(Av (Cb (m+1) R)).length=m+1:=sm;have bo:=Ak (Cb (m+1) R);have a3:=Ak (Cb (m-k) Q);have an:(Av (Cb (m-k) Q)).length=m-k:=sm;have cd:=Ak (Cb (k+1) R);have ca:=Ak (Cb (k+1) (R/2^s));have b5:0<=N/\N<=(m:Int)+1:=om;simp only [Aum];refine Aa [6,7,8,9,10,11,42] [28,36] sr ?_;refine A7 rfl (fun h1=>by simp at h1) fun h1=>?_;refine Bb ?_;generalize Av (Cb (m-k) Q)=qv at hq a3 an|-
  have bp:(Av (Cb (m+1) R)).map (Go.Eng.V.frz 36 29 1 qv)=Av (Cb (m+1) R):=by
   simp only [Av,O5];rfl
  generalize Av (Cb (m+1) R)=rv at ae bo bc bp|-;refine Bp 36 [6,8,9,10] [28] (by simp [a3,an,Eng.get]<;>rfl) ?_;rw [bp];refine Bp 28 [6,8,9,10] [] (by simp [bo,ae,Eng.get]<;>rfl) (Ab (C5 [(0,[]),(1,[]),(2,[]),(3,[]),(4,[]),(5,[]),(6,[]),(7,[]),(8,[]),(9,[])] Ds kr ?_));refine Cf 1 sr ?_;refine Bu (fun hg=>hq) func148 rfl kr rfl rfl sr rfl rfl sr (by simp) sr ?_;refine Cf 4 (by simp [b5,bf,ae,bc]<;>rfl) ?_;refine Bu (fun hg=>b6) func195 rfl kr rfl rfl sr rfl rfl sr (by simp) sr ?_;refine Bu (fun hg=>bd) func148 rfl kr rfl rfl sr rfl rfl sr (by simp) sr ?_;refine C6 [4,5] [] sr ?_;exact Aj (Ac sr rfl)
 |succ j=>
  have hP:=Mz j;rw [Ck]at hR hI;obtain⟨u,hu⟩:∃u,u=R/4294967296^j:=⟨_,rfl⟩;obtain⟨q,hq⟩:∃q,q=u/V:=⟨_,rfl⟩;obtain⟨D1,D2,D3,D4,D5⟩:=Ayf hP a8 hR hu hq;obtain⟨w,hw⟩:∃w,w=u-q*V:=⟨_,rfl⟩;rw [<- hw]at D4 D5;obtain⟨R',bu⟩:∃R',R'=w*4294967296^j+R%4294967296^j:=⟨_,rfl⟩;rw [<- bu]at D4 D5;have cb:=A3q hI D4
  have a0:u<4294967296^(k+1+1):=by
   have:V*4294967296<=4294967296^(k+1)*4294967296:=B3 _ (Ho a);rw [<- Ck]at this;exact B6 D1 this
  have bl:j+(k+1)<=m:=om;have z:=A7s (m:=m) (n:=k+1) (j:=j) (R:=R) bl
  have ah:R<4294967296^(j+(k+1+1)):=by
   have h1:V*(4294967296^j*4294967296)<=4294967296^(k+1)*(4294967296^j*4294967296):=B3 _ (Ho a);have h2:4294967296^(k+1)*(4294967296^j*4294967296)=4294967296^(j+(k+1+1)):=by rw [<- Ck,<- F4];congr 1;omega
   rw [h2]at h1;exact B6 hR h1
  have cg:w<4294967296^(k+1+1):=Fi (by rw [hw];exact Ww _ _) a0;have g:=fun U=>A3n (m:=m) (n:=k+1) (j:=j) (R:=R) (U:=U) bl cg ah
  rw [<- bu]at g;rw [<- hu]at z;obtain⟨d,hd⟩:∃d,d=A7w (k+1) u V:=⟨_,rfl⟩;have al:=A7x (k+1) u V hn om aq a a0;rw [<- hd]at al;obtain⟨F1,F2⟩:=Api (n:=k+1) hn aq a D1 d hd;have ax:(Av (Cb j R)).length=j:=sm;have ad:=Aul (pre:=Av (Cb j R)) (post:=Xq m (k+1) j R) (n:=k+1) (U:=u);have ae:=Ac4 (pre:=Av (Cb j R)) (post:=Xq m (k+1) j R) (n:=k+1) (U:=u) (x:=0) (show 0<=k+1+1 by omega);have am:(Av (Cb (m+1) R)).length=m+1:=sm;rw [z]at am;rw [ax]at ad ae;have bn:=A31 28 19 j (Av (Cb j R)) (Xq m (k+1) j R) (k+1) u V d ax om a0 a F1;have bm:=fun U hU=>A32 28 19 j (Av (Cb j R)) (Xq m (k+1) j R) (k+1) U V ax om hU a
  have ak:=fun U x=>Apn (pre:=Av (Cb j R)) (post:=Xq m (k+1) j R) (n:=k+1) (U:=U) (w:=x)
  have bz:=Ak (Cb (k+1+1) u);simp only [];rw [z];have e1:((j+1:Nat):Int)-1=(j:Int):=om;rw [e1];obtain⟨j1,au,cn⟩:∃x:Int,IntKind.i64.wrap ((j:Int)+N)=x/\x=((j+(k+1):Nat):Int):=⟨_,rfl,by rw [Bh om Go.om];omega⟩;obtain⟨j2,az,cr⟩:∃x:Int,IntKind.i64.wrap (j1+1)=x/\x=((j+(k+1)+1:Nat):Int):=⟨_,rfl,by rw [Bh om Go.om];omega⟩;have c1:(j:Int)<=j2/\j2<=(m:Int)+1:=om;have c2:j2.toNat-j=k+1+1:=om;have c3:j+(k+1+1)<=m+1:=om;refine Aa [6,7,8,9,10,11,42] [28,36] sr ?_;refine A7 rfl (fun h1=>Ae ?_) (fun h1=>by simp at h1);refine Ab (Ar (Ab (Ad (Am 8 (by simp [au,az,c1,c2]<;>rfl) ?_))));refine Ack al func192 rfl kr rfl rfl rfl sr (by simp [AS.views,AS.view,AS.elems,Eng.get,am,c3,ad,bz]) rfl sr ?_;refine Af [6,7,8,9,10,11,12] [28,36] sr ?_;have cj:∀x:Nat,x<4294967296->IntKind.u32.wrap (x:Int)=x:=fun x h=>by rw [wrap_u32];omega
  have bg:=cj q D2;have cz:V=V:=rfl
  refine Xg (fun p:Nat=>⟨[(6,.int .i64 s),(7,.ro 1 (Av (Cb (k+1) V))),(8,.sl 28 19 1 (m+1)),(9,.int .i64 N),(10,.sl 36 29 1 (m-k)),(11,.int .i64 j),(12,.int .u64 q)],[(28,⟨19,1,149,Av (Cb (m+1) R')⟩),(36,⟨29,1,149,Xr (m-k) (j+1) Q⟩)],p,88⟩) (fun p=>True) ?_ ?_
  ·refine Ab (Ad (Am 9 (by simp [au,az,c1,c2]<;>rfl) ?_));refine El bn func193 rfl kr rfl rfl rfl sr (fun k o hk=>Dk gt hk) ?_ fun ch a5=>a5.elim;rintro r bk ct⟨rfl,rfl⟩cq;refine⟨fun k hk=>L3 hk,_,by simp<;>rfl,?_⟩;refine Af [6,7,8,9,10,11,12,63] [28,36] sr ?_
   rcases F2 with F2|F2
   ·obtain⟨G1,G2⟩:=A3o (n:=k+1) (w:=w) a8 F2 (by rw [hw,hq]);rw [G2,g];refine A7 rfl (fun h2=>by simp at h2;exact absurd h2 G1) fun h2=>Ae ?_;have a9:d=q:=by rw [F2,hq]
    rw [a9];exact⟨_,trivial,Oo [6,7,8,9,10,11,12] [28,36] rfl rfl rfl (A9 _)⟩
   ·obtain⟨G1,G2,G3,G4⟩:=A3p (n:=k+1) (w:=w) a8 a F2 (by rw [hw,hq]);have ab:=bm _ G2;rw [G3,g]at ab;rw [ak];have a9:d=q+1:=by rw [F2,hq]
    have wd:IntKind.u64.wrap ((d:Int)-1)=(q:Int):=by rw [show(d:Int)-1=(q:Int)by omega];exact wrap_u64 om
    refine A7 rfl (fun h2=>?_) (fun h2=>by simp at h2;omega);refine Aa [6,7,8,9,10,11,12] [28,36] (by simp [wd]<;>rfl) (Ad (Am 8 (by simp [au,az,c1,c2]<;>rfl) ?_));refine El ab func194 rfl kr rfl rfl rfl sr (fun k o hk=>Dk gt hk) ?_ fun ch a5=>a5.elim;rintro r bk cy⟨rfl,rfl⟩co;refine⟨fun k hk=>L3 hk,_,by simp<;>rfl,?_⟩;refine Af [6,7,8,9,10,11,12] [28,36] sr ?_;exact⟨_,trivial,AS.le_refl _⟩
  rintro cw -;have bi:A*2^s=(Q*4294967296+q)*4294967296^j*V+R':=cb;obtain⟨Q',ce⟩:∃Q',Q'=Q*4294967296+q:=⟨_,rfl⟩;have bq:=Ay0 (M:=m-k) (i:=j) (Q:=Q) hi D2;have b0:=Ayz (M:=m-k) (i:=j) (Q:=Q);have cc:=Ayx (M:=m-k) (i:=j+1) (Q:=Q) hi;rw [<- ce]at bq bi;have Dg:IntKind.i64.wrap ((j:Int)-1)=(j:Int)-1:=Bh om om;have c0:(j:Int)<((m-k:Nat):Int):=om;have bb:j<m-k:=om;refine A3 [6,7,8,9,10,11] [28,36] (by simp [bb,b0,bg,bq]<;>rfl) (A3 [6,7,8,9,10,11] [28,36] (by simp [Dg]<;>rfl) ?_);exact⟨(j,Q',R',_),⟨by simp only;omega,by rw [Bj V]at*;simpa [Bj]using D5,bi⟩,by simp,AS.le_refl _⟩
def Tm(n:Nat):V:=.ro 1 (Av (B1 n))
def Ai2(a b:Nat):V:=if b=0 then .tup [.ro 1 [],.ro 1 [],.bool false]else .tup [Tm (a/b),Tm (a%b),.bool true]
theorem Azc{b:Nat}(h:(B1 b).length=1):B1 b= [b]/\b<4294967296/\b≠0:=by
 have h1:=J1 b;have h2:=Uv 0 b h;rw [h]at h1;simp only [Nat.pow_one,Sc]at h1 h2;have a:b≠0:=om;refine⟨?_,h1,a⟩;rw [Ks a,Ci h1,Ga h1,Ea]
theorem Q9(i l2:List Nat)(h1:D6 i)(h2:D6 l2)(af:i.length<=1099511627776):AC prog 104 [.ro 1 (Av i),.ro 1 (Av l2)] (fun r=>r=Ai2 (Bd i) (Bd l2)):=by
 refine AC.relaxP ?_;have ad:=H0 i h1;have x:=H0 l2 h2;have g:=Ai (Oy i h1) af;have y:=Ak i;have s:=Ak l2;obtain⟨a,ha⟩:∃a,a=Bd i:=⟨_,rfl⟩;obtain⟨b,hb⟩:∃b,b=Bd l2:=⟨_,rfl⟩;rw [<- ha]at ad g|-;rw [<- hb]at x|-;clear ha hb;have k:=Adb _ _ (Cn a) (Cn b);rw [Cv,Cv]at k;have n:=Xt (B1 a) (Cn a) g;rw [Cv]at n;have f:=Ak (B1 a);have l:=Ak (B1 b);have m:(Av (B1 b)).length=(B1 b).length:=sm;refine Ax func104 fun w0 N0=>?_;refine Aa [0,1] [] sr (Ab (Ad (Am 1 sr ?_)));refine Ah ad func148 ?_;refine Am 1 sr ?_;refine Ah x func148 ?_;obtain⟨bv,c⟩:∃bv,bv=Av (B1 b):=⟨_,rfl⟩;obtain⟨av,e⟩:∃av,av=Av (B1 a):=⟨_,rfl⟩;rw [<- e,<- c]at k;rw [<- e]at n f;rw [<- c]at l m;rw [<- e,<- c];refine Af [0,1] [] sr ?_;refine Ab (Aa [0,1,17] [] (by simp [m]<;>rfl) ?_)
 refine Ao (fun h3=>?_) fun h3=>Ae ?_
 ·have j:b=0:=by
   have:(B1 b).length=0:=by simp at h3;simp [h3]
   exact Tg.1 (Aq.1 this)
  refine Aa [4,5,6] [] sr ?_;refine Aj (Ac sr ?_);rw [Ai2,if_pos j];exact Bi.tup (.cons (nils_ro 1) (.cons (nils_ro 1) (.cons (Bi.refl _) .nil)))
 have u:(B1 b).length≠0:=by intro h;rw [Aq]at h;simp [h]at h3
 have j:b≠0:=by rintro rfl;rw [Ea]at u;simp at u
 have ab:Ai2 a b=.tup [Tm (a/b),Tm (a%b),.bool true]:=by rw [Ai2,if_neg j]
 rw [ab];refine Ab (Ab (Ad (Am 2 sr ?_)));refine Ah k func128 ?_;refine Af [0,1,21] [] sr ?_
 refine Ao (fun h4=>?_) fun h4=>Ae ?_
 ·have z:a<b:=by simpa [Xu]using h4
  refine Ab (Ad (Am 1 sr ?_));refine Ah n func147 ?_;refine Af [4,5,6] [] sr ?_;refine Aj (Ac sr ?_);rw [Ga z,Ci z,Tm,Tm,Ea,<- e];exact Bi.tup (.cons (nils_ro 1) (.cons (Bi.refl _) (.cons (Bi.refl _) .nil)))
 have ai:b<=a:=by simpa [Xu]using h4
 refine Ab (Aa [0,1,26] [] (by simp [m]<;>rfl) ?_)
 refine Ao (fun h5=>?_) fun h5=>Ae ?_
 ·have ae:(B1 b).length=1:=by simp at h5;omega
  obtain⟨ah,ak,_⟩:=Azc ae;have d:=Apu (B1 a).length a b (J1 a) om ak g;rw [<- O8,<- e]at d;rw [ah]at c;have al:G8 bv 0=some (.int .u32 b):=by rw [c];rfl
  have o:bv.length=1:=by rw [c];rfl
  have t:a%b<18446744073709551616:=by have:=C9 a (show 0<b by omega);omega
  have aa:=Ada (a%b) t;have hw:IntKind.u64.wrap ((a%b:Nat):Int)=((a%b:Nat):Int):=wrap_u64 t;show AW _ _ _ _ _ _
  have am:=Ak (B1 (a/b));obtain⟨md,ag⟩:∃md:Int,md=((a%b:Nat):Int):=⟨_,rfl⟩;rw [<- ag]at d aa hw;refine Ab (Ad (Am 4 (by simp [al,o]<;>rfl) ?_));refine Ah d func149 ?_;refine Af [7,8] [] sr ?_;refine Ab (Ad (Am 3 (by simp [hw]<;>rfl) ?_));refine Ah aa func129 ?_;refine Af [4,5,6] [] sr ?_;refine Aj (Ac sr ?_);exact Bi.refl _
 have aj:2<=(B1 b).length:=by
  have:(B1 b).length≠1:=by intro h;simp [h]at h5
  omega
 have w:(B1 b).length<=(B1 a).length:=Er (Fi ai (J1 _));have d:=Apv (B1 a).length (B1 b).length a b aj g w (J1 a) (Uv _ _ om) (J1 b);rw [<- O8,<- O8,<- e,<- c]at d;refine Ab (Ad (Am 2 sr ?_));refine Ah d func150 ?_;refine Af [9,10] [] sr ?_;refine Aa [4,5,6] [] sr ?_;refine Aj (Ac sr ?_);exact Bi.refl _
theorem Zo{a b:Nat}(h:a<=b):(B1 a).length<=(B1 b).length:=Er (Fi h (J1 b))
theorem Aur(n:Nat):(Tm n).pureV=true:=by simpa [Tm]using Ak (B1 n)
theorem Azd(d l2:List Nat)(h1:D6 d)(h2:D6 l2)(j:d.length<=1099511627776)(g:l2.length<=1099511627776):AC prog 103 [.ro 1 (Av d),.ro 1 (Av l2)] (fun r=>r=Tm (Nat.gcd (Bd d) (Bd l2))):=by
 have t:=Xt d h1 j;have k:=Xt l2 h2 g;have s:=Ai (Oy d h1) j;have m:=Ai (Oy l2 h2) g;have n:=Ak d;have h:=Ak l2;generalize Bd d=a at t s|-;generalize Bd l2=b at k m|-;refine Ax func103 fun w0 N0=>?_;refine Aa [0,1] [] sr (Ab (Ad (Am 1 sr ?_)));refine Ah t func147 ?_;refine Am 1 sr ?_;refine Ah k func147 ?_;refine Af [0,1] [] sr ?_;refine Ab (Ar (Di (fun p:Nat × Nat × Nat=>⟨[(0,.ro 1 (Av (B1 p.1))),(1,.ro 1 (Av (B1 p.2.1)))],[],p.2.2,25⟩) (fun p=>(B1 p.1).length<=1099511627776/\(B1 p.2.1).length<=1099511627776/\Nat.gcd p.1 p.2.1=Nat.gcd a b) (fun p=>p.2.1) (a,b,_) ⟨s,m,rfl⟩ (AS.le_refl _) ?_));rintro⟨x,y,nx⟩⟨hx,w,u⟩;simp only at hx w u;have c:=Q9 (B1 x) (B1 y) (Cn x) (Cn y) hx;rw [Cv,Cv]at c;have l:=Ak (B1 x);have i:=Ak (B1 y);have e:(Av (B1 y)).length=(B1 y).length:=sm;show AW _ _ _ _ _ ⟨[(0,.ro 1 (Av (B1 x))),(1,.ro 1 (Av (B1 y)))],[],nx,25⟩
 generalize z:Av (B1 x)=xv at c l|-;generalize aa:Av (B1 y)=yv at c i e|-;refine Ab (Aa [0,1,14] [] (by simp [e]<;>rfl) ?_)
 refine Ao (fun h1=>Ae ?_) fun h1=>?_
 ·have f:y≠0:=by rintro rfl;rw [Ea]at h1;simp at h1
  have o:=C9 x (show 0<y by omega);rw [Ai2,if_neg f,Tm,Tm]at c;refine Ar (Ab (Ad (Am 2 sr ?_)));refine Ah c func104 ?_;refine Af [1,6] [] sr ?_;refine A3 [0,1] [] sr ?_;refine⟨(y,x%y,_),⟨w,Ai (Zo (Ho o)) w,?_⟩,o,by simp only [aa];exact AS.le_refl _⟩;simp only;rw [<- u,Nat.gcd_comm y,<- Nat.gcd_rec,Nat.gcd_comm]
 ·have f:y=0:=by
   have:(B1 y).length=0:=by simp at h1;simp [h1]
   exact Tg.1 (Aq.1 this)
  subst f;rw [Nat.gcd_zero_right]at u;refine Bb ?_;refine Aa [4] [] sr ?_;refine Aj (Ac sr ?_);rw [<- u,Tm,z]
theorem Ai3{n k:Nat}(h:(B1 n).length=k+1):bitLen n=32*k+bitLen (n/4294967296^k):=by
 have h1:=Uv k n h;have e:4294967296^k=2^(32*k):=by rw [Nat.pow_mul]
 rw [e]at h1|-;exact Wf h1
theorem Ar0(l:List Nat)(h:D6 l)(hs:l.length<=1099511627776):AC prog 206 [.ro 1 (Av l)] (fun r=>r=.int .i64 (bitLen (Bd l):Nat)):=by
 have j:=H0 l h;have hl:=Ai (Oy l h) hs;have ad:=Ak l;generalize Bd l=n at j hl|-;have a:(Av (B1 n)).length=(B1 n).length:=sm;refine Ax func206 fun w0 N0=>?_;refine Aa [0] [] sr (Ab (Ad (Am 1 sr ?_)));refine Ah j func148 ?_;obtain⟨w,o⟩:∃w,w=Av (B1 n):=⟨_,rfl⟩;rw [<- o]at a|-;refine Af [0] [] sr ?_;refine Ab (Aa [0,7] [] (by simp [a]<;>rfl) ?_)
 refine Ao (fun h1=>?_) fun h1=>Ae ?_
 ·have ab:n=0:=by
   have:(B1 n).length=0:=by simp at h1;simp [h1]
   exact Tg.1 (Aq.1 this)
  refine Aa [2] [] sr ?_;refine Aj (Ac sr ?_);rw [ab];rfl
 have ae:(B1 n).length≠0:=by intro h;rw [Aq]at h;simp [h]at h1
 obtain⟨k,y⟩:∃k,(B1 n).length=k+1:=⟨(B1 n).length-1,by omega⟩;have c:=Ai3 y;have d:=J1 n;rw [y]at d a hl
 have e:n/4294967296^k<4294967296:=by
  rw [Cz (Mz k),Bj,<- Ck];exact d
 have x:=Xn (k:=k+1) (v:=n) (i:=k) om;rw [Ci e,<- y,<- O8,<- o]at x;obtain⟨t,j⟩:∃t,t=n/4294967296^k:=⟨_,rfl⟩;rw [<- j]at e x c;have s:=Alt t e
 have g:bitLen t<=32:=by
  rcases De 32 (bitLen t)with h|h
  ·have h0:t≠0:=by rintro rfl;revert h;decide
   have:=Pa h0;have:2^32<=2^(bitLen t-1):=Ee dc om;omega
  ·exact h
 clear d j;generalize bitLen t=z at s c g;rw [c];have w1:IntKind.i64.wrap ((w.length:Int)-1)=(k:Int):=by rw [Bh om Go.om];omega
 obtain⟨m,hm,af⟩:∃m:Int,IntKind.i64.wrap (32*(k:Int))=m/\m=((32*k:Nat):Int):=⟨_,rfl,by rw [Bh om Go.om];omega⟩;have w3:IntKind.i64.wrap (m+(z:Int))=((32*k+z:Nat):Int):=by rw [Bh om Go.om];omega
 have aa:k<w.length:=om;obtain⟨fin,u⟩:∃f:Int,f=((32*k+z:Nat):Int):=⟨_,rfl⟩;rw [<- u]at w3|-;refine Ab (Ad (Am 10 (by simp [w1,hm,aa,x]<;>rfl) ?_));refine Ah s func188 ?_;refine Af [2] [] (by simp [w3]<;>rfl) ?_;exact Aj (Ac sr rfl)
theorem A7a(x:Nat)(hx:x<4294967296):bits .or .u64 0 (IntKind.u64.wrap ((x:Int)*2^min (0:Int).toNat IntKind.u64.bits))=(x:Int):=by
 have e:IntKind.u64.wrap ((x:Int)*2^min (0:Int).toNat IntKind.u64.bits)=(x:Int):=by
  show IntKind.u64.wrap ((x:Int)*1)=_
  rw [IntKind.wrap_u64];omega
 rw [e,show(0:Int)=((0:Nat):Int)from rfl,Uw 0 x ⟨by omega,by omega⟩];simp
theorem Bae(x y:Nat)(hx:x<4294967296)(hy:y<4294967296):bits .or .u64 (x:Int) (IntKind.u64.wrap ((y:Int)*2^min (32:Int).toNat IntKind.u64.bits))=((x+y*4294967296:Nat):Int):=by
 have e:IntKind.u64.wrap ((y:Int)*2^min (32:Int).toNat IntKind.u64.bits)=((y*4294967296:Nat):Int):=by
  show IntKind.u64.wrap ((y:Int)*4294967296)=_
  rw [IntKind.wrap_u64];omega
 rw [e,Uw x (y*4294967296) ⟨by omega,by omega⟩,Nat.or_comm,Bj];have:=Nat.two_pow_add_eq_or_of_lt (i:=32) (b:=x) om y;simp only [show(2:Nat)^32=4294967296 from rfl]at this;rw [<- this]
 congr 1
 omega
theorem hw0:IntKind.i64.wrap 0=0:=rfl
theorem Dg:IntKind.i64.wrap 1=1:=rfl
theorem Pm:IntKind.i64.wrap 2=2:=rfl
theorem A33(l:List Nat)(h:D6 l)(n:Nat)(ab:Bd l=n):AC prog 262 [.ro 1 (Av l)] (fun r=>r=.tup (if n<18446744073709551616 then [.int .u64 n,.bool true]else [.int .u64 0,.bool false])):=by
 have ht:=H0 l h;rw [ab]at ht;have z:=Ak l;have hp:=Ak (B1 n);have hl:(Av (B1 n)).length=(B1 n).length:=sm
 have a:(n<18446744073709551616/\(B1 n= []/\n=0\/(∃x,B1 n= [x]/\n=x/\x<4294967296)\/∃x y,B1 n= [x,y]/\n=x+y*4294967296/\x<4294967296/\y<4294967296))\/(¬n<18446744073709551616/\2<(B1 n).length):=by
  by_cases h0:n=0
  ·subst h0;exact .inl ⟨by omega,.inl ⟨Ea,rfl⟩⟩
  rw [Ks h0]
  by_cases h1:n/4294967296=0
  ·rw [h1,Ea];exact .inl ⟨by omega,.inr (.inl ⟨_,rfl,by omega,by omega⟩)⟩
  rw [Ks h1]
  by_cases h2:n/4294967296/4294967296=0
  ·rw [h2,Ea];exact .inl ⟨by omega,.inr (.inr ⟨_,_,rfl,by omega,by omega,by omega⟩)⟩
  rw [Ks h2];exact .inr ⟨by omega,by simp⟩
 refine Ax func262 fun w0 N0=>?_;refine Aa [0] [] sr (Ab (Ad (Am 1 sr ?_)));refine Ah ht func148 ?_;refine Af [0] [] sr ?_;refine Ab (Aa [0,11] [] sr ?_)
 refine Ao (fun h1=>?_) fun h1=>Ae ?_
 ·refine Aa [2,3] [] sr ?_;refine Aj (Ac sr ?_)
  have:¬n<18446744073709551616:=by
   rcases a with⟨_,h|⟨x,h,_⟩|⟨x,y,h,_⟩⟩|⟨h,_⟩
   ·simp [h.1]at h1
   ·simp [h]at h1
   ·simp [h]at h1
   ·exact h
  rw [if_neg this]
 have ae:(B1 n).length<=2:=by simp at h1;omega
 have aa:n<18446744073709551616:=by
  rcases a with⟨h,_⟩|⟨_,h⟩
  ·exact h
  ·omega
 rw [if_pos aa];refine Aa [0,4] [] sr (Ab (Aa [4,12,13,14] [] sr (Ar ?_)));simp only [Eg]at*;refine Br (fun k nx=>⟨[(4,.int .u64 (Bd ((B1 n).take k))),(12,.ro 1 (Av (B1 n))),(13,.int .i64 (B1 n).length),(14,.int .i64 k)],[],nx,28⟩) (fun k=>k<=(B1 n).length) (B1 n).length _ (B4 _) (AS.le_refl _) ?_;intro k nx hk hI;refine Aa [4,12,13,14,15] [] sr (Ab ?_)
 refine Ao (fun h2=>Ae ?_) fun h2=>?_
 ·have d:k<(B1 n).length:=by simp at h2;omega
  have af:=A6 (k:=k) om;refine Ab (Ar ?_)
  rcases a with⟨_,h|⟨x,h,e,t⟩|⟨x,y,h,e,t,hy⟩⟩|⟨h,_⟩
  ·rw [h.1]at d;simp at d
  ·have o:k=0:=by rw [h]at d;simp at d;exact d
   subst o;obtain⟨c,m,i⟩:∃c:Int,IntKind.i64.wrap 0=c/\c=0:=⟨_,rfl,rfl⟩;have j:¬c<0:=om;have f:bits .or .u64 0 (IntKind.u64.wrap ((x:Int)*2^min c.toNat IntKind.u64.bits))=x:=by rw [i];exact A7a x t
   have g:IntKind.u64.wrap (x:Int)=x:=wrap_u64 om;rw [h];refine Aa [4,5,6,12,13,14] [] (by simp [G8,Va]<;>rfl) (A3 [4,12,13,14] [] (by simp [Bd,m,j,g,f]<;>rfl) (A3 [4,12,13,14] [] (by simp [Dg]<;>rfl) ?_));exact⟨by simp,by simp,_,by simp [Bd,Va];exact AS.le_refl _⟩
  ·have g:IntKind.u64.wrap (x:Int)=x:=wrap_u64 om;have s:IntKind.u64.wrap (y:Int)=y:=wrap_u64 om;rw [h]
   by_cases o:k=0
   ·subst o;obtain⟨c,m,i⟩:∃c:Int,IntKind.i64.wrap 0=c/\c=0:=⟨_,rfl,rfl⟩;have j:¬c<0:=om;have f:bits .or .u64 0 (IntKind.u64.wrap ((x:Int)*2^min c.toNat IntKind.u64.bits))=x:=by rw [i];exact A7a x t
    refine Aa [4,5,6,12,13,14] [] (by simp [G8,Va]<;>rfl) (A3 [4,12,13,14] [] (by simp [Bd,m,j,g,f]<;>rfl) (A3 [4,12,13,14] [] (by simp [Dg]<;>rfl) ?_));exact⟨by simp,by simp,_,by simp [Bd,Va];exact AS.le_refl _⟩
   ·have u:k=1:=by rw [h]at d;simp at d;omega
    subst u;obtain⟨c,m,i⟩:∃c:Int,IntKind.i64.wrap 32=c/\c=32:=⟨_,rfl,rfl⟩;have j:¬c<0:=om;obtain⟨w,f,ho⟩:∃w:Int,bits .or .u64 (x:Int) (IntKind.u64.wrap ((y:Int)*2^min c.toNat IntKind.u64.bits))=w/\w=((x+y*4294967296:Nat):Int):=⟨_,rfl,by rw [i];exact Bae x y t hy⟩;refine Aa [4,5,6,12,13,14] [] (by simp [G8,Va]<;>rfl) (A3 [4,12,13,14] [] (by simp [Bd,m,j,s,f]<;>rfl) (A3 [4,12,13,14] [] (by simp [Pm]<;>rfl) ?_));exact⟨by simp,by simp,_,by simp [Bd,Va,ho,Int.mul_comm (y:Int)];exact AS.le_refl _⟩
  ·omega
 ·refine Bb ?_;refine Aa [2,3] [] sr ?_;refine Aj (Ac sr ?_);have ad:k=(B1 n).length:=by simp at h2;omega
  rw [ad,Bl,Cv]
theorem Abo(b:Bool)(l:List Nat)(h:D6 l)(hs:l.length<=1099511627776):AC prog 171 [.bool b,.ro 1 (Av l)] (fun r=>r=(nI (sgn b (Bd l))).v):=by
 have c:=Xt l h hs;have hp:=Ak l;rw [A7t];generalize Bd l=n at c|-;have a:(Av (B1 n)).length=(B1 n).length:=sm
 have f:decide (n=0)=decide ((B1 n).length=0):=by
  rw [decide_eq_decide,<- Tg,Aq]
 rw [f];obtain⟨e,d⟩:∃e,e=Av (B1 n):=⟨_,rfl⟩;rw [<- d]at c a|-;generalize(B1 n).length=k at a|-
 have g:(!decide (k=0))=decide ((0:Int)<(k:Int)):=by
  rw [L4];simp;omega
 rw [g];generalize Av l=lv at c hp|-;refine Ax func171 fun w0 N0=>?_;refine Aa [0,1,4] [4] sr (Ab (Ad (Am 1 sr ?_)));refine Ah c func147 ?_;refine Af [0,1,4] [4] sr ?_
 cases b
 ·refine Aa [4] [4] (by simp [a]<;>rfl) ?_;refine Aj (Ac sr ?_);simp
 ·refine Aa [4] [4] (by simp [a]<;>rfl) ?_;refine Aj (Ac sr ?_);simp
theorem Jo(b:Bool)(n:Nat)(hs:(B1 n).length<=1099511627776):AC prog 171 [.bool b,.ro 1 (Av (B1 n))] (fun r=>r=(nI (sgn b n)).v):=by
 have:=Abo b (B1 n) (Cn n) hs
 rwa [Cv]at this
theorem D8(z:Int):∃c a,(nI z).v=.agg [.bool c,.ro 1 a]/\a.all V.pureE=true:=⟨_,_,rfl,Ak _⟩
theorem Apw(z:Int)(h1: -9223372036854775808<=z)(h2:z<9223372036854775808):AC prog 131 [.int .i64 z] (fun r=>r=(nI z).v):=by
 have i:(B1 z.natAbs).length<=1099511627776:=Ai (Er (m:=3) om) dc;have a:=Ada z.natAbs om;have e:=Ak (B1 z.natAbs);have f:=fun b=>Jo b z.natAbs i
 by_cases hz:z<0
 ·have d:=f true;rw [show sgn true z.natAbs=z by simp only [sgn,if_true];omega]at d;obtain⟨c,k,h,g⟩:=D8 z;rw [h]at d|-;obtain⟨w,j⟩:∃w:Int,IntKind.u64.wrap z=w:=⟨_,rfl⟩;have Pm:IntKind.u64.wrap (-w)=((z.natAbs:Nat):Int):=by rw [<- j,K8,K8];omega
  generalize Av (B1 z.natAbs)=l at a d e;generalize((z.natAbs:Nat):Int)=q at a Pm;refine Ax func131 fun w0 N0=>?_;refine Aa [0,2] [2] sr (Ab (Aa [0,2,4] [2] sr ?_));refine A7 rfl (fun h1=>?_) (fun h1=>by simp at h1;omega);refine Ab (Ad (Am 3 (by simp [j,Pm]<;>rfl) ?_));refine Ah a func129 ?_;refine Ah d func171 ?_;refine Af [2] [2] sr ?_;exact Aj (Ac sr rfl)
 ·have d:=f false;rw [show sgn false z.natAbs=z by simp only [sgn];rw [if_neg Go.dc];omega]at d;obtain⟨c,k,h,g⟩:=D8 z;rw [h]at d|-;have Pm:IntKind.u64.wrap z=((z.natAbs:Nat):Int):=by rw [K8];omega
  generalize Av (B1 z.natAbs)=l at a d e;generalize((z.natAbs:Nat):Int)=q at a Pm;refine Ax func131 fun w0 N0=>?_;refine Aa [0,2] [2] sr (Ab (Aa [0,2,4] [2] sr ?_));refine A7 rfl (fun h1=>by simp at h1;omega) (fun h1=>Ae (Ab (Ad (Am 2 (by simp [Pm]<;>rfl) ?_))));refine Ah a func129 ?_;refine Ah d func171 ?_;refine Af [2] [2] sr ?_;exact Aj (Ac sr rfl)
theorem Alu(a b:Nat): -1<=Qn a b/\Qn a b<=1:=by unfold Qn;split<;>(try split)<;>omega
theorem Xv(a:RI)(h:D6 a.mag):AC prog 87 [a.v] (fun r=>r=.int .i64 (Gu a.val)):=by
 obtain⟨b,l⟩:=a;have d:=(Adb l [] h (by simp [D6])).argsR (args:=[.ro 1 (Av l),.nils]) (.cons (Bi.refl _) (.cons (nils_ro 1) .nil));have hp:=Ak l;rw [RI.v,RI.val,Ay1];simp only [Bd]at d|-;obtain⟨g,e⟩:=Alu (Bd l) 0;generalize Qn (Bd l) 0=c at d g e|-;generalize Av l=lv at d hp|-;have f:IntKind.i64.wrap (-c)= -c:=Bh om om;refine Ax func87 fun w0 N0=>?_;refine Aa [1] [1] sr (Ab (Ad (Am 2 sr ?_)));refine Ah d func128 ?_;refine Af [1,3] [1] sr ?_;refine Ab (Aa [3,8] [] sr ?_)
 refine Ao (fun h1=>?_) fun h1=>Ae ?_
 ·refine Aa [2] [] (by simp [f]<;>rfl) ?_;refine Aj (Ac sr ?_);simp [h1]
 ·refine Aa [2] [] sr ?_;refine Aj (Ac sr ?_);simp [h1]
theorem Aus(z:Int): -1<=Gu z/\Gu z<=1:=by unfold Gu;split<;>(try split)<;>omega
theorem A34(a b:RI)(h1:D6 a.mag)(h2:D6 b.mag):AC prog 132 [a.v,b.v] (fun r=>r=.int .i64 (cmpI a.val b.val)):=by
 have j:=Xv a h1;have n:=Xv b h2;have k:=Adb _ _ h1 h2;obtain⟨p,l⟩:=a;obtain⟨q,m⟩:=b;simp only at h1 h2 k;have i:=Ak l;have g:=Ak m;have d:=A3s p q (Bd l) (Bd m);rw [RI.v,RI.val]at j n;rw [RI.v,RI.v,RI.val,RI.val];simp only at j n|-
 have f:Gu (sgn p (Bd l))<Gu (sgn q (Bd m))->cmpI (sgn p (Bd l)) (sgn q (Bd m))= -1:=by
  unfold Gu cmpI;intro h;(repeat' split at h)<;>(repeat' split)<;>omega
 have e:Gu (sgn q (Bd m))<Gu (sgn p (Bd l))->cmpI (sgn p (Bd l)) (sgn q (Bd m))=1:=by
  unfold Gu cmpI;intro h;(repeat' split at h)<;>(repeat' split)<;>omega
 obtain⟨u,s⟩:=Aus (sgn p (Bd l));obtain⟨t,z⟩:=Alu (Bd l) (Bd m);generalize Gu (sgn p (Bd l))=x at j d f e u s;generalize Gu (sgn q (Bd m))=y at n d f e;generalize cmpI (sgn p (Bd l)) (sgn q (Bd m))=w at d f e|-;generalize Qn (Bd l) (Bd m)=c at k d t z;generalize Av l=lv at j k i|-;generalize Av m=mv at n k g|-
 have hw:IntKind.i64.wrap (x*c)=x*c:=by
  have:x= -1\/x=0\/x=1:=om;rcases this with rfl|rfl|rfl<;>exact Bh om om
 refine Ax func132 fun w0 N0=>?_;refine Aa [2,3] [2,3] sr (Ab (C5 [(0,[]),(1,[]),(2,[]),(3,[]),(4,[]),(5,[])] Ds kr ?_));refine Cf 1 sr ?_;refine Bu (fun o=>j) func87 rfl kr rfl rfl sr rfl rfl sr (by simp) sr ?_;refine Cf 1 sr ?_;refine Bu (fun o=>n) func87 rfl kr rfl rfl sr rfl rfl sr (by simp) sr ?_;refine C6 [2,3,5,6] [2,3] sr ?_;refine Ab (Aa [2,3,5,6,13] [2,3] sr ?_)
 refine Ao (fun h1=>?_) fun h1=>Ae ?_
 ·refine Aa [4] [] sr ?_;refine Aj (Ac sr ?_);rw [f (by simpa using h1)]
 refine Ab (Aa [2,3,5,16] [2,3] sr ?_)
 refine Ao (fun h2=>?_) fun h2=>Ae ?_
 ·refine Aa [4] [] sr ?_;refine Aj (Ac sr ?_);rw [e (by simpa using h2)]
 refine Ab (Ad (Am 5 sr ?_));refine Ah k func128 ?_;refine Af [4] [] (by simp [hw]<;>rfl) ?_;refine Aj (Ac sr ?_);rw [d (by simpa using h1) (by simpa using h2)]
theorem N8(a b:RI)(h1:a.ok 274877906944)(h2:b.ok 274877906944):AC prog 133 [a.v,b.v] (fun r=>r=(nI (a.val*b.val)).v):=by
 obtain⟨h1,i⟩:=h1;obtain⟨h2,j⟩:=h2;obtain⟨p,l⟩:=a;obtain⟨q,m⟩:=b;simp only at h1 h2 i j;have g:=Ai1 l m h1 h2 om om;have k:=M0 (Ai (Kg h1) i) (Ai (Kg h2) j);have h:=Jo (p != q) (Bd l*Bd m) om;have f:=Ak l;have d:=Ak m;rw [RI.v,RI.v,RI.val,RI.val];simp only;rw [Arw];obtain⟨c,lw,s,o⟩:=D8 (sgn (p != q) (Bd l*Bd m));rw [s]at h|-;have e:=Ak (B1 (Bd l*Bd m));generalize Av (B1 (Bd l*Bd m))=nv at g h e;generalize Av l=lv at g f|-;generalize Av m=mv at g d|-;have hb:∀x y:Bool,(x != y)= !(x==y):=fun x y=>rfl
 refine Ax func133 fun w0 N0=>?_;refine Aa [2,3,4] [2,3,4] sr (Ab (C5 [(0,[]),(2,[]),(5,[]),(7,[]),(1,[]),(3,[]),(4,[]),(6,[]),(8,[]),(9,[]),(10,[]),(11,[])] Ds kr ?_));refine Cf 9 sr ?_;refine Bu (fun n=>g) func172 rfl kr rfl rfl sr rfl rfl sr (by simp) sr ?_;refine Bu (c:=true) (fun n=>h) func171 rfl kr rfl rfl sr rfl rfl (by cases p<;>cases q<;>rfl) (by simp) sr ?_;refine C6 [4] [4] sr ?_;exact Aj (Ac sr rfl)
theorem Xw(a b:RI)(h1:a.ok 274877906944)(h2:b.ok 274877906944):AC prog 225 [a.v,b.v] (fun r=>r=(nI (a.val+b.val)).v):=by
 obtain⟨h1,k1⟩:=h1;obtain⟨h2,y⟩:=h2;obtain⟨p,l⟩:=a;obtain⟨q,m⟩:=b;simp only at h1 h2 k1 y;have s:=Apr l m h1 h2 om om;have d:=Apt l m h1 h2 om om;have f:=Apt m l h2 h1 om om;have l1:=Ai (Kg h1) k1;have l2:=Ai (Kg h2) y;have l3:=Abn l1 l2;have j:=Ak l;have i:=Ak m;rw [RI.v,RI.v,RI.val,RI.val];simp only;obtain⟨n,hn⟩:∃n,n=Bd l:=⟨_,rfl⟩;obtain⟨k,g⟩:∃k,k=Bd m:=⟨_,rfl⟩;rw [<- hn]at s d f l1 l3|-;rw [<- g]at s d f l2 l3|-;clear hn g;generalize Av l=lv at s d f j|-;generalize Av m=mv at s d f i|-
 by_cases h:p=q
 ·subst h;rw [A3t];have g:=Jo p (n+k) om;obtain⟨c,x,u,t⟩:=D8 (sgn p (n+k));rw [u]at g|-;have e:=Ak (B1 (n+k));generalize Av (B1 (n+k))=z at s g e;refine Ax func225 fun w0 N0=>?_;refine Aa [2,3,4] [2,3,4] sr (Ab (Aa [2,3,4,13] [2,3,4] sr ?_));refine A7 rfl (fun h1=>?_) (fun h1=>by cases h1);refine Ab (C5 [(0,[]),(2,[]),(4,[]),(1,[]),(3,[]),(5,[]),(6,[]),(7,[]),(8,[])] Ds kr ?_);refine Cf 6 sr ?_;refine Bu (fun hg=>s) func257 rfl kr rfl rfl sr rfl rfl sr (by simp) sr ?_;refine Bu (fun hg=>g) func171 rfl kr rfl rfl sr rfl rfl sr (by simp) sr ?_;refine C6 [4] [4] sr ?_;exact Aj (Ac sr rfl)
 ·have hd:decide (p=q)=false:=by simpa using h
  have w:(p==q)=false:=by simpa using h
  refine Ax func225 fun w0 N0=>?_;refine Aa [2,3,4] [2,3,4] sr (Ab (Aa [2,3,4,13] [2,3,4] (by simp [w]<;>rfl) ?_));refine A7 rfl (fun h1=>by cases h1) fun h1=>Ae (Ab ?_)
  by_cases o:k<=n
  ·rw [A3u h o];rw [Aps,if_pos o]at d;have g:=Jo p (n-k) (Ai (Ry (Ww n k)) om);obtain⟨c,x,u,t⟩:=D8 (sgn p (n-k));rw [u]at g|-;have e:=Ak (B1 (n-k));generalize Av (B1 (n-k))=z at d g e;refine Ab (Ad (Am 4 sr ?_));refine Ah d func258 ?_;refine Af [2,3,4,5,6] [2,3,4] sr ?_;refine Aa [2,3,4,5,30] [2,3,4] sr ?_;refine A7 rfl (fun h2=>?_) (fun h2=>by cases h2);refine Ab (Ad (Am 3 sr ?_));refine Ah g func171 ?_;refine Af [4] [4] sr ?_;exact Aj (Ac sr rfl)
  ·rw [Ay2 h Go.om];rw [Aps,if_neg o]at d;rw [Aps,if_pos Go.om]at f;have g:=Jo q (k-n) (Ai (Ry (Ww k n)) om);obtain⟨c,x,u,t⟩:=D8 (sgn q (k-n));rw [u]at g|-;have e:=Ak (B1 (k-n));generalize Av (B1 (k-n))=z at f g e;refine Ab (Ad (Am 4 sr ?_));refine Ah d func258 ?_;refine Af [2,3,4,5,6] [2,3,4] sr ?_;refine Aa [2,3,4,5,30] [2,3,4] sr ?_;refine A7 rfl (fun h2=>by cases h2) (fun h2=>Ae (Ab (Ad (Am 4 sr ?_))));refine Ah f func258 ?_;refine Af [3,4,7] [3,4] sr ?_;refine Ab (Ad (Am 3 sr ?_));refine Ah g func171 ?_;refine Af [4] [4] sr ?_;exact Aj (Ac sr rfl)
theorem Ar1(a:RI)(h1:a.ok 1099511627776):AC prog 292 [a.v] (fun r=>r=(nI (-a.val)).v):=by
 obtain⟨h1,f⟩:=h1;obtain⟨p,l⟩:=a;simp only at h1 f;have e:=Abo (!p) l h1 f;have d:=Ak l;rw [RI.v,RI.val];simp only;rw [A3v]at e;obtain⟨c,lw,h,g⟩:=D8 (-sgn p (Bd l));rw [h]at e|-;generalize Av l=lv at e d|-;refine Ax func292 fun w0 N0=>?_;refine Aa [1,2] [1,2] sr (Ab (Ad (Am 5 sr ?_)));refine Ah e func171 ?_;refine Af [2] [2] sr ?_;exact Aj (Ac sr rfl)
theorem A35(a b:RI)(h1:a.ok 274877906944)(h2:b.ok 274877906944):AC prog 282 [a.v,b.v] (fun r=>r=(nI (a.val-b.val)).v):=by
 have f:=Ar1 b ⟨h2.1,Ai h2.2 dc⟩;have d:=Xw a (nI (-b.val)) h1 (Gx (by rw [Nf,Nb];exact RI.sz h2));rw [If,<- Int.sub_eq_add_neg]at d;have h:=Ak a.mag;have i:=Ak b.mag;obtain⟨c,lw,l,k⟩:=D8 (a.val-b.val);obtain⟨c2,m,g,e⟩:=D8 (-b.val);rw [l]at d|-;rw [g]at f d;rw [RI.v]at d|-;rw [RI.v]at f|-;generalize Av a.mag=av at d h|-;generalize Av b.mag=bv at f i|-;refine Ax func282 fun w0 N0=>?_;refine Aa [2,3,4] [2,3,4] sr (Ab (C5 [(0,[]),(1,[]),(2,[]),(3,[]),(4,[])] Ds kr ?_));refine Cf 2 sr ?_;refine Bu (fun j=>f) func292 rfl kr rfl rfl sr rfl rfl sr (by simp) sr ?_;refine Bu (fun j=>d) func225 rfl kr rfl rfl sr rfl rfl sr (by simp) sr ?_;refine C6 [4] [4] sr ?_;exact Aj (Ac sr rfl)
theorem RR.vp(a:RR):a.v.pureV=true:=by
 have h1:=Ak a.num.mag;have h2:=Ak a.den;simpa [RR.v]using⟨h1,h2⟩
theorem Kw(q:Rat):∃c a d,(nR q).v=.agg [.bool c,.ro 1 a,.ro 1 d]/\a.all V.pureE=true/\d.all V.pureE=true:=⟨_,_,_,rfl,Ak _,Ak _⟩
def pV(a:RR):V:=.tup [a.p.num.v,.ro 1 (Av a.p.den)]
theorem Lx(a:RR)(h:D6 a.den):AC prog 86 [a.v] (fun r=>r=pV a):=by
 refine AC.relaxP ?_;obtain⟨⟨b,l⟩,d⟩:=a;simp only at h;have f:=(Adb d [] h (by simp [D6])).argsR (args:=[.ro 1 (Av d),.nils]) (.cons (Bi.refl _) (.cons (nils_ro 1) .nil));have hp:=Ak d;have k:=Ak l;have n:=Ada 1 dc;rw [pV,RR.p,RR.v];simp only [Bd]at f|-;have j:(Qn (Bd d) 0=0)↔Bd d=0:=by unfold Qn;constructor<;>intro h<;>(repeat' split at h)<;>(repeat' split)<;>omega
 generalize Qn (Bd d) 0=c at f j;generalize m:Av d=dv at f hp|-;generalize g:Av l=lv at k|-;refine Ax func86 fun w0 N0=>?_;refine Aa [1,2] [1,2] sr (Ab (Ab (Ad (Am 2 sr ?_))));refine Ah f func128 ?_;refine Af [1,2,7] [1,2] sr ?_
 refine Ao (fun h1=>?_) fun h1=>Ae ?_
 ·have e:Bd d=0:=j.1 (by simpa using h1);rw [if_pos e];simp only [RI.v];generalize Av (B1 1)=ov at n|-;refine Ab (Ad (Am 1 sr ?_));refine Ah n func129 ?_;refine Af [2,3] [2] sr ?_;refine Aj (Ac sr ?_);exact Bi.tup (.cons (Bi.agg (.cons (Bi.refl _) (.cons (nils_ro 1) .nil))) (.cons (Bi.refl _) .nil))
 ·have e:¬Bd d=0:=fun h=>by simp [j.2 h]at h1
  rw [if_neg e];simp only [RI.v,m,g];refine Ab (Abk (.take 0 [] (.take 2 [] (.take 1 [] (.alt 3 (.take 4 [] (.take 5 [] .done)) (.alt 4 (.take 3 [] (.take 5 [] .done)) .stop))))) Ds kr (Rt (L:=[2,3]) (M:=[2]) sr ?_));intro T o;have i:=(show T=_ by simpa using o);subst i;refine Aj (Ac sr ?_);exact Bi.refl _
theorem Ra(a:RI)(d:List Nat)(h1:a.ok 1099511627776)(h2:D6 d)(h3:d.length<=1099511627776)(x:Bd d≠0):AC prog 170 [a.v,.ro 1 (Av d)] (fun r=>r=(nR (mkRat a.val (Bd d))).v):=by
 obtain⟨h1,t⟩:=h1;obtain⟨b,l⟩:=a;simp only at h1 t;have o:=Azd l d h1 h2 t h3;have e0:(RI.mk b l).val=sgn b (Bd l):=rfl;rw [e0,Baa b (Bd l) (Bd d) x];have l1:=Ai (Kg h1) t;obtain⟨n,hn⟩:∃n,n=Bd l:=⟨_,rfl⟩;obtain⟨m,w⟩:∃m,m=Bd d:=⟨_,rfl⟩;have f:=Q9 l (B1 (n.gcd m)) h1 (Cn _) t;have e:=Q9 d (B1 (n.gcd m)) h2 (Cn _) h3;rw [Cv,<- hn]at f;rw [Cv,<- w]at e;rw [<- hn,<- w]at o|-;rw [<- hn]at l1;rw [<- w]at x
 have z:n.gcd m≠0:=by
  intro h;exact x (Nat.gcd_eq_zero_iff.1 h).2
 rw [Ai2,if_neg z]at f e;have u:=Jo b (n/n.gcd m) (Ai (Ry (Hd _ _)) l1);obtain⟨c,lw,hv,aa⟩:=D8 (sgn b (n/n.gcd m));rw [hv]at u
 have y:(RR.mk (nI (sgn b (n/n.gcd m))) (B1 (m/n.gcd m))).v=.agg [.bool c,.ro 1 lw,.ro 1 (Av (B1 (m/n.gcd m)))]:=by
  have g:=hv;rw [RI.v]at g;injection g with g;simp only [List.cons.injEq,and_true]at g;rw [RR.v];simp only [g.1,g.2]
 rw [y];have k:=Ak l;have j:=Ak d;have i:=Ak (B1 (n.gcd m));have s:=Ak (B1 (n/n.gcd m));rw [RI.v];simp only;rw [Tm]at o;rw [Tm,Tm]at f e;generalize Av (B1 (n.gcd m))=gv at o f e i;generalize Av (B1 (n/n.gcd m))=qv at f u s;generalize Av (B1 (m/n.gcd m))=rv at e|-;generalize Av l=lv at o f k|-;generalize Av d=dv at o e j|-;generalize Av (B1 (n%n.gcd m))=x1 at f;generalize Av (B1 (m%n.gcd m))=x2 at e;refine Ax func170 fun w0 N0=>?_;refine Aa [1,2,4] [2,4] sr (Ab (Ad (Am 3 sr ?_)));refine Ah o func103 ?_;refine Af [1,2,4,5] [2,4] sr ?_;refine Ab (Ad (Am 3 sr ?_));refine Ah f func104 ?_;refine Af [1,2,4,5,6] [2,4] sr ?_;refine Ab (Ad (Am 2 sr ?_));refine Ah e func104 ?_;refine Af [2,4,6,9] [2,4] sr ?_;refine Ab (Ad (Am 3 sr ?_));refine Ah u func171 ?_;refine Af [4] [4] sr ?_;exact Aj (Ac sr rfl)
theorem Rb(l:List Nat)(h:D6 l)(hs:l.length<=1099511627776):AC prog 134 [.ro 1 (Av l)] (fun r=>r=(nI (Bd l)).v):=by
 have a:=Abo false l h hs;have hp:=Ak l;rw [show sgn false (Bd l)=(Bd l:Int)by simp [sgn]]at a;obtain⟨c,lw,e,d⟩:=D8 (Bd l);rw [e]at a|-;generalize Av l=lv at a hp|-;refine Ax func134 fun w0 N0=>?_;refine Aa [0,2] [2] sr (Ab (Ad (Am 1 sr ?_)));refine Ah a func171 ?_;refine Af [2] [2] sr ?_;exact Aj (Ac sr rfl)
theorem Ar2(a b:RR)(h1:a.ok 137438953472)(h2:b.ok 137438953472):AC prog 143 [a.v,b.v] (fun r=>r=(nR (a.val*b.val)).v):=by
 have l:=Lx a h1.lim;have k:=Lx b h2.lim;have g:=RR.p_ok h1 dc;have f:=RR.p_ok h2 dc;have z:=RR.p_val a;have e2:=RR.p_val b;have d1:=RR.p_ne a;have d2:=RR.p_ne b;rw [pV]at l k;have u:=RR.vp a;have w:=RR.vp b;have ea:a.v=.agg [.bool a.num.neg,.ro 1 (Av a.num.mag),.ro 1 (Av a.den)]:=rfl;have eb:b.v=.agg [.bool b.num.neg,.ro 1 (Av b.num.mag),.ro 1 (Av b.den)]:=rfl;rw [ea]at l u|-;rw [eb]at k w|-;rw [<- z,<- e2];generalize a.p=a' at*;generalize b.p=b' at*;clear z e2 h1 h2;obtain⟨x,d⟩:=a';obtain⟨y,e⟩:=b';simp only at l k d1 d2;have m:=N8 x y ⟨g.num.1,Ai g.num.2 dc⟩ ⟨f.num.1,Ai f.num.2 dc⟩;have m2:=Ai1 d e g.lim f.lim (Ai g.len dc) (Ai f.len dc)
 have s1:Nf (x.val*y.val)<=274877906944:=by
  rw [Nf,P3];exact Ai (M0 (RI.sz g.num) (RI.sz f.num)) dc
 have s2:(B1 (Bd d*Bd e)).length<=274877906944:=Ai (M0 (Ai (Kg g.lim) g.len) (Ai (Kg f.lim) f.len)) dc;have h:=Ra (nI (x.val*y.val)) (B1 (Bd d*Bd e)) (Gx (Ai s1 dc)) (Cn _) (Ai s2 dc) (by rw [Cv];exact Iy d1 d2);rw [If,Cv,<- Rat.mkRat_mul_mkRat]at h;show AC _ _ _ (fun r=>r=(nR (mkRat x.val (Bd d)*mkRat y.val (Bd e))).v)
 generalize mkRat x.val (Bd d)*mkRat y.val (Bd e)=q at h|-;obtain⟨c,lw,dw,hv,ah,ae⟩:=Kw q;rw [hv]at h|-;obtain⟨c2,aa,o,j⟩:=D8 (x.val*y.val);rw [o]at m h;have i:=Ak (B1 (Bd d*Bd e));have hx:=Ak x.mag;have hy:=Ak y.mag;have n:=Ak d;have s:=Ak e;have ex:x.v=.agg [.bool x.neg,.ro 1 (Av x.mag)]:=rfl;have t:y.v=.agg [.bool y.neg,.ro 1 (Av y.mag)]:=rfl;rw [ex]at l m;rw [t]at k m;clear ea eb ex t;generalize Av (B1 (Bd d*Bd e))=nv at m2 h i;generalize Av x.mag=xv,Av y.mag=yv,Av d=ab,Av e=ag,Av a.num.mag=av,Av b.num.mag=bv,Av a.den=ad,Av b.den=af at*;refine Ax func143 fun w0 N0=>?_;refine Aa [2,3,4] [2,3,4] sr (Ab (Ad (Am 1 sr ?_)));refine Ah l func86 ?_ (hp:=by simpa using u);refine Af [3,4,5,6] [3,4,5] sr ?_;refine Ab (Ad (Am 1 sr ?_));refine Ah k func86 ?_ (hp:=by simpa using w);refine Af [4,5,6,7,8] [4,5,7] sr ?_;refine Ab (Ad (Am 2 sr ?_));refine Ah m func133 ?_;refine Am 2 sr ?_;refine Ah m2 func172 ?_;refine Ah h func170 ?_;refine Af [4] [4] sr ?_;exact Aj (Ac sr rfl)
theorem Rz{x y:Int}{k:Nat}(h1:Nf x<=k)(h2:Nf y<=k):Nf (x+y)<=k+1:=by
 have h:=Abn h1 h2;rw [Nf];refine Ai (Ry (Int.natAbs_add_le x y)) ?_;rw [Nat.max_self]at h;exact h
theorem Ar3(a b:RR)(h1:a.ok 68719476736)(h2:b.ok 68719476736):AC prog 259 [a.v,b.v] (fun r=>r=(nR (a.val+b.val)).v):=by
 have p1:=Lx a h1.lim;have n:=Lx b h2.lim;have g:=RR.p_ok h1 dc;have f:=RR.p_ok h2 dc;have e1:=RR.p_val a;have e2:=RR.p_val b;have d1:=RR.p_ne a;have d2:=RR.p_ne b;rw [pV]at p1 n;have pa:=RR.vp a;have pb:=RR.vp b;have ea:a.v=.agg [.bool a.num.neg,.ro 1 (Av a.num.mag),.ro 1 (Av a.den)]:=rfl;have eb:b.v=.agg [.bool b.num.neg,.ro 1 (Av b.num.mag),.ro 1 (Av b.den)]:=rfl;rw [ea]at p1 pa|-;rw [eb]at n pb|-;rw [<- e1,<- e2];generalize a.p=a' at*;generalize b.p=b' at*;clear e1 e2 h1 h2;obtain⟨x,d⟩:=a';obtain⟨y,e⟩:=b';simp only at p1 n d1 d2;have l1:=Ai (Kg g.lim) g.len;have l2:=Ai (Kg f.lim) f.len;have z1:Nf (Bd d:Int)<=68719476736:=by rw [Nf,Ek];exact l1
 have z2:Nf (Bd e:Int)<=68719476736:=by rw [Nf,Ek];exact l2
 have w1:=Rb d g.lim (Ai g.len dc);have w2:=Rb e f.lim (Ai f.len dc);have m1:=N8 x (nI (Bd e)) ⟨g.num.1,Ai g.num.2 dc⟩ (Gx (Ai z2 dc));have m2:=N8 y (nI (Bd d)) ⟨f.num.1,Ai f.num.2 dc⟩ (Gx (Ai z1 dc));rw [If]at m1 m2
 have s1:Nf (x.val*(Bd e:Int))<=137438953472:=by
  rw [Nf,P3];exact Ai (M0 (RI.sz g.num) z2) dc
 have s2:Nf (y.val*(Bd d:Int))<=137438953472:=by
  rw [Nf,P3];exact Ai (M0 (RI.sz f.num) z1) dc
 have m4:=Xw (nI (x.val*(Bd e:Int))) (nI (y.val*(Bd d:Int))) (Gx (Ai s1 dc)) (Gx (Ai s2 dc));rw [If,If]at m4;have s3:=Rz s1 s2;have m5:=Ai1 d e g.lim f.lim (Ai g.len dc) (Ai f.len dc);have s4:(B1 (Bd d*Bd e)).length<=274877906944:=Ai (M0 l1 l2) dc;have i:=Ra (nI (x.val*(Bd e:Int)+y.val*(Bd d:Int))) (B1 (Bd d*Bd e)) (Gx (Ai s3 dc)) (Cn _) (Ai s4 dc) (by rw [Cv];exact Iy d1 d2);rw [If,Cv,<- Rat.mkRat_add_mkRat x.val y.val d1 d2]at i;show AC _ _ _ (fun r=>r=(nR (mkRat x.val (Bd d)+mkRat y.val (Bd e))).v)
 generalize mkRat x.val (Bd d)+mkRat y.val (Bd e)=q at i|-;obtain⟨c,lw,dw,hv,an,aj⟩:=Kw q;rw [hv]at i|-;obtain⟨c2,ae,u,l⟩:=D8 (x.val*(Bd e:Int));rw [u]at m1 m4;obtain⟨c3,af,z,w⟩:=D8 (y.val*(Bd d:Int));rw [z]at m2 m4;obtain⟨c4,am,aa,o⟩:=D8 (x.val*(Bd e:Int)+y.val*(Bd d:Int));rw [aa]at i m4;obtain⟨c5,ah,k,ab⟩:=D8 (Bd d:Int);rw [k]at w1 m2;obtain⟨c6,ao,s,m⟩:=D8 (Bd e:Int);rw [s]at w2 m1;have j:=Ak (B1 (Bd d*Bd e));have hx:=Ak x.mag;have hy:=Ak y.mag;have t:=Ak d;have ad:=Ak e;have ex:x.v=.agg [.bool x.neg,.ro 1 (Av x.mag)]:=rfl;have ey:y.v=.agg [.bool y.neg,.ro 1 (Av y.mag)]:=rfl;rw [ex]at p1 m1;rw [ey]at n m2;clear ea eb ex ey hv u z aa k s;generalize Av (B1 (Bd d*Bd e))=nv at m5 i j;generalize Av x.mag=xv,Av y.mag=yv,Av d=ag,Av e=al,Av a.num.mag=av,Av b.num.mag=bv,Av a.den=ai,Av b.den=ak at*;refine Ax func259 fun w0 N0=>?_;refine Aa [2,3,4] [2,3,4] sr (Ab (Ad (Am 1 sr ?_)));refine Ah p1 func86 ?_ (hp:=by simpa using pa);refine Af [3,4,5,6] [3,4,5] sr ?_;refine Ab (Ad (Am 1 sr ?_));refine Ah n func86 ?_ (hp:=by simpa using pb);refine Af [4,5,6,7,8] [4,5,7] sr ?_;refine Ab (C5 [(1,[]),(2,[]),(5,[]),(0,[9]),(3,[]),(6,[]),(4,[9]),(7,[]),(8,[]),(9,[]),(10,[])] Ds kr ?_);refine Cf 1 sr ?_;refine Bu (fun h=>w2) func134 rfl kr rfl rfl sr rfl rfl sr (by simp) sr ?_;refine Cf 2 sr ?_;refine Bu (fun h=>m1) func133 rfl kr rfl rfl sr rfl rfl sr (by simp) sr ?_;refine Bu (fun h=>w1) func134 rfl kr rfl rfl sr rfl rfl sr (by simp) sr ?_;refine Cf 1 sr ?_;refine Bu (fun h=>m2) func133 rfl kr rfl rfl sr rfl rfl sr (by simp) sr ?_;refine Bu (fun h=>m4) func225 rfl kr rfl rfl sr rfl rfl sr (by simp) sr ?_;refine C6 [4,6,8,9] [4,9] sr ?_;refine Ab (C5 [(1,[]),(2,[]),(3,[]),(0,[]),(4,[]),(5,[])] Ds kr ?_);refine Cf 2 sr ?_;refine Bu (fun h=>m5) func172 rfl kr rfl rfl sr rfl rfl sr (by simp) sr ?_;refine Cf 1 sr ?_;refine Bu (fun h=>i) func170 rfl kr rfl rfl sr rfl rfl sr (by simp) sr ?_;refine C6 [4] [4] sr ?_;exact Aj (Ac sr rfl)
theorem Qc(a b:RR)(h1:a.ok 137438953472)(h2:b.ok 137438953472):AC prog 89 [a.v,b.v] (fun r=>r=.int .i64 (M1 a.val b.val)):=by
 have w:=Lx a h1.lim;have j:=Lx b h2.lim;have f:=RR.p_ok h1 dc;have e:=RR.p_ok h2 dc;have e1:=RR.p_val a;have e2:=RR.p_val b;have d1:=RR.p_ne a;have d2:=RR.p_ne b;rw [pV]at w j;have pa:=RR.vp a;have pb:=RR.vp b;have ea:a.v=.agg [.bool a.num.neg,.ro 1 (Av a.num.mag),.ro 1 (Av a.den)]:=rfl;have eb:b.v=.agg [.bool b.num.neg,.ro 1 (Av b.num.mag),.ro 1 (Av b.den)]:=rfl;rw [ea]at w pa|-;rw [eb]at j pb|-;rw [<- e1,<- e2];generalize a.p=a' at*;generalize b.p=b' at*;clear e1 e2 h1 h2;obtain⟨x,c⟩:=a';obtain⟨y,d⟩:=b';simp only at w j d1 d2;have l1:=Ai (Kg f.lim) f.len;have l2:=Ai (Kg e.lim) e.len;have z1:Nf (Bd c:Int)<=137438953472:=by rw [Nf,Ek];exact l1
 have z2:Nf (Bd d:Int)<=137438953472:=by rw [Nf,Ek];exact l2
 have w1:=Rb c f.lim (Ai f.len dc);have w2:=Rb d e.lim (Ai e.len dc);have t:=N8 x (nI (Bd d)) ⟨f.num.1,Ai f.num.2 dc⟩ (Gx (Ai z2 dc));have o:=N8 y (nI (Bd c)) ⟨e.num.1,Ai e.num.2 dc⟩ (Gx (Ai z1 dc));rw [If]at t o;have s:=A34 (nI (x.val*(Bd d:Int))) (nI (y.val*(Bd c:Int))) (Cn _) (Cn _);rw [If,If]at s;show AC _ _ _ (fun r=>r=.int .i64 (M1 (mkRat x.val (Bd c)) (mkRat y.val (Bd d))))
 rw [Arx d1 d2];generalize cmpI (x.val*(Bd d:Int)) (y.val*(Bd c:Int))=af at s|-;obtain⟨c2,ad,l,h⟩:=D8 (x.val*(Bd d:Int));rw [l]at t s;obtain⟨c3,ae,n,m⟩:=D8 (y.val*(Bd c:Int));rw [n]at o s;obtain⟨c5,ah,g,u⟩:=D8 (Bd c:Int);rw [g]at w1 o;obtain⟨c6,al,k,i⟩:=D8 (Bd d:Int);rw [k]at w2 t;have hx:=Ak x.mag;have hy:=Ak y.mag;have aa:=Ak c;have ab:=Ak d;have ex:x.v=.agg [.bool x.neg,.ro 1 (Av x.mag)]:=rfl;have ey:y.v=.agg [.bool y.neg,.ro 1 (Av y.mag)]:=rfl;rw [ex]at w t;rw [ey]at j o;clear ea eb ex ey l n g k;generalize Av x.mag=xv,Av y.mag=yv,Av c=ag,Av d=ak,Av a.num.mag=av,Av b.num.mag=bv,Av a.den=ai,Av b.den=aj at*;refine Ax func89 fun w0 N0=>?_;refine Aa [2,3] [2,3] sr (Ab (Ad (Am 1 sr ?_)));refine Ah w func86 ?_ (hp:=by simpa using pa);refine Af [3,5,6] [3,5] sr ?_;refine Ab (Ad (Am 1 sr ?_));refine Ah j func86 ?_ (hp:=by simpa using pb);refine Af [5,6,7,8] [5,7] sr ?_;refine Ab (C5 [(1,[]),(2,[]),(5,[]),(0,[]),(3,[]),(6,[]),(4,[]),(7,[]),(8,[]),(9,[])] Ds kr ?_);refine Cf 1 sr ?_;refine Bu (fun z=>w2) func134 rfl kr rfl rfl sr rfl rfl sr (by simp) sr ?_;refine Cf 2 sr ?_;refine Bu (fun z=>t) func133 rfl kr rfl rfl sr rfl rfl sr (by simp) sr ?_;refine Bu (fun z=>w1) func134 rfl kr rfl rfl sr rfl rfl sr (by simp) sr ?_;refine Cf 1 sr ?_;refine Bu (fun z=>o) func133 rfl kr rfl rfl sr rfl rfl sr (by simp) sr ?_;refine Bu (fun z=>s) func132 rfl kr rfl rfl sr rfl rfl sr (by simp) sr ?_;refine C6 [4] [] sr ?_;exact Aj (Ac sr rfl)
theorem Alv(a:RR)(h1:D6 a.den)(h2:D6 a.num.mag):AC prog 57 [a.v] (fun r=>r=.int .i64 (Aat a.val)):=by
 have d:=Lx a h1;have k:=RR.p_val a;have h:=RR.p_ne a
 have c:D6 a.p.num.mag:=by
  unfold RR.p
  split
  ·simp [D6]
  ·exact h2
 rw [pV]at d;have e:=RR.vp a;have f:a.v=.agg [.bool a.num.neg,.ro 1 (Av a.num.mag),.ro 1 (Av a.den)]:=rfl;rw [f]at d e|-;rw [<- k];generalize a.p=o at*;obtain⟨x,g⟩:=o;simp only at d h c;have m:=Xv x c;show AC _ _ _ (fun r=>r=.int .i64 (Aat (mkRat x.val (Bd g))))
 rw [Ay4 h];have i:=Ak x.mag;have ex:x.v=.agg [.bool x.neg,.ro 1 (Av x.mag)]:=rfl;rw [ex]at d m;clear f ex;generalize Av x.mag=xv,Av g=j,Av a.num.mag=av,Av a.den=l,Gu x.val=n at*;refine Ax func57 fun w0 N0=>?_;refine Aa [1] [1] sr (Ab (Ad (Am 1 sr ?_)));refine Ah d func86 ?_ (hp:=by simpa using e);refine Af [3] [3] sr ?_;refine Ab (Ad (Am 1 sr ?_));refine Ah m func87 ?_;refine Af [2] [] sr ?_;exact Aj (Ac sr rfl)
theorem A36(a:RR)(h1:a.ok 1099511627776):AC prog 260 [a.v] (fun r=>r=(nR (-a.val)).v):=by
 have h:=Lx a h1.lim;have i:=RR.p_ok h1 dc;have m:=RR.p_val a;have s:=RR.p_ne a;rw [pV]at h;have l:=RR.vp a;have o:a.v=.agg [.bool a.num.neg,.ro 1 (Av a.num.mag),.ro 1 (Av a.den)]:=rfl;rw [o]at h l|-;rw [<- m];generalize a.p=a' at*;clear m h1;obtain⟨x,e⟩:=a';simp only at h s;have k:=Ar1 x i.num;have d:=Ra (nI (-x.val)) e (Gx (by rw [Nf,Nb];exact RI.sz i.num)) i.lim i.len s;rw [If,<- Rat.neg_mkRat]at d;show AC _ _ _ (fun r=>r=(nR (-mkRat x.val (Bd e))).v)
 generalize -mkRat x.val (Bd e)=q at d|-;obtain⟨c,lw,dw,n,aa,y⟩:=Kw q;rw [n]at d|-;obtain⟨c2,t,g,f⟩:=D8 (-x.val);rw [g]at k d;have z:=Ak x.mag;have j:=Ak e;have ex:x.v=.agg [.bool x.neg,.ro 1 (Av x.mag)]:=rfl;rw [ex]at h k;clear o ex n g;generalize Av x.mag=xv,Av e=u,Av a.num.mag=av,Av a.den=w at*;refine Ax func260 fun w0 N0=>?_;refine Aa [1,2] [1,2] sr (Ab (Ad (Am 1 sr ?_)));refine Ah h func86 ?_ (hp:=by simpa using l);refine Af [2,3,4] [2,3] sr ?_;refine Ab (Ad (Am 1 sr ?_));refine Ah k func292 ?_;refine Am 1 sr ?_;refine Ah d func170 ?_;refine Af [2] [2] sr ?_;exact Aj (Ac sr rfl)
theorem Ai4(q:Rat):Ox (-q)=Ox q:=by rw [Ox,Ox,Rat.neg_num,Rat.neg_den,Nf,Nf,Nb]
theorem A37(a b:RR)(h1:a.ok 68719476736)(h2:b.ok 68719476736):AC prog 227 [a.v,b.v] (fun r=>r=(nR (a.val-b.val)).v):=by
 have i:=A36 b ⟨⟨h2.num.1,Ai h2.num.2 dc⟩,h2.lim,Ai h2.len dc⟩;have d:=Ar3 a (nR (-b.val)) h1 (Mj (by rw [Ai4];exact RR.sz h2 dc));rw [Ln,<- Rat.sub_eq_add_neg]at d;have o:=RR.vp a;have t:=RR.vp b;obtain⟨c,lw,dw,l,z,w⟩:=Kw (a.val-b.val);obtain⟨c2,s,aa,f,e,g⟩:=Kw (-b.val);rw [l]at d|-;rw [f]at i d;have m:a.v=.agg [.bool a.num.neg,.ro 1 (Av a.num.mag),.ro 1 (Av a.den)]:=rfl;have k:b.v=.agg [.bool b.num.neg,.ro 1 (Av b.num.mag),.ro 1 (Av b.den)]:=rfl;rw [m]at d o|-;rw [k]at i t|-;have x:=Ak a.num.mag;have hy:=Ak b.num.mag;have h:=Ak a.den;have j:=Ak b.den;clear m k l f;generalize Av a.num.mag=av,Av b.num.mag=bv,Av a.den=u,Av b.den=y at*;refine Ax func227 fun w0 N0=>?_;refine Aa [2,3,4] [2,3,4] sr (Ab (C5 [(0,[]),(1,[]),(2,[]),(3,[]),(4,[])] Ds kr ?_));refine Cf 2 sr ?_;refine Bu (fun n=>i) func260 rfl kr rfl rfl sr rfl rfl sr (by simp) sr ?_;refine Bu (fun n=>d) func259 rfl kr rfl rfl sr rfl rfl sr (by simp) sr ?_;refine C6 [4] [4] sr ?_;exact Aj (Ac sr rfl)
theorem A38:(nR 0).v=.agg [.bool false,.ro 1 [],.ro 1 (Av (B1 1))]:=by
 have h:nR 0=⟨nI 0,B1 1⟩:=rfl;rw [h,RR.v];simp [nI,Ea]
theorem A39:AC prog 169 [] (fun r=>r=(nR 0).v):=by
 refine AC.relaxP ?_;have a:=Ada 1 dc;rw [A38];generalize Av (B1 1)=ov at a|-;refine Ax func169 fun w0 N0=>?_;refine Aa [0] [0] sr (Ab (Ad (Ah a func129 ?_)));refine Af [0] [0] sr ?_;refine Aj (Ac sr ?_);exact Bi.agg (.cons (Bi.refl _) (.cons (nils_ro 1) (.cons (Bi.refl _) .nil)))
theorem A4a{b:Bool}{n d:Nat}(h:d≠0):mkRat (n:Int) d=Q7 (mkRat (sgn b n) d):=by
 have e:(0:Rat)=mkRat 0 1:=by rw [P1]
 have a:mkRat (sgn b n) d<0↔sgn b n<0:=by rw [e,Ay3 h Go.dc];simp
 unfold Q7
 by_cases hs:sgn b n<0
 ·rw [if_pos (a.2 hs),Rat.neg_mkRat]
  congr 1
  cases b
  ·simp [sgn]at hs;omega
  ·simp [sgn]
 ·rw [if_neg (fun h=>hs (a.1 h))]
  congr 1
  cases b
  ·simp [sgn]
  ·simp only [sgn,if_true]at hs|-;omega
theorem A4b(a:RR)(h1:a.ok 1099511627776):AC prog 226 [a.v] (fun r=>r=(nR (Q7 a.val)).v):=by
 have i:=Lx a h1.lim;have d:=RR.p_ok h1 dc;have m:=RR.p_val a;have k:=RR.p_ne a;rw [pV]at i;have l:=RR.vp a;have o:a.v=.agg [.bool a.num.neg,.ro 1 (Av a.num.mag),.ro 1 (Av a.den)]:=rfl;rw [o]at i l|-;rw [<- m];generalize a.p=a' at*;clear m h1;obtain⟨x,f⟩:=a';simp only at i k;have s:=Rb x.mag d.num.lim d.num.len;have hl:Nf (Bd x.mag:Int)<=1099511627776:=by rw [Nf,Ek];exact Ai (Kg d.num.lim) d.num.len
 have e:=Ra (nI (Bd x.mag)) f (Gx hl) d.lim d.len k;rw [If,A4a (b:=x.neg) k]at e;show AC _ _ _ (fun r=>r=(nR (Q7 (mkRat (sgn x.neg (Bd x.mag)) (Bd f)))).v)
 generalize Q7 (mkRat (sgn x.neg (Bd x.mag)) (Bd f))=q at e|-;obtain⟨c,lw,dw,n,aa,y⟩:=Kw q;rw [n]at e|-;obtain⟨c2,t,h,g⟩:=D8 (Bd x.mag);rw [h]at s e;have z:=Ak x.mag;have j:=Ak f;have ex:x.v=.agg [.bool x.neg,.ro 1 (Av x.mag)]:=rfl;rw [ex]at i;clear o ex n h;generalize Av x.mag=xv,Av f=u,Av a.num.mag=av,Av a.den=w at*;refine Ax func226 fun w0 N0=>?_;refine Aa [1,2] [1,2] sr (Ab (Ad (Am 1 sr ?_)));refine Ah i func86 ?_ (hp:=by simpa using l);refine Af [2,3,4] [2,3] sr ?_;refine Ab (Ad (Am 2 sr ?_));refine Ah s func134 ?_;refine Am 1 sr ?_;refine Ah e func170 ?_;refine Af [2] [2] sr ?_;exact Aj (Ac sr rfl)
def Nw(x y:Int):V:=if y=0 then .tup [(nR 0).v,.bool false]else .tup [(nR (mkRat (x*Gu y) y.natAbs)).v,.bool true]
theorem Apx(y:Int):Gu y=0↔y=0:=by unfold Gu;(repeat' split)<;>omega
theorem Alw(b c:Bool)(n m:Nat)(h:sgn c m≠0):sgn (b != c) n=sgn b n*Gu (sgn c m):=by
 have:Gu (sgn c m)=sgn c 1:=by
  unfold Gu sgn at*;cases c<;>simp at h|-<;>omega
 rw [this,Arw,F0]
theorem Xx(a b:RI)(h1:a.ok 1099511627776)(h2:b.ok 1099511627776):AC prog 130 [a.v,b.v] (fun r=>r=Nw a.val b.val):=by
 have e:=Xv b h2.lim;have y:=A39;have i:=Abo (a.neg != b.neg) a.mag h1.lim h1.len;have o:=Ak a.mag;have g:=Ak b.mag;obtain⟨p,l⟩:=a;obtain⟨q,m⟩:=b;simp only at i o g;have e1:(RI.mk p l).v=.agg [.bool p,.ro 1 (Av l)]:=rfl;have e2:(RI.mk q m).v=.agg [.bool q,.ro 1 (Av m)]:=rfl;have e3:(RI.mk p l).val=sgn p (Bd l):=rfl;have z:(RI.mk q m).val=sgn q (Bd m):=rfl;rw [e2,z]at e;rw [e1,e2,e3,z];have k:=Apx (sgn q (Bd m))
 by_cases d:sgn q (Bd m)=0
 ·rw [Nw,if_pos d];rw [k.2 d]at e;obtain⟨c,lw,dw,w,x,u⟩:=Kw 0;rw [w]at y|-;generalize Av l=lv at o|-;generalize Av m=mv at g e|-;refine Ax func130 fun w0 N0=>?_;refine Aa [2,3,4] [2,3,4] sr (Ab (Ab (Ad (Am 1 sr ?_))));refine Ah e func87 ?_;refine Af [2,3,4,8] [2,3,4] sr ?_;refine A7 rfl (fun h1=>?_) (fun h1=>by cases h1);refine Ab (Ad (Ah y func169 ?_));refine Af [4,5] [4] sr ?_;exact Aj (Ac sr rfl)
 ·rw [Nw,if_neg d];have s:Bd m≠0:=by intro h;rw [h]at d;exact d (by unfold sgn;split<;>rfl)
  have f:=Ra (nI (sgn (p != q) (Bd l))) m (Gx (by rw [Nf,Ux];exact Ai (Kg h1.lim) h1.len)) h2.lim h2.len s;rw [If,Alw p q _ _ d]at f;rw [Alw p q _ _ d]at i;rw [Ux];have n:Gu (sgn q (Bd m))≠0:=fun h=>d (k.1 h)
  obtain⟨c2,aa,t,j⟩:=D8 (sgn p (Bd l)*Gu (sgn q (Bd m)));rw [t]at i f;generalize mkRat (sgn p (Bd l)*Gu (sgn q (Bd m))) (Bd m)=qq at f|-;obtain⟨c,lw,dw,w,x,u⟩:=Kw qq;rw [w]at f|-;generalize Gu (sgn q (Bd m))=sg at e n;generalize Av l=lv at o i|-;generalize Av m=mv at g e f|-;refine Ax func130 fun w0 N0=>?_;refine Aa [2,3,4] [2,3,4] sr (Ab (Ab (Ad (Am 1 sr ?_))));refine Ah e func87 ?_;refine Af [2,3,4,8] [2,3,4] (by simp [n]<;>rfl) ?_;refine A7 rfl (fun h1=>by cases h1) (fun h1=>Ae (Ab (C5 [(0,[]),(2,[]),(5,[]),(8,[]),(1,[]),(3,[]),(4,[]),(6,[]),(7,[]),(9,[]),(10,[]),(11,[]),(12,[])] Ds kr ?_)));refine Cf 8 sr ?_;refine Bu (c:=true) (fun hg=>i) func171 rfl kr rfl rfl sr rfl rfl (by cases p<;>cases q<;>rfl) (by simp) sr ?_;refine Cf 1 sr ?_;refine Bu (fun hg=>f) func170 rfl kr rfl rfl sr rfl rfl sr (by simp) sr ?_;refine C6 [4,5] [4] sr ?_;exact Aj (Ac sr rfl)
theorem La{z:Int}(h1: -18446744073709551616<=z)(h2:z<=18446744073709551616):Nf z<=3:=Er (m:=3) om
theorem Ai5(x y:Int):∃c a d b,Nw x y=.tup [.agg [.bool c,.ro 1 a,.ro 1 d],.bool b]/\a.all V.pureE=true/\d.all V.pureE=true:=by
 unfold Nw
 split
 ·exact⟨_,_,_,_,rfl,Ak _,Ak _⟩
 ·exact⟨_,_,_,_,rfl,Ak _,Ak _⟩
theorem Tn(x y:Int)(h1: -9223372036854775808<=x)(h2:x<9223372036854775808)(l: -9223372036854775808<=y)(s:y<9223372036854775808):AC prog 88 [.int .i64 x,.int .i64 y] (fun r=>r=Nw x y):=by
 have k:=Apw x h1 h2;have h:=Apw y l s;have a:=Xx (nI x) (nI y) (Gx (Ai (La om om) dc)) (Gx (Ai (La om om) dc));rw [If,If]at a;obtain⟨c,lw,m,e⟩:=D8 x;obtain⟨c2,n,f,d⟩:=D8 y;obtain⟨c3,o,t,b3,g,j,i⟩:=Ai5 x y;rw [m]at k a;rw [f]at h a;rw [g]at a|-;refine Ax func88 fun w0 N0=>?_;refine Aa [0,1,4] [4] sr (Ab (Ad (Am 1 sr ?_)));refine Ah k func131 ?_;refine Am 1 sr ?_;refine Ah h func131 ?_;refine Ah a func130 ?_;refine Af [4,5] [4] sr ?_;exact Aj (Ac sr rfl)
def To(z:Int):V:=if -9223372036854775808<=z/\z<=9223372036854775807 then .tup [.int .i64 z,.bool true]else .tup [.int .i64 0,.bool false]
theorem Aut(x:Int):IntKind.i64.wrap x=(x+9223372036854775808)%18446744073709551616-9223372036854775808:=by rw [IntKind.wrap_i64]
theorem Azf(a:RI)(h:D6 a.mag):AC prog 229 [a.v] (fun r=>r=To a.val):=by
 obtain⟨b,l⟩:=a;simp only at h;have c:=A33 l h _ rfl;have hp:=Ak l;have j:(RI.mk b l).v=.agg [.bool b,.ro 1 (Av l)]:=rfl;have i:(RI.mk b l).val=sgn b (Bd l):=rfl;rw [j,i];generalize Av l=lv at c hp|-;generalize Bd l=n at c|-
 by_cases g:n<18446744073709551616
 ·rw [if_pos g]at c
  cases b
  ·refine Ax func229 fun w0 N0=>?_;refine Aa [1] [1] sr (Ab (Ad (Am 2 sr ?_)));refine Ah c func262 ?_;refine Af [1,4,5] [1] sr ?_;refine Ab (Aa [1,4,13] [1] sr ?_);refine A7 rfl (fun h1=>by cases h1) (fun h1=>Ae (Ab (Aa [4,15] [] sr ?_)));refine A7 rfl (fun h2=>by cases h2) (fun h2=>Ae (Ab (Aa [4,22] [] sr ?_)))
   refine Ao (fun e=>?_) fun e=>Ae ?_
   ·refine Aa [2,3] [] sr ?_;refine Aj (Ac sr ?_);simp at e;rw [To,if_neg (by simp only [sgn];rw [if_neg Go.dc];omega)]
   ·simp at e;have f:IntKind.i64.wrap (n:Int)=n:=Bh om om;refine Aa [2,3] [] (by simp [f]<;>rfl) ?_;refine Aj (Ac sr ?_);rw [To,if_pos (by simp only [sgn];rw [if_neg Go.dc];omega)];rfl
  ·have hw0:IntKind.i64.wrap (IntKind.u64.wrap (-(n:Int)))= -(n:Int)\/9223372036854775808<n:=by
    rw [Aut,K8];omega
   refine Ax func229 fun w0 N0=>?_;refine Aa [1] [1] sr (Ab (Ad (Am 2 sr ?_)));refine Ah c func262 ?_;refine Af [1,4,5] [1] sr ?_;refine Ab (Aa [1,4,13] [1] sr ?_);refine A7 rfl (fun h1=>by cases h1) (fun h1=>Ae (Ab (Aa [4,15] [] sr ?_)));refine A7 rfl (fun h2=>?_) (fun h2=>by cases h2);refine Ab (Aa [4,17] [] sr ?_)
   refine Ao (fun d=>?_) fun d=>Ae ?_
   ·simp at d;refine Aa [2,3] [] sr ?_;refine Aj (Ac sr ?_);rw [To,if_neg (by simp only [sgn,if_true];omega)]
   ·simp at d;have f:=hw0.resolve_right om;refine Aa [2,3] [] (by simp [f]<;>rfl) ?_;refine Aj (Ac sr ?_);rw [To,if_pos (by simp only [sgn,if_true];omega)];rfl
 ·rw [if_neg g]at c;refine Ax func229 fun w0 N0=>?_;refine Aa [1] [1] sr (Ab (Ad (Am 2 sr ?_)));refine Ah c func262 ?_;refine Af [1,4,5] [1] sr ?_;refine Ab (Aa [1,4,13] [1] sr ?_);refine A7 rfl (fun h1=>?_) (fun h1=>by cases h1);refine Aa [2,3] [] sr ?_;refine Aj (Ac sr ?_);rw [To,if_neg (by unfold sgn;split<;>omega)]
theorem Azg{n d:Nat}(b:Bool)(hd:0<d)(h:b=false\/n%d=0):sgn b (n/d)=sgn b n/(d:Int)/\sgn b (n%d)=sgn b n%(d:Int):=by
 cases b
 ·exact⟨by simp [sgn],by simp [sgn]⟩
 ·have c:n%d=0:=by simpa using h
  have f:n=d*(n/d):=by have:=Gq n d;omega
  have e:=(Int.ediv_emod_unique (a:=sgn true n) (b:=(d:Int)) (r:=sgn true (n%d)) (q:=sgn true (n/d)) om).2 ⟨by
   rw [c];simp only [sgn,if_true]
   conv=>rhs;rw [f]
   rw [E7,Ug];simp,by rw [c];simp [sgn],by rw [c];simp [sgn];omega⟩
  exact⟨e.1.symm,e.2.symm⟩
theorem Azh{n d:Nat}(g:0<d)(h:n%d≠0):sgn true (n/d+1)=sgn true n/(d:Int)/\sgn false (d-n%d)=sgn true n%(d:Int):=by
 have e:=C9 n g;have c:=Gq n d
 have f:=(Int.ediv_emod_unique (a:=sgn true n) (b:=(d:Int)) (r:=sgn false (d-n%d)) (q:=sgn true (n/d+1)) om).2 ⟨by
   simp only [sgn,if_true];rw [if_neg Go.dc];generalize n/d=q at c|-;generalize n%d=r at c e|-;subst c;rw [Ug,C8,C8,E7,Int.mul_add];omega,by simp only [sgn];rw [if_neg Go.dc];omega,by simp only [sgn];rw [if_neg Go.dc];omega⟩
 exact⟨f.1.symm,f.2.symm⟩
theorem Auu(b:Bool)(j i e a:List V)(k:Nat)(A B:V)(c1 w:Bool)(u x:List V)(o:A=.agg [.bool c1,.ro 1 u])(t:B=.agg [.bool w,.ro 1 x])(s:AC prog 104 [.ro 1 j,.ro 1 i] (fun r=>r=.tup [.ro 1 e,.ro 1 a,.bool true]))
  (l:j.all V.pureE=true)(g:i.all V.pureE=true)(c:e.all V.pureE=true)(d:a.all V.pureE=true)(hl:a.length=k)(f:b=false\/k=0)
  (z:AC prog 171 [.bool b,.ro 1 e] (fun r=>r=A))(y:AC prog 171 [.bool b,.ro 1 a] (fun r=>r=B)):
  AC prog 263 [.agg [.bool b,.ro 1 j],.agg [.bool false,.ro 1 i]] (fun r=>r=.tup [A,B,.bool true]):=by
 subst o;subst t;refine Ax func263 fun w0 N0=>?_;refine Aa [2,3,4,5] [2,3,4,5] sr (Ab (Ad (Am 4 sr ?_)));refine Ah s func104 ?_;refine Af [2,3,4,5,7,8,9] [2,3,4,5] sr ?_;refine Ab (Aa [2,3,4,5,7,8,20] [2,3,4,5] sr ?_);refine A7 rfl (fun h1=>by cases h1) fun h1=>Ae (Ab ?_);have n:b=true->k=0:=fun h=>f.resolve_left (by rw [h];decide)
 cases b
 all_goals
  refine Aa [2,3,4,5,7,8,32] [2,3,4,5] (by simp [hl,n]<;>rfl) ?_;refine A7 rfl (fun h2=>?_) (fun h2=>by cases h2);refine Ab (C5 [(0,[]),(2,[]),(5,[]),(7,[]),(9,[]),(1,[]),(3,[]),(4,[]),(6,[]),(8,[]),(10,[]),(11,[]),(12,[]),(13,[])] Ds kr ?_);refine Cf 8 sr ?_;refine Bu (fun m=>z) func171 rfl kr rfl rfl sr rfl rfl sr (by simp) sr ?_;refine Cf 1 sr ?_;refine Bu (fun m=>y) func171 rfl kr rfl rfl sr rfl rfl sr (by simp) sr ?_;refine C6 [4,5,6] [4,5] sr ?_;exact Aj (Ac sr rfl)
theorem Auv(n e i d l a s:List V)(k:Nat)(A B:V)(c1 c2:Bool)(w1 w2:List V)(x:A=.agg [.bool c1,.ro 1 w1])(z:B=.agg [.bool c2,.ro 1 w2])(y:AC prog 104 [.ro 1 n,.ro 1 e] (fun r=>r=.tup [.ro 1 i,.ro 1 d,.bool true]))
  (o:n.all V.pureE=true)(c:e.all V.pureE=true)(g:i.all V.pureE=true)(h:d.all V.pureE=true)(f:l.all V.pureE=true)(m:a.all V.pureE=true)(j:s.all V.pureE=true)(hl:d.length=k)(u:k≠0)
  (ho:AC prog 129 [.int .u64 1] (fun r=>r=.ro 1 l))(w:AC prog 257 [.ro 1 i,.ro 1 l] (fun r=>r=.ro 1 a))(hs:AC prog 258 [.ro 1 e,.ro 1 d] (fun r=>r=.tup [.ro 1 s,.bool true]))
  (m1:AC prog 171 [.bool true,.ro 1 a] (fun r=>r=A))(m2:AC prog 171 [.bool false,.ro 1 s] (fun r=>r=B)):
  AC prog 263 [.agg [.bool true,.ro 1 n],.agg [.bool false,.ro 1 e]] (fun r=>r=.tup [A,B,.bool true]):=by
 subst x;subst z;refine Ax func263 fun w0 N0=>?_;refine Aa [2,3,4,5] [2,3,4,5] sr (Ab (Ad (Am 4 sr ?_)));refine Ah y func104 ?_;refine Af [2,3,4,5,7,8,9] [2,3,4,5] sr ?_;refine Ab (Aa [2,3,4,5,7,8,20] [2,3,4,5] sr ?_);refine A7 rfl (fun h1=>by cases h1) (fun h1=>Ae (Ab (Aa [2,3,4,5,7,8,32] [2,3,4,5] (by simp [hl,u]<;>rfl) ?_)));refine A7 rfl (fun h2=>by cases h2) (fun h2=>Ae (Ab (Ad (Am 1 sr ?_))));refine Ah ho func129 ?_;refine Ah w func257 ?_;refine Af [3,4,5,7,8] [3,4,5] sr ?_;refine Ab (Ad (Am 3 sr ?_));refine Ah hs func258 ?_;refine Af [3,4,5,7,8] [3,4,5] sr ?_;refine Ab (C5 [(0,[]),(1,[]),(2,[]),(4,[]),(3,[]),(5,[]),(6,[]),(7,[]),(8,[])] Ds kr ?_);refine Cf 1 sr ?_;refine Bu (fun t=>m1) func171 rfl kr rfl rfl sr rfl rfl sr (by simp) sr ?_;refine Cf 3 sr ?_;refine Bu (fun t=>m2) func171 rfl kr rfl rfl sr rfl rfl sr (by simp) sr ?_;refine C6 [4,5,6] [4,5] sr ?_;exact Aj (Ac sr rfl)
theorem A4c(a:RI)(m:List Nat)(h1:a.ok 274877906944)(h2:D6 m)(h3:m.length<=274877906944)(j:Bd m≠0):AC prog 263 [a.v,(RI.mk false m).v] (fun r=>r=.tup [(nI (a.val/(Bd m:Int))).v,(nI (a.val%(Bd m:Int))).v,.bool true]):=by
 obtain⟨b,l⟩:=a;obtain⟨h1,k1⟩:=h1;simp only at h1 k1;have n:=Q9 l m h1 h2 om;rw [Ai2,if_neg j,Tm,Tm]at n;have i:=Ak l;have g:=Ak m;have e:=Ak (B1 (Bd l/Bd m));have f:=Ak (B1 (Bd l%Bd m));have l1:=Ai (Kg h1) k1;have l2:=Ai (Kg h2) h3;have lq:(B1 (Bd l/Bd m)).length<=274877906944:=Ai (Ry (Hd _ _)) l1;have lr:(B1 (Bd l%Bd m)).length<=274877906944:=Ai (Ry (Nat.mod_le _ _)) l1;have hl:(Av (B1 (Bd l%Bd m))).length=(B1 (Bd l%Bd m)).length:=sm;have hz:(B1 (Bd l%Bd m)).length=0↔Bd l%Bd m=0:=by rw [Aq];exact Tg
 show AC _ _ [.agg [.bool b,.ro 1 (Av l)],.agg [.bool false,.ro 1 (Av m)]] (fun r=>r=.tup [(nI (sgn b (Bd l)/(Bd m:Int))).v,(nI (sgn b (Bd l)%(Bd m:Int))).v,.bool true])
 by_cases k:b=false\/Bd l%Bd m=0
 ·obtain⟨s,w⟩:=Azg b (Hm j) k;rw [<- s,<- w];obtain⟨x,o,c,_⟩:=D8 (sgn b (Bd l/Bd m));obtain⟨t,u,d,_⟩:=D8 (sgn b (Bd l%Bd m));exact Auu b _ _ _ _ _ _ _ x t o u c d n i g e f hl (k.imp id hz.2) (Jo b _ om) (Jo b _ om)
 ·have hb:b=true:=by cases b<;>simp at k|-
  subst hb;have z:Bd l%Bd m≠0:=fun h=>k (.inr h)
  obtain⟨s,w⟩:=Azh (Hm j) z;rw [<- s,<- w];obtain⟨x,o,c,_⟩:=D8 (sgn true (Bd l/Bd m+1));obtain⟨t,u,d,_⟩:=D8 (sgn false (Bd m-Bd l%Bd m));have y:=Apr (B1 (Bd l/Bd m)) (B1 1) (Cn _) (Cn _) om (by rw [Aiz];decide);rw [Cv,Cv]at y;have hs:=Apt m (B1 (Bd l%Bd m)) h2 (Cn _) om om;rw [Cv,Aps,if_pos (Ho (C9 _ (Hm j)))]at hs;have l5:=Abn lq (show(B1 1).length<=1 by rw [Aiz];decide);exact Auv _ _ _ _ _ _ _ _ _ _ x t o u c d n i g e f (Ak _) (Ak _) (Ak _) hl (fun h=>z (hz.1 h)) (Ada 1 dc) y hs (Jo true _ om) (Jo false _ (Ai (Ry (Ww _ _)) om))
theorem Azi(b:Bool)(n d:Nat)(h:d≠0):(mkRat (sgn b n) d).floor=sgn b n/(d:Int):=by
 obtain⟨h1,h2⟩:=Tj b n d h;rw [Rat.floor_def,h1,h2];have f:n.gcd d≠0:=fun e=>h (Nat.gcd_eq_zero_iff.1 e).2
 obtain⟨c,i⟩:=Nat.gcd_dvd_left n d;obtain⟨d',j⟩:=Nat.gcd_dvd_right n d;generalize n.gcd d=g at*;subst i;subst j;have a:0<g:=Hm f;rw [Js _ a,Js _ a];have e:sgn b (g*c)=(g:Int)*sgn b c:=by unfold sgn;cases b<;>simp [Ug]
 rw [e,E7,Int.mul_ediv_mul_of_pos _ _ Go.om]
theorem Auw(a:RR)(h1:a.ok 274877906944):AC prog 230 [a.v] (fun r=>r=(nI a.val.floor).v):=by
 have i:=Lx a h1.lim;have j:=RR.p_ok h1 dc;have y:=RR.p_val a;have o:=RR.p_ne a;rw [pV]at i;have s:=RR.vp a;have z:a.v=.agg [.bool a.num.neg,.ro 1 (Av a.num.mag),.ro 1 (Av a.den)]:=rfl;rw [z]at i s|-;rw [<- y];generalize a.p=a' at*;clear y h1;obtain⟨x,d⟩:=a';simp only at i o;have w:=Rb d j.lim (Ai j.len dc)
 have n:nI (Bd d)=⟨false,B1 (Bd d)⟩:=by
  rw [nI,Ek];congr 1
 have f:=A4c x (B1 (Bd d)) j.num (Cn _) (Ai (Kg j.lim) j.len) (by rw [Cv];exact o);rw [<- n,Cv]at f;show AC _ _ _ (fun r=>r=(nI (mkRat (sgn x.neg (Bd x.mag)) (Bd d)).floor).v)
 rw [Azi _ _ _ o];have t:x.val=sgn x.neg (Bd x.mag):=rfl;rw [t]at f;obtain⟨c,lw,m,af⟩:=D8 (sgn x.neg (Bd x.mag)/(Bd d:Int));obtain⟨c3,ab,h,u⟩:=D8 (sgn x.neg (Bd x.mag)%(Bd d:Int));obtain⟨c2,aa,e,g⟩:=D8 (Bd d:Int);rw [m,e,h]at f;rw [e]at w;rw [m];have hx:=Ak x.mag;have l:=Ak d;have ex:x.v=.agg [.bool x.neg,.ro 1 (Av x.mag)]:=rfl;rw [ex]at i f;clear z ex m e h t;generalize Av x.mag=xv,Av d=ad,Av a.num.mag=av,Av a.den=ae at*;refine Ax func230 fun w0 N0=>?_;refine Aa [1,2] [1,2] sr (Ab (Ad (Am 1 sr ?_)));refine Ah i func86 ?_ (hp:=by simpa using s);refine Af [2,3,4] [2,3] sr ?_;refine Ab (Abk (.take 1 [] (.take 2 [] (.take 0 [5,6] (.take 3 [] (.take 4 [] (.take 5 [] (.take 6 [] (.take 7 [] (.alt 8 (.take 9 [] (.take 10 [] (.take 11 [] (.take 12 [] .done)))) (.alt 9 (.take 8 [] (.take 10 [] (.take 11 [] (.take 12 [] .done)))) .stop)))))))))) Ds kr ?_);refine Rv sr ?_;refine Ale (fun hg=>w) func134 rfl kr rfl rfl sr rfl rfl sr (by simp) sr ?_;refine Rv sr ?_;refine Ale (fun hg=>f) func263 rfl kr rfl rfl sr rfl rfl sr (by simp) sr ?_;refine Rt (L:=[2,5]) (M:=[2,5]) sr ?_;intro T hT;have k:=(show T=_ by simpa using hT);subst k;exact Aa [2] [2] sr (Aj (Ac sr rf))
end Go.Proofs.YtpaccopbbffkaaaGreatDoor
namespace Go.Proofs
open Go.Shelf
def Tryz.lays125_ren:Go.Shelf.Ren:=⟨fun|125=>146|128=>188|129=>189|n=>n,fun|46=>246|3=>3|51=>149|53=>42|4=>4|5=>5|9=>9|n=>n,fun|n=>n⟩
theorem Tryz.lays125:Go.Proofs.Lays.n125 prog lays125_ren:=Go.ly
theorem Tryz.bits_Len(x:Int)(w:World)(a:0<=x)(h1:x<=18446744073709551615):
  Calls prog 146 #[.int .u64 x] w fun e w'=>e=.returned (.int .i64 (Lib.bitLen x.toNat))/\w'=w:=Any.bits_Len lays125 x w a h1
def Tryz.lays219_ren:Go.Shelf.Ren:=⟨fun|219=>250|217=>286|225=>287|224=>288|267=>289|266=>305|314=>306|n=>n,fun|9=>9|3=>3|4=>4|5=>5|46=>246|146=>399|51=>149|n=>n,fun|1=>0|n=>n⟩
def Tryz.lays144_ren:Go.Shelf.Ren:=⟨fun|144=>178|143=>214|219=>250|217=>286|225=>287|224=>288|267=>289|266=>305|314=>306|n=>n,fun|9=>9|4=>4|3=>3|5=>5|46=>246|146=>399|51=>149|n=>n,fun|1=>0|n=>n⟩
theorem Tryz.lays144:Go.Proofs.Lays.n144 prog lays144_ren:=Go.ly
open Go.RowKit Go.Lib in
theorem Tryz.strings_Contains(s sub:ByteArray)(m:Int)(w:World)(hs:s.size<4294967281)(hm:w.cell? ⟨0,0,none⟩=some (.int .i64 m)):
  Calls prog 178 #[.string s,.string sub] w fun e w'=>e=.returned (.bool (Lib.contains s.data.toList sub.data.toList))/\w'=w:=Any.strings_Contains lays144 s sub m w hs hm
def Tryz.lays145_ren:Go.Shelf.Ren:=⟨fun|145=>173|220=>211|219=>250|217=>286|225=>287|224=>288|267=>289|266=>305|314=>306|n=>n,fun|9=>9|4=>4|59=>277|3=>3|5=>5|46=>246|146=>399|51=>149|n=>n,fun|1=>0|n=>n⟩
theorem Tryz.lays145:Go.Proofs.Lays.n145 prog lays145_ren:=Go.ly
open Go.RowKit Go.Lib in
theorem Tryz.strings_Cut(s sep:ByteArray)(m:Int)(w:World)(hs:s.size<4294967281)(hm:w.cell? ⟨0,0,none⟩=some (.int .i64 m)):
  Calls prog 173 #[.string s,.string sep] w fun e w'=>e=.returned (.tuple #[.string ⟨(Lib.cut s.data.toList sep.data.toList).1.toArray⟩,.string ⟨(Lib.cut s.data.toList sep.data.toList).2.1.toArray⟩,.bool (Lib.cut s.data.toList sep.data.toList).2.2])/\∃n,w'=w.drewN n:=Any.strings_Cut lays145 s sep m w hs hm
def Tryz.lays189_ren:Go.Shelf.Ren:=⟨fun|189=>101|125=>146|257=>145|128=>188|129=>189|294=>179|295=>180|296=>181|297=>182|298=>183|299=>184|216=>185|300=>186|301=>187|328=>220|329=>221|330=>222|331=>223|332=>224|215=>204|343=>256|n=>n,fun|28=>25|3=>3|46=>246|0=>0|51=>149|53=>42|4=>4|183=>282|182=>281|131=>261|5=>5|9=>9|218=>320|222=>324|228=>352|229=>353|n=>n,fun|n=>n⟩
theorem Tryz.lays189:Go.Proofs.Lays.n189 prog lays189_ren:=Go.ly
open Go.Sort Go.RowKit in
theorem Tryz.slices_Sort_int(blk off cap:Nat)(zs:List Int)(w:World)(hH:Holds (Value.int .i64) w blk off zs.toArray)(hblk:blk<w.heap.size)(hsz:zs.length<4611686018427387904):
  Calls prog 101 #[.slice (some ⟨blk,off,none⟩) zs.length cap] w fun e w'=>
   e=.returned (.tuple #[])/\∃n os,w'=grow (putRow (Value.int .i64) (Sort.ahead w n) blk off (zs.mergeSort fun x y=>decide (x<=y)).toArray) os:=Any.slices_Sort_int lays189 blk off cap zs w hH hblk hsz
def Tryz.lays154_ren:Go.Shelf.Ren:=⟨fun|154=>174|138=>212|165=>213|143=>214|166=>215|197=>216|169=>217|195=>251|218=>252|240=>253|241=>254|219=>250|260=>255|276=>290|277=>291|217=>286|225=>287|224=>288|267=>289|266=>305|314=>306|n=>n,fun|9=>9|3=>3|4=>4|72=>310|0=>0|76=>314|105=>316|21=>21|5=>5|70=>308|20=>20|37=>162|75=>313|127=>351|164=>382|46=>246|119=>385|139=>388|138=>387|146=>399|51=>149|80=>318|n=>n,fun|1=>0|3=>1|4=>2|n=>n⟩
def Tryz.lays155_ren:Go.Shelf.Ren:=⟨fun|155=>138|154=>174|138=>212|165=>213|143=>214|166=>215|197=>216|169=>217|195=>251|218=>252|240=>253|241=>254|219=>250|260=>255|276=>290|277=>291|217=>286|225=>287|224=>288|267=>289|266=>305|314=>306|n=>n,fun|9=>9|3=>3|4=>4|72=>310|0=>0|76=>314|105=>316|21=>21|5=>5|70=>308|20=>20|37=>162|75=>313|127=>351|164=>382|46=>246|119=>385|139=>388|138=>387|146=>399|51=>149|80=>318|n=>n,fun|1=>0|3=>1|4=>2|n=>n⟩
theorem Tryz.lays155:Go.Proofs.Lays.n155 prog lays155_ren:=Go.ly
theorem Tryz.Builder_Extra_155:Builder.Extra prog lays155_ren:=Go.lx
open Go.RowKit Go.Lib in
theorem Tryz.strings_ReplaceAll(s old new:ByteArray)(m:Int)(w:World)(hs:s.size<4294967281)(hm:w.cell? ⟨0,0,none⟩=some (.int .i64 m))(h1:1<=old.size)(hlen:s.size+Lib.countB s old*new.size<=140737488355328):
  Calls prog 138 #[.string s,.string old,.string new] w fun e w'=>
   e=.returned (.string ⟨(Lib.replaceAll s.data.toList old.data.toList new.data.toList).toArray⟩)/\Below w.heap.size w w':=Any.strings_ReplaceAll lays155 Builder_Extra_155 s old new m w hs hm h1 hlen
def Tryz.laysNm220_ren:Go.Shelf.Ren:=⟨fun|20=>102|n=>n,fun|22=>25|3=>3|4=>4|0=>0|n=>n,fun|n=>n⟩
theorem Tryz.laysNm220:Go.Proofs.Lays2.n20 prog laysNm220_ren:=Go.ly
open Go.RowKit Go.Lib Go.Sort in
theorem Tryz.slices_Compact_int(blk off cap:Nat)(zs:List Int)(w:World)(hH:Holds (Value.int .i64) w blk off zs.toArray)(hsz:zs.length<=9223372036854775807)(hcap:zs.length<=cap):
  Calls prog 102 #[.slice (some ⟨blk,off,none⟩) zs.length cap] w fun e w'=>e=.returned (.slice (some ⟨blk,off,none⟩) (Lib.compact zs).length cap)/\∃q,w'=putRow (Value.int .i64) (Sort.ahead w q) blk off (Lib.compact zs++List.replicate (zs.length-(Lib.compact zs).length) 0).toArray:=Any.slices_Compact_int laysNm220 blk off cap zs w hH hsz hcap
open Go.RowKit Go.Lib Go.Sort in
theorem Tryz.slices_Compact_int_empty(a:Option Addr)(cap:Nat)(w:World):
  Calls prog 102 #[.slice a 0 cap] w fun e w'=>e=.returned (.slice a 0 cap)/\w'=w:=Any.slices_Compact_int_empty laysNm220 a cap w
end Go.Proofs
set_option linter.unusedSimpArgs false
set_option maxRecDepth 4000
namespace Go.Proofs.YtpaccopbbffkaaaGreatDoor
open Go.Eng Go.Eng.Limb Go.RowKit Go.Sort Go.Lib
def gv:Gp where
 P:=fun w=>∃m,w.cell? ⟨0,0,none⟩=some (.int .i64 m)
 bl:=fun b=>b=0
 stable:=by
  rintro w w'⟨m,h1⟩hk;refine⟨m,?_⟩;rw [World.cell?_of_block (hk 0 rfl)];exact h1
 low:=by
  rintro w⟨m,h1⟩b rfl
  rcases De 0 w.heap.size with h|h
  ·exact h
  ·simp [World.cell?,Cu h]at h1
theorem Alx{w:World}{N:Nat->Prop}{xs:List Value}{v u:V}(a:xs.length= [v,u].length)(hp:∀(i:Nat)x z,xs[i]? =some x->[v,u][i]? =some z->Pur w N x z):∃x y,xs= [x,y]/\Pur w N x v/\Pur w N y u:=by
 cases xs with
 |nil=>simp at a
 |cons x r=>cases r with
  |nil=>simp at a
  |cons y r=>cases r with
   |nil=>exact⟨x,y,rfl,hp 0 x v rfl rfl,hp 1 y u rfl rfl⟩
   |cons _ _ =>simp at a
theorem Aly(w:World)(k:Nat):Below w.heap.size w (w.drewN k):=by
 have:=Lib.below_grow w.heap.size w (A9 _) k #[];simpa using this
theorem A4d(s a:List UInt8)(hs:s.length<4294967281):Hp gv prog 173 [.str s,.str a] (fun r=>r=.tup [.str (Lib.cut s a).1,.str (Lib.cut s a).2.1,.bool (Lib.cut s a).2.2]):=by
 intro w N xs h _ j hp;obtain⟨x,y,rfl,d,g⟩:=Alx j hp;cases d;cases g
 obtain⟨m,l⟩:=h;refine(strings_Cut ⟨s.toArray⟩ ⟨a.toArray⟩ m w (by rw [Lib.size_eq];simpa using hs) l).mono ?_;rintro e w'⟨rfl,k,rfl⟩;refine⟨_,_,rfl,rfl,.tup _ _ rfl ?_,Aly w k⟩;intro i x c d f
 rcases i with _ |_ |_ |i
 ·simp at d f;subst d;subst f;exact .str _
 ·simp at d f;subst d;subst f;exact .str _
 ·simp at d f;subst d;subst f;exact .bool _
 ·simp at d
end Go.Proofs.YtpaccopbbffkaaaGreatDoor
set_option linter.unusedSimpArgs false
set_option maxRecDepth 4000
namespace Go.Proofs.YtpaccopbbffkaaaGreatDoor
open Go.Eng Go.Eng.Limb
abbrev Mp(l:List (List UInt8)):List V:=l.map V.str
theorem Bbf{l:List UInt8}{k:Nat}(h:k<l.length):G8 l k=some l[k]:=by rw [C0];simp [h]
def okB(c:UInt8):Bool:=(decide (65<=c.toNat)&&decide (c.toNat<=90))||(decide (48<=c.toNat)&&decide (c.toNat<=57))
def Adc(s:List UInt8):Bool:=s.all okB&&(decide (1<=s.length)&&decide (s.length<=8))
theorem Aa8(s:List UInt8)(hs:s.length<=1000):AC prog 136 [.str s] (fun r=>r=.bool (Adc s)):=by
 have m:=fun(k:Nat)(h:k<s.length)=>Bbf h
 refine Ax func136 fun w0 N0=>?_;refine Aa [0] [] sr (Ab (Aa [0,3] [] sr (Ar (Br (fun k nx=>⟨[(0,.str s),(3,.int .i64 k)],[],nx,40⟩) (fun k=>(s.take k).all okB=true) s.length _ sm (AS.le_refl _) ?_))));intro k nx hk g;refine Ab (Aa [0,3,7] [] sr ?_)
 refine Ao (fun h1=>Ae ?_) fun h1=>?_
 ·have a:k<s.length:=by simp at h1;omega
  have j:=m k a;have t:=A6 (k:=k) om;have e:=A1 (l:=s) (i:=k) a;have d:s[k]∈s:=Az a;generalize s[k]=c at j e d;refine Ab (Ar (Aa [0,3,31] [] (by simp [j,a]<;>rfl) ?_))
  refine Ao (fun h2=>?_) fun h2=>Ae ?_
  ·refine Aa [2] [] sr ?_;refine Aj (Ac sr ?_);have:s.all okB=false:=I4.2 ⟨c,d,by simp [okB]at h2|-;omega⟩;simp [Adc,this]
  have n:okB c=true:=by simp [okB]at h2|-;omega
  refine A3 [0,3] [] (by simp [t]<;>rfl) ?_;exact⟨a,by rw [e,H8,g];simp [n],_,AS.le_refl _⟩
 ·refine Bb ?_;refine Aa [2] [] sr ?_;refine Aj (Ac sr ?_);have f:k=s.length:=by simp at h1;omega
  rw [f,Bl]at g;have u:((1:Int)<=s.length)=(1<=s.length):=by simp;omega
  have o:((s.length:Int)<=8)=(s.length<=8):=by simp;omega
  simp [Adc,g,u,o]
def Oj:Nat->List (List UInt8)->List UInt8->List (List UInt8)× Nat × Bool
 |0,done,_ =>(done,0,false)
 |n+1,done,a=>
  if(Lib.cut a [46]).2.2=false then(done++[(Lib.cut a [46]).1]++List.replicate n [],done.length+1,true)
  else Oj n (done++[(Lib.cut a [46]).1]) (Lib.cut a [46]).2.1
def A4e(p:List (List UInt8)× Nat × Bool):V:=.tup [.agg (Mp p.1),.int .i64 p.2.1,.bool p.2.2]
theorem Ar4(s a:List UInt8):(Lib.cut s a).2.1.length<=s.length/\(Lib.cut s a).1.length<=s.length:=by
 unfold Lib.cut
 split
 ·simp only [Cs,F7];omega
 ·simp
theorem Alz:∀(n:Nat)(done:List (List UInt8))(a:List UInt8),(Oj n done a).1.length=done.length+n
 |0,done,a=>by simp [Oj]
 |n+1,done,a=>by
  rw [Oj]
  split
  ·simp
  ·rw [Alz n];simp;omega
theorem A7z{α:Type}:∀(l:List α),l.length=5->∃a b c d e,l= [a,b,c,d,e]
 | [a,b,c,d,e],_ =>⟨a,b,c,d,e,rfl⟩
theorem Ai6(g:List UInt8)(hs:g.length<=1000):Hp gv prog 135 [.str g] (fun r=>r=A4e (Oj 5 [] g)):=by
 refine By func135 fun w0 N0 hG=>?_;refine Aa [0,2] [2] sr (Aa [0,2,5] [2,5] sr (Ab (Aa [0,2,5,10] [2,5] sr (Ar ?_))))
 refine Di (fun p:List (List UInt8)× List UInt8 × Nat=>⟨[(0,.str p.2.1),(2,.bp 2 0 5 0 0),(5,.bp 5 3 5 0 0),(10,.int .i64 p.1.length)],[(2,⟨0,5,230,[.agg [.str [],.str [],.str [],.str [],.str []]]⟩),(5,⟨3,5,230,[.agg (Mp (p.1++List.replicate (5-p.1.length) []))]⟩)],p.2.2,30⟩)
  (fun p=>p.1.length<=5/\p.2.1.length<=1000/\Oj (5-p.1.length) p.1 p.2.1=Oj 5 [] g) (fun p=>5-p.1.length) ([],g,_) ⟨by simp,hs,rfl⟩ (AS.le_refl _) ?_
 rintro⟨done,cd,nx⟩⟨hd,ah,l⟩;simp only at hd ah l;have s:(Mp (done++List.replicate (5-done.length) [])).length=5:=by simp;omega
 by_cases af:done.length<5
 ·obtain⟨n,hn⟩:∃n,5-done.length=n+1:=⟨4-done.length,by omega⟩;rw [hn]at l s|-;rw [Oj]at l;have hc:=A4d cd [46] om;have m:=Ar4 cd [46];have w:(Mp (done++List.replicate (n+1) [])).take done.length=Mp done:=sm
  have t:(Mp (done++List.replicate (n+1) [])).drop (done.length+1)=Mp (List.replicate n []):=by
   have e:Mp (done++List.replicate (n+1) [])=Mp done++(V.str []::Mp (List.replicate n [])):=by simp [Gc]
   have hl:done.length+1=(Mp done++[V.str []]).length:=sm;have e2:Mp done++(V.str []::Mp (List.replicate n []))=(Mp done++[V.str []])++Mp (List.replicate n []):=sm;rw [e,e2,hl,List.drop_left]
  generalize Lib.cut cd [46]=ct at hc l m;obtain⟨i,tl,more⟩:=ct;simp only at hc l m;obtain⟨k,hk⟩:∃k,done.length=k:=⟨_,rfl⟩;have x:Mp (done++[i]++List.replicate n [])=Mp done++ .str i::Mp (List.replicate n []):=sm;generalize ai:Mp (done++List.replicate (n+1) [])=av at s w t|-;rw [hk]at w t af hn|-;have ag:(k:Int)<5:=om;have aa:=A6 (k:=k) om;have ab:k<=4:=om;have u:av.take k++ .str i::av.drop (k+1)=Mp (done++[i]++List.replicate n []):=by rw [w,t,x]
  have j:more=false->A4e (Oj 5 [] g)=.tup [.agg (Mp (done++[i]++List.replicate n [])),.int .i64 (k+1:Nat),.bool true]:=fun h=>by
   rw [<- l,if_pos h,A4e,hk]
  have z:more≠false->Oj n (done++[i]) tl=Oj 5 [] g:=fun h=>by rw [if_neg h]at l;exact l
  have ad:(done++[i]++List.replicate n []).length=5:=by simp;omega
  obtain⟨a,b,c,d,f,y⟩:=A7z _ ad;rw [y]at u j;simp only [Mp,Ct,F8]at u j;refine Aa [0,2,5,10,11] [2,5] sr (Ab (A7 rfl (fun h1=>Ae ?_) (fun h1=>by simp at h1;omega)));refine Ab (Ar (Aa [0,2,5,6,10] [2,5] sr (Ab (Ad (Am 1 sr ?_)))));refine Bq hG hc func173 ?_;refine Af [2,5,6,7,8,9,10] [2,5] sr ?_;refine Aa [2,5,6,8,9,10] [2,5] (by simp [ag,s,ab,u]<;>rfl) (Ab (Aa [2,5,6,8,10,23] [2,5] sr ?_))
  refine Ao (fun h2=>?_) fun h2=>Ae ?_
  ·refine Aa [2,3,4] [2] (by simp [aa]<;>rfl) ?_;refine Aj (Ac sr ?_);rw [j (by simpa using h2)];have o:((k+1:Nat):Int)=(k:Int)+1:=om;rw [o]
  refine A3 [0,2,5,10] [2,5] sr (A3 [0,2,5,10] [2,5] (by simp [aa]<;>rfl) ?_)
  refine⟨(done++[i],tl,nx+1+2+9+4+2+2+2),⟨by simp;omega,by simp only;omega,?_⟩,by simp;omega,?_⟩
  ·simp only [Bf,Ba,Bx,hk];rw [show 5-(k+(0+1))=n by omega];exact z (by simpa using h2)
  ·have o:((k+1:Nat):Int)=(k:Int)+1:=om;have ae:5-(k+1)=n:=om;simp only [Bf,Ba,Bx,hk,Dj,o,ae,y,Mp,Ct,F8];exact AS.le_refl _
 ·have h5:done.length=5:=om;obtain⟨a,b,c,d,f,rfl⟩:=A7z _ h5;rw [h5,Fv,Oj]at l;refine Aa [0,2,5,10,11] [2,5] sr (Ab (A7 rfl (fun h1=>by simp at h1) (fun h1=>?_)));refine Bb ?_;refine Aa [2,3,4] [2] sr ?_;refine Aj (Ac sr ?_);rw [<- l];rfl
theorem Ade:∀(n:Nat)(done:List (List UInt8))(c:List UInt8),(∀x∈done,x.length<=1000)->c.length<=1000->∀x∈(Oj n done c).1,x.length<=1000
 |0,done,c,h,_ =>by simpa [Oj]using h
 |n+1,done,c,h,hc=>by
  have d:=Ar4 c [46];rw [Oj]
  split
  ·intro x a
   rcases Cc.1 a with a|a
   ·rcases Cc.1 a with a|a
    ·exact h x a
    ·simp at a;subst a;omega
   ·have:=(List.mem_replicate.1 a).2;subst this;simp
  ·refine Ade n _ _ (fun x a=>?_) om
   rcases Cc.1 a with a|a
   ·exact h x a
   ·simp at a;subst a;omega
theorem Azj:∀(n:Nat)(done:List (List UInt8))(a:List UInt8),(Oj n done a).2.1<=done.length+n
 |0,done,a=>by simp [Oj]
 |n+1,done,a=>by
  rw [Oj]
  split
  ·simp
  ·have:=Azj n (done++[(Lib.cut a [46]).1]) (Lib.cut a [46]).2.1;simp at this;omega
def Nx(a:List UInt8):Bool:=decide (a.length<=24)&&((Oj 5 [] a).2.2&&((Oj 5 [] a).1.take (Oj 5 [] a).2.1).all Adc)
theorem Wg(e:List UInt8):Hp gv prog 90 [.str e] (fun r=>r=.bool (Nx e)):=by
 refine By func90 fun w0 N0 hG=>?_;refine Aa [0] [] sr (Ab (Aa [0,10] [] sr ?_))
 refine Ao (fun h1=>?_) fun h1=>Ae ?_
 ·refine Aa [2] [] sr ?_;refine Aj (Ac sr ?_);have:¬e.length<=24:=by simp at h1;omega
  simp [Nx,this]
 have aj:e.length<=24:=by simp at h1;omega
 have y:=Ai6 e om;have o:=Ade 5 [] e sm om;have hn:=Azj 5 [] e;have u:=Alz 5 [] e;have g:Nx e=((Oj 5 [] e).2.2&&((Oj 5 [] e).1.take (Oj 5 [] e).2.1).all Adc):=by simp [Nx,aj]
 generalize Oj 5 [] e=p at y o hn u g;obtain⟨A,n,ok⟩:=p;simp only [Bx,Dj]at o hn u g;rw [A4e]at y;simp only at y;obtain⟨a,b,c,d,f,hA⟩:=A7z A u;have ad:Mp A= [.str a,.str b,.str c,.str d,.str f]:=by rw [hA];rfl
 rw [ad]at y;refine Ab (Ad (Am 1 sr ?_));refine Bq hG y func135 ?_;refine Af [3,4,5] [3] sr ?_;refine Ab (Aa [3,4,18] [3] sr ?_)
 refine Ao (fun h2=>?_) fun h2=>Ae ?_
 ·refine Aa [2] [] sr ?_;refine Aj (Ac sr ?_);have:ok=false:=by simpa using h2
  simp [g,this]
 have ag:ok=true:=by simpa using h2
 rw [ag,Bool.true_and]at g;refine Bp 3 [3,4] [] sr ?_;have ah:(n:Int)<=5:=om;refine Ab (Aa [20,21,22] [] (by simp [ah]<;>rfl) ?_);have s:List.take n [V.str a,.str b,.str c,.str d,.str f]=Mp (A.take n):=by rw [<- ad];simp [Mp]
 have ai:(A.take n).length=n:=by simp;omega
 have m:=fun(k:Nat)(h:k<(A.take n).length)=>(show G8 (Mp (A.take n)) k=some (.str (A.take n)[k])by rw [C0,Mp,Bc,Al h];rfl)
 have ab:∀x∈A.take n,x.length<=1000:=fun x hx=>o x (B8 hx)
 have w:(Mp (A.take n)).length=n:=by simp;omega
 have af:min n 5=n:=om;simp only [s,af];generalize A.take n=sl at g ai m ab w|-;generalize Mp sl=sv at m w|-;refine Ar (Br (fun k nx=>⟨[(20,.ro 1 sv),(21,.int .i64 n),(22,.int .i64 k)],[],nx,30⟩) (fun k=>(sl.take k).all Adc=true) n _ sm (AS.le_refl _) ?_);intro k nx hk hI;refine Aa [20,21,22,23] [] sr (Ab ?_)
 refine Ao (fun h3=>Ae ?_) fun h3=>?_
 ·have t:k<sl.length:=by simp at h3;omega
  have z:k<sv.length:=om;have ga:=m k t;have hw:=A6 (k:=k) om;have ae:=A1 (l:=sl) (i:=k) t;have j:sl[k]∈sl:=Az t;have aa:=Aa8 sl[k] (ab _ j);generalize sl[k]=x at ga ae j aa;refine Ab (Ar (Aa [7,20,21,22] [] (by simp [ga,z]<;>rfl) (Ab (Ad (Am 1 sr ?_)))));refine Mg aa func136 rfl kr rfl rfl rfl rfl rfl sr ?_;refine Af [20,21,22,28] [] sr ?_
  refine Ao (fun h4=>?_) fun h4=>Ae ?_
  ·refine Aa [2] [] sr ?_;refine Aj (Ac sr ?_);have:sl.all Adc=false:=I4.2 ⟨x,j,by simpa using h4⟩;rw [g,this]
  refine A3 [20,21,22] [] (by simp [hw]<;>rfl) ?_;exact⟨by omega,by rw [ae,H8,hI];simp;simpa using h4,_,AS.le_refl _⟩
 ·refine Bb ?_;refine Aa [2] [] sr ?_;refine Aj (Ac sr ?_);have ak:k=sl.length:=by simp at h3;omega
  rw [ak,Bl]at hI;rw [g,hI]
theorem Aux(t:TypeId)(cs:List V):Bi (.ifc t (.agg cs)) (.dm t cs):=by
 refine⟨fun w N x c=>?_,fun _ =>rfl⟩;cases c with
 |ifc _ y _ _ e=>cases e with
  |agg xs _ f d a=>exact .dm t xs cs f d a
def Al0(r:Ru):TypeId:=
 if r.kind=1 then 210 else if r.kind=2 then 212 else if r.kind=3 then 213 else if r.kind=4 then 214 else if r.kind=5 then 216 else if r.kind=6 then 218 else if r.kind=7 then 220 else if r.kind=8 then 221 else 223
def Adf(r:Ru):List V:=
 if r.kind=1 then [.int .i64 r.mn,.int .i64 r.mx,.fc 121 [] [.rp r.v],.str r.code]
 else if r.kind=2 then [.int .i64 r.mn,.int .i64 r.mx,.fn 124]
 else if r.kind=3 then [.int .i64 r.mn,.int .i64 r.mx,.fn 125]
 else if r.kind=4 then [.int .i64 r.mn,.int .i64 r.mx,.fn 126]
 else if r.kind=5 then [.int .i64 r.mn,.int .i64 r.mx,.fc 127 [] [.rp r.v],.int .i64 r.n]
 else if r.kind=6 then [.int .i64 r.mn,.int .i64 r.mx,.int .i64 r.n]
 else if r.kind=7 then [.int .i64 r.n]
 else if r.kind=8 then [.int .i64 r.n]
 else []
def Wh(r:Ru):V:=.dm (Al0 r) (Adf r)
theorem Zp(a b:Int):AC prog 343 [.agg [.int .i64 a,.int .i64 b]] (fun r=>r=.int .i64 (Ac9 a b)):=by
 unfold Ac9;refine Ax func343 fun w0 N0=>?_;refine Aa [1] [1] sr (Ab (Aa [1,20] [1] sr ?_))
 refine Ao (fun h1=>?_) fun h1=>Ae ?_
 ·exact Aa [2] [] sr (Aj (Ac sr (by rw [if_pos (by simp at h1;omega)])))
 rw [if_neg (by simp at h1;omega)];refine Ab (Aa [25] [] sr ?_)
 refine Ao (fun h2=>?_) fun h2=>Ae ?_
 ·exact Aa [2] [] sr (Aj (Ac sr (by rw [if_pos (by simpa using h2)])))
 exact Aa [2] [] sr (Aj (Ac sr (by rw [if_neg (by simpa using h2)])))
theorem Abp(n:Int):AC prog 59 [.int .i64 n] (fun r=>r=.bool (Vd n)):=by
 refine Ax func59 fun w0 N0=>?_;refine Aa [0] [] sr ?_;exact Aa [2] [] sr (Aj (Ac sr (by simp [Vd])))
def Je(b:Bool):Int:=if b=true then 1 else 0
theorem Tp(b:Bool):AC prog 122 [.bool b] (fun r=>r=.int .i64 (Je b)):=by
 unfold Je;refine Ax func122 fun w0 N0=>?_;refine Aa [0] [] sr (Ab (Aa [3] [] sr ?_))
 refine Ao (fun h1=>?_) fun h1=>Ae ?_
 ·exact Aa [2] [] sr (Aj (Ac sr (by rw [if_pos h1])))
 exact Aa [2] [] sr (Aj (Ac sr (by rw [if_neg (by rw [h1];decide)])))
theorem A4f:Rx prog 210 "examboard/blueprint.check" 4 347 0 4:=by
 intro xs w e
 match xs,e with
 | [a,b,c,d],_ =>show _ =_;kernel_rfl
theorem A4g:Rx prog 212 "examboard/blueprint.check" 3 343 0 2:=by
 intro xs w d
 match xs,d with
 | [a,b,c],_ =>show _ =_;kernel_rfl
theorem A4h:Rx prog 213 "examboard/blueprint.check" 3 343 0 2:=by
 intro xs w d
 match xs,d with
 | [a,b,c],_ =>show _ =_;kernel_rfl
theorem A4i:Rx prog 214 "examboard/blueprint.check" 3 343 0 2:=by
 intro xs w d
 match xs,d with
 | [a,b,c],_ =>show _ =_;kernel_rfl
theorem A4j:Rx prog 216 "examboard/blueprint.check" 4 352 0 4:=by
 intro xs w e
 match xs,e with
 | [a,b,c,d],_ =>show _ =_;kernel_rfl
theorem A4k:Rx prog 218 "examboard/blueprint.check" 3 355 0 3:=by
 intro xs w d
 match xs,d with
 | [a,b,c],_ =>show _ =_;kernel_rfl
theorem A4l:Rx prog 220 "examboard/blueprint.check" 1 361 0 1:=by
 intro xs w c
 match xs,c with
 | [a],_ =>show _ =_;kernel_rfl
theorem A4m:Rx prog 221 "examboard/blueprint.check" 1 371 0 1:=by
 intro xs w c
 match xs,c with
 | [a],_ =>show _ =_;kernel_rfl
theorem A4n:Rx prog 223 "examboard/blueprint.check" 0 377 0 0:=by
 intro xs w a
 match xs,a with
 | [],_ =>show _ =_;kernel_rfl
theorem A70(a b:Int)(f:V)(c:List UInt8):Hp gv prog 347 [.agg [.int .i64 a,.int .i64 b,.fc 121 [] [.rp f],.str c]] (fun r=>r=.int .i64 (if Nx c=false then 2 else Ac9 a b)):=by
 have d:=Wg c;have e:=Zp a b;generalize Nx c=q at d|-;refine By func347 fun w0 N0 g=>?_;refine Aa [1] [1] sr (Ab (Ab (Ad (Am 2 sr ?_))));refine Bq g d func90 ?_;refine Af [1,6] [1] sr ?_
 refine Ao (fun h1=>?_) fun h1=>Ae ?_
 ·exact Aa [2] [] sr (Aj (Ac sr (by rw [if_pos (by simpa using h1)])))
 rw [if_neg (by simpa using h1)];refine Ab (Ad (Am 3 sr ?_));refine Ah e func343 ?_;refine Af [2] [] sr ?_;exact Aj (Ac sr rfl)
theorem A71(a b n:Int)(d:V):AC prog 352 [.agg [.int .i64 a,.int .i64 b,.fc 127 [] [.rp d],.int .i64 n]] (fun r=>r=.int .i64 (if n<1\/10<n then 3 else Ac9 a b)):=by
 have c:=Zp a b;refine Ax func352 fun w0 N0=>?_;refine Aa [1] [1] sr (Ab (Aa [1,10] [1] sr ?_))
 refine Ao (fun h1=>?_) fun h1=>Ae ?_
 ·exact Aa [2] [] sr (Aj (Ac sr (by rw [if_pos (by simp at h1;omega)])))
 rw [if_neg (by simp at h1;omega)];refine Ab (Ad (Am 3 sr ?_));refine Ah c func343 ?_;refine Af [2] [] sr ?_;exact Aj (Ac sr rfl)
theorem A72(a b n:Int):AC prog 355 [.agg [.int .i64 a,.int .i64 b,.int .i64 n]] (fun r=>r=.int .i64 (if Vd n=false\/a=0 then 3 else Ac9 a b)):=by
 have c:=Abp n;have d:=Zp a b;generalize Vd n=q at c|-;refine Ax func355 fun w0 N0=>?_;refine Aa [1] [1] sr (Ab (Ab (Ad (Am 2 sr ?_))));refine Ah c func59 ?_;refine Af [1,12] [1] sr ?_
 refine Ao (fun h1=>?_) fun h1=>Ae ?_
 ·exact Aa [2] [] sr (Aj (Ac sr (by rw [if_pos (by simpa using h1)])))
 rw [if_neg (by simpa using h1)];refine Ab (Ad (Am 2 sr ?_));refine Ah d func343 ?_;refine Af [2] [] sr ?_;exact Aj (Ac sr rfl)
theorem A73(n:Int):AC prog 361 [.agg [.int .i64 n]] (fun r=>r=.int .i64 (if Vd n=false then 3 else 0)):=by
 have a:=Abp n;generalize Vd n=q at a|-;refine Ax func361 fun w0 N0=>?_;refine Aa [1] [1] sr (Ab (Ab (Ad (Am 2 sr ?_))));refine Ah a func59 ?_;refine Af [6] [] sr ?_
 refine Ao (fun h1=>?_) fun h1=>Ae ?_
 ·exact Aa [2] [] sr (Aj (Ac sr (by rw [if_pos (by simpa using h1)])))
 exact Aa [2] [] sr (Aj (Ac sr (by rw [if_neg (by simpa using h1)])))
theorem A74(n:Int):AC prog 371 [.agg [.int .i64 n]] (fun r=>r=.int .i64 (if Vd n=false then 3 else 0)):=by
 have a:=Abp n;generalize Vd n=q at a|-;refine Ax func371 fun w0 N0=>?_;refine Aa [1] [1] sr (Ab (Ab (Ad (Am 2 sr ?_))));refine Ah a func59 ?_;refine Af [6] [] sr ?_
 refine Ao (fun h1=>?_) fun h1=>Ae ?_
 ·exact Aa [2] [] sr (Aj (Ac sr (by rw [if_pos (by simpa using h1)])))
 exact Aa [2] [] sr (Aj (Ac sr (by rw [if_neg (by simpa using h1)])))
theorem A75:AC prog 377 [.agg []] (fun r=>r=.int .i64 0):=by
 refine Ax func377 fun w0 N0=>?_;refine Aa [] [] sr ?_;exact Aa [2] [] sr (Aj (Ac sr rf))
def Ai7(r:Ru):Int:=
 if r.kind=1 then(if Nx r.code=false then 2 else Ac9 r.mn r.mx)
 else if r.kind=2\/r.kind=3\/r.kind=4 then Ac9 r.mn r.mx
 else if r.kind=5 then(if r.n<1\/10<r.n then 3 else Ac9 r.mn r.mx)
 else if r.kind=6 then(if Vd r.n=false\/r.mn=0 then 3 else Ac9 r.mn r.mx)
 else if r.kind=7\/r.kind=8 then(if Vd r.n=false then 3 else 0)
 else 0
theorem Ag3{r:Ru}(h:r.fits=true):r.kind=1\/r.kind=2\/r.kind=3\/r.kind=4\/r.kind=5\/r.kind=6\/r.kind=7\/r.kind=8\/r.kind=9:=by
 unfold Ru.fits at h
 (repeat' split at h)<;>first|omega|cases h
theorem Wi{r:Ru}(h:r.fits=true):r.known:=by
 have:=Ag3 h;unfold Ru.known;omega
theorem A4o(r:Ru)(h:r.known):ICQ gv prog (Wh r) "examboard/blueprint.check" [] (fun x=>x=.int .i64 (Ai7 r)):=by
 unfold Wh Al0 Adf Ai7;have a:r.kind=1\/r.kind=2\/r.kind=3\/r.kind=4\/r.kind=5\/r.kind=6\/r.kind=7\/r.kind=8\/r.kind=9:=by unfold Ru.known at h;omega
 rcases a with e|e|e|e|e|e|e|e|e<;>simp only [e,if_true,if_false,Int.reduceEq,or_false,or_true]
 ·exact⟨210,_,347,_,0,4,.inl rfl,A4f,func347,rfl,by kernel_rfl,A70 _ _ _ _⟩
 ·exact⟨212,_,343,_,0,2,.inl rfl,A4g,func343,rfl,by kernel_rfl,(Zp _ _).q gv⟩
 ·exact⟨213,_,343,_,0,2,.inl rfl,A4h,func343,rfl,by kernel_rfl,(Zp _ _).q gv⟩
 ·exact⟨214,_,343,_,0,2,.inl rfl,A4i,func343,rfl,by kernel_rfl,(Zp _ _).q gv⟩
 ·exact⟨216,_,352,_,0,4,.inl rfl,A4j,func352,rfl,by kernel_rfl,(A71 _ _ _ _).q gv⟩
 ·exact⟨218,_,355,_,0,3,.inl rfl,A4k,func355,rfl,by kernel_rfl,(A72 _ _ _).q gv⟩
 ·exact⟨220,_,361,_,0,1,.inl rfl,A4l,func361,rfl,by kernel_rfl,(A73 _).q gv⟩
 ·exact⟨221,_,371,_,0,1,.inl rfl,A4m,func371,rfl,by kernel_rfl,(A74 _).q gv⟩
 ·exact⟨223,_,377,_,0,0,.inl rfl,A4n,func377,rfl,by kernel_rfl,A75.q gv⟩
theorem Lb(g:Gr):AC prog 56 [g.v] (fun r=>r=.int .i64 (Ku g)):=by
 obtain⟨a,c⟩:=g;show AC _ _ [.agg [.ro 1 (As a),.ro 1 (As c)]] _
 have hp:∀(k:Nat)(h:k<a.length),G8 (As a) k=some (.int .i64 a[k]):=fun k h=>E8 h
 have hq:∀(k:Nat)(h:k<c.length),G8 (As c) k=some (.int .i64 c[k]):=fun k h=>E8 h
 have t:=A4 a;have lq:=A4 c;unfold Ku;simp only;generalize As a=pv at hp t|-;generalize As c=w at hq lq|-;refine Ax func56 fun w0 N0=>?_;refine Aa [1] [1] sr (Ab (Aa [1,9] [1] sr ?_))
 refine Ao (fun h1=>?_) fun h1=>Ae ?_
 ·exact Aa [2] [] sr (Aj (Ac sr (by rw [if_pos (by simp at h1;omega)])))
 rw [if_neg (by simp at h1;omega)];refine Ab (Aa [1,13] [1] sr ?_)
 refine Ao (fun h2=>?_) fun h2=>Ae ?_
 ·exact Aa [2] [] sr (Aj (Ac sr (by rw [if_pos (by rw [<- t];simpa using h2)])))
 rw [if_neg (by rw [<- t];simpa using h2)];refine Ab (Aa [1,20] [1] sr ?_)
 refine Ao (fun h3=>?_) fun h3=>Ae ?_
 ·exact Aa [2] [] sr (Aj (Ac sr (by rw [if_pos (by simp at h3;omega)])))
 have ae:c.length=a.length:=by simp at h3;omega
 have ad:a.length<=21:=by simp at h1;omega
 rw [if_neg Go.om];refine Ab (Aa [1,22,23,24] [1] sr (Ar (Br (fun k nx=>⟨[(1,.bp 1 0 2 0 0),(22,.ro 1 pv),(23,.int .i64 a.length),(24,.int .i64 k)],[(1,⟨0,2,27,[.agg [.ro 1 pv,.ro 1 w]]⟩)],nx,71⟩) (fun k=>Qo (a.drop k) (c.drop k)=Qo a c) a.length _ sm (by rw [t];exact AS.le_refl _) ?_)));intro k nx hk i;refine Aa [1,22,23,24,25] [1] sr (Ab ?_)
 refine Ao (fun u=>Ae ?_) fun u=>?_
 ·have d:k<a.length:=by simp at u;omega
  have e:k<pv.length:=om;have s:k<w.length:=om;have j:=hp k d;have o:=hq k om;have hw:=A6 (k:=k) om;have f:=Als (l:=a) (m:=c) d om;generalize a[k]=p at j f;generalize c[k]=q at o f;refine Ab (Ar (Aa [1,3,4,22,23,24] [1] (by simp [j,e]<;>rfl) (Aa [1,22,23,24,50] [1] (by simp [o,s]<;>rfl) ?_)))
  refine Ao (fun z=>?_) fun z=>Ae ?_
  ·refine Aa [2] [] sr ?_;refine Aj (Ac sr ?_);have:Ac5 p q=true:=by simp [Ac5]at z|-;omega
   rw [if_pos (by rw [<- i,f,this];rfl)]
  refine A3 [1,22,23,24] [1] (by simp [hw]<;>rfl) ?_;have:Ac5 p q=false:=by simp [Ac5]at z|-;omega
  exact⟨d,by rw [<- i,f,this];rfl,_,AS.le_refl _⟩
 ·have ab:k=a.length:=by simp at u;omega
  rw [if_neg (by rw [<- i,ab,Cd];simp [Qo])];refine Bb ?_;refine Ab (Aa [1,5] [1] sr (Ar (Br (fun k nx=>⟨[(1,.bp 1 0 2 0 0),(5,.int .i64 ((k:Int)+1))],[(1,⟨0,2,27,[.agg [.ro 1 pv,.ro 1 w]]⟩)],nx,71⟩) (fun k=>Tk (a.drop k)=Tk a) a.length _ sm (AS.le_refl _) ?_)));intro k nx hk i;refine Ab (Aa [1,5,56] [1] sr ?_)
  refine Ao (fun h6=>Ae ?_) fun h6=>?_
  ·have d:k+1<a.length:=by simp at h6;omega
   have e:(k:Int)+1<(pv.length:Int):=om;have n:(k:Int)<(pv.length:Int):=om;have aa:(0:Int)<=(k:Int)+1:=om;have x:((k:Int)+1).toNat=k+1:=om;have j:=hp k om;have o:=hp (k+1) d;have hw:IntKind.i64.wrap ((k:Int)+1+1)=(k:Int)+1+1:=Bh om om;have Pm:IntKind.i64.wrap (k:Int)=(k:Int):=Bh om om;have f:=Apo (l:=a) (k:=k) d;generalize a[k]=p at j f;generalize a[k+1]=q at o f;refine Ab (Ar (Dq [(0,[]),(2,[]),(5,[]),(7,[]),(8,[]),(1,[]),(3,[]),(4,[]),(6,[]),(9,[]),(10,[]),(11,[])] [1,5,70] [1] Ds kr (by simp [j,o,Pm,e,n,aa,x]<;>rfl) ?_))
   refine Ao (fun h7=>?_) fun h7=>Ae ?_
   ·refine Aa [2] [] sr ?_;refine Aj (Ac sr ?_);have:decide (p<q)=false:=by simp at h7|-;omega
    rw [if_pos (by rw [<- i,f,this];rfl)]
   refine A3 [1,5] [1] (by simp [hw]<;>rfl) ?_;have:decide (p<q)=true:=by simp at h7|-;omega
   exact⟨by omega,by rw [<- i,f,this];simp,_,AS.le_refl _⟩
  ·refine Bb ?_;refine Aa [2] [] sr ?_;refine Aj (Ac sr ?_);have y:a.length<=k+1:=by simp at h6;omega
   rw [if_neg (by rw [<- i,Aun y];simp)]
theorem Pn(x:Int):Nw x 1=.tup [(nR x).v,.bool true]:=by
 have:mkRat (x*Gu 1) (1:Int).natAbs=(x:Rat):=by
  show mkRat (x*1) 1=_
  rw [Int.mul_one,Rat.mkRat_one]
 rw [Nw,if_neg dc,this]
theorem Oz{x:Int}(h1: -18446744073709551616<=x)(h2:x<=18446744073709551616):Ox (x:Rat)<=3:=by
 have:=La h1 h2;have hd:(B1 (x:Rat).den).length<=3:=by rw [Rat.den_intCast,Aiz];decide
 rw [Ox,Rat.num_intCast];omega
theorem R1{z:Int}{d k:Nat}(h:d≠0)(h1:Nf z<=k)(h2:(B1 d).length<=k):Ox (mkRat z d)<=k:=by
 have e:sgn (decide (z<0)) z.natAbs=z:=by unfold sgn;split<;>rename_i h<;>simp at h<;>omega
 have:=Zl (b:=decide (z<0)) (n:=z.natAbs) h h1 h2
 rwa [e]at this
theorem Lc{x y:Int}{i j:Nat}(h1:Nf x<=i)(h2:Nf y<=j):Nf (x*y)<=i+j:=by
 rw [Nf,P3];exact M0 h1 h2
theorem Uz{n k:Nat}(h:(B1 n).length<=k):Nf (n:Int)<=k:=by rw [Nf,Ek];exact h
theorem Abq{q:Rat}{k:Nat}(h:Ox q<=k):Nf q.num<=k:=by unfold Ox at h;omega
theorem U0{q:Rat}{k:Nat}(h:Ox q<=k):(B1 q.den).length<=k:=by unfold Ox at h;omega
theorem Ai8{a b:Rat}{i j:Nat}(h1:Ox a<=i)(h2:Ox b<=j):Ox (a+b)<=i+j+1:=by
 rw [Rat.add_def'];refine R1 (Iy a.den_nz b.den_nz) ?_ (Ai (M0 (U0 h1) (U0 h2)) om);refine Rz (Lc (Abq h1) (Uz (U0 h2))) ?_;exact Ai (Lc (Abq h2) (Uz (U0 h1))) om
theorem Ar5{a b:Rat}{i j:Nat}(h1:Ox a<=i)(h2:Ox b<=j):Ox (a*b)<=i+j:=by
 rw [Rat.mul_def'];exact R1 (Iy a.den_nz b.den_nz) (Lc (Abq h1) (Abq h2)) (M0 (U0 h1) (U0 h2))
theorem Ar6{a b:Rat}{i j:Nat}(h1:Ox a<=i)(h2:Ox b<=j):Ox (a-b)<=i+j+1:=by
 rw [Rat.sub_eq_add_neg];exact Ai8 h1 (by rw [Ai4];exact h2)
theorem A4p{a:Rat}{i:Nat}(h:Ox a<=i):Ox (Q7 a)<=i:=by
 unfold Q7;split
 ·rw [Ai4];exact h
 ·exact h
theorem Al1(p:Int)(hp: -1000<=p/\p<=1000)(q:RR)(c:q.ok 34359738368):AC prog 198 [.int .i64 p,q.v] (fun r=>r=(nR (Q7 (p-q.val))).v):=by
 have k:=Tn p 1 om om dc dc;rw [Pn]at k;have d:=Oz (x:=p) om om;have h:(nR (p:Rat)).ok 68719476736:=Mj (Ai d dc);have hs:=A37 (nR p) q h ⟨⟨c.num.1,Ai c.num.2 dc⟩,c.lim,Ai c.len dc⟩;have t:(nR ((p:Rat)-q.val)).ok 1099511627776:=Mj (Ai (Ar6 d (RR.sz c dc)) dc);have g:=A4b (nR ((p:Rat)-q.val)) t;rw [Ln]at g hs;have e:q.v=.agg [.bool q.num.neg,.ro 1 (Av q.num.mag),.ro 1 (Av q.den)]:=rfl;have a:=Ak q.num.mag;have f:=Ak q.den;rw [e]at hs|-;clear e t;obtain⟨c1,l1,d1,j,i,o⟩:=Kw (p:Rat);obtain⟨c2,l2,d2,l,s,m⟩:=Kw ((p:Rat)-q.val);obtain⟨c3,l3,d3,n,u,w⟩:=Kw (Q7 ((p:Rat)-q.val));rw [j]at k hs;rw [l]at hs g;rw [n]at g|-;generalize Av q.num.mag=qa at hs a|-;generalize Av q.den=qb at hs f|-;refine Ax func198 fun w0 N0=>?_;refine Aa [0,3,4] [3,4] sr (Ab (Ad (Am 1 sr ?_)));refine Ah k func88 ?_;refine Af [3,4,5] [3,4,5] sr ?_;refine Ab (Ad (Am 2 sr ?_));refine Ah hs func227 ?_;refine Ah g func226 ?_;refine Af [4] [4] sr ?_;exact Aj (Ac sr rfl)
theorem Azk{c:Nat}{r:List Int}(h:r.length≠c):Zm c r=1:=by unfold Zm;rw [if_pos h]
theorem Qq(m:Mo)(n:Int):AC prog 91 [moV m,.int .i64 n] (fun r=>r=.int .i64 (Kv m n)):=by
 have hn:=fun(k:Nat)(h:k<m.length)=>Q6 h
 have hl:=K9 m;unfold moV Kv;generalize Eb m=s at hn hl|-;refine Ax func91 fun w0 N0=>?_;refine Aa [1,2] [2] sr (Ab (Aa [2,23] [2] sr ?_))
 refine Ao (fun h1=>?_) fun h1=>Ae ?_
 ·exact Aa [4] [] sr (Aj (Ac sr (by rw [if_pos (by simp at h1;omega)])))
 have ag:1<=n/\n<=21/\(m.length:Int)=n:=by simp at h1;omega
 rw [if_neg Go.om];have i:0<m.length:=om;have g0:=hn 0 i;have ae:0<s.length:=om
 have hc:Vb m=m[0].length:=by
  cases m with
  |nil=>simp at i
  |cons r m=>rfl
 rw [hc];have li:=A4 m[0];generalize As m[0]=iv at g0 li;generalize ai:m[0].length=a at li|-;refine Aa [2,5] [2] (by simp [g0,ae]<;>rfl) (Ab (Aa [2,5,34] [2] sr ?_))
 refine Ao (fun h2=>?_) fun h2=>Ae ?_
 ·exact Aa [4] [] sr (Aj (Ac sr (by rw [if_pos (by simp at h2;omega)])))
 have af:2<=a/\a<=6:=by simp at h2;omega
 rw [if_neg Go.om];refine Ab (Aa [5,36,37,38] [] sr (Ar (Br (fun k nx=>⟨[(5,.int .i64 a),(36,.ro 1 s),(37,.int .i64 m.length),(38,.int .i64 k)],[],nx,65⟩) (fun k=>Kt (Zm a) (m.drop k)=Kt (Zm a) m) m.length _ sm (by rw [hl,li];exact AS.le_refl _) ?_)));intro k nx hk e;refine Aa [5,36,37,38,39] [] sr (Ab ?_)
 refine Ao (fun h3=>Ae ?_) fun h3=>?_
 ·have f:k<m.length:=by simp at h3;omega
  have g:k<s.length:=om;have gk:=hn k f;have hw:=A6 (k:=k) om;rw [Nt _ f]at e;generalize m[k]=r at gk e;have hr:=fun(j:Nat)(h:j<r.length)=>E8 h
  have lr:=A4 r;generalize As r=rv at gk hr lr;refine Ab (Ar (Aa [5,7,36,37,38] [] (by simp [gk,g]<;>rfl) (Ab (Aa [5,7,36,37,38,45] [] sr ?_))))
  refine Ao (fun w=>?_) fun w=>Ae ?_
  ·refine Aa [4] [] sr ?_;refine Aj (Ac sr ?_);have:Zm a r=1:=Azk (by simp at w;omega);rw [<- e,if_pos (by rw [this];decide),this]
  have ah:r.length=a:=by simp at w;omega
  refine Aa [5,7,8,36,37,38] [] sr (Ab (Aa [5,8,36,37,38,46,47,48] [] sr (Ar ?_)))
  refine Di (fun t:Nat × Nat × Int=>⟨[(5,.int .i64 a),(8,.int .i64 t.2.2),(36,.ro 1 s),(37,.int .i64 m.length),(38,.int .i64 k),(46,.ro 1 rv),(47,.int .i64 r.length),(48,.int .i64 (t.1:Nat))],[],t.2.1,65⟩)
   (fun t=>t.1<=r.length/\0<=t.2.2/\t.2.2<=1000*t.1/\(r.drop t.1).any Afl=r.any Afl/\t.2.2+Afk (r.drop t.1)=Afk r) (fun t=>r.length-t.1) (0,_,0) ⟨by simp,by simp,by simp,by simp,by simp⟩ (by rw [lr];exact AS.le_refl _) ?_
  rintro⟨j,aj,sm⟩⟨i1,i2,i3,c,l⟩;simp only at i1 i2 i3 c l|-;refine Aa [5,8,36,37,38,46,47,48,49] [] sr (Ab ?_)
  refine Ao (fun h5=>Ae ?_) fun h5=>?_
  ·have y:j<r.length:=by simp at h5;omega
   have ab:j<rv.length:=om;have gj:=hr j y;have u:=A6 (k:=j) om;rw [Ay5 _ y]at c;rw [Auo y]at l;generalize r[j]=x at gj c l;refine Ab (Ar (Aa [5,8,10,36,37,38,46,47,48] [] (by simp [gj,ab]<;>rfl) (Ab (Aa [5,8,10,36,37,38,46,47,48,57] [] sr ?_))))
   refine Ao (fun h6=>?_) fun h6=>Ae ?_
   ·refine Aa [4] [] sr ?_;refine Aj (Ac sr ?_);have o:Afl x=true:=by simp [Afl]at h6|-;omega
    have:Zm a r=3:=by unfold Zm;rw [if_neg om,if_pos (by rw [<- c,o];rfl)]
    rw [<- e,if_pos (by rw [this];decide),this]
   have o:Afl x=false:=by simp [Afl]at h6|-;omega
   have hx:1<=x/\x<=1000:=by simp [Afl]at o;omega
   have z:IntKind.i64.wrap (sm+x)=sm+x:=Bh om om;refine A3 [5,8,36,37,38,46,47,48] [] (by simp [z]<;>rfl) (A3 [5,8,36,37,38,46,47,48] [] (by simp [u]<;>rfl) ?_);exact⟨(j+1,_,sm+x),⟨by simp only;omega,by simp only;omega,by simp only;omega,by rw [<- c,o];rfl,by simp only;omega⟩,by simp only;omega,AS.le_refl _⟩
  ·refine Bb ?_;have aa:j=r.length:=by simp at h5;omega
   rw [aa,Cd]at c l;simp only [List.any_nil,Afk]at c l;refine Aa [5,36,37,38,63] [] sr ?_
   have d:Zm a r=if Afk r≠1000 then 19 else 0:=by
    unfold Zm;rw [if_neg om,if_neg (by rw [<- c];decide)]
   refine Ao (fun h7=>?_) fun h7=>Ae ?_
   ·refine Aa [4] [] sr ?_;refine Aj (Ac sr ?_);have:Zm a r=19:=by rw [d,if_pos (by simp at h7;omega)]
    rw [<- e,if_pos (by rw [this];decide),this]
   have:Zm a r=0:=by rw [d,if_neg (by simp at h7;omega)]
   refine A3 [5,36,37,38] [] (by simp [hw]<;>rfl) ?_;exact⟨f,by rw [<- e,this];rfl,_,AS.le_refl _⟩
 ·refine Bb ?_;refine Aa [4] [] sr ?_;refine Aj (Ac sr ?_);have ad:k=m.length:=by simp at h3;omega
  rw [<- e,ad,Cd];rfl
theorem Ai9(m:Mo):AC prog 63 [moV m] (fun r=>r=.int .i64 (Vb m:Nat)):=by
 have i:=fun(k:Nat)(h:k<m.length)=>Q6 h
 have l:=K9 m;unfold moV
 by_cases e:0<m.length
 ·have d:=i 0 e
  have j:Vb m=m[0].length:=by
   cases m with
   |nil=>simp at e
   |cons r m=>rfl
  rw [j];have g:=A4 m[0];generalize As m[0]=iv at d g;generalize Eb m=f at d l|-;have a:0<f.length:=om;have c:f≠ []:=by intro h;rw [h]at a;simp at a
  refine Ax func63 fun w0 N0=>?_;refine Aa [1] [1] sr (Ab (Aa [1,6] [1] sr ?_));refine A7 rfl (fun h1=>by simp at h1;exact absurd h1 c) fun h1=>Ae ?_;exact Aa [2] [] (by simp [d,a]<;>rfl) (Aj (Ac sr (by rw [g])))
 ·have:m= []:=by cases m with
   |nil=>rfl
   |cons r m=>simp at e
  subst this;refine Ax func63 fun w0 N0=>?_;refine Aa [1] [1] (by simp [ntmps63,Eb]<;>rfl) (Ab (Aa [1,6] [1] sr ?_));refine A7 rfl (fun h1=>?_) (fun h1=>by simp at h1);exact Aa [2] [] sr (Aj (Ac sr rf))
structure Pit where
 id:Int
 code:List UInt8
 fam:Int
 st:Int
 wo:Int
 se:Int
 pt:Int
 ky:Int
 m:Mo
def Pit.cs(p:Pit):List V:=[.int .i64 p.id,.str p.code,.int .i64 p.fam,.int .i64 p.st,.int .i64 p.wo,.int .i64 p.se,.int .i64 p.pt,.int .i64 p.ky,.ro 1 (Eb p.m)]
def Pit.v(p:Pit):V:=.agg p.cs
def Ce(l:List Pit):List V:=l.map Pit.v
@[simp]theorem Dx(l:List Pit):(Ce l).length=l.length:=by simp [Ce]
theorem Ij{l:List Pit}{k:Nat}(h:k<l.length):G8 (Ce l) k=some l[k].v:=by rw [C0];simp [Ce,h]
theorem Ca(l:List Pit):(Ce l).all V.pureE=true:=by
 rw [Aw];intro x a;simp only [Ce,Bm]at a;obtain⟨n,_,rfl⟩:=a;rfl
def Baf(a c g d e f:Int):Bool:=
 (decide (a<0)||decide (9999999<a))||((decide (c<0)||decide (9999999<c))||((decide (g<0)||decide (2000<g))||((decide (d<1)||decide (2000<d))||((decide (e<1)||decide (5<e))||((decide (f<0)||decide (10<f)))))))
def Apy(n:Int)(p:Pit):Int:=
 if Nx p.code=false then 2 else if Baf p.fam p.st p.wo p.se p.pt p.ky=true then 3 else Kv p.m n
theorem Afm(p:Pit)(n:Int):Hp gv prog 60 [p.v,.int .i64 n] (fun r=>r=.int .i64 (Apy n p)):=by
 have g:=Wg p.code;have c:=Qq p.m n;obtain⟨id,code,d,l,u,o,t,s,m⟩:=p;unfold Apy Baf Pit.v Pit.cs;simp only at g c|-;have ev:moV m=.agg [.ro 1 (Eb m)]:=rfl;have x:=Do m;rw [ev]at c;generalize Eb m=mv at c x|-;generalize Kv m n=me at c|-;generalize Nx code=cv at g|-;refine By func60 fun w0 N0 y=>?_;refine Aa [1,2] [2] sr (Ab (Ab (Ad (Am 2 sr ?_))));refine Bq y g func90 ?_;refine Af [1,2,8] [2] sr ?_
 refine Ao (fun h1=>?_) fun h1=>Ae ?_
 ·exact Aa [4] [] sr (Aj (Ac sr (by rw [if_pos (by simpa using h1)])))
 rw [if_neg (by simpa using h1)];refine Ab (Ar (Ab (Aa [1,2,9] [2] sr ?_)))
 refine Ao (fun h=>Ae ?_) fun h=>?_
 ·have e:(decide (d<0)||decide (9999999<d))=true:=by simpa using h
  refine A7 rfl (fun _ =>?_) (fun a=>by rw [h]at a;cases a);exact Aa [4] [] sr (Aj (Ac sr (by rw [if_pos (by rw [e];rfl)])))
 have e:(decide (d<0)||decide (9999999<d))=false:=by simpa using h
 refine Aa [1,2,9] [2] sr ?_
 refine Ao (fun h=>Ae ?_) fun h=>?_
 ·have f:(decide (l<0)||decide (9999999<l))=true:=by simpa using h
  refine A7 rfl (fun _ =>?_) (fun a=>by rw [h]at a;cases a);exact Aa [4] [] sr (Aj (Ac sr (by rw [if_pos (by rw [e,f];rfl)])))
 have f:(decide (l<0)||decide (9999999<l))=false:=by simpa using h
 refine Aa [1,2,9] [2] sr ?_
 refine Ao (fun h=>Ae ?_) fun h=>?_
 ·have i:(decide (u<0)||decide (2000<u))=true:=by simpa using h
  refine A7 rfl (fun _ =>?_) (fun a=>by rw [h]at a;cases a);exact Aa [4] [] sr (Aj (Ac sr (by rw [if_pos (by rw [e,f,i];rfl)])))
 have i:(decide (u<0)||decide (2000<u))=false:=by simpa using h
 refine Aa [1,2,9] [2] sr ?_
 refine Ao (fun h=>Ae ?_) fun h=>?_
 ·have j:(decide (o<1)||decide (2000<o))=true:=by simpa using h
  refine A7 rfl (fun _ =>?_) (fun a=>by rw [h]at a;cases a);exact Aa [4] [] sr (Aj (Ac sr (by rw [if_pos (by rw [e,f,i,j];rfl)])))
 have j:(decide (o<1)||decide (2000<o))=false:=by simpa using h
 refine Aa [1,2,9] [2] sr ?_
 refine Ao (fun h=>Ae ?_) fun h=>?_
 ·have k:(decide (t<1)||decide (5<t))=true:=by simpa using h
  refine A7 rfl (fun _ =>?_) (fun a=>by rw [h]at a;cases a);exact Aa [4] [] sr (Aj (Ac sr (by rw [if_pos (by rw [e,f,i,j,k];rfl)])))
 have k:(decide (t<1)||decide (5<t))=false:=by simpa using h
 refine A3 [1,2,9] [2] sr ?_
 refine Ao (fun h=>?_) fun h=>Ae ?_
 ·have w:(decide (s<0)||decide (10<s))=true:=by simpa using h
  exact Aa [4] [] sr (Aj (Ac sr (by rw [if_pos (by rw [e,f,i,j,k,w];rfl)])))
 have w:(decide (s<0)||decide (10<s))=false:=by simpa using h
 rw [if_neg (by rw [e,f,i,j,k,w];decide)];refine Ab (Ad (Am 3 sr ?_));refine Ah c func91 ?_;refine Af [4] [] sr ?_;exact Aj (Ac sr rfl)
def Rc(a:Int):List Int->Bool
 | []=>true
 |x::r=>Vd x&&decide (a<x)&&Rc x r
def Ly(l:List Pit):List Int:=l.map Pit.id
def Jp(l:List Pit)(n:Int):Int:=if 18<l.length then 5 else if Rc 0 (Ly l)=false then 23 else Kt (Apy n) l
def Adg(l:List Int)(k:Nat):Int:=if k=0 then 0 else(l[k-1]?).getD 0
theorem Auy{l:List Int}{k:Nat}(h:k<l.length)(p:Int):Rc p (l.drop k)=(Vd l[k]&&decide (p<l[k])&&Rc l[k] (l.drop (k+1))):=by
 rw [Bt h,Rc]
theorem Lz(l:List Pit)(n:Int):Hp gv prog 35 [.ro 9 (Ce l),.int .i64 n] (fun r=>r=.int .i64 (Jp l n)):=by
 have hn:=fun(k:Nat)(h:k<l.length)=>Ij h
 have hl:=Dx l;have ag:=fun(p:Pit)=>Afm p n
 unfold Jp;generalize Ce l=lv at hn hl|-;refine By func35 fun w0 N0 hG=>?_;refine Aa [0,1] [] sr (Ab (Aa [0,1,12] [] sr ?_))
 refine Ao (fun h1=>?_) fun h1=>Ae ?_
 ·exact Aa [4] [] sr (Aj (Ac sr (by rw [if_pos (by simp at h1;omega)])))
 have ai:l.length<=18:=by simp at h1;omega
 rw [if_neg Go.om];refine Ab (Aa [0,1,13,14,15] [] sr (Ar (Br (fun k nx=>⟨[(0,.ro 9 lv),(1,.int .i64 n),(13,.ro 9 lv),(14,.int .i64 l.length),(15,.int .i64 k)],[],nx,53⟩) (fun k=>Rc (Adg (Ly l) k) ((Ly l).drop k)=Rc 0 (Ly l)) l.length _ (by simp [Adg]) (by rw [hl];exact AS.le_refl _) ?_)));intro k nx hk a;refine Aa [0,1,13,14,15,16] [] sr (Ab ?_)
 refine Ao (fun h2=>Ae ?_) fun h2=>?_
 ·have d:k<l.length:=by simp at h2;omega
  have j:k<lv.length:=om;have gk:=hn k d;have hw:=A6 (k:=k) om;have ah:(Ly l).length=l.length:=by simp [Ly]
  rw [Auy Go.om]at a;have aa:(Ly l)[k]'(by omega)=l[k].id:=by simp [Ly]
  have e:Adg (Ly l) (k+1)=l[k].id:=by
   unfold Adg;rw [if_neg om,show k+1-1=k by omega,Al om,aa];rfl
  rw [aa]at a;have g:=Abp l[k].id;have er:l[k].v=.agg [.int .i64 l[k].id,.str l[k].code,.int .i64 l[k].fam,.int .i64 l[k].st,.int .i64 l[k].wo,.int .i64 l[k].se,.int .i64 l[k].pt,.int .i64 l[k].ky,.ro 1 (Eb l[k].m)]:=rfl;rw [er]at gk;have i:Vd l[k].id=true->0<l[k].id:=fun h=>by simp [Vd]at h;omega
  generalize Vd l[k].id=nb at g a i;generalize l[k].id=ab,l[k].code=x1,l[k].fam=x2,l[k].st=x3,l[k].wo=x4,l[k].se=x5,l[k].pt=x6,l[k].ky=x7,Eb l[k].m=x8 at*;refine Ab (Ar (Aa [0,1,5,6,13,14,15] [6] (by simp [gk,j]<;>rfl) ?_));have t:IntKind.i64.wrap (-1)= -1:=Bh om om
  rcases Es k with rfl|aj
  ·cases nb with
   |false=>
    refine Ab (C5 [(0,[]),(1,[]),(2,[]),(3,[]),(4,[]),(5,[]),(6,[]),(7,[]),(8,[]),(10,[]),(11,[]),(12,[]),(13,[]),(14,[]),(9,[]),(15,[]),(16,[]),(17,[]),(18,[])] Ds kr ?_);refine Cf 2 sr ?_;refine Bu (fun hg=>g) func59 rfl kr rfl rfl sr rfl rfl sr sm sr ?_;refine Cf 8 Go.sr ?_;refine C6 [0,1,13,14,15,38] [] (by simp [t]<;>rfl) ?_;refine A7 rfl (fun f=>?_) (fun f=>by simp at f);refine Aa [4] [] sr ?_;refine Aj (Ac sr ?_);rw [if_pos (by rw [<- a];rfl)]
   |true=>
    have ad:0<ab:=i rfl;refine Ab (C5 [(0,[]),(1,[]),(2,[]),(3,[]),(4,[]),(5,[]),(6,[]),(7,[]),(8,[]),(10,[]),(11,[]),(12,[]),(13,[]),(14,[]),(9,[]),(15,[]),(16,[]),(17,[]),(18,[])] Ds kr ?_);refine Cf 2 sr ?_;refine Bu (fun hg=>g) func59 rfl kr rfl rfl sr rfl rfl sr sm sr ?_;refine Cf 8 Go.sr ?_;refine C6 [0,1,13,14,15,38] [] (by simp [t]<;>rfl) ?_;refine A7 rfl (fun f=>by simp at f) fun f=>Ae (A3 [0,1,13,14,15] [] Go.sr ?_);exact⟨d,by rw [<- a,e];simp [Adg,ad],_,AS.le_refl _⟩
  ·have s:(0:Int)<(k:Int):=om;have x:(1:Int)<=(k:Int):=om;have y:IntKind.i64.wrap ((k:Int)-1)=(k:Int)-1:=Bh om om;have u:(0:Int)<=(k:Int)-1:=om;have w:(k:Int)-1<(lv.length:Int):=om;have o:((k:Int)-1).toNat=k-1:=om;have gp:=hn (k-1) om
   have af:Adg (Ly l) k=l[k-1].id:=by
    unfold Adg;rw [if_neg om,Al Go.om];simp [Ly]
   rw [af]at a;have ep:l[k-1].v=.agg [.int .i64 l[k-1].id,.str l[k-1].code,.int .i64 l[k-1].fam,.int .i64 l[k-1].st,.int .i64 l[k-1].wo,.int .i64 l[k-1].se,.int .i64 l[k-1].pt,.int .i64 l[k-1].ky,.ro 1 (Eb l[k-1].m)]:=rfl;rw [ep]at gp;generalize l[k-1].id=ip at*;cases nb with
   |false=>
    refine Ab (C5 [(0,[]),(1,[]),(2,[]),(3,[]),(4,[]),(5,[]),(6,[]),(7,[]),(8,[]),(10,[]),(11,[]),(12,[]),(13,[]),(14,[]),(9,[]),(15,[]),(16,[]),(17,[]),(18,[])] Ds kr ?_);refine Cf 2 sr ?_;refine Bu (fun hg=>g) func59 rfl kr rfl rfl sr rfl rfl sr sm sr ?_;refine Cf 8 Go.sr ?_;refine C6 [0,1,13,14,15,38] [] (by simp [y,w,o,x,gp]<;>rfl) ?_;refine A7 rfl (fun f=>?_) (fun f=>by simp at f);refine Aa [4] [] sr ?_;refine Aj (Ac sr ?_);rw [if_pos (by rw [<- a];rfl)]
   |true=>
    refine Ab (C5 [(0,[]),(1,[]),(2,[]),(3,[]),(4,[]),(5,[]),(6,[]),(7,[]),(8,[]),(10,[]),(11,[]),(12,[]),(13,[]),(14,[]),(9,[]),(15,[]),(16,[]),(17,[]),(18,[])] Ds kr ?_);refine Cf 2 sr ?_;refine Bu (fun hg=>g) func59 rfl kr rfl rfl sr rfl rfl sr sm sr ?_;refine Cf 8 Go.sr ?_;refine C6 [0,1,13,14,15,38] [] (by simp [y,w,o,x,gp]<;>rfl) ?_
    refine Ao (fun f=>?_) fun f=>Ae ?_
    ·have ak:ab<=ip:=by simp at f;omega
     refine Aa [4] [] sr ?_;refine Aj (Ac sr ?_);rw [if_pos (by rw [<- a];simp;intro h;omega)]
    have ae:ip<ab:=by simp at f;omega
    refine A3 [0,1,13,14,15] [] (by simp [hw]<;>rfl) ?_;exact⟨d,by rw [<- a,e];simp [ae],_,AS.le_refl _⟩
 ·refine Bb ?_;have z:k=l.length:=by simp at h2;omega
  have ah:(Ly l).length=l.length:=by simp [Ly]
  rw [z,List.drop_of_length_le Go.om]at a;rw [if_neg (by rw [<- a];simp [Rc])];refine Ab (Aa [1,40,41,42] [] sr (Ar (Br (fun k nx=>⟨[(1,.int .i64 n),(40,.ro 9 lv),(41,.int .i64 l.length),(42,.int .i64 k)],[],nx,53⟩) (fun k=>Kt (Apy n) (l.drop k)=Kt (Apy n) l) l.length _ sm (by rw [hl];exact AS.le_refl _) ?_)));clear a z hk;intro k nx hk a;refine Aa [1,40,41,42,43] [] sr (Ab ?_)
  refine Ao (fun h4=>Ae ?_) fun h4=>?_
  ·have d:k<l.length:=by simp at h4;omega
   have j:k<lv.length:=om;have gk:=hn k d;have hw:=A6 (k:=k) om;rw [Nt _ d]at a;have c:=ag l[k];have er:l[k].v=.agg [.int .i64 l[k].id,.str l[k].code,.int .i64 l[k].fam,.int .i64 l[k].st,.int .i64 l[k].wo,.int .i64 l[k].se,.int .i64 l[k].pt,.int .i64 l[k].ky,.ro 1 (Eb l[k].m)]:=rfl;have pm:=Do l[k].m;rw [er]at gk c;generalize Apy n l[k]=pe at c a;generalize Eb l[k].m=mv at gk c pm;refine Ab (Ar (Aa [1,8,40,41,42] [8] (by simp [gk,j]<;>rfl) (Ab (Ad (Am 2 sr ?_)))));refine Bq hG c func60 ?_;refine Af [1,9,40,41,42] [] sr ?_;refine Aa [1,9,40,41,42,50] [] sr ?_
   refine Ao (fun h5=>?_) fun h5=>Ae ?_
   ·exact Aa [4] [] sr (Aj (Ac sr (by rw [<- a,if_pos (by simpa using h5)])))
   refine A3 [1,40,41,42] [] (by simp [hw]<;>rfl) ?_;exact⟨d,by rw [<- a,if_neg (by simpa using h5)],_,AS.le_refl _⟩
  ·refine Bb ?_;refine Aa [4] [] sr ?_;refine Aj (Ac sr ?_);have z:k=l.length:=by simp at h4;omega
   rw [<- a,z,Cd];rfl
@[simp]theorem Bbg:D7 prog 223=some (.agg []):=by kernel_rfl
def Ag4(r:Ru):V:=
 if r.kind=1 then .dm 210 [.int .i64 r.mn,.int .i64 r.mx,.fc 121 [] [.rp r.v],.str r.code]
 else if r.kind=2 then .ifc 212 (.agg [.int .i64 r.mn,.int .i64 r.mx,.fn 124])
 else if r.kind=3 then .ifc 213 (.agg [.int .i64 r.mn,.int .i64 r.mx,.fn 125])
 else if r.kind=4 then .ifc 214 (.agg [.int .i64 r.mn,.int .i64 r.mx,.fn 126])
 else if r.kind=5 then .dm 216 [.int .i64 r.mn,.int .i64 r.mx,.fc 127 [] [.rp r.v],.int .i64 r.n]
 else if r.kind=6 then .ifc 218 (.agg [.int .i64 r.mn,.int .i64 r.mx,.int .i64 r.n])
 else if r.kind=7 then .ifc 220 (.agg [.int .i64 r.n])
 else if r.kind=8 then .ifc 221 (.agg [.int .i64 r.n])
 else if r.kind=9 then .ifc 223 (.agg [])
 else .nili
theorem Al2{r:Ru}(h:r.known):Bi (Ag4 r) (Wh r):=by
 have a:r.kind=1\/r.kind=2\/r.kind=3\/r.kind=4\/r.kind=5\/r.kind=6\/r.kind=7\/r.kind=8\/r.kind=9:=by unfold Go.Eng.Limb.Ru.known at h;omega
 unfold Ag4 Wh Al0 Adf;rcases a with e|e|e|e|e|e|e|e|e<;>simp only [e,if_true,if_false,Int.reduceEq]<;>first|exact Bi.refl _ |exact Aux _ _
theorem Azl{r:Ru}(h:¬r.known):Ag4 r=.nili:=by
 unfold Go.Eng.Limb.Ru.known at h;unfold Ag4
 (repeat' split)<;>first|rfl|omega
theorem Xy(r:Ru):AC prog 85 [r.v] (fun x=>x=.tup [Ag4 r,.bool r.fits]):=by
 obtain⟨k,n,a,b,c⟩:=r;unfold Ag4 Ru.fits Ru.v Ru.cs;simp only;refine Ax func85 fun w0 N0=>?_;refine Aa [1] [1] sr (Bp 1 [1] [] sr (Aa [1,4] [4] sr ?_));refine Dq [(0,[]),(3,[]),(6,[]),(9,[]),(1,[]),(2,[]),(12,[]),(4,[]),(5,[]),(13,[]),(7,[]),(8,[]),(14,[]),(10,[]),(11,[]),(15,[])] [1,4,5,6,7,8] [4] Ds kr sr ?_;refine Ab (Aa [1,4,5,6,7,8,32] [4] sr (Ar (Aa [1,4,5,6,7,8,32,33] [4] sr ?_)))
 refine Ao (fun h1=>?_) fun h1=>?_
 ·have e:k=1:=by simpa using h1
  subst e;refine Aa [1,4,5,9] [4] sr ?_;exact Aa [2,3] [] sr (Aj (Ac sr sm))
 refine Aa [1,4,5,6,7,8,32,44] [4] sr ?_
 refine Ao (fun h2=>?_) fun h2=>?_
 ·have e:k=2:=by simpa using h2
  subst e;refine Aa [4,5,6,8,10] [4] sr ?_;exact Aa [2,3] [] sr (Aj (Ac sr sm))
 refine Aa [1,4,5,6,7,8,32,58] [4] sr ?_
 refine Ao (fun d=>?_) fun d=>?_
 ·have e:k=3:=by simpa using d
  subst e;refine Aa [4,5,6,8,11] [4] sr ?_;exact Aa [2,3] [] sr (Aj (Ac sr sm))
 refine Aa [1,4,5,6,7,8,32,72] [4] sr ?_
 refine Ao (fun g=>?_) fun g=>?_
 ·have e:k=4:=by simpa using g
  subst e;refine Aa [4,5,8,12] [4] sr ?_;exact Aa [2,3] [] sr (Aj (Ac sr sm))
 refine Aa [1,4,5,6,7,8,32,83] [4] sr ?_
 refine Ao (fun l=>?_) fun l=>?_
 ·have e:k=5:=by simpa using l
  subst e;refine Aa [1,4,8,13] [4] sr ?_;exact Aa [2,3] [] sr (Aj (Ac sr sm))
 refine Aa [1,4,5,6,7,8,32,94] [4] sr ?_
 refine Ao (fun h=>?_) fun h=>?_
 ·have e:k=6:=by simpa using h
  subst e;exact Aa [2,3] [] sr (Aj (Ac sr sm))
 refine Aa [1,5,6,7,8,32,102] [] sr ?_
 refine Ao (fun j=>?_) fun j=>?_
 ·have e:k=7:=by simpa using j
  subst e;exact Aa [2,3] [] sr (Aj (Ac sr sm))
 refine Aa [1,5,6,7,8,32,115] [] sr ?_
 refine Ao (fun i=>?_) fun i=>?_
 ·have e:k=8:=by simpa using i
  subst e;exact Aa [2,3] [] sr (Aj (Ac sr sm))
 refine Aa [5,6,7,8,128] [] sr ?_
 refine Ao (fun f=>?_) fun f=>Ae ?_
 ·have e:k=9:=by simpa using f
  subst e;exact Aa [2,3] [] sr (Aj (Ac sr sm))
 refine Aa [2,3] [] sr ?_;have e1:¬k=1:=by simpa using h1
 have w:¬k=2:=by simpa using h2
 have t:¬k=3:=by simpa using d
 have u:¬k=4:=by simpa using g
 have m:¬k=5:=by simpa using l
 have s:¬k=6:=by simpa using h
 have z:¬k=7:=by simpa using j
 have o:¬k=8:=by simpa using i
 have y:¬k=9:=by simpa using f
 exact Aj (Ac sr (by simp [e1,w,t,u,m,s,z,o,y]))
theorem Aau{r:Ru}(h:r.known):AC prog 85 [r.v] (fun x=>x=.tup [.dm (Al0 r) (Adf r),.bool r.fits]):=
 (Xy r).relax (Bi.tup (.cons (Al2 h) (.cons (Bi.refl _) .nil)))
theorem Al3{r:Ru}(h:¬r.known):AC prog 85 [r.v] (fun x=>x=.tup [.nili,.bool false]):=by
 have:=Xy r;rw [Azl h]at this
 have a:r.fits=false:=by
  cases hh:r.fits with
  |false=>rfl
  |true=>exact absurd (Wi hh) h
 rwa [a]at this
def Ey(l:List Ru):List V:=l.map Ru.v
@[simp]theorem Pp(l:List Ru):(Ey l).length=l.length:=by simp [Ey]
theorem Re{l:List Ru}{k:Nat}(h:k<l.length):G8 (Ey l) k=some l[k].v:=by rw [C0];simp [Ey,h]
theorem C2(l:List Ru):(Ey l).all V.pureE=true:=by
 rw [Aw];intro x a;simp only [Ey,Bm]at a;obtain⟨n,_,rfl⟩:=a;rfl
def Ag5(r:Ru):Int:=if r.fits=false then 1 else Ai7 r
def Rf(len:Int)(rs:List Ru):Int:=if len<1\/18<len then 3 else if 20<rs.length then 5 else Kt Ag5 rs
def Pq(len:Int)(rs:List Ru):V:=.agg [.int .i64 len,.ro 5 (Ey rs)]
theorem Vx(len:Int)(rs:List Ru):Hp gv prog 55 [Pq len rs] (fun r=>r=.int .i64 (Rf len rs)):=by
 have y:=fun(k:Nat)(h:k<rs.length)=>Re h
 have z:=Pp rs;unfold Pq Rf;generalize Ey rs=u at y z|-;refine By func55 fun w0 N0 hG=>?_;refine Aa [1] [1] sr (Ab (Aa [1,15] [1] sr ?_))
 refine Ao (fun h1=>?_) fun h1=>Ae ?_
 ·exact Aa [2] [] sr (Aj (Ac sr (by rw [if_pos (by simpa using h1)])))
 rw [if_neg (by simpa using h1)];refine Ab (Aa [1,19] [1] sr ?_)
 refine Ao (fun h2=>?_) fun h2=>Ae ?_
 ·exact Aa [2] [] sr (Aj (Ac sr (by rw [if_pos (by simp at h2;omega)])))
 have w:rs.length<=20:=by simp at h2;omega
 rw [if_neg Go.om];refine Ab (Aa [21,22,23] [] sr (Ar (Br (fun k nx=>⟨[(21,.ro 5 u),(22,.int .i64 rs.length),(23,.int .i64 k)],[],nx,40⟩) (fun k=>Kt Ag5 (rs.drop k)=Kt Ag5 rs) rs.length _ sm (by rw [z];exact AS.le_refl _) ?_)));intro k nx hk g;refine Aa [21,22,23,24] [] sr (Ab ?_)
 refine Ao (fun s=>Ae ?_) fun s=>?_
 ·have i:k<rs.length:=by simp at s;omega
  have f:k<u.length:=om;have m:=y k i;have hw:=A6 (k:=k) om;rw [Nt Ag5 i]at g;generalize rs[k]=r at m g;have x:r.v=.agg [.int .i64 r.kind,.int .i64 r.n,.int .i64 r.mn,.int .i64 r.mx,.str r.code]:=rfl;have a:Ag5 r=if r.fits=false then 1 else Ai7 r:=rfl
  by_cases d:r.known
  case neg=>
   have c:=Al3 d
   have hf:r.fits=false:=by
    cases hh:r.fits with
    |false=>rfl
    |true=>exact absurd (Wi hh) d
   rw [x]at m c;rw [if_pos hf]at a;refine Ab (Ar (Aa [4,21,22,23] [4] (by simp [m,f]<;>rfl) (Ab (Ad (Am 1 sr ?_)))));refine Ah c func85 ?_;refine Af [5,6,21,22,23] [] sr ?_;refine Ab (Aa [5,21,22,23,33] [] sr ?_);refine A7 rfl (fun j=>?_) (fun j=>by simp at j);refine Aa [2] [] sr ?_;refine Aj (Ac sr ?_);rw [<- g,if_pos (by rw [a];decide),a]
  have c:=Aau d;have l:=A4o r d;rw [x]at m c;unfold Wh at l;generalize Al0 r=dt at c l;generalize Adf r=dc at c l;generalize Ai7 r=ce at l a;generalize r.fits=fb at c a;refine Ab (Ar (Aa [4,21,22,23] [4] (by simp [m,f]<;>rfl) (Ab (Ad (Am 1 sr ?_)))));refine Ah c func85 ?_;refine Af [5,6,21,22,23] [] sr ?_;refine Ab (Aa [5,21,22,23,33] [] sr ?_)
  refine Ao (fun j=>?_) fun j=>Ae ?_
  ·refine Aa [2] [] sr ?_;refine Aj (Ac sr ?_);have e:fb=false:=by simpa using j
   subst e;rw [if_pos rfl]at a;rw [<- g,if_pos (by rw [a];decide),a]
  have e:fb=true:=by simpa using j
  subst e;rw [if_neg Go.dc]at a;refine Ab (Ad (Am 1 sr ?_));refine Agu hG l sm rfl rfl sr sr sm sr ?_;refine Af [7,21,22,23] [] sr ?_;refine Aa [7,21,22,23,37] [] sr ?_
  refine Ao (fun o=>?_) fun o=>Ae ?_
  ·refine Aa [2] [] sr ?_;refine Aj (Ac sr ?_);rw [<- g,a,if_pos (by simpa using o)]
  refine A3 [21,22,23] [] (by simp [hw]<;>rfl) ?_;exact⟨i,by rw [<- g,a,if_neg (by simpa using o)],_,AS.le_refl _⟩
 ·refine Bb ?_;refine Aa [2] [] sr ?_;refine Aj (Ac sr ?_);have t:k=rs.length:=by simp at s;omega
  rw [<- g,t,Cd];rfl
def J2(w:List Nat)(m:Nat):Prop:=∀x∈w,(B1 x).length<=m
theorem Apz{p:Int}(h: -1000<=p/\p<=1000):Nf p<=1:=Er (m:=1) om
theorem Aja{w:List Nat}(h:J2 w 1000):∀k,k<=w.length->Nf (Gb (w.take k):Int)<=1000+k
 |0,_ =>by simp [Gb,Nf,Ea]
 |k+1,hk=>by
  have ih:=Aja h k om;have a:=h w[k] (Az om);rw [Uy om,C8];have:=Rz ih (Ai (Uz a) (by omega:1000<=1000+k));omega
theorem Ajb{l:List Int}{w:List Nat}(h:J2 w 1000)(hp:∀p∈l,-1000<=p/\p<=1000)(c:w.length=l.length):∀k,k<=w.length->Nf (L8 (l.take k) (w.take k))<=1001+k
 |0,_ =>by simp [L8,Nf,Ea]
 |k+1,hk=>by
  have ih:=Ajb h hp c k om;have a:=h w[k] (Az om);rw [Agz om Go.om];have:=Rz ih (Ai (Lc (Uz a) (Apz (hp l[k] (Az om)))) (by omega:1000+1<=1001+k));omega
theorem Ajc{l:List Int}{w:List Nat}(h:J2 w 1000)(hp:∀p∈l,-1000<=p/\p<=1000)(d:w.length=l.length):∀k,k<=w.length->Nf (Qp (l.take k) (w.take k))<=1002+k
 |0,_ =>by simp [Qp,Nf,Ea]
 |k+1,hk=>by
  have ih:=Ajc h hp d k om;have c:=h w[k] (Az om);have a:=Apz (hp l[k] (Az om));rw [Ag0 om Go.om];have:=Rz ih (Ai (Lc (Lc (Uz c) a) a) (by omega:1000+1+1<=1002+k));omega
theorem Bag(n:Nat):sgn false n=(n:Int):=rfl
theorem Ar7(g:Gr)(w:List Nat)(hg:Ku g=0)(s:w.length=g.pts.length)(hw:J2 w 1000)(h0:Gb w≠0):
  AC prog 196 [g.v,.ro 1 (Bw w)] (fun r=>r=.tup [(nI (Gb w)).v,(nI (L8 g.pts w)).v,(nI (Qp g.pts w)).v,.int .i64 0]):=by
 have hv:=Lb g;rw [hg]at hv;obtain⟨aj,ag,ai,l,-,-⟩:=Jg hg;obtain⟨pts,m⟩:=g;simp only at s aj ag ai l|-;have ev:(Gr.mk pts m).v=.agg [.ro 1 (As pts),.ro 1 (As m)]:=rfl;rw [ev]at hv|-;have z0:=Aja hw;have z1:=Ajb hw l s;have z2:=Ajc hw l s;have hp:∀(k:Nat)(h:k<pts.length),G8 (As pts) k=some (.int .i64 pts[k]):=fun k h=>E8 h
 have hq:∀(k:Nat)(h:k<w.length),G8 (Bw w) k=some (.ro 1 (F5 w[k])):=fun k h=>Kc h
 have lp:=A4 pts;have lq:=Hk w;have pp:=Ag pts;have pq:=Ag m;have pw:=Bv w;have t:=Xv (nI (Gb w)) (Cn _);rw [If,Apq]at t;have ab:Gu (Gb w)=1:=by unfold Gu;rw [if_neg om,if_pos Go.om]
 rw [ab]at t;simp only [Apq];generalize As pts=pv at hp lp hv pp|-;generalize As m=qv at hv pq|-;generalize Bw w=wv at hq lq pw|-;refine Ax func196 fun w0 N0=>?_;refine Aa [1,2,4,5,6] [2,4,5,6] sr (Ab (Ab (Ad (Am 1 sr ?_))));refine Ah hv func56 ?_;refine Af [1,2,4,5,6,8] [2,4,5,6] sr ?_;refine Aa [1,2,4,5,6,8,20] [2,4,5,6] sr ?_;refine A7 rfl (fun h1=>by simp at h1) (fun h1=>Ae (Ab (Aa [1,2,4,5,6,30] [2,4,5,6] sr ?_)));refine A7 rfl (fun h2=>by simp at h2;omega) fun h2=>Ae (Aa [1,2,4,5,6,9,10,11] [2,4,5,6,9,10,11] sr ?_);refine Uo 9 1 109 1 149 [1,2,4,5,6,9,10,11] [2,4,5,6,9,10,11,109] sr ?_;refine Bp 109 [1,2,4,5,6,9,10,11] [2,4,5,6,9,10,11] sr ?_;refine Uo 10 1 109 1 149 [1,2,4,5,6,9,10,11] [2,4,5,6,9,10,11,109] sr ?_;refine Bp 109 [1,2,4,5,6,9,10,11] [2,4,5,6,9,10,11] sr ?_;refine Uo 11 1 109 1 149 [1,2,4,5,6,9,10,11] [2,4,5,6,9,10,11,109] sr ?_;refine Bp 109 [1,2,4,5,6,9,10,11] [2,4,5,6,9,10,11] sr (Ab (Aa [1,4,5,6,9,10,11,35,36,37] [4,5,6,9,10,11] sr (Ar ?_)))
 refine Br (fun k nx=>⟨[(1,V.ro 1 wv),(4,V.bp 4 1 2 0 0),(5,V.bp 5 2 2 0 0),(6,V.bp 6 3 2 0 0),(9,V.bp 9 16 2 0 0),(10,V.bp 10 17 2 0 0),(11,V.bp 11 18 2 0 0),(35,V.ro 1 pv),(36,V.int IntKind.i64 pts.length),(37,V.int IntKind.i64 k)],
  [(4,{ v:=1,sz:=2,ty:=32,es:=[V.agg [V.bool false,V.nils]]}),(5,{ v:=2,sz:=2,ty:=32,es:=[V.agg [V.bool false,V.nils]]}),(6,{ v:=3,sz:=2,ty:=32,es:=[V.agg [V.bool false,V.nils]]}),
   (9,{ v:=16,sz:=2,ty:=32,es:=[V.agg [V.bool (nIb (Gb (w.take k))),V.ro 1 (nIl (Gb (w.take k)))]]}),(10,{ v:=17,sz:=2,ty:=32,es:=[V.agg [V.bool (nIb (L8 (pts.take k) (w.take k))),V.ro 1 (nIl (L8 (pts.take k) (w.take k)))]]}),
   (11,{ v:=18,sz:=2,ty:=32,es:=[V.agg [V.bool (nIb (Qp (pts.take k) (w.take k))),V.ro 1 (nIl (Qp (pts.take k) (w.take k)))]]})],nx,73⟩) (fun k=>True) pts.length 26 trivial ?_ ?_
 ·rw [lp];simp only [Iq,Gb,L8,Qp,Int.natCast_zero,Ay6,Ay7];exact AS.le_refl _
 intro k nx hk _;refine Aa [1,4,5,6,9,10,11,35,36,37,38] [4,5,6,9,10,11] sr (Ab ?_)
 refine Ao (fun h3=>Ae ?_) fun h3=>?_
 ·have j:k<pts.length:=by simp at h3;omega
  have y:k<pv.length:=om;have aa:k<wv.length:=om;have a:k<w.length:=om;have gp:=hp k j;have gq:=hq k a;have ah:=A6 (k:=k) om;have y0:=z0 k om;have y1:=z1 k om;have y2:=z2 k om;have e0:=Uy a;have e1:=Agz j a;have e2:=Ag0 j a;have ae:=hw w[k] (Az a);have ad:=l pts[k] (Az j);generalize pts[k]=p at gp ad e1 e2;generalize w[k]=x at gq ae e0 e1 e2;generalize Gb (w.take k)=s0 at y0 e0|-;generalize L8 (pts.take k) (w.take k)=s1 at y1 e1|-;generalize Qp (pts.take k) (w.take k)=s2 at y2 e2|-;have sp:=Apz ad;have sx:=Uz ae;have c:=Jo false x om;have o:=Apw p om om;have n:=N8 (nI x) (nI p) (Gx om) (Gx om);have sm:=Lc sx sp;have f:=Xw (nI s0) (nI x) (Gx om) (Gx om);have i:=Xw (nI s1) (nI (x*p)) (Gx om) (Gx om);have e:=N8 (nI (x*p)) (nI p) (Gx om) (Gx om);have al:=Lc sm sp;have d:=Xw (nI s2) (nI (x*p*p)) (Gx om) (Gx om);rw [Bag]at c;simp only [If,Apq]at c o n f i e d;change AC _ _ [.bool false,.ro 1 (F5 x)] _ at c;have u:∀z:Int,(nIl z).all V.pureE=true:=Tl;have pn:=Ff x;refine Ab (Ar (Aa [1,4,5,6,9,10,11,12,13,35,36,37] [4,5,6,9,10,11] (by simp [gp,y]<;>rfl) (Ab (Ad (Am 4 (by simp [gq,aa]<;>rfl) ?_)))));refine Ah c func171 ?_;refine Af [1,4,5,6,9,10,11,13,14,35,36,37] [4,5,6,9,10,11,14] sr ?_;refine Ab (Ad (Am 1 sr ?_));refine Ah o func131 ?_;refine Af [1,4,5,6,9,10,11,14,15,35,36,37] [4,5,6,9,10,11,14,15] sr ?_;refine Ab (Ad (Am 2 sr ?_));refine Ah n func133 ?_;refine Af [1,4,5,6,9,10,11,14,15,16,35,36,37] [4,5,6,9,10,11,14,15,16] sr ?_;refine Ab (Ad (Am 2 sr ?_));refine Ah f func225 ?_;refine Af [1,4,5,6,9,10,11,15,16,35,36,37] [4,5,6,9,10,11,15,16] sr ?_;refine Ab (Ad (Am 2 sr ?_));refine Ah i func225 ?_;refine Af [1,4,5,6,9,10,11,15,16,35,36,37] [4,5,6,9,10,11,15,16] sr ?_;refine C5 [(0,[]),(1,[]),(2,[]),(3,[]),(4,[]),(5,[])] Ds kr ?_;refine Cf 3 sr ?_;refine Bu (fun hg=>e) func133 rfl kr rfl rfl sr rfl rfl sr (by simp) sr ?_;refine Bu (fun hg=>d) func225 rfl kr rfl rfl sr rfl rfl sr (by simp) sr ?_;refine C6 [1,4,5,6,9,10,11,35,36,37] [4,5,6,9,10,11] sr ?_;refine A3 [1,4,5,6,9,10,11,35,36,37] [4,5,6,9,10,11] (by simp [ah]<;>rfl) ?_;exact⟨j,trivial,_,by simp only [e0,e1,e2,C8];exact AS.le_refl _⟩
 ·refine Bb ?_;have ak:k=pts.length:=by simp at h3;omega
  subst ak;have ew:w.take pts.length=w:=Bg om;have ep:pts.take pts.length=pts:=Bg om;simp only [ew,ep];refine Ab (Ab (Ad (Am 1 sr ?_)));refine Ah t func87 ?_;refine Af [4,5,6,9,10,11,66] [4,5,6,9,10,11] sr ?_;refine A7 rfl (fun h4=>by simp at h4) (fun h4=>Ae (Ab (Abk (.take 0 [] (.alt 1 (.alt 2 (.take 3 [] (.take 4 [] (.take 5 [] (.take 6 [] .done)))) (.alt 3 (.alt 2 (.take 4 [] (.take 5 [] (.take 6 [] .done))) (.alt 4 (.take 2 [] (.take 5 [] (.take 6 [] .done))) .stop)) .stop)) (.alt 2 (.alt 1 (.take 3 [] (.take 4 [] (.take 5 [] (.take 6 [] .done)))) (.alt 3 (.take 1 [] (.take 4 [] (.take 5 [] (.take 6 [] .done)))) .stop)) (.alt 3 (.take 1 [] (.alt 2 (.take 4 [] (.take 5 [] (.take 6 [] .done))) (.alt 4 (.take 2 [] (.take 5 [] (.take 6 [] .done))) .stop))) .stop)))) Ds kr ?_)));refine Rt (L:=[4,5,6,7]) (M:=[4,5,6]) sr ?_;intro T hT;have af:=(show T=_ by simpa using hT);subst af;exact Aj (Ac (by simp [results196]<;>rfl) rfl)
theorem R2(x:Int){n:Nat}(h:n≠0):Nw x (n:Int)=.tup [(nR (mkRat x n)).v,.bool true]:=by
 have h1:Gu (n:Int)=1:=by unfold Gu;rw [if_neg om,if_pos Go.om]
 rw [Nw,if_neg om,h1,Int.mul_one,Ek]
def Oq(g:Gr)(w:List Nat):Rat:=mkRat (L8 g.pts w) (Gb w)
def Wj(g:Gr)(w:List Nat):Rat:=mkRat ((Gb w:Int)*Qp g.pts w-L8 g.pts w*L8 g.pts w) (Gb w*Gb w)
structure sumsOk(g:Gr)(w:List Nat):Prop where
 grid:Ku g=0
 len:w.length=g.pts.length
 sz:J2 w 1000
 pos:Gb w≠0
theorem sumsOk.sz0{g:Gr}{w:List Nat}(h:sumsOk g w):Nf (Gb w)<=1021:=by
 have:=Aja h.sz w.length (A9 _);rw [Bl]at this;have hl:=(Jg h.grid).len;have:=h.len;omega
theorem sumsOk.sz1{g:Gr}{w:List Nat}(h:sumsOk g w):Nf (L8 g.pts w)<=1022:=by
 have:=Ajb h.sz (Jg h.grid).pts h.len w.length (A9 _);rw [Bl,Bg (by have:=h.len;omega)]at this;have hl:=(Jg h.grid).len;have:=h.len;omega
theorem sumsOk.sz2{g:Gr}{w:List Nat}(h:sumsOk g w):Nf (Qp g.pts w)<=1023:=by
 have:=Ajc h.sz (Jg h.grid).pts h.len w.length (A9 _);rw [Bl,Bg (by have:=h.len;omega)]at this;have hl:=(Jg h.grid).len;have:=h.len;omega
theorem Zq{n k:Nat}(h:Nf (n:Int)<=k):(B1 n).length<=k:=by rwa [Nf,Ek]at h
theorem Azm{g:Gr}{w:List Nat}(h:sumsOk g w):Ox (Oq g w)<=1022:=R1 h.pos h.sz1 (Ai (Zq h.sz0) dc)
theorem A4q(g:Gr)(w:List Nat)(h:sumsOk g w):AC prog 151 [g.v,.ro 1 (Bw w)] (fun r=>r=.tup [(nR (Oq g w)).v,.int .i64 0]):=by
 have c:=Ar7 g w h.grid h.len h.sz h.pos;have a:=Xx (nI (L8 g.pts w)) (nI (Gb w)) (Gx (Ai h.sz1 dc)) (Gx (Ai h.sz0 dc));rw [If,If,R2 _ h.pos]at a;change AC _ _ _ (fun r=>r=.tup [(nR (Oq g w)).v,.bool true])at a;simp only [Apq,Vc]at c a|-;have k:=Tl;have e:=In (Oq g w);have d:=Io (Oq g w);have ev:g.v=.agg [.ro 1 (As g.pts),.ro 1 (As g.pri)]:=rfl;rw [ev]at c|-;have i:=Bv w;have f:=Ag g.pts;have j:=Ag g.pri;generalize Bw w=wv at c i|-;generalize As g.pts=pv at c f|-;generalize As g.pri=qv at c j|-;generalize nRb (Oq g w)=mb at a|-;generalize nRl (Oq g w)=ml at a e|-;generalize nRd (Oq g w)=md at a d|-;refine Ax func151 fun w0 N0=>?_;refine Aa [1,2,4] [2,4] sr (Ab (Ad (Am 2 sr ?_)));refine Ah c func196 ?_;refine Af [4,6,7,9] [4,6,7] sr ?_;refine Ab (Aa [4,6,7,9,21] [4,6,7] sr ?_);refine A7 rfl (fun h1=>by simp at h1) (fun h1=>Ae (Ab (Ad (Am 2 sr ?_))));refine Ah a func130 ?_;refine Af [4,10] [4,10] sr ?_;refine Aa [4,5] [4] sr ?_;exact Aj (Ac (by simp [results151]<;>rfl) rfl)
theorem Al4(g:Gr)(w:List Nat)(h:sumsOk g w):AC prog 248 [g.v,.ro 1 (Bw w)] (fun r=>r=.tup [(nR (Wj g w)).v,.int .i64 0]):=by
 have c:=Ar7 g w h.grid h.len h.sz h.pos;have m:=h.sz0;have n:=h.sz1;have k2:=h.sz2;have f:=N8 (nI (Gb w)) (nI (Qp g.pts w)) (Gx om) (Gx om);have d:=N8 (nI (L8 g.pts w)) (nI (L8 g.pts w)) (Gx om) (Gx om);have e:=N8 (nI (Gb w)) (nI (Gb w)) (Gx om) (Gx om);have m1:=Lc m k2;have m2:=Lc n n;have m3:=Lc m m;simp only [If]at f d e;have i:=A35 (nI ((Gb w:Int)*Qp g.pts w)) (nI (L8 g.pts w*L8 g.pts w)) (Gx om) (Gx om)
 have m4:Nf ((Gb w:Int)*Qp g.pts w-L8 g.pts w*L8 g.pts w)<=3000:=by
  rw [Int.sub_eq_add_neg];have:=Rz (k:=2044) (x:=(Gb w:Int)*Qp g.pts w) (y:= -(L8 g.pts w*L8 g.pts w)) om (by rw [Nf,Nb];exact m2);omega
 have a:=Xx (nI ((Gb w:Int)*Qp g.pts w-L8 g.pts w*L8 g.pts w)) (nI ((Gb w:Int)*Gb w)) (Gx om) (Gx om);simp only [If]at i a;rw [<- E7,R2 _ (Iy h.pos h.pos)]at a;rw [E7]at a;change AC _ _ _ (fun r=>r=.tup [(nR (Wj g w)).v,.bool true])at a;simp only [Apq,Vc]at c a f d e i|-;have j:=Tl;have s:=In (Wj g w);have o:=Io (Wj g w);have ev:g.v=.agg [.ro 1 (As g.pts),.ro 1 (As g.pri)]:=rfl;rw [ev]at c|-;have u:=Bv w;have t:=Ag g.pts;have z:=Ag g.pri;generalize Bw w=wv at c u|-;generalize As g.pts=pv at c t|-;generalize As g.pri=qv at c z|-;generalize nRb (Wj g w)=mb at a|-;generalize nRl (Wj g w)=ml at a s|-;generalize nRd (Wj g w)=md at a o|-;refine Ax func248 fun w0 N0=>?_;refine Aa [1,2,4] [2,4] sr (Ab (Ad (Am 2 sr ?_)));refine Ah c func196 ?_;refine Af [4,6,7,8,9] [4,6,7,8] sr ?_;refine Ab (Aa [4,6,7,8,9,22] [4,6,7,8] sr ?_);refine A7 rfl (fun h1=>by simp at h1) (fun h1=>Ae (Ab (C5 [(0,[10]),(1,[10]),(2,[]),(3,[10]),(4,[10]),(5,[]),(6,[]),(7,[]),(8,[])] Ds kr ?_)));refine Cf 2 sr ?_;refine Bu (fun l=>f) func133 rfl kr rfl rfl sr rfl rfl sr (by simp) sr ?_;refine Cf 2 sr ?_;refine Bu (fun l=>d) func133 rfl kr rfl rfl sr rfl rfl sr (by simp) sr ?_;refine Bu (fun l=>i) func282 rfl kr rfl rfl sr rfl rfl sr (by simp) sr ?_;refine C6 [4,6,10] [4,6,10] sr ?_;refine Ab (C5 [(0,[11]),(1,[11]),(2,[11]),(3,[]),(4,[]),(5,[]),(6,[]),(7,[]),(8,[]),(9,[]),(10,[])] Ds kr ?_);refine Cf 3 sr ?_;refine Bu (fun l=>e) func133 rfl kr rfl rfl sr rfl rfl sr (by simp) sr ?_;refine Bu (fun l=>a) func130 rfl kr rfl rfl sr rfl rfl sr (by simp) sr ?_;refine C6 [4,11] [4,11] sr ?_;refine Aa [4,5] [4] sr ?_;exact Aj (Ac (by simp [results248]<;>rfl) rfl)
theorem A4r(g:Gr)(hg:Ku g=0)(q:Rat)(hq:Ox q<=34359738368):AC prog 152 [g.v,(nR q).v] (fun r=>r=.tup [.int .i64 (Ac7 g.pts q:Nat),.int .i64 0]):=by
 have f:=Lb g;rw [hg]at f;obtain⟨ai,m,-,hpt,-,-⟩:=Jg hg;have c:=fun(p:Int)(hp: -1000<=p/\p<=1000)=>Al1 p hp (nR q) (Mj hq)
 simp only [Ln]at c;have z:∀p:Int,-1000<=p/\p<=1000->Ox (Q7 (p-q))<=34359738372:=fun p hp=>A4p (Ar6 (Oz (x:=p) om om) hq)
 have i:=fun(a b:Rat)(ha:Ox a<=34359738372)(hb:Ox b<=34359738372)=>Qc (nR a) (nR b) (Mj (Ai ha dc)) (Mj (Ai hb dc))
 simp only [Ln]at i;obtain⟨pts,n⟩:=g;simp only at ai m hpt|-;have ev:(Gr.mk pts n).v=.agg [.ro 1 (As pts),.ro 1 (As n)]:=rfl;rw [ev]at f|-;have hp:∀(k:Nat)(h:k<pts.length),G8 (As pts) k=some (.int .i64 pts[k]):=fun k h=>E8 h
 have lp:=A4 pts;have pp:=Ag pts;have pq:=Ag n;simp only [Vc]at c i|-;have p1:=In;have p2:=Io;generalize As pts=pv at hp lp f pp|-;generalize As n=qv at f pq|-;have g0:=hp 0 m;have o:=hpt _ (Az m);have ag:=z _ o;have af:=c _ o
 have s:Ac7 pts q=Q8 q (pts.drop 1) 1 0 (Q7 (pts[0]-q)):=by
  cases pts with
  |nil=>simp at m
  |cons p r=>rfl
 have ah:0<pv.length:=om;refine Ax func152 fun w0 N0=>?_;refine Aa [2,3] [2,3] sr (Ab (Ab (Ad (Am 1 sr ?_))));refine Ah f func56 ?_;refine Af [2,3,6] [2,3] sr ?_;refine Aa [2,3,6,14] [2,3] sr ?_;refine A7 rfl (fun h1=>by simp at h1) (fun h1=>Ae (Aa [2,3,7] [2,3] sr (Ab (C5 [(0,[]),(1,[8]),(2,[]),(3,[8]),(4,[8]),(5,[]),(6,[]),(7,[])] Ds kr ?_))));refine Cf 5 (by simp [g0,ah]<;>rfl) ?_;refine Bu (fun hg=>af) func198 rfl kr rfl rfl sr rfl rfl sr (by simp) sr ?_;refine C6 [2,3,7,8] [2,3,8] sr ?_;refine Ab (Aa [2,3,7,8,9] [2,3,8] sr (Ar ?_))
 refine Di (fun t:Nat × Nat × Rat × Nat=>⟨[(2,V.bp 2 0 2 0 0),(3,V.bp 3 1 3 0 0),(7,V.int IntKind.i64 (t.2.1:Nat)),(8,V.bp 8 16 3 0 0),(9,V.int IntKind.i64 ((t.1:Nat):Int))],
  [(2,{ v:=0,sz:=2,ty:=27,es:=[V.agg [V.ro 1 pv,V.ro 1 qv]]}),(3,{ v:=1,sz:=3,ty:=34,es:=[V.agg [V.bool (nRb q),V.ro 1 (nRl q),V.ro 1 (nRd q)]]}),(8,{ v:=16,sz:=3,ty:=34,es:=[V.agg [V.bool (nRb t.2.2.1),V.ro 1 (nRl t.2.2.1),V.ro 1 (nRd t.2.2.1)]]})],t.2.2.2,43⟩)
  (fun t=>1<=t.1/\t.1<=pts.length/\Ox t.2.2.1<=34359738372/\Q8 q (pts.drop t.1) t.1 t.2.1 t.2.2.1=Ac7 pts q) (fun t=>pts.length-t.1) (1,0,Q7 (pts[0]-q),19) ⟨by simp,by simp only;omega,ag,s.symm⟩ (AS.le_refl _) ?_
 rintro⟨k,b,d,nx⟩⟨i1,i2,i3,j⟩;simp only at i1 i2 i3 j|-;refine Ab (Aa [2,3,7,8,9,26] [2,3,8] sr ?_)
 refine Ao (fun h2=>Ae ?_) fun h2=>?_
 ·have w:k<pts.length:=by simp at h2;omega
  have ab:k<pv.length:=om;have gp:=hp k w;have ad:=A6 (k:=k) om;have l:=hpt _ (Az w);rw [App q w]at j;generalize pts[k]=p at gp l j;have aa:=c p l;have u:=z p l;have y:=i _ d u i3;generalize Q7 (p-q)=e at aa u y j;refine Ab (Ar (Ab (C5 [(0,[]),(2,[]),(1,[10]),(3,[]),(4,[10]),(5,[10]),(6,[]),(7,[]),(8,[])] Ds kr ?_)));refine Cf 6 (by simp [gp,ab]<;>rfl) ?_;refine Bu (fun hg=>aa) func198 rfl kr rfl rfl sr rfl rfl sr (by simp) sr ?_;refine C6 [2,3,7,8,9,10] [2,3,8,10] sr ?_;refine Ab (Ad (Am 2 sr ?_));refine Ah y func89 ?_;refine Af [2,3,7,8,9,10,39] [2,3,8,10] sr ?_;have ae:M1 e d<0↔e<d:=by unfold M1;by_cases h:e<d<;>simp [h];split<;>decide
  refine Ao (fun h3=>?_) fun h3=>Ae ?_
  ·refine Rr [(0,[]),(2,[]),(1,[]),(3,[])] [2,3,7,8,9] [2,3,8] Ds kr sr ?_;refine A3 [2,3,7,8,9] [2,3,8] (by simp [ad]<;>rfl) ?_;rw [if_pos (ae.1 (by simpa using h3))]at j;exact⟨(k+1,k,e,_),⟨by simp,by simp only;omega,u,j⟩,by simp only;omega,AS.le_refl _⟩
  refine A3 [2,3,7,8,9] [2,3,8] (by simp [ad]<;>rfl) ?_;rw [if_neg (fun h=>by rw [<- ae]at h;simp at h3;omega)]at j;exact⟨(k+1,b,d,_),⟨by simp,by simp only;omega,i3,j⟩,by simp only;omega,AS.le_refl _⟩
 ·refine Bb ?_;have aj:k=pts.length:=by simp at h2;omega
  rw [aj,Cd]at j;simp only [Q8]at j;exact Aa [4,5] [] sr (Aj (Ac sr (by rw [j])))
def R3(q a:Rat):Bool:=decide (a<q)&&decide (q<=1)
theorem Al5{a b:Rat}:0<M1 a b↔b<a:=by
 unfold M1
 by_cases h:a<b
 ·have c:¬b<a:=fun h2=>Rat.not_lt.2 (Rat.le_of_lt h) h2
  simp [h,c]
 ·by_cases h2:b<a<;>simp [h,h2]
theorem Ar8{a b:Rat}:M1 a b<=0↔a<=b:=by
 rw [<- Rat.not_lt,<- Al5];omega
theorem Al6(a:RR)(h:a.ok 137438953472)(x y:Int)(h1: -9223372036854775808<=x)(h2:x<9223372036854775808)(h3:0<y)(h4:y<9223372036854775808):
  AC prog 58 [a.v,.int .i64 x,.int .i64 y] (fun r=>r=.bool (R3 a.val (mkRat x y.natAbs))):=by
 have hy:∃n:Nat,y=n/\n≠0:=⟨y.natAbs,by omega,by omega⟩;obtain⟨n,rfl,s⟩:=hy;rw [Ek];have g:=Tn x n h1 h2 om h4;have f:=Tn 1 1 dc dc dc dc;rw [R2 _ s]at g;rw [Pn]at f;have t:Ox (mkRat x n)<=3:=R1 s (La om om) (Zq (La (z:=(n:Int)) om om));have e:=Qc a (nR (mkRat x n)) h (Mj (Ai t dc));have d:=Qc a (nR ((1:Int):Rat)) h (Mj (Ai (Oz dc dc) dc));rw [Ln]at e d;have e1:((1:Int):Rat)=1:=rfl;rw [e1]at f d;have k:=Al5 (a:=a.val) (b:=mkRat x n);have m:=Ar8 (a:=a.val) (b:=1)
 have o:R3 a.val (mkRat x n)=(decide (0<M1 a.val (mkRat x n))&&decide (M1 a.val 1<=0)):=by
  unfold R3;simp only [k,m]
 rw [o];have u:a.v=.agg [.bool a.num.neg,.ro 1 (Av a.num.mag),.ro 1 (Av a.den)]:=rfl;have pa:=RR.vp a;rw [u]at e d pa|-;simp only [Vc]at g f e d;have w:=In;have l:=Io;have i:=Ak a.num.mag;have j:=Ak a.den;generalize M1 a.val (mkRat x n)=z1 at e|-;generalize M1 a.val 1=z2 at d|-;generalize Av a.num.mag=am,Av a.den=ad at*;clear k m o u t;refine Ax func58 fun w0 N0=>?_;refine Aa [1,2,3] [3] sr (Ab (Ad (Am 2 sr ?_)));refine Ah g func88 ?_;refine Af [3,7] [3,7] sr ?_;refine Ab (Ad (Ah f func88 ?_));refine Af [3,7,9] [3,7,9] sr ?_;refine Ab (Ad (Am 2 sr ?_));refine Ah e func89 ?_;refine Am 4 sr ?_;refine Db (c:=decide (0<z1)) (fun hg=>d) func89 rfl kr sm rfl rfl sr (by simp) sr ?_;refine Af [6] [] sr ?_;exact Aj (Ac sr sm)
def A2(l:List (Int × Int)):List V:=l.map fun p=>.agg [.int .i64 p.1,.int .i64 p.2]
@[simp]theorem Du(l:List (Int × Int)):(A2 l).length=l.length:=by simp [A2]
theorem H3{l:List (Int × Int)}{k:Nat}(h:k<l.length):G8 (A2 l) k=some (.agg [.int .i64 l[k].1,.int .i64 l[k].2]):=by rw [C0];simp [A2,h]
theorem A5(l:List (Int × Int)):(A2 l).all V.pureE=true:=by
 rw [Aw];intro x a;simp only [A2,Bm]at a;obtain⟨n,_,rfl⟩:=a;rfl
structure Po where
 len:Int
 rules:List Ru
 g:Gr
 en:List (Int × Int)
 mn:Int
 var:RR
 cut:Int
 lvl:RR
 top:Int
 rate:RR
 slack:Int
def Po.cs(p:Po):List V:=
 [.int .i64 p.len,.ro 5 (Ey p.rules),.ro 1 (As p.g.pts),.ro 1 (As p.g.pri),.ro 2 (A2 p.en),.int .i64 p.mn,
  .bool p.var.num.neg,.ro 1 (Av p.var.num.mag),.ro 1 (Av p.var.den),.int .i64 p.cut,
  .bool p.lvl.num.neg,.ro 1 (Av p.lvl.num.mag),.ro 1 (Av p.lvl.den),.int .i64 p.top,
  .bool p.rate.num.neg,.ro 1 (Av p.rate.num.mag),.ro 1 (Av p.rate.den),.int .i64 p.slack]
def Po.v(p:Po):V:=.agg p.cs
structure Po.ok(p:Po):Prop where
 var:p.var.ok 137438953472
 lvl:p.lvl.ok 137438953472
 rate:p.rate.ok 34359738368
def A4s(p:Po):Bool:=
 (decide (p.mn<0)||decide (p.len<p.mn))||(decide (Aat p.var.val<0)||((decide (p.cut<0)||decide ((p.g.pts.length:Int)-1<p.cut))||((!decide (p.cut=0)&& !R3 p.lvl.val (mkRat 1 2))||
 ((decide (p.top<1)||decide (5<p.top))||((!R3 p.rate.val (mkRat 0 1))||(decide (p.slack<0)||decide (1000000<p.slack)))))))
def Tq(p:Po):Int:=
 if Rf p.len p.rules≠0 then Rf p.len p.rules else if Ku p.g≠0 then Ku p.g else if 400<p.en.length then 5 else if A4s p=true then 3 else 0
theorem O0(p:Po)(e:p.ok):Hp gv prog 34 [p.v] (fun r=>r=.int .i64 (Tq p)):=by
 have t:=Vx p.len p.rules;have n:=Lb p.g;have u:=Alv p.var e.var.lim e.var.num.lim;have j:=Al6 p.lvl e.lvl 1 2 dc dc dc dc;have f:=Al6 p.rate ⟨⟨e.rate.num.lim,Ai e.rate.num.len dc⟩,e.rate.lim,Ai e.rate.len dc⟩ 0 1 dc dc dc dc;change AC _ _ _ (fun r=>r=.bool (R3 p.lvl.val (mkRat 1 2)))at j;change AC _ _ _ (fun r=>r=.bool (R3 p.rate.val (mkRat 0 1)))at f;obtain⟨len,rules,⟨a,l⟩,en,mn,⟨⟨vb,z⟩,vd⟩,k,⟨⟨lb,lm⟩,ld⟩,o,⟨⟨rb,rm⟩,rd⟩,d⟩:=p;unfold Tq A4s Po.v Po.cs;simp only at t n u j f|-;have m:=A4 a;have le:=Du en;have q1:=C2 rules;have q2:=Ag a;have q3:=Ag l;have q4:=Ak z;have q5:=Ak vd;have q6:=Ak lm;have q7:=Ak ld;have q8:=Ak rm;have q9:=Ak rd;have e1:Pq len rules=.agg [.int .i64 len,.ro 5 (Ey rules)]:=rfl;have e2:(Gr.mk a l).v=.agg [.ro 1 (As a),.ro 1 (As l)]:=rfl;have e3:(RR.mk ⟨vb,z⟩ vd).v=.agg [.bool vb,.ro 1 (Av z),.ro 1 (Av vd)]:=rfl;have e4:(RR.mk ⟨lb,lm⟩ ld).v=.agg [.bool lb,.ro 1 (Av lm),.ro 1 (Av ld)]:=rfl;have e5:(RR.mk ⟨rb,rm⟩ rd).v=.agg [.bool rb,.ro 1 (Av rm),.ro 1 (Av rd)]:=rfl;rw [e1]at t;rw [e2]at n;rw [e3]at u;rw [e4]at j;rw [e5]at f;clear e1 e2 e3 e4 e5 e;generalize Rf len rules=x1 at t|-;have aa:Ku ⟨a,l⟩=0->a.length<=21:=fun h=>(Jg h).len
 generalize Ku ⟨a,l⟩=x2 at n aa|-;generalize Aat (RR.mk ⟨vb,z⟩ vd).val=x3 at u|-;generalize R3 (RR.mk ⟨lb,lm⟩ ld).val (mkRat 1 2)=x4 at j|-;generalize R3 (RR.mk ⟨rb,rm⟩ rd).val (mkRat 0 1)=x5 at f|-;generalize Ey rules=w1,As a=w2,As l=w3,Av z=w4,Av vd=w5,Av lm=w6,Av ld=w7,Av rm=w8,Av rd=w9,A2 en=w0 at*;refine By func34 fun w0 N0 hG=>?_;refine Aa [1] [1] sr (Ab (Ab (Ad (Am 2 sr ?_))));refine Bq hG t func55 ?_;refine Af [1,3] [1] sr ?_;refine Aa [1,3,9] [1] sr ?_
 refine Ao (fun h1=>?_) fun h1=>Ae ?_
 ·exact Aa [2] [] sr (Aj (Ac sr (by rw [if_pos (by simpa using h1)])))
 rw [if_neg (by simpa using h1)];refine Ab (Ab (Ad (Am 2 sr ?_)));refine Ah n func56 ?_;refine Af [1,4] [1] sr ?_;refine Aa [1,4,15] [1] sr ?_
 refine Ao (fun h2=>?_) fun h2=>Ae ?_
 ·exact Aa [2] [] sr (Aj (Ac sr (by rw [if_pos (by simpa using h2)])))
 rw [if_neg (by simpa using h2)];refine Ab (Aa [1,20] [1] sr ?_)
 refine Ao (fun h3=>?_) fun h3=>Ae ?_
 ·exact Aa [2] [] sr (Aj (Ac sr (by rw [if_pos (by simp at h3;omega)])))
 rw [if_neg (by simp at h3;omega)];refine Ab (Ar (Ab (Aa [1,21] [1] sr ?_)))
 refine Ao (fun h=>Ae ?_) fun h=>?_
 ·have s:(decide (mn<0)||decide (len<mn))=true:=by simpa [m]using h
  refine A7 rfl (fun _ =>?_) (fun i=>by rw [h]at i;cases i);exact Aa [2] [] sr (Aj (Ac sr (by rw [if_pos (by rw [s];rfl)])))
 have s:(decide (mn<0)||decide (len<mn))=false:=by simpa [m]using h
 refine Ab (Ad (Am 2 sr ?_));refine Ah u func57 ?_;refine Af [1,21] [1] sr ?_
 refine Ao (fun h=>Ae ?_) fun h=>?_
 ·have w:decide (x3<0)=true:=by simpa [m]using h
  refine A7 rfl (fun _ =>?_) (fun i=>by rw [h]at i;cases i);exact Aa [2] [] sr (Aj (Ac sr (by rw [if_pos (by rw [s,w];rfl)])))
 have w:decide (x3<0)=false:=by simpa [m]using h
 have ab:x2=0:=by simpa using h2
 have ad:=aa ab;have Dg:IntKind.i64.wrap ((w2.length:Int)-1)=(w2.length:Int)-1:=Bh om om;refine Aa [1,21] [1] (by simp [Dg]<;>rfl) ?_
 refine Ao (fun h=>Ae ?_) fun h=>?_
 ·have x:(decide (k<0)||decide ((a.length:Int)-1<k))=true:=by simpa [m]using h
  refine A7 rfl (fun _ =>?_) (fun i=>by rw [h]at i;cases i);exact Aa [2] [] sr (Aj (Ac sr (by rw [if_pos (by rw [s,w,x];rfl)])))
 have x:(decide (k<0)||decide ((a.length:Int)-1<k))=false:=by simpa [m]using h
 refine Ab (Ad (Am 6 sr ?_));refine Db (c:= !decide (k=0)) (fun hg=>j) func58 rfl kr sm rfl rfl sr (by simp) sr ?_;refine Af [1,21] [1] sr ?_
 refine Ao (fun h=>Ae ?_) fun h=>?_
 ·have y:(!decide (k=0)&& !x4)=true:=by simpa [m]using h
  refine A7 rfl (fun _ =>?_) (fun i=>by rw [h]at i;cases i);exact Aa [2] [] sr (Aj (Ac sr (by rw [if_pos (by rw [s,w,x,y];rfl)])))
 have y:(!decide (k=0)&& !x4)=false:=by simpa [m]using h
 refine Aa [1,21] [1] sr ?_
 refine Ao (fun h=>Ae ?_) fun h=>?_
 ·have g4:(decide (o<1)||decide (5<o))=true:=by simpa [m]using h
  refine A7 rfl (fun _ =>?_) (fun i=>by rw [h]at i;cases i);exact Aa [2] [] sr (Aj (Ac sr (by rw [if_pos (by rw [s,w,x,y,g4];rfl)])))
 have g4:(decide (o<1)||decide (5<o))=false:=by simpa [m]using h
 refine Ab (Ad (Am 2 sr ?_));refine Ah f func58 ?_;refine Af [1,21] [1] sr ?_
 refine Ao (fun h=>Ae ?_) fun h=>?_
 ·have g5:(!x5)=true:=by simpa [m]using h
  refine A7 rfl (fun _ =>?_) (fun i=>by rw [h]at i;cases i);exact Aa [2] [] sr (Aj (Ac sr (by rw [if_pos (by rw [s,w,x,y,g4,g5];rfl)])))
 have g5:(!x5)=false:=by simpa [m]using h
 refine A3 [21] [] sr ?_
 refine Ao (fun h=>?_) fun h=>Ae ?_
 ·have g6:(decide (d<0)||decide (1000000<d))=true:=by simpa using h
  exact Aa [2] [] sr (Aj (Ac sr (by rw [if_pos (by rw [s,w,x,y,g4,g5,g6];rfl)])))
 have g6:(decide (d<0)||decide (1000000<d))=false:=by simpa using h
 exact Aa [2] [] sr (Aj (Ac sr (by rw [if_neg (by rw [s,w,x,y,g4,g5,g6];decide)])))
def Ny(l:List Int):List Nat:=l.map Int.toNat
theorem Pb{w:List Nat}{k:Nat}(h:k<w.length):(Bw w)[k]? =some (.ro 1 (F5 w[k])):=by rw [<- C0];exact Kc h
theorem Azn(g:Gr)(hg:Ku g=0):AC prog 98 [g.v] (fun r=>r=.tup [.ro 1 (Bw (Ny g.pri)),.int .i64 0]):=by
 have l:=Lb g;rw [hg]at l;obtain⟨ab,y,aa,-,hpr,-⟩:=Jg hg;obtain⟨d,pri⟩:=g;simp only at ab y aa hpr|-;have ev:(Gr.mk d pri).v=.agg [.ro 1 (As d),.ro 1 (As pri)]:=rfl;rw [ev]at l|-;have hq:∀(k:Nat)(h:k<pri.length),G8 (As pri) k=some (.int .i64 pri[k]):=fun k h=>E8 h
 have lq:=A4 pri;have pp:=Ag d;have pq:=Ag pri;have hz:(Ny pri).length=pri.length:=by simp [Ny]
 have hn:∀(k:Nat)(h:k<pri.length),(Bw (Ny pri))[k]? =some (.ro 1 (F5 pri[k].toNat)):=fun k h=>by rw [Pb Go.om];simp [Ny]
 have s:(Bw (Ny pri)).length=pri.length:=by rw [Hk,hz]
 have x:=Bv (Ny pri);generalize As d=pv,As pri=m,Bw (Ny pri)=f at*;refine Ax func98 fun w0 N0=>?_;refine Aa [1] [1] sr (Ab (Ab (Ad (Am 1 sr ?_))));refine Ah l func56 ?_;refine Af [1,4] [1] sr ?_;refine Aa [1,4,11] [1] sr ?_;refine A7 rfl (fun h1=>by simp at h1) fun h1=>Ae ?_;have u:(m.length:Int)<=9223372036854775807:=om;have w:24*(m.length:Int)<=281474976710656:=om;refine Aa [1,5] [1,16] (by simp [u,w]<;>rfl) (Ab (Aa [5,18,19,20] [16] sr (Ar (Br (fun k nx=>⟨[(5,V.sl 16 (11) 1 m.length),(18,V.ro 1 m),(19,V.int .i64 m.length),(20,V.int .i64 k)],[(16,{ v:=11,sz:=1,ty:=30,es:=Fk f .nils k})],nx,33⟩) (fun k=>True) pri.length _ trivial (by rw [Ik,s,<- lq];exact AS.le_refl _) ?_))));intro k nx hk hI;have t:=Jk f .nils k om;refine Aa [5,18,19,20,21] [16] sr (Ab ?_)
 refine Ao (fun h2=>Ae ?_) fun h2=>?_
 ·have c:k<pri.length:=by simp at h2;omega
  have i:k<m.length:=om;have j:k<f.length:=om;have ga:=hq k c;have a:=Jm f .nils k j (hn k c);have o:G8 (Fk f .nils k) k=some .nils:=Jl f .nils k j;have hw:=A6 (k:=k) om;have ad:=hpr _ (Az c);generalize pri[k]=p at ga a ad;obtain⟨n,rfl⟩:∃n:Nat,p=n:=⟨p.toNat,by omega⟩;rw [Dn]at a;have e:=Ada n om;change AC _ _ _ (fun r=>r=.ro 1 (F5 n))at e;have z:=wrap_u64 (n:=n) om;have pn:=Ff n;generalize Fk f .nils k=row at o a t|-;refine Ab (Ar (Aa [5,6,7,18,19,20] [16] (by simp [ga,i]<;>rfl) (Ad (Am 4 (by simp [z]<;>rfl) ?_))));refine Ah e func129 ?_;refine Af [5,18,19,20] [16] (by simp [i,o,a]<;>rfl) ?_;refine A3 [5,18,19,20] [16] (by simp [hw]<;>rfl) ?_;exact⟨c,trivial,_,AS.le_refl _⟩
 ·refine Bb ?_;have ae:k=pri.length:=by simp at h2;omega
  rw [Ka f .nils k Go.om];refine Bp 16 [5] [] (by simp [x,s,lq]<;>rfl) ?_;exact Aa [2,3] [] sr (Aj (Ac sr rf))
theorem Azo(g:Gr)(c:Ku g=0):AC prog 65 [g.v] (fun r=>r=.tup [.ro 1 (Bw (Ny g.pri)),.int .i64 0]):=by
 have a:=Azn g c;have ev:g.v=.agg [.ro 1 (As g.pts),.ro 1 (As g.pri)]:=rfl;rw [ev]at a|-;have d:=Ag g.pts;have f:=Ag g.pri;have e:=Bv (Ny g.pri);generalize As g.pts=pv,As g.pri=qv,Bw (Ny g.pri)=nv at*;refine Ax func65 fun w0 N0=>?_;refine Aa [1] [1] sr (Ab (Ad (Am 1 sr ?_)));refine Ah a func98 ?_;refine Af [2,3] [] sr ?_;exact Aj (Ac (by simp [results65]<;>rfl) (rfl))
end Go.Proofs.YtpaccopbbffkaaaGreatDoor
