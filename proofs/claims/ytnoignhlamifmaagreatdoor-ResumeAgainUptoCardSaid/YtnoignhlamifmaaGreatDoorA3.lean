/- Resuming, part 3. No condition. -/
import Derived.Test.YtnoignhlamifmaaGreatDoorA2
import Derived.Test.YtnoignhlamifmaaGreatDoorProg
import Derived.Shelf.Strings.Shaped
import Derived.Shelf.Sort.Plain
import Derived.Shelf.Strings.Replace
import Derived.Shelf.Unicode.DecodeSlow
import Derived.Shelf.Slices.Cells
import Derived.Shelf.SlSortCmp.Median1
import Derived.Shelf.SlSortCmp.ReverseRange1
import Derived.Lib.AppendIntMem
import Derived.Shelf.Slices.In.SortNone
set_option maxHeartbeats 8000000
set_option linter.all false
set_option maxRecDepth 10000
open Go.Proofs.Tryz
namespace Go.Proofs.YtnoignhlamifmaaGreatDoor
open Go.Eng
abbrev AE(f:Nat)(l:List V)(v:V):Prop:=AC prog f l (fun r=>r=v)
end Go.Proofs.YtnoignhlamifmaaGreatDoor
namespace Go.Eng.Limb
variable {k n:Nat}
def El(l:List Nat):Prop:=∀x∈l,x<4294967296
def Bf:List Nat->Nat
 | []=>0
 |x::r=>x+4294967296*Bf r
def Nl:List Nat->List Nat
 | []=>[]
 |x::r=>if Nl r= []then(if x=0 then []else [x])else x::Nl r
def Agc:∀(a:List Nat),Nl (a++[0])=Nl a
 | []=>by simp[Nl]
 |x::a=>by simp[Nl,Agc a]
def Agd(y:Nat)(h:y≠0):∀(a:List Nat),Nl (a++[y])=a++[y]
 | []=>by simp[Nl,h]
 |x::a=>by simp[Nl,Agd y h a]
def Lx:∀(l:List Nat),(Nl l).length<=l.length
 | []=>by simp[Nl]
 |x::r=>by
  have:=Lx r;rw[Nl]
  split
  .split<;>simp
  .simp;omega
def B2(n:Nat):List Nat:=if h:n=0 then []else n%4294967296::B2 (n/4294967296)
 termination_by n
 decreasing_by omega
def Et:B2 0= []:=by rw[B2];simp
def Lh(h:n≠0):B2 n=n%4294967296::B2 (n/4294967296):=by rw[B2];simp[h]
def Kx:∀(l:List Nat),El l->Nl l=B2 (Bf l)
 | [],_ =>by simp[Nl,Bf,Et]
 |x::r,h=>by
  have hx:=h x sm;rw[Nl,Bf,(Kx r (λy e=>h y G8))]
  by_cases c:Bf r=0
  .rw[c,Et]
   by_cases d:x=0
   .subst d;simp[Et]
   .rw[Ad rfl,I d,Lh om];rw[show(x+4294967296*0)%4294967296=x by omega,show(x+4294967296*0)/4294967296=0 by omega,Et]
  .have a:B2 (Bf r)≠ []:=by rw[Lh c];simp
   rw[I a,Lh (n:=x+4294967296*Bf r) om];rw[show(x+4294967296*Bf r)%4294967296=x by omega,show(x+4294967296*Bf r)/4294967296=Bf r by omega]
def C4(n:Nat):Bf (B2 n)=n:=by
 induction n using Nat.strongRecOn with
 |_ n ih=>
  by_cases h:n=0
  .subst h;simp[Et,Bf]
  .rw[Lh h,Bf,ih _ om];omega
def Cp(n:Nat):El (B2 n):=by
 induction n using Nat.strongRecOn with
 |_ n ih=>
  by_cases h:n=0
  .subst h;simp[Et,El]
  .rw[Lh h];intro x a
   rcases B8.1 a with h1|h1
   .omega
   .exact ih _ om x h1
def Cj:Nat->Nat->List Nat
 |0,_ =>[]
 |k+1,v=>v%4294967296::Cj k (v/4294967296)
@[simp]def Aai:∀(k v:Nat),(Cj k v).length=k
 |0,_ =>rfl
 |k+1,v=>by simp[Cj,Aai k]
def O9:∀(k v:Nat),El (Cj k v)
 |0,_ =>by simp[Cj,El]
 |k+1,v=>by
  intro x a
  rcases B8.1 a with h|h
  .rw[h];exact Dc _ dc
  .exact O9 k _ x h
def Th:∀(k v:Nat),Bf (Cj k v)=v%4294967296^k
 |0,v=>by simp[Cj,Bf,Sn]
 |k+1,v=>by
  rw[Cj,Bf,Th k,Ce,Bh (4294967296^k) 4294967296,Wp]
def Am0:∀(l:List Nat),El l->Cj l.length (Bf l)=l
 | [],_ =>rfl
 |x::r,h=>by
  have hx:=h x sm;rw[A3,Cj,Bf,show(x+4294967296*Bf r)%4294967296=x by omega,show(x+4294967296*Bf r)/4294967296=Bf r by omega,Am0 r (λy a=>h y G8)]
def Aps:∀(k v i:Nat),i<k->(Cj k v)[i]? =some (v/4294967296^i%4294967296)
 |0,_,_,h=>by omega
 |k+1,v,0,_ =>by simp[Cj]
 |k+1,v,i+1,h=>by
  rw[Cj,He,Aps k _ i om,Cy,Ce,Bh]
def Acm:∀(k v:Nat),Cj (k+1) v=Cj k v++[v/4294967296^k%4294967296]
 |0,v=>by simp[Cj]
 |k+1,v=>by
  rw[Cj,Acm k,Cj,Cy,Ce,Bh];rfl
def Acn:∀(k v i:Nat),i<=k->(Cj k v).take i=Cj i v
 |_,_,0,_ =>by simp[Cj]
 |0,_,i+1,h=>by omega
 |k+1,v,i+1,h=>by rw[Cj,Iw,Acn k _ i om,Cj]
def Akl:∀(k v i:Nat),i<=k->(Cj k v).drop i=Cj (k-i) (v/4294967296^i)
 |k,v,0,_ =>by simp
 |0,_,i+1,h=>by omega
 |k+1,v,i+1,h=>by
  rw[Cj,List.drop_succ_cons,Akl k _ i om,Cy,Ce,Bh,Nat.add_sub_add_right]
def Vm(k v:Nat):Cj k (v%4294967296^k)=Cj k v:=by
 have:=Am0 (Cj k v) (O9 k v)
 rwa[Aai,Th]at this
def Aaj(k m v:Nat):Cj (k+m) v=Cj k v++Cj m (v/4294967296^k):=by
 have h2:=Akl (k+m) v k om;rw[show k+m-k=m by omega]at h2;rw[<-(Acn (k+m) v k om),<- h2,H0]
def Azj{v:Nat}(h:v<4294967296^k):Nl (Cj k v)=B2 v:=by
 rw[Kx _ (O9 k v),Th,Bm h]
def Age(k m a b:Nat)(c:a<4294967296^k):Cj k a++Cj m b=Cj (k+m) (a+4294967296^k*b):=by
 have hp:0<4294967296^k:=Fy dc;rw[Aaj,Lp _ _ hp,Gj c,Dq,<- Vm k (a+4294967296^k*b),Mf,Vm]
def Am1:∀(l:List Nat),El l->Bf l<4294967296^l.length
 | [],_ =>by simp[Bf]
 |x::r,h=>by
  have hx:=h x sm;rw[Bf,A3,Ce];have:4294967296*(Bf r+1)<=4294967296*4294967296^r.length:=Eo _ (Am1 r (λy a=>h y G8));rw[Bh (4294967296^r.length)];omega
def Pt:∀(a b:List Nat),Bf (a++b)=Bf a+4294967296^a.length*Bf b
 | [],b=>by simp[Bf]
 |x::a,b=>by
  simp only[Co,Bf,Pt a b,A3,Ce];rw[Ed,<- B9,Bh 4294967296 (4294967296^a.length)];omega
def Qx(n:Nat):B2 n=Cj (B2 n).length n:=by
 have:=Am0 (B2 n) (Cp n);rw[C4]at this;exact this.symm
def Ko(n:Nat):n<4294967296^(B2 n).length:=by
 have:=Am1 (B2 n) (Cp n)
 rwa[C4]at this
def Vn:B2 n= []↔n=0:=by
 constructor
 .intro h;have:=C4 n;rw[h]at this;simpa[Bf]using this.symm
 .rintro rfl;exact Et
def Xa:∀(k n:Nat),(B2 n).length=k+1->4294967296^k<=n
 |0,n,h=>by
  rcases Ey n with a|a
  .subst a;rw[Et]at h;simp at h
  .rw[Uv];exact a
 |k+1,n,h=>by
  have a:n≠0:=by rintro rfl;rw[Et]at h;simp at h
  rw[Lh a,A3]at h;exact Ag (Bz 4294967296 (Xa k (n/4294967296) om)) (Fs n 4294967296)
variable {d:Nat}
def Bfl{u v a W:Nat}(c:0<a)(hu:u<(d+1)*W)(f:a*W<=v):u/v<=d/a:=by
 rw[Gy c];have h1:=Fs u v;have h2:u/v*(a*W)<=u/v*v:=Eo _ f;have e:u/v*a*W<(d+1)*W:=by rw[B9];omega
 have:=Je e;omega
def Bfm{u v c a W:Nat}(hW:0<W)(hu:c*W<=u)(i:v<(a+1)*W)(f:u/v<a)(e:0<v):c/a<=u/v+1:=by
 have d:=Fl (Cg _) f
 rcases Cl (u/v+1) (c/a)with h|h
 .exfalso
  have h1:=(Gy d).1 h
  have h2:u<(u/v+1)*v:=by
   have:=Iy u e
   rwa[Bh]at this
  have h3:(u/v+2)*a*W<=c*W:=Bz _ h1;have h4:(u/v+1)*v<=(u/v+1)*((a+1)*W):=Eo _ (H8 i)
  have j:(u/v+2)*a*W<(u/v+1)*(a+1)*W:=by
   rw[B9 (u/v+1)];omega
  have g:=Je j;generalize u/v=q at g f;rw[Cc,Ed,Cc]at g;omega
 .exact h
def Apt(a x y:Nat):Nat->Nat->Nat->Nat
 |0,d,_ =>d
 |m+1,d,r=>if 4294967296<=d\/r*4294967296+y<d*x then(if 4294967296<=r+a then d-1 else Apt a x y m (d-1) (r+a))else d
def Bal{a x y c:Nat}(ha:2147483648<=a)(ab:a<4294967296)(hx:x<4294967296)(hy:y<4294967296)(j:c<(a+1)*4294967296):
  ∀(m d r:Nat),d*a+r=c->r<4294967296->4294967296<=r+m*a->min ((c*4294967296+y)/(a*4294967296+x)) 4294967295<=d->Apt a x y m d r=min ((c*4294967296+y)/(a*4294967296+x)) 4294967295:=by
 have g:0<a*4294967296+x:=om
 have f:∀d r,d*a+r=c->(d<=(c*4294967296+y)/(a*4294967296+x)↔d*x<=r*4294967296+y):=λd r h=>by
  rw[Gy g,Ed,<- B9,<- h,Cc];omega
 generalize(c*4294967296+y)/(a*4294967296+x)=q at f|-;intro m
 induction m with
 |zero=>intro d r _ hr s _;omega
 |succ m ih=>
  intro d r t hr s hq;have o:=f d r t;rw[Apt]
  split
  .rename_i hc
   have z:0<d:=by
    rcases Ey d with l|l
    .subst l;omega
    .exact l
   obtain⟨e,rfl⟩:∃e,d=e+1:=⟨d-1,by omega⟩;rw[Na];have u:e*a+(r+a)=c:=by rw[<- t,Cc];omega
   have n:min q 4294967295<=e:=by
    rcases Cl e (min q 4294967295)with h|h
    .exfalso
     have h1:e+1<=q:=om;have h2:=o.1 h1;omega
    .exact h
   split
   .rename_i i;have k:=f e (r+a) u
    have aa:e<4294967296:=by
     rcases Cl e 4294967296 with h|h
     .exact h
     .exfalso
      have:=Bz a h;rw[Cc]at j;omega
    have h3:e*x<=(r+a)*4294967296+y:=by
     have h4:e*x<=4294967296*4294967296:=If om om;have h5:4294967296*4294967296<=(r+a)*4294967296:=Bz _ i;omega
    have:=k.2 h3;omega
   .rename_i i;exact ih e (r+a) u om (by rw[Cc]at s;omega) n
  .rename_i hc;have w:d<4294967296:=om;have:=o.2 om;omega
def A3q{c a:Nat}(b1:2147483648*4294967296<=a)(b2:a<4294967296*4294967296)(b3:c<(a+1)*4294967296):
  Apt (a/4294967296) (a%4294967296) (c%4294967296) 3 (c/4294967296/(a/4294967296)) (c/4294967296%(a/4294967296))=min (c/a) 4294967295:=by
 have i:2147483648<=a/4294967296:=om;have f:a/4294967296<4294967296:=om;have g:c/4294967296<(a/4294967296+1)*4294967296:=om
 have h:=Bal (x:=a%4294967296) (y:=c%4294967296) i f om om g 3 (c/4294967296/(a/4294967296)) (c/4294967296%(a/4294967296)) (by
   have:=G5 (c/4294967296) (a/4294967296);rw[Bh]at this;exact this) (Uu (Dc (c/4294967296) (show 0<a/4294967296 by omega)) f) (Ag (show 4294967296<=3*(a/4294967296)by omega) (U4 _ _)) (by
   have e:c/4294967296*4294967296+c%4294967296=c:=om;rw[e,(T7 a 4294967296)];refine Ag (Nat.min_le_left _ _) ?_;rw[Gy (show 0<a/4294967296 by omega),Gy (show 0<4294967296 by decide)];have:=Fs c a;have h2:c/a*(a/4294967296*4294967296)<=c/a*a:=Eo _ (Fs _ _);rw[<- B9]at h2;exact Ag h2 this)
 have e:c/4294967296*4294967296+c%4294967296=c:=om;rw[e,(T7 a 4294967296)]at h;exact h
def Atx{u v:Nat}(hn:2<=n)(s:4294967296^n<=2*v)(j:v<4294967296^n)(hu:u<v*4294967296)(d:Nat)
  (i:d=Apt (v/4294967296^(n-1)) (v/4294967296^(n-2)%4294967296) (u/4294967296^(n-2)%4294967296) 3 (u/4294967296^(n-1)/(v/4294967296^(n-1))) (u/4294967296^(n-1)%(v/4294967296^(n-1)))):
  d<4294967296/\(d=u/v\/d=u/v+1):=by
 obtain⟨k,rfl⟩:∃k,n=k+2:=⟨n-2,by omega⟩;rw[show k+2-1=k+1 by omega,show k+2-2=k by omega]at i;have m:0<4294967296^k:=Fy dc;have o:4294967296^(k+1)=4294967296^k*4294967296:=Ce ..;have t:4294967296^(k+2)=4294967296^k*4294967296*4294967296:=by rw[Ce,Ce]
 rw[o,<- Cy,<- Cy]at i;rw[t]at s j;clear o t;generalize 4294967296^k=W at*
 have h:0<v:=by
  rcases Ey v with l|l
  .subst l;omega
  .exact l
 obtain⟨a,f⟩:∃a,a=v/W:=⟨_,rfl⟩;obtain⟨g,c⟩:∃g,g=u/W:=⟨_,rfl⟩;rw[<- f,<- c]at i;have w:a*W<=v:=by rw[f];exact Fs v W
 have r:v<(a+1)*W:=by have:=Iy v m;rw[<- f,Bh]at this;exact this
 have y:g*W<=u:=by rw[c];exact Fs u W
 have a4:u<(g+1)*W:=by have:=Iy u m;rw[<- c,Bh]at this;exact this
 have z:2147483648*4294967296<=a:=by
  have:W*(2147483648*4294967296)<W*(a+1):=by
   have h1:=s;have h2:W*4294967296*4294967296=2*(W*(2147483648*4294967296)):=by rw[B9 W,<- B9 2,Bh 2 W,B9]
   rw[Bh W (a+1)];omega
  exact Nat.le_of_lt_succ (Mg this)
 have b2:a<4294967296*4294967296:=by
  have h1:a*W<4294967296*4294967296*W:=by rw[Bh (4294967296*4294967296) W,<- B9];omega
  exact Je h1
 have hq:u/v<4294967296:=by rw[C9 h,Bh];exact hu
 have b3:g<(a+1)*4294967296:=by
  have h1:g*W<(a+1)*4294967296*W:=by
   have:v*4294967296<=(a+1)*W*4294967296:=Bz _ (H8 r);have e:(a+1)*W*4294967296=(a+1)*4294967296*W:=by rw[B9,Bh W,B9]
   omega
  exact Je h1
 have c1:=Bfl om a4 w;have c2:=Bfm m y r om h;rw[i,(A3q z b2 b3)];omega
variable {b' c' s:Nat}
def Vo(v P:Nat):v%(P*4294967296)=v%P+P*(v/P%4294967296):=Wp
def A3r{x v u P c b y:Nat}(h:x+d*(v%P)=u%P+P*(c+b))(j:y+(d*(v/P%4294967296)+c)%4294967296+b=u/P%4294967296+4294967296*b'):
  (x+P*y)+d*(v%(P*4294967296))=u%(P*4294967296)+P*4294967296*((d*(v/P%4294967296)+c)/4294967296+b'):=by
 rw[Vo,Vo];generalize v/P%4294967296=a,u/P%4294967296=f at*;have hp:=G5 (d*a+c) 4294967296;generalize(d*a+c)/4294967296=q,(d*a+c)%4294967296=r at*;have h1:P*y+P*r+P*b=P*f+P*(4294967296*b'):=by rw[<- Ed,<- Ed,j,Ed]
 have h2:P*(4294967296*q)+P*r=P*(d*a)+P*c:=by rw[<- Ed,hp,Ed]
 have e:d*(v%P+P*a)=d*(v%P)+P*(d*a):=by rw[Ed,Om]
 have g:P*(c+b)=P*c+P*b:=Ed ..;have i:P*4294967296*(q+b')=P*(4294967296*q)+P*(4294967296*b'):=by rw[B9,Ed,Ed]
 rw[e,i];rw[g]at h;omega
def A3s{x v u P c y:Nat}(h:x+P*c=u%P+v%P)(a:y+4294967296*c'=u/P%4294967296+v/P%4294967296+c):
  (x+P*y)+P*4294967296*c'=u%(P*4294967296)+v%(P*4294967296):=by
 rw[Vo,Vo];generalize v/P%4294967296=d,u/P%4294967296=e at*;have h1:P*y+P*(4294967296*c')=P*e+P*d+P*c:=by rw[<- Ed,<- Ed,<- Ed,a]
 rw[B9];omega
def A3t{a P:Nat}(c:0<P)(hs:0<s):(a%P*s)/P<s/\a%(P*4294967296)*s=a%P*s+P*(a/P%4294967296*s):=by
 constructor
 .rw[C9 c,Bh s P];exact Ge (Dc _ c) hs
 .rw[Vo,Cc,B9]
variable {m:Nat}
def N6(k:Nat):0<4294967296^k:=Fy dc
def A3u{b t:Nat}(f:t=b/4294967296^n)(h1:2147483648<=t*2^s)(h2:t*2^s<4294967296)(hs:s<=32):
  4294967296^(n+1)<=2*(b*2^s)/\b*2^s<4294967296^(n+1):=by
 have j:=N6 n;rw[Ce];generalize 4294967296^n=P at*;have c:t*P<=b:=by rw[f];exact Fs b P
 have d:b<(t+1)*P:=by have:=Iy b j;rw[<- f,Bh]at this;exact this
 have k:0<2^s:=Fy dc;obtain⟨e,m⟩:∃e,4294967296=2^s*e:=⟨2^(32-s),by rw[<- Gi,show s+(32-s)=32 by omega]⟩
 have i:(t+1)*2^s<=4294967296:=by
  rw[m,Bh]at h2|-;exact Eo _ (Mg h2)
 generalize 2^s=S at*
 constructor
 .have a:t*P*S<=b*S:=Bz _ c;have h:P*2147483648<=P*(t*S):=Eo _ h1;have g:t*P*S=P*(t*S):=by rw[Bh t P,B9]
  rw[g]at a;have l:P*4294967296=2*(P*2147483648):=by rw[Om]
  rw[l];exact Eo 2 (Ag h a)
 .have a:b*S<(t+1)*P*S:=Ge d k;have h:P*((t+1)*S)<=P*4294967296:=Eo _ i;have g:(t+1)*P*S=P*((t+1)*S):=by rw[Bh (t+1) P,B9]
  omega
def A3v{V R P q u:Nat}(c:0<P)(e:0<V)(i:R<V*(P*4294967296))(d:u=R/P)(a:q=u/V):
  u<V*4294967296/\q<4294967296/\q*V<=u/\R=q*V*P+((u-q*V)*P+R%P)/\(u-q*V)*P+R%P<V*P:=by
 have h1:u<V*4294967296:=by
  rw[d,C9 c,B9,Bh 4294967296 P];exact i
 have h2:q*V<=u:=by rw[a];exact Fs u V
 have f:u<(q+1)*V:=by have:=Iy u e;rw[<- a,Bh]at this;exact this
 have g:q<4294967296:=by
  rw[a,C9 e,Bh];exact h1
 have h5:u*P+R%P=R:=by rw[d];exact T7 R P
 have h6:=Dc R c
 refine⟨h1,g,h2,?_,?_⟩
 .rw[Nat.sub_mul];have:q*V*P<=u*P:=Bz _ h2;omega
 .have j:u-q*V<V:=by rw[Cc]at f;omega
  have h:(u-q*V+1)*P<=V*P:=Bz _ j;rw[Cc]at h;omega
def Bam{a b S Q R:Nat}(f:0<S)(g:0<b)(h:a*S=Q*(b*S)+R)(e:R<b*S):Q=a/b/\R/S=a%b:=by
 have h1:a*S=S*(Q*b)+R:=by rw[h];congr 1;rw[Bh b S,Om]
 have h2:S∣R:=by
  refine(Nat.dvd_add_right (Nat.dvd_mul_right S (Q*b))).1 ?_;rw[<- h1];exact Nat.dvd_mul_left S a
 obtain⟨r,rfl⟩:=h2
 have c:a=Q*b+r:=by
  rw[<- Ed,Bh a S]at h1;exact Nat.eq_of_mul_eq_mul_left f h1
 have d:r<b:=by rw[Bh b S]at e;exact Mg e
 constructor
 .rw[c,Bh Q b,Nat.mul_add_div g,Gj d,Ef]
 .rw[Ki _ f,c,Bh Q b,Nat.mul_add_mod,Bm d]
def A3w{j R w:Nat}(hj:j+n<=m)(c:w<4294967296^n)(d:R<4294967296^(j+n)):
  Cj j R++Cj n w++Cj (m-j-n) (R/4294967296^(j+n))=Cj m (w*4294967296^j+R%4294967296^j):=by
 have h1:=Age j n (R%4294967296^j) w (Dc _ (N6 j));rw[Vm]at h1;rw[h1,Gj d]
 have h2:R%4294967296^j+4294967296^j*w<4294967296^(j+n):=by
  have:=Dc R (N6 j);have a:4294967296^j*(w+1)<=4294967296^j*4294967296^n:=Eo _ c;rw[Ed,<- Gi]at a;generalize 4294967296^j=J,4294967296^(j+n)=K at*;generalize J*w=L at*;omega
 rw[Age _ _ _ _ h2,Uw,Ef,show j+n+(m-j-n)=m by omega,Ol,Bh]
open Go.Eng
variable {i:Nat}
def Bp{x:Int}(h1: -9223372036854775808<=x)(h2:x<9223372036854775808):IntKind.i64.wrap x=x:=by
 rw[IntKind.wrap_i64];omega
def A5(h:(k:Int)<9223372036854775807):IntKind.i64.wrap ((k:Int)+1)=((k+1:Nat):Int):=by
 rw[Bp om oM];omega
def wrap_u32(n:Nat):IntKind.u32.wrap (n:Int)=((n%4294967296:Nat):Int):=by rw[IntKind.wrap_u32];omega
def wrap_u64(h:n<18446744073709551616):IntKind.u64.wrap (n:Int)=(n:Int):=by rw[IntKind.wrap_u64];omega
def Aak(n:Nat):(n:Int).fdiv (2^min 32 IntKind.u64.bits)=((n/4294967296:Nat):Int):=by
 show(n:Int).fdiv 4294967296=_
 rw[Ca _ om];omega
abbrev Aal(n:Nat):V:=.int .u32 (n:Int)
abbrev A2(l:List Nat):List V:=l.map Aal
def Aj(l:List Nat):(A2 l).all V.pureE=true:=by
 rw[Ar];intro v a;obtain⟨s,_,rfl⟩:=Bl.1 a;rfl
def Gg(l:List Nat)(i:Nat):Nat:=match l[i]? with|some x=>x|none=>0
def Aty(l:List Nat)(k:Nat)(h:k<l.length):Hj (A2 l) k=some (.int .u32 (Gg l k)):=by
 rw[C2,Bb,Gg,Ai h];rfl
def Apu{v:Nat}(h:i<k):Gg (Cj k v) i=v/4294967296^i%4294967296:=by
 unfold Gg;rw[Aps k v i h]
def Aam{v:Nat}(h:i<k):Hj (A2 (Cj k v)) i=some (.int .u32 ((v/4294967296^i%4294967296:Nat):Int)):=by
 rw[Aty _ _ (sG h),Apu h]
def Rf(x y:Nat):Int:=if x<y then -1 else if y<x then 1 else 0
def Agf{a b P:Nat}(hP:0<P)(h:a/(P*4294967296)=b/(P*4294967296))(hl:a/P%4294967296<b/P%4294967296):a<b:=by
 rw[<- Cy,<- Cy]at h;have h1:a/P<b/P:=om
 rcases Cl a b with h2|h2
 .exact h2
 .have:=Nat.div_le_div_right (c:=P) h2;omega
def Atz{a b P:Nat}(h:a/(P*4294967296)=b/(P*4294967296))(hl:a/P%4294967296=b/P%4294967296):a/P=b/P:=by
 rw[<- Cy,<- Cy]at h;omega
def Xb(a b:Nat)(c:a<2^64/\b<2^64):bits .or .u64 a b=((a|||b:Nat):Int):=by
 have d:BitVec.ofInt 64 (a:Int)=BitVec.ofNat 64 a:=sm;have e:BitVec.ofInt 64 (b:Int)=BitVec.ofNat 64 b:=sm;have h1:=On c.1 c.2
 show IntKind.u64.wrap ((BitVec.ofInt 64 (a:Int)|||BitVec.ofInt 64 (b:Int)).toNat:Int)=_
 rw[d,e,M0,Dm,Dm,Bm c.1,Bm c.2,IntKind.wrap_u64];omega
def At0{x y:Nat}(h:x<2^k):y*2^k|||x=y*2^k+x:=by
 have:=Hh (i:=k) (b:=x) h y;rw[Bh]at this;exact this.symm
def Fg(h:n<4294967296^m):(B2 n).length<=m:=by
 rw[<- Azj h];have:=Lx (Cj m n)
 rwa[Aai]at this
variable {vq:Nat}{done:List Nat}
def Apv(x:Nat)(r:List Nat)(k:Nat):Gg (x::r) (k+1)=Gg r k:=by simp[Gg]
def Akm:∀(l:List Nat)(k:Nat),k<l.length->Bf (l.take (k+1))=Bf (l.take k)+Gg l k*4294967296^k
 |x::r,0,_ =>by simp[Bf,Gg]
 |x::r,k+1,h=>by
  have:=Akm r k (sG h);rw[Apv,Iw,Bf,this,Iw,Bf,Ce,Ed,<- B9,<- B9,Bh 4294967296 (Gg r k),Rt (Gg r k)];omega
def Pn(l:List Nat)(k:Nat)(h:l.length<=k):Bf (l.take k)=Bf l:=by rw[Bi h]
def At1(n:Nat):Bf (List.replicate n 0)=0:=by
 induction n with
 |zero=>rfl
 |succ n ih=>simp[Gm,Bf,ih]
def Qj{a b:List Nat}(h:El a)(k:El b):El (a++b):=λx c=>by
 rcases Cn.1 c with h1|h1
 .exact h x h1
 .exact k x h1
def Pa{l:List Nat}(h:El l)(i:Nat):Gg l i<4294967296:=by
 unfold Gg
 split
 .rename_i x a;exact h x (As a)
 .omega
def A3x{a b c x y T P:Nat}(h:T+c*P=a+b)(z:Nat)(d:z=x+y+c):(T+z%4294967296*P)+z/4294967296*(P*4294967296)=(a+x*P)+(b+y*P):=by
 have h1:z%4294967296*P+z/4294967296*(P*4294967296)=z*P:=by
  rw[Bh P 4294967296,<- B9,<- Cc]
  congr 1
  omega
 have h2:z*P=x*P+y*P+c*P:=by rw[d,Cc,Cc]
 omega
def A3y{l:List Nat}(h:l.length<=k):Bf (l.take (k+1))=Bf (l.take k)+Gg l k*4294967296^k:=by
 have:Gg l k=0:=by unfold Gg;rw[Eh h]
 rw[this,Pn _ _ h,Pn _ _ om];omega
def Qy(l:List Nat)(k:Nat):Bf (l.take (k+1))=Bf (l.take k)+Gg l k*4294967296^k:=by
 by_cases h:k<l.length
 .exact Akm l k h
 .exact A3y om
def K0(done:List Nat)(n:Nat):List V:=A2 (done++List.replicate n 0)
def Aan(h:done.length=k):Hj (K0 done (n+1)) k=some (.int .u32 0):=by
 rw[C2,K0,Bb,Br om,h,F5,Gm];rfl
def Aao(h:done.length=k)(z:Nat):(K0 done (n+1)).set k (.int .u32 (z:Int))=K0 (done++[z]) n:=by
 subst h;simp only[K0,A2,C0,Gm,B6];rw[Fr _ _ (by simp)];simp
def Vp:(K0 done n).length=done.length+n:=by simp[K0]
def Apw(n:Nat):K0 [] n=List.replicate n (.int .u32 0):=by simp[K0,Aal]
def Aew{x y:Nat}(h:x+y<18446744073709551616):IntKind.u64.wrap ((x:Int)+(y:Int))=((x+y:Nat):Int):=by
 rw[<- Dy];exact wrap_u64 h
def Apx:∀(q:List Nat)(m z:Nat),m<q.length->Bf (q.set m z)+Gg q m*4294967296^m=Bf q+z*4294967296^m
 |x::q,0,z,_ =>by simp[Bf,Gg];omega
 |x::q,m+1,z,h=>by
  have:=Apx q m z (sG h);have e:Gg (x::q) (m+1)=Gg q m:=by simp[Gg]
  rw[e,Rr,Bf,Bf,Ce,<- B9,<- B9];omega
def Azk{q:List Nat}(h:m<q.length):Hj (K0 q n) m=some (.int .u32 (Gg q m)):=by
 rw[C2,K0,Bb,Bv h,Gg,Ai h];rfl
def Azl{q:List Nat}(h:m<q.length)(z:Nat):(K0 q n).set m (.int .u32 (z:Int))=K0 (q.set m z) n:=by
 simp only[K0,A2,C0];rw[List.set_append_left _ _ (sG h),Oo]
def Azm{q:List Nat}(h:El q)(m:Nat){z:Nat}(hz:z<4294967296):El (q.set m z):=λx a=>by
 rcases F0 a with h1|h1
 .exact h x h1
 .omega
def A3z{vs x y c t u T a:Nat}(h:d+c*a=T)(hs:vs+u*a=d+t%4294967296*a)(e:t=x*y+u+c):
  vs+t/4294967296*(a*4294967296)=T+x*y*a:=by
 have h1:t%4294967296*a+t/4294967296*(a*4294967296)=t*a:=by
  rw[Bh a 4294967296,<- B9,<- Cc]
  congr 1
  omega
 have h2:t*a=x*y*a+u*a+c*a:=by rw[e,Cc,Cc]
 omega
def Ban{x y u c:Nat}(hx:x<4294967296)(hy:y<4294967296)(hu:u<4294967296)(hc:c<4294967296):x*y+u+c<18446744073709551616:=by
 have:x*y<=4294967295*4294967295:=If om om;omega
def Ly(x:Int):IntKind.u64.wrap x=x%18446744073709551616:=by rw[IntKind.wrap_u64]
def Akn(x:Int):IntKind.u32.wrap x=x%4294967296:=by rw[IntKind.wrap_u32]
def Be1(x:Int):x.fdiv (2^min 63 IntKind.u64.bits)=x/9223372036854775808:=by
 show x.fdiv 9223372036854775808=_
 rw[Ca _ om]
def Bio{x y c:Nat}(hx:x<4294967296)(hy:y<4294967296)(hc:c<=1):
  ∃z c':Nat,IntKind.u32.wrap (IntKind.u64.wrap (IntKind.u64.wrap ((x:Int)-(c:Int))-(y:Int)))=z/\
   (IntKind.u64.wrap (IntKind.u64.wrap ((x:Int)-(c:Int))-(y:Int))).fdiv (2^min 63 IntKind.u64.bits)=c'/\z<4294967296/\c'<=1/\z+y+c=x+4294967296*c':=by
 simp only[Be1,Ly,Akn]
 by_cases h:y+c<=x
 .refine⟨x-y-c,0,?_,?_,?_,?_,?_⟩<;>omega
 .refine⟨x+4294967296-y-c,1,?_,?_,?_,?_,?_⟩<;>omega
def Bfn(x c:Nat):IntKind.u64.wrap (IntKind.u64.wrap ((x:Int)-(c:Int))-((0:Nat):Int))=IntKind.u64.wrap ((x:Int)-(c:Int)):=by
 simp only[Ly];omega
def Azn{D a b c x y z P:Nat}(h:D+b=a+c*P)(d:z+y+c=x+4294967296*c'):(D+z*P)+(b+y*P)=(a+x*P)+c'*(P*4294967296):=by
 have h1:z*P+y*P+c*P=x*P+c'*(P*4294967296):=by
  rw[<- Cc,<- Cc,d,Cc,Bh 4294967296 c',B9,Bh 4294967296 P]
 omega
def A30{D a b c P:Nat}(h:D+b=a+c*P)(hD:D<P)(hc:c<=1)(d:b<=a):c=0/\D=a-b:=by
 have:c=0\/c=1:=om
 rcases this with rfl|rfl
 .omega
 .omega
def Bfo{r x:Nat}(hr:r<4294967296)(a:x<4294967296):bits .or .u64 (IntKind.u64.wrap ((r:Int)*2^min (32:Int).toNat IntKind.u64.bits)) (x:Int)=((r*4294967296+x:Nat):Int):=by
 have e:IntKind.u64.wrap ((r:Int)*2^min (32:Int).toNat IntKind.u64.bits)=((r*4294967296:Nat):Int):=by
  show IntKind.u64.wrap ((r:Int)*4294967296)=_
  rw[Ly];omega
 rw[e,Xb (r*4294967296) x ⟨by omega,by omega⟩];exact congrArg Nat.cast (At0 (k:=32) a)
def Bao{r x:Nat}(hr:r<4294967296)(a:x<4294967296):bits .or .u64 (x:Int) (IntKind.u64.wrap ((r:Int)*2^min (32:Int).toNat IntKind.u64.bits))=((r*4294967296+x:Nat):Int):=by
 have e:IntKind.u64.wrap ((r:Int)*2^min (32:Int).toNat IntKind.u64.bits)=((r*4294967296:Nat):Int):=by
  show IntKind.u64.wrap ((r:Int)*4294967296)=_
  rw[Ly];omega
 rw[e,Xb x (r*4294967296) ⟨by omega,by omega⟩,Wq];exact congrArg Nat.cast (At0 (k:=32) a)
def A31{A P x r t:Nat}(c:0<d)(f:r=A/(P*4294967296)%d)(g:x=A/P%4294967296)(h:t=r*4294967296+x):
  t%d=A/P%d/\(d<4294967296->t/d<4294967296)/\A/P/d=A/(P*4294967296)/d*4294967296+t/d/\r<d:=by
 have e:A/P=A/(P*4294967296)*4294967296+x:=by
  rw[<- Cy,g];omega
 generalize A/(P*4294967296)=Y at*;have a:r<d:=by rw[f];exact Dc _ c
 have i:A/P=d*(Y/d*4294967296)+t:=by
  rw[e,h]
  conv=>lhs;rw[<-(G5 Y d)]
  rw[<- f,Cc,B9];omega
 have j:x<4294967296:=by rw[g];exact Dc _ dc
 refine⟨by rw[i,Nat.mul_add_mod],λ_ =>?_,by rw[i,Nat.mul_add_div c],a⟩;rw[C9 c,h,Bh 4294967296 d];have:(r+1)*4294967296<=d*4294967296:=Bz _ a;omega
def Ako{q Q:Nat}(hq:q<4294967296):Cj (k+1) (Q*4294967296+q)=q::Cj k Q:=by
 simp only[Cj]
 congr 1
 .omega
 .congr 1;omega
def Apy(a b:Nat):(a:Int).tdiv (b:Int)=((a/b:Nat):Int):=by rw[<- Int.ofNat_tdiv]
def Apz(a b:Nat):(a:Int).tmod (b:Int)=((a%b:Nat):Int):=by rw[<- Int.ofNat_tmod]
def Am2{r x:Nat}(c:r<4294967296)(a:x<4294967296):bits .or .u64 (IntKind.u64.wrap ((r:Int)*2^min 32 IntKind.u64.bits)) (x:Int)=((r*4294967296+x:Nat):Int):=Bfo c a
def A32{r x:Nat}(c:r<4294967296)(a:x<4294967296):bits .or .u64 (x:Int) (IntKind.u64.wrap ((r:Int)*2^min 32 IntKind.u64.bits))=((r*4294967296+x:Nat):Int):=Bao c a
def Azo(a b:Nat)(c:a<2^32/\b<2^32):bits .or .u32 a b=((a|||b:Nat):Int):=by
 have d:BitVec.ofInt 32 (a:Int)=BitVec.ofNat 32 a:=sm;have e:BitVec.ofInt 32 (b:Int)=BitVec.ofNat 32 b:=sm;have h1:=On c.1 c.2
 show IntKind.u32.wrap ((BitVec.ofInt 32 (a:Int)|||BitVec.ofInt 32 (b:Int)).toNat:Int)=_
 rw[d,e,M0,Dm,Dm,Bm c.1,Bm c.2,IntKind.wrap_u32];omega
def A33{a c t:Nat}(l:a<4294967296)(hs:s<32)(j:c<2^s)(h:t=a*2^s):
  t<18446744073709551616/\c|||t%4294967296=c+t%4294967296/\c+t%4294967296<4294967296/\t/4294967296<2^s:=by
 obtain⟨e,o,i⟩:∃e,4294967296=e*2^s/\0<e:=⟨2^(32-s),by rw[<- Gi,show 32-s+s=32 by omega],Fy dc⟩
 have hS:2^s<=2147483648:=by
  have:2^s<=2^31:=Dz dc om;exact this
 have f:0<2^s:=Fy dc;have m:t%4294967296=a%e*2^s:=by rw[h,o,Nat.mul_mod_mul_right]
 have k:a%e*2^s|||c=a%e*2^s+c:=At0 j
 have g:(a%e+1)*2^s<=e*2^s:=Bz _ (Dc a i);have n:a*2^s<4294967296*2^s:=Ge l f;rw[Wq,m,k]
 refine⟨by omega,by omega,?_,?_⟩
 .rw[Cc]at g;omega
 .rw[C9 dc,h,Bh (2^s)];exact n
def A34{A c t:Nat}(e:c=A%4294967296^k*2^s/4294967296^k)(f:t=A/4294967296^k%4294967296*2^s)(d:c+t%4294967296<4294967296)(i:t/4294967296<4294967296):
  Cj (k+2) (A%4294967296^(k+1)*2^s)=Cj k (A%4294967296^k*2^s)++[c+t%4294967296,t/4294967296]:=by
 have a:0<4294967296^k:=Fy dc
 have j:A%4294967296^(k+1)*2^s=A%4294967296^k*2^s+4294967296^k*t:=by
  rw[Ce,Wp,Cc,B9,f]
 rw[Aaj k 2,j];have h:(A%4294967296^k*2^s+4294967296^k*t)/4294967296^k=c+t:=by rw[Lp _ _ a,e]
 have g:Cj k (A%4294967296^k*2^s+4294967296^k*t)=Cj k (A%4294967296^k*2^s):=by
  rw[<- Vm k (_ +_),Mf,Vm]
 rw[h,g]
 congr 1
 simp only[Cj]
 congr 1
 .omega
 .congr 1;omega
def A35{A c:Nat}(a:c=A%4294967296^k*2^s/4294967296^k)(d:c<4294967296):Cj (k+1) (A%4294967296^k*2^s)=Cj k (A%4294967296^k*2^s)++[c]:=by
 rw[Acm,<- a,Bm d]
def A36{A P:Nat}(hs:s<32):(A/P%4294967296+A/(P*4294967296)%4294967296*4294967296)/2^s%4294967296=A/2^s/P%4294967296:=by
 rw[<- Cy,Cy A (2^s) P,Bh (2^s) P,<- Cy];generalize A/P=X;obtain⟨e,c⟩:∃e,4294967296=e*2^s:=⟨2^(32-s),by rw[<- Gi,show 32-s+s=32 by omega]⟩;have a:0<2^s:=Fy dc;have h1:X=X%4294967296+X/4294967296%4294967296*4294967296+X/4294967296/4294967296*(4294967296*4294967296):=om
 have h2:X/4294967296/4294967296*(4294967296*4294967296)=2^s*(X/4294967296/4294967296*e*4294967296):=by
  conv=>lhs;rhs;lhs;rw[c]
  rw[B9 e,<- B9,Om]
 conv=>rhs;rw[h1,h2,Lp _ _ a,Nat.add_mul_mod_self_right]
def A37{x:Nat}(hs:s<=64):(x:Int).fdiv (2^min (s:Int).toNat IntKind.u64.bits)=((x/2^s:Nat):Int):=by
 rw[show(s:Int).toNat=s by omega,F7 (show s<=IntKind.u64.bits from hs),Ca _ (Int.le_of_lt (Int.pow_pos dc))];rw[T8,U5];rfl
def A38{x:Nat}(hs:s<=64)(h:x*2^s<18446744073709551616):IntKind.u64.wrap ((x:Int)*2^min (s:Int).toNat IntKind.u64.bits)=((x*2^s:Nat):Int):=by
 rw[show(s:Int).toNat=s by omega,F7 (show s<=IntKind.u64.bits from hs)];rw[show((x:Int)*2^s)=((x*2^s:Nat):Int)by rw[Ft,U5];rfl];exact wrap_u64 h
def Azp{x:Nat}(hs:s<=64):(x:Int).fdiv (2^min s IntKind.u64.bits)=((x/2^s:Nat):Int):=A37 hs
def Azq{x:Nat}(hs:s<=64)(h:x*2^s<18446744073709551616):IntKind.u64.wrap ((x:Int)*2^min s IntKind.u64.bits)=((x*2^s:Nat):Int):=A38 hs h
variable {pre:List V}
def A39{x y c:Nat}(hx:x<4294967296)(hy:y<4294967296)(hc:c<=1):
  ∃z c':Nat,IntKind.u32.wrap (IntKind.u64.wrap (IntKind.u64.wrap ((x:Int)-(y:Int))-(c:Int)))=z/\
   (IntKind.u64.wrap (IntKind.u64.wrap ((x:Int)-(y:Int))-(c:Int))).fdiv (2^min 63 IntKind.u64.bits)=c'/\z<4294967296/\c'<=1/\z+y+c=x+4294967296*c':=by
 simp only[Be1,Ly,Akn]
 by_cases h:y+c<=x
 .refine⟨x-y-c,0,?_,?_,?_,?_,?_⟩<;>omega
 .refine⟨x+4294967296-y-c,1,?_,?_,?_,?_,?_⟩<;>omega
def Mi(pre:List V)(n U:Nat)(post:List V)(k x:Nat):List V:=pre++(A2 (Cj k x++Cj (n+1-k) (U/4294967296^k))++post)
def Agg{post:List V}{U x:Nat}(h:k<=n+1):(Mi pre n U post k x).length=pre.length+(n+1)+post.length:=by
 simp[Mi];omega
def Aco{post:List V}{U:Nat}:Mi pre n U post 0 0=pre++(A2 (Cj (n+1) U)++post):=by simp[Mi,Cj]
def Ap0{post:List V}{U x:Nat}:Mi pre n U post (n+1) x=pre++(A2 (Cj (n+1) x)++post):=by simp[Mi,Cj]
def Ap1{post:List V}{U x:Nat}(h:k<=n):Hj (Mi pre n U post k x) (pre.length+k)=some (Aal (U/4294967296^k%4294967296)):=by
 obtain⟨m,a⟩:∃m,n+1-k=m+1:=⟨n-k,by omega⟩;rw[C2,Mi,a,Br om,T9,Bv sm,Bb,Br sm,Aai,F5,Cj];rfl
def Ap2{post:List V}{U x z:Nat}(h:k<=n)(c:x<4294967296^k)(e:z<4294967296):
  (Mi pre n U post k x).set (pre.length+k) (Aal z)=Mi pre n U post (k+1) (x+4294967296^k*z):=by
 obtain⟨m,d⟩:∃m,n+1-k=m+1:=⟨n-k,by omega⟩
 have h1:Cj (k+1) (x+4294967296^k*z)=Cj k x++[z]:=by
  rw[<- Age k 1 x z c];simp only[Cj,Bm e]
 have h2:U/4294967296^k/4294967296=U/4294967296^(k+1):=by rw[Cy,Ce]
 rw[Mi,Mi,d,h1,Fr _ _ om,T9,Cj,h2,show n+1-(k+1)=m by omega];have a:(A2 (Cj k x)).length=k:=sm;simp only[A2,C0,B6,Cz,Co,Ff]at a|-;rw[Fr _ _ om,a,F5,Kp]
def A4a{x z P:Nat}(hx:x<P)(a:z<4294967296):x+P*z<P*4294967296:=by
 have:P*(z+1)<=P*4294967296:=Eo _ a;rw[Ed]at this;omega
def Am3(n U G:Nat):Nat:=if G<=U then U-G else U+4294967296^(n+1)-G
def A4b{U V g x c b z:Nat}(d:U<4294967296^(n+1))(l:V<4294967296^n)(hx:x<4294967296^n)(m:x+g*(V%4294967296^n)=U%4294967296^n+4294967296^n*(c+b))
  (a:z+c+b=U/4294967296^n%4294967296+4294967296*b')(k:z<4294967296)(j:b'<=1):x+4294967296^n*z=Am3 n U (g*V)/\(b'=0↔g*V<=U):=by
 rw[Bm l]at m;have e:4294967296^(n+1)=4294967296^n*4294967296:=Ce ..;rw[Am3,e];rw[e]at d;have i:0<4294967296^n:=Fy dc;generalize 4294967296^n=P at*;have h:U/P<4294967296:=by rw[C9 i,Bh];exact d
 rw[Bm h]at a;have hd:=G5 U P;generalize U/P=q,U%P=r,g*V=G at*;have h1:P*z+P*(c+b)=P*q+P*(4294967296*b'):=by rw[<- Ed,<- Ed,<- Hl,a]
 have o:b'=0\/b'=1:=om
 rcases o with rfl|rfl
 .rw[Ad om];omega
 .have h2:c+b>q:=om;have f:P*(q+1)<=P*(c+b):=Eo _ h2;rw[Ed]at f;rw[I om];omega
def A4c{U W x c z:Nat}(g:U<4294967296^(n+1))(k:W<4294967296^n)(f:x<4294967296^n)(h:x+4294967296^n*c=U%4294967296^n+W%4294967296^n)
  (a:z=(U/4294967296^n%4294967296+c)%4294967296):x+4294967296^n*z=(U+W)%4294967296^(n+1):=by
 rw[Bm k]at h;rw[Ce]at g|-;have d:0<4294967296^n:=Fy dc;generalize 4294967296^n=P at g f h a d|-;have j:U/P<4294967296:=by rw[C9 d,Bh];exact g
 rw[Bm j]at a;have i:=G5 U P;generalize U/P=q at i a;generalize U%P=r at i h;have e:U+W=x+P*(q+c):=by rw[Ed];omega
 rw[e,Wp,Mf,Bm f,Lp _ _ d,Gj f,Dq,a]
def Aap(m n j R:Nat):List V:=A2 (Cj (m-j-n) (R/4294967296^(j+(n+1))))
def Bfp{j R:Nat}(h:j+n<=m):A2 (Cj (m+1) R)=Mi (A2 (Cj j R)) n (R/4294967296^j) (Aap m n j R) 0 0:=by
 rw[Aco,Aap,show m+1=j+((n+1)+(m-j-n))by omega,Aaj,Aaj];simp only[A2,C0];rw[Cy,<- Gi]
def Bap{j R U w:Nat}(h:j+n<=m)(a:w<4294967296^(n+1))(c:R<4294967296^(j+(n+1))):
  Mi (A2 (Cj j R)) n U (Aap m n j R) (n+1) w=A2 (Cj (m+1) (w*4294967296^j+R%4294967296^j)):=by
 have:=A3w (m:=m+1) (n:=n+1) (j:=j) (R:=R) (w:=w) om a c;rw[Ap0,<- this,Aap,show m+1-j-(n+1)=m-j-n by omega];simp only[A2,C0,Cz]
def At2{post:List V}{U w:Nat}:Mi pre n U post (n+1) w=Mi pre n w post 0 0:=by rw[Ap0,Aco]
def Awk{R:Nat}(h:n<=m+1):(A2 (Cj (m+1) R)).take n=A2 (Cj n R):=by
 rw[A2,<- Pq,Acn _ _ _ h]
def Baq{u V w:Nat}(hV:0<V)(c:d=u/V)(a:w=u-u/V*V):¬u<d*V/\Am3 n u (d*V)=w:=by
 have h1:=Fs u V;rw[<- c]at h1 a;exact⟨by omega,by rw[Am3,Ad h1,a]⟩
def Bar{u V w:Nat}(j:0<V)(a:V<4294967296^n)(i:d=u/V+1)(h:w=u-u/V*V):
  u<d*V/\Am3 n u (d*V)<4294967296^(n+1)/\(Am3 n u (d*V)+V)%4294967296^(n+1)=w/\w<V:=by
 have h1:=Fs u V;have h2:=Iy u j;have e:d*V=u/V*V+V:=by rw[i,Cc,Wn]
 have g:V*(u/V+1)=u/V*V+V:=by rw[Bh,Cc,Wn]
 rw[g]at h2;have f:4294967296^(n+1)=4294967296^n*4294967296:=Ce ..;rw[Am3,e];generalize u/V*V=Q at h1 h2 h|-;have c:V<4294967296^(n+1):=by rw[f];omega
 clear f a;generalize 4294967296^(n+1)=M at c|-;rw[I om];refine⟨by omega,by omega,?_,by omega⟩;rw[show u+M-(Q+V)+V=w+M by omega,Nat.add_mod_right,Bm om]
def Bas{A S Q q V R P a:Nat}(c:A*S=Q*(P*4294967296)*V+R)(d:R=q*V*P+a):A*S=(Q*4294967296+q)*P*V+a:=by
 rw[c,d,Cc,Cc,<- Hl]
 congr 1
 congr 1
 .rw[Bh P 4294967296,<- B9 Q]
 .rw[B9,B9,Bh V P]
def Azr{post:List V}{U:Nat}:((Mi pre n U post 0 0).drop pre.length).take (n+1)=A2 (Cj (n+1) U):=by
 rw[Aco,Ws,U6];simp
def Aaq(M i Q:Nat):List V:=List.replicate i (.int .u32 0)++A2 (Cj (M-i) Q)
def A4d{M Q:Nat}(h:i<=M):(Aaq M i Q).length=M:=by simp[Aaq];omega
def Azs{M Q:Nat}:Aaq M 0 Q=A2 (Cj M Q):=by simp[Aaq]
def A4e{M Q:Nat}:Aaq M M Q=List.replicate M (.int .u32 0):=by simp[Aaq,Cj]
def A4f{M Q:Nat}:Hj (Aaq M (i+1) Q) i=some (.int .u32 0):=by
 rw[C2,Aaq,Bv sm,Hg,Ad om]
def A4g{M Q q:Nat}(h:i+1<=M)(c:q<4294967296):(Aaq M (i+1) Q).set i (.int .u32 (q:Int))=Aaq M i (Q*4294967296+q):=by
 have a:M-i=(M-(i+1))+1:=om;rw[Aaq,Aaq,a,Ako c,List.replicate_succ',Cz,Fr _ _ (by simp)];simp
structure RI where
 neg:Bool
 mag:List Nat
def sgn(b:Bool)(n:Nat):Int:=if b=true then -(n:Int)else n
def RI.val(a:RI):Int:=sgn a.neg (Bf a.mag)
def RI.v(a:RI):V:=.agg [.bool a.neg,.ro 1 (A2 a.mag)]
structure RI.ok(a:RI)(k:Nat):Prop where
 lim:El a.mag
 len:a.mag.length<=k
def nI(z:Int):RI:=⟨decide (z<0),B2 z.natAbs⟩
def Ox(z:Int):Nat:=(B2 z.natAbs).length
def Iz(z:Int):(nI z).val=z:=by
 simp only[RI.val,nI,C4,sgn]
 by_cases h:z<0
 .rw[Ad (sG h)];omega
 .rw[I (sG h)];omega
def Hn{z:Int}(h:Ox z<=k):(nI z).ok k:=⟨Cp _,h⟩
def Xc(b:Bool)(n:Nat):(sgn b n).natAbs=n:=by unfold sgn;split<;>simp
def Bat(b:Bool)(n:Nat):decide (sgn b n<0)=(b&& !decide (n=0)):=by
 unfold sgn;rw[M1]
 cases b
 .simp
 .simp only[if_true,decide_eq_true_iff,Bool.true_and,Jw,decide_eq_false_iff_not];omega
def RI.abs(a:RI):a.val.natAbs=Bf a.mag:=Xc _ _
def RI.sz{a:RI}(h:a.ok k):Ox a.val<=k:=by
 rw[Ox,RI.abs];have:=Lx a.mag;rw[Kx a.mag h.lim]at this;exact Ag this h.len
def Bfq(b:Bool)(n:Nat):(nI (sgn b n)).v=.agg [.bool (b&& !decide (n=0)),.ro 1 (A2 (B2 n))]:=by
 rw[nI,RI.v];simp only[Xc,Bat]
def G9(z:Int):Int:=if z<0 then -1 else if 0<z then 1 else 0
def cmpI(a b:Int):Int:=if a<b then -1 else if b<a then 1 else 0
def A4h(b:Bool)(n:Nat):G9 (sgn b n)=if b=true then -Rf n 0 else Rf n 0:=by
 unfold G9 sgn Rf;cases b<;>simp<;>(repeat' split)<;>omega
def Bau(b c:Bool)(n m:Nat)(h1:¬G9 (sgn b n)<G9 (sgn c m))(h2:¬G9 (sgn c m)<G9 (sgn b n)):cmpI (sgn b n) (sgn c m)=G9 (sgn b n)*Rf n m:=by
 unfold cmpI G9 sgn Rf at*;cases b<;>cases c<;>simp at*<;>(repeat' split at h1)<;>(repeat' split at h2)<;>(repeat' split)<;>omega
def Bav(b:Bool)(n m:Nat):sgn b n+sgn b m=sgn b (n+m):=by unfold sgn;cases b<;>simp<;>omega
def Baw{b c:Bool}(h:b≠c)(hm:m<=n):sgn b n+sgn c m=sgn b (n-m):=by unfold sgn;cases b<;>cases c<;>simp at*<;>omega
def A4i{b c:Bool}(h:b≠c)(hm:n<=m):sgn b n+sgn c m=sgn c (m-n):=by unfold sgn;cases b<;>cases c<;>simp at*<;>omega
def Awl(b c:Bool)(n m:Nat):sgn b n*sgn c m=sgn (b != c) (n*m):=by unfold sgn;cases b<;>cases c<;>simp[Int.neg_mul,Wt,Ft]
def Bax(b:Bool)(n:Nat):sgn (!b) n= -sgn b n:=by unfold sgn;cases b<;>simp
def N7{a b j:Nat}(h1:(B2 a).length<=i)(h2:(B2 b).length<=j):(B2 (a*b)).length<=i+j:=by
 refine Fg ?_;have d:=Ko b
 rcases Ey (a*b)with h|h
 .rw[h];exact Fy dc
 .refine Cd (Nat.mul_lt_mul_of_lt_of_le (Ko a) (H8 d) (Fy dc)) ?_
  .rw[<- Gi];exact Dz dc om
def Aex{a b j:Nat}(h1:(B2 a).length<=i)(h2:(B2 b).length<=j):(B2 (a+b)).length<=max i j+1:=by
 refine Fg ?_;have a1:=Ko a;have b1:=Ko b;have d:4294967296^(B2 a).length<=4294967296^max i j:=Dz dc om;have c:4294967296^(B2 b).length<=4294967296^max i j:=Dz dc om;rw[Ce];generalize 4294967296^max i j=P at d c|-;omega
def Ui{a b:Nat}(h:a<=b):(B2 a).length<=(B2 b).length:=Fg (Fl h (Ko b))
def K1{l:List Nat}(h:El l):(B2 (Bf l)).length<=l.length:=by rw[<- Kx l h];exact Lx l
structure RR where
 num:RI
 den:List Nat
def RR.v(a:RR):V:=.agg [.bool a.num.neg,.ro 1 (A2 a.num.mag),.ro 1 (A2 a.den)]
def vRR(a:RR):a.v=V.agg [.bool a.num.neg,.ro 1 (A2 a.num.mag),.ro 1 (A2 a.den)]:=rfl
def RR.val(a:RR):Rat:=mkRat a.num.val (Bf a.den)
structure RR.ok(a:RR)(k:Nat):Prop where
 num:a.num.ok k
 lim:El a.den
 len:a.den.length<=k
def nR(q:Rat):RR:=⟨nI q.num,B2 q.den⟩
def Qk(q:Rat):Nat:=max (Ox q.num) ((B2 q.den).length)
def Mj(q:Rat):(nR q).val=q:=by simp[RR.val,nR,Iz,C4,Rat.mkRat_self]
def Nn{q:Rat}(h:Qk q<=k):(nR q).ok k:=⟨Hn (by unfold Qk at h;omega),Cp _,by unfold Qk at h;show(B2 q.den).length<=k;omega⟩
def Vq(b:Bool)(n d:Nat)(h:d≠0):(mkRat (sgn b n) d).num=sgn b (n/n.gcd d)/\(mkRat (sgn b n) d).den=d/n.gcd d:=by
 rw[mkRat,dif_neg h,Rat.normalize_eq];simp only[Xc];refine⟨?_,trivial⟩;unfold sgn
 cases b
 .simp
 .simp only[if_true];rw[Int.neg_ediv_of_dvd (Int.natCast_dvd_natCast.2 (Ua n d)),<- T8]
def Bip(b:Bool)(n d:Nat)(h:d≠0):nR (mkRat (sgn b n) d)=⟨nI (sgn b (n/n.gcd d)),B2 (d/n.gcd d)⟩:=by
 have⟨h1,h2⟩:=Vq b n d h;rw[nR,h1,h2]
def RR.p(a:RR):RR:=if Bf a.den=0 then⟨⟨false,[]⟩,B2 1⟩else a
def Am4:B2 1= [1]:=by rw[Lh dC];simp[Et]
def RR.p_val(a:RR):a.p.val=a.val:=by
 unfold RR.p
 split
 .rename_i h;rw[RR.val,RR.val,h];simp[RI.val,sgn,Bf,Wu,Rv]
 .rfl
def RR.p_ne(a:RR):Bf a.p.den≠0:=by
 unfold RR.p
 split
 .simp only[C4];decide
 .assumption
def RR.p_ok{a:RR}(h:a.ok k)(c:1<=k):a.p.ok k:=by
 unfold RR.p
 split
 .exact⟨⟨by simp[El],by simp⟩,Cp _,by rw[Am4];simpa using c⟩
 .exact h
def Acp{b:Bool}(h:d≠0)(h1:(B2 n).length<=k)(h2:(B2 d).length<=k):Qk (mkRat (sgn b n) d)<=k:=by
 have⟨c,a⟩:=Vq b n d h;rw[Qk,c,a,Ox,Xc];have a1:=Ui (G7 n (n.gcd d));have a2:=Ui (G7 d (n.gcd d));omega
def RR.sz{a:RR}(h:a.ok k)(d:1<=k):Qk a.val<=k:=by
 rw[<- RR.p_val];have c:=RR.p_ok h d;exact Acp (RR.p_ne a) (Ag (K1 c.num.lim) c.num.len) (Ag (K1 c.lim) c.len)
def A4j{f d:Int}{a c:Nat}(h1:a≠0)(h2:c≠0):mkRat f a<mkRat d c↔f*c<d*a:=by
 rw[Rat.mkRat_eq_div,Rat.mkRat_eq_div,Rat.div_lt_iff (Rat.natCast_pos.2 (H6 h1))]
 have e:(d:Rat)/(c:Rat)*(a:Rat)=((d:Rat)*(a:Rat))/(c:Rat):=by
  rw[Rat.div_def,Rat.div_def,Rat.mul_assoc,Rat.mul_comm _ (a:Rat),<- Rat.mul_assoc]
 rw[e,Rat.lt_div_iff (Rat.natCast_pos.2 (H6 h2))];rw[<- Rat.intCast_natCast,<- Rat.intCast_natCast,<- Rat.intCast_mul,<- Rat.intCast_mul,Rat.intCast_lt_intCast]
def N8(p q:Rat):Int:=if p<q then -1 else if q<p then 1 else 0
def Awm{e d:Int}{a c:Nat}(h1:a≠0)(h2:c≠0):N8 (mkRat e a) (mkRat d c)=cmpI (e*c) (d*a):=by
 unfold N8 cmpI;simp only[A4j h1 h2,A4j h2 h1]
def Ad8(q:Rat):Int:=N8 q 0
def A4k{n:Int}(h:d≠0):Ad8 (mkRat n d)=G9 n:=by
 have e:(0:Rat)=mkRat 0 1:=by rw[Rv]
 rw[Ad8,e,Awm h dC];unfold cmpI G9;simp
variable {α:Type}
def Av(l:List Int):List V:=l.map (V.int .i64)
@[simp]def A4(l:List Int):(Av l).length=l.length:=by simp[Av]
def Fu{l:List Int}(h:k<l.length):Hj (Av l) k=some (.i l[k]):=by rw[C2];simp[Av,h]
def Af(l:List Int):(Av l).all V.pureE=true:=by
 rw[Ar];intro x a;simp only[Av,Bl]at a;obtain⟨n,_,rfl⟩:=a;rfl
def Mk(f:α->Int):List α->Int
 | []=>0
 |x::r=>if f x≠0 then f x else Mk f r
def Pb(f:α->Int){l:List α}(h:k<l.length):Mk f (l.drop k)=if f l[k]≠0 then f l[k]else Mk f (l.drop (k+1)):=by
 rw[Bt h,Mk]
def A4l(f:α->Bool){l:List α}(h:k<l.length):(l.drop k).any f=(f l[k]||(l.drop (k+1)).any f):=by
 rw[Bt h,Yn]
def Ti{f:α->Int}:∀ {l:List α},Mk f l=0->∀x∈l,f x=0
 | [],_,x,a=>by cases a
 |y::r,h,x,a=>by
  rw[Mk]at h
  split at h
  .rename_i c;exact absurd h c
  .rename_i c
   rcases B8.1 a with e|e
   .subst e;exact Classical.not_not.1 c
   .exact Ti h x e
def Vr:List Int->Bool
 | []=>true
 | [_]=>true
 |a::b::r=>decide (a<b)&&Vr (b::r)
def At3{l:List Int}(h:k+1<l.length):Vr (l.drop k)=(decide (l[k]'(by omega)<l[k+1])&&Vr (l.drop (k+1))):=by
 rw[Bt (by omega:k<l.length),Bt h,Vr]
def Azt{l:List Int}(h:l.length<=k+1):Vr (l.drop k)=true:=by
 have:(l.drop k).length<=1:=by simp;omega
 match hd:l.drop k,this with
 | [],_ =>rfl
 | [_],_ =>rfl
structure Gr where
 pts:List Int
 pri:List Int
def Gr.v(g:Gr):V:=.agg [.ro 1 (Av g.pts),.ro 1 (Av g.pri)]
def Agh(p w:Int):Bool:=decide (p< -1000)||decide (1000<p)||decide (w<1)||decide (1000<w)
def Su:List Int->List Int->Bool
 |p::ps,w::a=>Agh p w||Su ps a
 |_,_ =>false
def Ap3:∀ {l m:List Int}{k:Nat}(h1:k<l.length)(h2:k<m.length),Su (l.drop k) (m.drop k)=(Agh l[k] m[k]||Su (l.drop (k+1)) (m.drop (k+1))):=by
 intro l m k h1 h2;rw[Bt h1,Bt h2,Su]
def Li(g:Gr):Int:=
 if 21<g.pts.length then 5 else if g.pts.length=0 then 20 else if g.pri.length≠g.pts.length then 1
 else if Su g.pts g.pri=true then 3 else if Vr g.pts=false then 23 else 0
def Agi:∀ {l m:List Int},l.length=m.length->Su l m=false->(∀p∈l,-1000<=p/\p<=1000)/\∀w∈m,1<=w/\w<=1000
 | [],[],_,_ =>by simp
 |p::ps,w::c,d,h=>by
  rw[Su,Fh]at h;have⟨h1,h2⟩:=Agi (l:=ps) (m:=c) (sG d) h.2;simp[Agh]at h
  refine⟨λx a=>?_,λx a=>?_⟩
  .rcases B8.1 a with e|e
   .subst e;omega
   .exact h1 x e
  .rcases B8.1 a with e|e
   .subst e;omega
   .exact h2 x e
structure Gr.ok(g:Gr):Prop where
 len:g.pts.length<=21
 pos:0<g.pts.length
 same:g.pri.length=g.pts.length
 pts:∀p∈g.pts,-1000<=p/\p<=1000
 pri:∀w∈g.pri,1<=w/\w<=1000
 ord:Vr g.pts=true
def Kc{g:Gr}(h:Li g=0):g.ok:=by
 unfold Li at h
 (repeat' split at h)<;>try omega
 rename_i h1 h2 h3 d e;have⟨a,c⟩:=Agi (l:=g.pts) (m:=g.pri) om (sG d);exact⟨by omega,by omega,by omega,a,c,by simpa using e⟩
def Cb(w:List Nat):List V:=w.map λn=>.ro 1 (A2 (B2 n))
@[simp]def H5(w:List Nat):(Cb w).length=w.length:=by simp[Cb]
def Ky{w:List Nat}(h:k<w.length):Hj (Cb w) k=some (.ro 1 (A2 (B2 w[k]))):=by rw[C2];simp[Cb,h]
def B1(w:List Nat):(Cb w).all V.pureE=true:=by
 rw[Ar];intro x a;simp only[Cb,Bl]at a;obtain⟨n,_,rfl⟩:=a;simpa[V.pureE]using Aj (B2 n)
def Gk:List Nat->Nat
 | []=>0
 |w::r=>w+Gk r
def M6:List Int->List Nat->Int
 |p::ps,w::r=>w*p+M6 ps r
 |_,_ =>0
def Sv:List Int->List Nat->Int
 |p::ps,w::r=>w*p*p+Sv ps r
 |_,_ =>0
abbrev Mo:=List (List Int)
def Es(m:Mo):List V:=m.map λr=>.ro 1 (Av r)
@[simp]def Lz(m:Mo):(Es m).length=m.length:=by simp[Es]
def Tj{m:Mo}(h:k<m.length):Hj (Es m) k=some (.ro 1 (Av m[k])):=by rw[C2];simp[Es,h]
def D7(m:Mo):(Es m).all V.pureE=true:=by
 rw[Ar];intro x a;simp only[Es,Bl]at a;obtain⟨n,_,rfl⟩:=a;simpa[V.pureE]using Af n
def moV(m:Mo):V:=.agg [.ro 1 (Es m)]
def Ai7:List Int->Int
 | []=>0
 |x::r=>x+Ai7 r
def Ai8(x:Int):Bool:=decide (x<1)||decide (1000<x)
def Acq(c:Nat)(r:List Int):Int:=if r.length≠c then 1 else if r.any Ai8=true then 3 else if Ai7 r≠1000 then 19 else 0
def Xs(m:Mo):Nat:=match m with| []=>0|r::_ =>r.length
def Lj(m:Mo)(n:Int):Int:=
 if n<1\/21<n\/(m.length:Int)≠n then 1
 else if Xs m<2\/6<Xs m then 3 else Mk (Acq (Xs m)) m
def Azu{l:List Int}(h:k<l.length):Ai7 (l.drop k)=l[k]+Ai7 (l.drop (k+1)):=by rw[Bt h,Ai7]
structure moOk(m:Mo)(n:Nat):Prop where
 len:m.length=n
 pos:0<n
 le:n<=21
 two:2<=Xs m
 six:Xs m<=6
 row:∀r∈m,r.length=Xs m/\(∀x∈r,1<=x/\x<=1000)/\Ai7 r=1000
def Aar{m:Mo}(h:Lj m n=0):moOk m n:=by
 unfold Lj at h
 (repeat' split at h)<;>try omega
 rename_i h1 h2;refine⟨by omega,by omega,by omega,by omega,by omega,λr e=>?_⟩;have a:=Ti h r e;unfold Acq at a
 (repeat' split at a)<;>try omega
 rename_i h4 d h6;refine⟨by omega,λx c=>?_,by omega⟩;have:=Sp.1 (by simpa using d:r.any Ai8=false) x c;simp[Ai8]at this;omega
def Tk(q:Rat):Rat:=if q<0 then -q else q
def Tl(q:Rat):List Int->Nat->Nat->Rat->Nat
 | [],_,b,_ =>b
 |p::r,i,b,l=>if Tk (p-q)<l then Tl q r (i+1) i (Tk (p-q))else Tl q r (i+1) b l
def Agj(a:List Int)(q:Rat):Nat:=match a with
 | []=>0
 |p::r=>Tl q r 1 0 (Tk (p-q))
def At4(q:Rat){l:List Int}(h:k<l.length)(i b:Nat)(d:Rat):Tl q (l.drop k) i b d=if Tk (l[k]-q)<d then Tl q (l.drop (k+1)) (i+1) i (Tk (l[k]-q))else Tl q (l.drop (k+1)) (i+1) b d:=by
 rw[Bt h,Tl]
def Agk(q:Rat):∀(l:List Int)(i b:Nat)(d:Rat),b<i->Tl q l i b d<i+l.length
 | [],i,b,d,h=>by simpa[Tl]using h
 |p::r,i,b,d,h=>by
  rw[Tl]
  split
  .have:=Agk q r (i+1) i (Tk (p-q)) om;simp;omega
  .have:=Agk q r (i+1) b d om;simp;omega
def Bay{a:List Int}(q:Rat)(h:0<a.length):Agj a q<a.length:=by
 cases a with
 |nil=>simp at h
 |cons p r=>have:=Agk q r 1 0 (Tk (p-q)) om;simp[Agj];omega
def nIb(z:Int):Bool:=decide (z<0)
def nIl(z:Int):List V:=A2 (B2 z.natAbs)
def At5(z:Int):(nI z).v=.agg [.bool (nIb z),.ro 1 (nIl z)]:=rfl
def Vs(z:Int):(nIl z).all V.pureE=true:=Aj _
def nRl(q:Rat):List V:=nIl q.num
def nRd(q:Rat):List V:=A2 (B2 q.den)
def nRb(q:Rat):Bool:=nIb q.num
def Xt(q:Rat):(nR q).v=.agg [.bool (nRb q),.ro 1 (nRl q),.ro 1 (nRd q)]:=rfl
def Jb(q:Rat):(nRl q).all V.pureE=true:=Aj _
def Jc(q:Rat):(nRd q).all V.pureE=true:=Aj _
def A4m:nIb 0=false:=rfl
def A4n:nIl 0= []:=by simp[nIl,Et,A2]
def Gv(n:Nat):List V:=A2 (B2 n)
def F9(n:Nat):(Gv n).all V.pureE=true:=Aj _
def Xd{w:List Nat}(h:k<w.length):Gk (w.take (k+1))=Gk (w.take k)+w[k]:=by
 have c:∀(a:List Nat)(x:Nat),Gk (a++[x])=Gk a+x:=by
  intro a x;induction a with
  |nil=>simp[Gk]
  |cons y a ih=>simp only[Co,Gk,ih];omega
 rw[Az h,c]
def Akp{l:List Int}{w:List Nat}(h1:k<l.length)(h2:k<w.length):M6 (l.take (k+1)) (w.take (k+1))=M6 (l.take k) (w.take k)+w[k]*l[k]:=by
 have c:∀(a:List Int)(b:List Nat)(x:Int)(y:Nat),a.length=b.length->M6 (a++[x]) (b++[y])=M6 a b+y*x:=by
  intro a;induction a with
  |nil=>intro b x y h;cases b with
   |nil=>simp[M6]
   |cons _ _ =>simp at h
  |cons p a ih=>intro b x y h;cases b with
   |nil=>simp at h
   |cons q b=>simp only[Co,M6,ih b x y (sG h)];omega
 rw[Az h1,Az h2,c _ _ _ _ (by simp;omega)]
def Akq{l:List Int}{w:List Nat}(h1:k<l.length)(h2:k<w.length):Sv (l.take (k+1)) (w.take (k+1))=Sv (l.take k) (w.take k)+w[k]*l[k]*l[k]:=by
 have c:∀(a:List Int)(b:List Nat)(x:Int)(y:Nat),a.length=b.length->Sv (a++[x]) (b++[y])=Sv a b+y*x*x:=by
  intro a;induction a with
  |nil=>intro b x y h;cases b with
   |nil=>simp[Sv]
   |cons _ _ =>simp at h
  |cons p a ih=>intro b x y h;cases b with
   |nil=>simp at h
   |cons q b=>simp only[Co,Sv,ih b x y (sG h)];omega
 rw[Az h1,Az h2,c _ _ _ _ (by simp;omega)]
end Go.Eng.Limb
namespace Go.Proofs.YtnoignhlamifmaaGreatDoor
open Go.Eng
@[simp]def Bks:Zu prog 2=some .i64/\H7 prog 3=some 1/\E0 prog 3=some false/\D8 prog 3=some (.i 0)/\Tb prog 3=some 1/\Ji prog 3=some 8/\Zu prog 3=some .i64/\H7 prog 4=some 1/\E0 prog 4=some false/\D8 prog 4=some (.bool false)/\Av9 prog 4=true/\D8 prog 5=some (.int .u8 0)/\Tb prog 5=some 1/\Ji prog 5=some 1/\Zu prog 5=some .u8/\H7 prog 9=some 1/\E0 prog 9=some false/\D8 prog 9=some (.str [])/\Tb prog 9=some 1/\Ab3 prog 9=true/\Zu prog 9=none/\H7 prog 22=some 1/\E0 prog 22=some false/\Gc prog 22=some 203:=ka
@[simp]def Bkg:H7 prog 24=some 2/\E0 prog 24=some true/\D8 prog 24=some (.agg [.i 0,.nils])/\Bk prog 24 0=some (0,1,false)/\Bk prog 24 1=some (1,1,false)/\Er prog 24=true/\H7 prog 25=some 1/\E0 prog 25=some false/\D8 prog 25=some (.nils)/\Tb prog 25=some 1/\Ji prog 25=some 24/\Gc prog 25=some 3/\H7 prog 27=some 2/\E0 prog 27=some true/\D8 prog 27=some (.agg [.nils,.nils])/\Tb prog 27=some 2/\Bk prog 27 0=some (0,1,false)/\Bk prog 27 1=some (1,1,false)/\Er prog 27=true/\H7 prog 28=some 1/\E0 prog 28=some false/\Gc prog 28=some 447/\H7 prog 30=some 1/\E0 prog 30=some false:=ka
@[simp]def Bkh:D8 prog 30=some (.nils)/\Tb prog 30=some 1/\Ji prog 30=some 24/\Gc prog 30=some 164/\H7 prog 32=some 2/\E0 prog 32=some true/\D8 prog 32=some (.agg [.bool false,.nils])/\Tb prog 32=some 2/\Bk prog 32 0=some (0,1,false)/\Bk prog 32 1=some (1,1,false)/\Er prog 32=true/\H7 prog 34=some 3/\E0 prog 34=some true/\D8 prog 34=some (.agg [.bool false,.nils,.nils])/\Tb prog 34=some 3/\Bk prog 34 0=some (0,2,true)/\Bk prog 34 1=some (2,1,false)/\Er prog 34=true/\H7 prog 36=some 18/\E0 prog 36=some true/\D8 prog 36=some (.agg [.i 0,.nils,.nils,.nils,.nils,.i 0,.bool false,.nils,.nils,.i 0,.bool false,.nils,.nils,.i 0,.bool false,.nils,.nils,.i 0])/\Tb prog 36=some 18/\Bk prog 36 0=some (0,2,true)/\Bk prog 36 1=some (2,2,true):=ka
@[simp]def Bjn:Bk prog 36 2=some (4,1,false)/\Bk prog 36 3=some (5,1,false)/\Bk prog 36 4=some (6,3,true)/\Bk prog 36 5=some (9,1,false)/\Bk prog 36 6=some (10,3,true)/\Bk prog 36 7=some (13,1,false)/\Bk prog 36 8=some (14,3,true)/\Bk prog 36 9=some (17,1,false)/\Er prog 36=true/\H7 prog 37=some 1/\E0 prog 37=some false/\Gc prog 37=some 111/\H7 prog 38=some 1/\E0 prog 38=some false/\Gc prog 38=some 150/\H7 prog 39=some 1/\E0 prog 39=some false/\Gc prog 39=some 310/\H7 prog 41=some 3/\E0 prog 41=some true/\D8 prog 41=some (.agg [.i 0,.i 0,.i 0])/\Bk prog 41 0=some (0,1,false)/\Bk prog 41 1=some (1,1,false)/\Bk prog 41 2=some (2,1,false):=ka
@[simp]def Bki:Er prog 41=true/\H7 prog 42=some 1/\E0 prog 42=some false/\Zu prog 42=some .u64/\H7 prog 44=some 30/\E0 prog 44=some true/\D8 prog 44=some (.agg [.i 0,.i 0,.i 0,.nils,.nils,.nils,.nils,.i 0,.bool false,.nils,.nils,.i 0,.bool false,.nils,.nils,.i 0,.bool false,.nils,.nils,.i 0,.nils,.nils,.nils,.nils,.i 0,.i 0,.i 0,.i 0,.i 0,.int .u64 0])/\Tb prog 44=some 30/\Bk prog 44 0=some (0,1,false)/\Bk prog 44 1=some (1,1,false)/\Bk prog 44 2=some (2,18,true)/\Bk prog 44 3=some (20,1,false)/\Bk prog 44 4=some (21,1,false)/\Bk prog 44 5=some (22,1,false)/\Bk prog 44 6=some (23,1,false)/\Bk prog 44 7=some (24,1,false)/\Bk prog 44 8=some (25,1,false)/\Bk prog 44 9=some (26,3,true)/\Bk prog 44 10=some (29,1,false)/\Er prog 44=true/\Gc prog 62=some 79/\H7 prog 47=some 1/\E0 prog 47=some false/\Gc prog 47=some 121:=ka
@[simp]def Bkj:H7 prog 48=some 1/\E0 prog 48=some false/\Gc prog 48=some 30/\H7 prog 49=some 1/\E0 prog 49=some false/\H7 prog 51=some 6/\E0 prog 51=some true/\D8 prog 51=some (.agg [.nils,.nils,.i 0,.nils,.int .u64 0,.i 0])/\Tb prog 51=some 6/\Bk prog 51 0=some (0,1,false)/\Bk prog 51 1=some (1,1,false)/\Bk prog 51 2=some (2,1,false)/\Bk prog 51 3=some (3,1,false)/\Bk prog 51 4=some (4,1,false)/\Bk prog 51 5=some (5,1,false)/\Er prog 51=true/\H7 prog 52=some 1/\E0 prog 52=some false/\Gc prog 52=some 75/\H7 prog 53=some 1/\E0 prog 53=some false/\Gc prog 53=some 77/\H7 prog 55=some 12/\E0 prog 55=some true:=ka
@[simp]def Bkk:D8 prog 55=some (.agg [.i 0,.i 0,.i 0,.i 0,.nils,.nils,.i 0,.nils,.int .u64 0,.i 0,.nils,.nils])/\Tb prog 55=some 12/\Bk prog 55 0=some (0,1,false)/\Bk prog 55 1=some (1,1,false)/\Bk prog 55 2=some (2,1,false)/\Bk prog 55 3=some (3,1,false)/\Bk prog 55 4=some (4,6,true)/\Bk prog 55 5=some (10,1,false)/\Bk prog 55 6=some (11,1,false)/\Er prog 55=true/\H7 prog 75=some 5/\E0 prog 75=some true/\D8 prog 75=some (.agg [.i 0,.nils,.i 0,.str [],.bool false])/\Tb prog 75=some 5/\Ji prog 75=some 64/\Bk prog 75 0=some (0,1,false)/\Bk prog 75 1=some (1,1,false)/\Bk prog 75 2=some (2,1,false)/\Bk prog 75 3=some (3,1,false)/\Bk prog 75 4=some (4,1,false)/\Er prog 75=true/\H7 prog 77=some 4/\E0 prog 77=some true/\D8 prog 77=some (.agg [.i 0,.i 0,.i 0,.i 0]):=ka
@[simp]def Bkl:Tb prog 77=some 4/\Ji prog 77=some 32/\Bk prog 77 0=some (0,1,false)/\Bk prog 77 1=some (1,1,false)/\Bk prog 77 2=some (2,1,false)/\Bk prog 77 3=some (3,1,false)/\Ajw prog 77=some [0,0,0,0]/\H7 prog 79=some 11/\E0 prog 79=some true/\D8 prog 79=some (.agg [.i 0,.i 0,.i 0,.nils,.i 0,.str [],.bool false,.i 0,.i 0,.i 0,.i 0])/\Tb prog 79=some 11/\Ji prog 79=some 112/\Bk prog 79 0=some (0,1,false)/\Bk prog 79 1=some (1,1,false)/\Bk prog 79 2=some (2,5,true)/\Bk prog 79 3=some (7,4,true)/\Er prog 79=true/\H7 prog 203=some 5/\E0 prog 203=some true/\D8 prog 203=some (.agg [.i 0,.i 0,.i 0,.i 0,.str []]):=ka
@[simp]def Bkm:Tb prog 203=some 5/\Bk prog 203 0=some (0,1,false)/\Bk prog 203 1=some (1,1,false)/\Bk prog 203 2=some (2,1,false)/\Bk prog 203 3=some (3,1,false)/\Bk prog 203 4=some (4,1,false)/\H7 prog 148=some 1/\E0 prog 148=some false/\Gc prog 148=some 9/\H7 prog 150=some 17/\E0 prog 150=some true/\D8 prog 150=some (.agg [.i 0,.i 0,.i 0,.str [],.nils,.nils,.i 0,.i 0,.nils,.i 0,.str [],.i 0,.i 0,.i 0,.i 0,.nils,.i 0])/\Tb prog 150=some 17/\Bk prog 150 0=some (0,1,false)/\Bk prog 150 1=some (1,1,false)/\Bk prog 150 2=some (2,1,false)/\Bk prog 150 3=some (3,1,false)/\Bk prog 150 4=some (4,1,false)/\Bk prog 150 5=some (5,1,false)/\Bk prog 150 6=some (6,1,false)/\Bk prog 150 7=some (7,1,false)/\Bk prog 150 8=some (8,1,false)/\Bk prog 150 9=some (9,1,false)/\Bk prog 150 10=some (10,1,false):=ka
@[simp]def Biq:Bk prog 150 11=some (11,1,false)/\Bk prog 150 12=some (12,1,false)/\Bk prog 150 13=some (13,1,false)/\Bk prog 150 14=some (14,1,false)/\Bk prog 150 15=some (15,1,false)/\Bk prog 150 16=some (16,1,false)/\Er prog 150=true/\H7 prog 121=some 2/\E0 prog 121=some true/\D8 prog 121=some (.agg [.i 0,.i 0])/\Tb prog 121=some 2/\Ji prog 121=some 16/\Bk prog 121 0=some (0,1,false)/\Bk prog 121 1=some (1,1,false)/\Er prog 121=true/\Ajw prog 121=some [0,0]/\H7 prog 107=some 1/\E0 prog 107=some false/\Gc prog 107=some 25/\H7 prog 109=some 1/\E0 prog 109=some true/\D8 prog 109=some (.agg [.nils])/\Tb prog 109=some 1/\Bk prog 109 0=some (0,1,false):=ka
@[simp]def Bjt:Er prog 109=true/\H7 prog 111=some 9/\E0 prog 111=some true/\D8 prog 111=some (.agg [.i 0,.str [],.i 0,.i 0,.i 0,.i 0,.i 0,.i 0,.nils])/\Tb prog 111=some 9/\Ji prog 111=some 96/\Bk prog 111 0=some (0,1,false)/\Bk prog 111 1=some (1,1,false)/\Bk prog 111 2=some (2,1,false)/\Bk prog 111 3=some (3,1,false)/\Bk prog 111 4=some (4,1,false)/\Bk prog 111 5=some (5,1,false)/\Bk prog 111 6=some (6,1,false)/\Bk prog 111 7=some (7,1,false)/\Bk prog 111 8=some (8,1,true)/\Er prog 111=true/\H7 prog 164=some 1:=ka
@[simp]def Bju:E0 prog 164=some false/\D8 prog 164=some (.int .u32 0)/\Tb prog 164=some 1/\Ji prog 164=some 4/\Zu prog 164=some .u32/\Gc prog 45=some 5/\Afi prog 45=true/\H7 prog 205=some 1/\E0 prog 205=some false/\D8 prog 205=some (.nili)/\Tb prog 205=some 1/\Ji prog 205=some 16/\H7 prog 221=some 1/\E0 prog 221=some false/\H7 prog 273=some 2/\E0 prog 273=some true/\D8 prog 273=some (.agg [.i 0,.i 0])/\Tb prog 273=some 2/\Bk prog 273 0=some (0,1,false)/\Bk prog 273 1=some (1,1,false)/\Er prog 273=true/\H7 prog 276=some 1/\E0 prog 276=some false/\D8 prog 278=some (.agg [.i 0,.i 0,.nilf]):=ka
@[simp]def Bir:Bk prog 278 0=some (0,2,true)/\Bk prog 278 1=some (2,1,false)/\Er prog 278=true/\D8 prog 280=some (.agg [.i 0,.i 0,.nilf,.str []])/\Nf prog 280=true/\Bk prog 280 0=some (0,3,true)/\Bk prog 280 1=some (3,1,false)/\Er prog 280=true/\D8 prog 282=some (.agg [.i 0,.i 0,.nilf])/\Nf prog 282=true/\Bk prog 282 0=some (0,3,true)/\Er prog 282=true/\D8 prog 283=some (.agg [.i 0,.i 0,.nilf])/\Nf prog 283=true/\Bk prog 283 0=some (0,3,true)/\Er prog 283=true/\D8 prog 284=some (.agg [.i 0,.i 0,.nilf])/\Nf prog 284=true/\Bk prog 284 0=some (0,3,true)/\Er prog 284=true/\D8 prog 286=some (.agg [.i 0,.i 0,.nilf,.i 0])/\Nf prog 286=true/\Bk prog 286 0=some (0,3,true)/\Bk prog 286 1=some (3,1,false):=ka
@[simp]def Bjv:Er prog 286=true/\H7 prog 288=some 3/\E0 prog 288=some true/\D8 prog 288=some (.agg [.i 0,.i 0,.i 0])/\Nf prog 288=true/\Bk prog 288 0=some (0,2,true)/\Bk prog 288 1=some (2,1,false)/\Er prog 288=true/\D8 prog 290=some (.agg [.i 0])/\Nf prog 290=true/\Bk prog 290 0=some (0,1,false)/\Er prog 290=true/\D8 prog 291=some (.agg [.i 0])/\Nf prog 291=true/\Bk prog 291 0=some (0,1,false)/\Er prog 291=true/\H7 prog 293=some 0/\E0 prog 293=some true/\Nf prog 293=true/\Er prog 293=true/\H7 prog 300=some 5/\E0 prog 300=some true/\D8 prog 300=some (.agg [.str [],.str [],.str [],.str [],.str []])/\Tb prog 300=some 5:=ka
@[simp]def Bjw:As9 prog 300=some (5,1)/\Gc prog 300=none/\H7 prog 310=some 2/\E0 prog 310=some true/\D8 prog 310=some (.agg [.i 0,.i 0])/\Tb prog 310=some 2/\Bk prog 310 0=some (0,1,false)/\Bk prog 310 1=some (1,1,false)/\Zu prog 102=some .u64/\H7 prog 324=some 1/\E0 prog 324=some false/\Gc prog 324=some 418/\H7 prog 326=some 3/\E0 prog 326=some true/\D8 prog 326=some (.agg [.nils,.nils,.nils])/\Tb prog 326=some 3/\Bk prog 326 0=some (0,1,false)/\Bk prog 326 1=some (1,1,false)/\Bk prog 326 2=some (2,1,false)/\Er prog 326=true/\H7 prog 412=some 5/\E0 prog 412=some true/\D8 prog 412=some (.agg [.i 0,.nils,.nils,.i 0,.i 0])/\Tb prog 412=some 5:=ka
@[simp]def Bis:Bk prog 412 0=some (0,2,true)/\Bk prog 412 1=some (2,1,false)/\Bk prog 412 2=some (3,1,false)/\Bk prog 412 3=some (4,1,false)/\Er prog 412=true/\H7 prog 418=some 3/\E0 prog 418=some true/\D8 prog 418=some (.agg [.nils,.i 0,.i 0])/\Tb prog 418=some 3/\Ji prog 418=some 40/\Bk prog 418 0=some (0,1,false)/\Bk prog 418 1=some (1,1,false)/\Bk prog 418 2=some (2,1,false)/\Er prog 418=true/\Gc prog 442=some 205/\H7 prog 447=some 2/\E0 prog 447=some true/\D8 prog 447=some (.agg [.i 0,.i 0])/\Tb prog 447=some 2/\Ji prog 447=some 16/\Bk prog 447 0=some (0,1,false)/\Bk prog 447 1=some (1,1,false)/\Er prog 447=true/\Ajw prog 447=some [0,0]:=ka
@[simp]def Bjx:D8 prog 455=some (.agg [.nils,.nils,.nils,.nils,.bool false,.bool false,.nils,.i 0,.nils,.nils,.nils,.i 0,.nils,.i 0,.nils,.i 0,.bool false])/\Bk prog 455 0=some (0,3,true)/\Bk prog 455 1=some (3,1,false)/\Bk prog 455 2=some (4,1,false)/\Bk prog 455 3=some (5,1,false)/\Bk prog 455 4=some (6,1,false)/\Bk prog 455 5=some (7,1,false)/\Bk prog 455 6=some (8,1,false)/\Bk prog 455 7=some (9,1,false)/\Bk prog 455 8=some (10,1,false)/\Bk prog 455 9=some (11,1,false)/\Bk prog 455 10=some (12,1,false)/\Bk prog 455 11=some (13,1,false)/\Bk prog 455 12=some (14,1,false)/\Bk prog 455 13=some (15,1,false)/\Bk prog 455 14=some (16,1,false)/\Er prog 455=true:=ka
open Go.Eng.Limb
variable {P:Program}{args:List V}{f:FuncId}
def _root_.Go.Eng.AC.relaxP{a:V}(h:AC P f args (λr=>Bj r a)):AC P f args (λr=>r=a):=
 λw N xs h1 h2 c=>(h w N xs h1 h2 c).mono λ_ _⟨x,_,he,hR,hp,hb⟩=>⟨x,a,he,rfl,hR.1 _ _ _ hp,hb⟩
def Eb:prog.follows .mixedOrders=true:=by kernel_rfl
def A4o(l:List Nat):AE 69 [.ro 1 (A2 l)] (.ro 1 (A2 (Nl l))):=by
 refine K8 0 rfl λf=>?_;unfold maxLen at f;simp only[D9]at f;refine Aq func69 λw0 N0=>?_;refine Y [0] [] sr (J (Ah (C3 (λp:List Nat × Nat=>⟨[(0,.ro 1 (A2 p.1))],[],p.2,21⟩) (λp=>Nl p.1=Nl l/\p.1.length<=l.length) (λp=>p.1.length) (l,_) ⟨rfl,A7 _⟩ Z ?_)));rintro⟨b,nx⟩⟨j,d⟩;simp only at j d
 rcases List.eq_nil_or_concat b with rfl|⟨a,x,rfl⟩
 .refine J (Y [0,14] [] sr ?_);refine A0 rfl sA λh1=>?_;refine A6 (Y [2] [] sr ?_);refine By sr ?_;rw[<- j];simp[Nl]
 simp only[List.concat_eq_append,A1,A3,Bo]at j d|-;have e:A2 (a++[x])=A2 a++[.int .u32 (x:Int)]:=sm;rw[e];have c:(A2 a).length=a.length:=sm;have o:IntKind.i64.wrap (a.length:Int)=a.length:=Bp om om;have n:Hj (A2 a++[V.int .u32 (x:Int)]) a.length=some (.int .u32 x):=by rw[<- c];exact Afz
 have i:(A2 a++[V.int .u32 (x:Int)]).take a.length=A2 a:=by rw[<- c];simp
 generalize g:A2 a=av at c n i;have k:(a.length:Int)<(a.length:Int)+1:=om;have h:(a.length:Int)<=(a.length:Int)+1:=om;refine J (Y [0,14] [] Du ?_)
 refine Cu (λh1=>?_) λh1=>?_
 .have m:x=0:=by simp at h1;omega
  subst m;refine Ah (Ba [0] [] Du ?_);refine⟨(a,nx+12+6),⟨by rw[<- j,Agc],by simp only;omega⟩,by simp,?_⟩;simp only[g];exact Z
 .have m:x≠0:=by simp at h1;omega
  refine A6 (Y [2] [] sr ?_);refine By sr ?_;rw[<- j,Agd x m,e,g]
def Ig(l:List Nat)(h:El l):AE 69 [.ro 1 (A2 l)] (.ro 1 (A2 (B2 (Bf l)))):=by
 rw[<- Kx l h];exact A4o l
def Ql(l:List Nat)(h:El l):(B2 (Bf l)).length<=l.length:=by rw[<- Kx l h];exact Lx l
def Pc:maxLen=9223372036854775807:=by decide
def Aas(l:List Nat)(h:El l)(hl:l.length<=1099511627776):AE 178 [.ro 1 (A2 l)] (.ro 1 (A2 (B2 (Bf l)))):=by
 have d:=Ig l h;have hp:=Aj (B2 (Bf l));have c:=Aj l;have e:=Ql l h;have a:(A2 (B2 (Bf l))).length=(B2 (Bf l)).length:=sm;have h1:(A2 (B2 (Bf l))).length<=maxLen:=by rw[a,Pc];omega
 have h2:(A2 (B2 (Bf l))).length*4<=140737488355328:=om;generalize A2 (B2 (Bf l))=rv at d hp h1 h2 a;refine Aq func178 λw0 N0=>?_;refine Y [0] [] sr (Bn 1 sr ?_);refine Ac d func69 ?_;exact Aa [2] [5] (by simp[h1,h2]<;>rfl) (Bw 5 [2] [] Du (By sr rf))
def Agl(n:Nat)(hn:n<18446744073709551616):AE 160 [.int .u64 n] (.ro 1 (A2 (B2 n))):=by
 have a:=Ig [n%4294967296,n/4294967296] (by intro x d;simp at d;omega);have e:Bf [n%4294967296,n/4294967296]=n:=by simp[Bf];omega
 rw[e]at a;have hp:=Aj (B2 n);simp only[A2,B6,C6,Aal]at a;show AC _ _ _ (λr=>r=V.ro 1 (List.map Aal (B2 n)))
 generalize List.map Aal (B2 n)=r at a hp|-;have c:=wrap_u32 n;have Tn:IntKind.u32.wrap ((n:Int).fdiv (2^min 32 IntKind.u64.bits))=((n/4294967296:Nat):Int):=by rw[Aak,wrap_u32];omega
 generalize((n%4294967296:Nat):Int)=lo at a c;generalize((n/4294967296:Nat):Int)=hi at a Tn;refine Aq func160 λw0 N0=>?_;refine Y [0] [] sr (Bn 6 Du ?_);refine Lf 8 [8] [] sr (Ac a func69 ?_);exact Aa [2] [] sr (By sr rfl)
def Acr(o l2:List Nat)(h1:El o)(h2:El l2):AC prog 36 [.ro 1 (A2 o),.ro 1 (A2 l2)] (λr=>r=.i (Rf (Bf o) (Bf l2))):=by
 refine K8 0 rfl λaa=>?_;refine K8 1 rfl λae=>?_;have l:=Ig o h1;have f:=Ig l2 h2;have ad:=Ql o h1;have u:=Ql l2 h2;have ai:=Aj o;have ag:=Aj l2;rw[D9,Pc]at aa ae;generalize Bf o=a at l ad|-;generalize Bf l2=b at f u|-;have ea:=Qx a;have eb:=Qx b;have ga:=Ko a;have gb:=Ko b;have na:=λk=>Xa k a
 have nb:=λk=>Xa k b
 generalize(B2 a).length=n at ea ga na ad;generalize(B2 b).length=m at eb gb nb u;rw[ea]at l;rw[eb]at f;have c:(A2 (Cj n a)).length=n:=sm;have e:(A2 (Cj m b)).length=m:=sm;have z:=λi(h:i<n)=>Aam (v:=a) h
 have ab:=λi(h:i<m)=>Aam (v:=b) h
 generalize A2 (Cj n a)=av at l c z;generalize A2 (Cj m b)=bv at f e ab;refine Aq func36 λw0 N0=>?_;refine Y [0,1] [] sr (J (Ak (Ay 1 sr ?_)));refine Ac l func69 ?_;refine Ay 1 sr (Ac f func69 ?_);refine Aa [0,1] [] sr (J (Y [0,1,14] [] Du ?_));have t:∀i j:Nat,i<=j->4294967296^i<=4294967296^j:=λi j h=>Dz dc h
 refine Au (λh1=>?_) λh1=>Ae ?_
 .refine Y [4] [] sr (Ao (Ab sr ?_));have g:n<m:=sO h1
  obtain⟨k,rfl⟩:∃k,m=k+1:=⟨m-1,by omega⟩;have q1:=nb k rfl;have q2:=t n k om;rw[Rf,Ad (Cd ga (Ag q2 q1))]
 have ak:¬n<m:=sO h1
 refine J (Y [0,1,19] [] Du ?_)
 refine Au (λh2=>?_) λh2=>Ae ?_
 .refine Y [4] [] sr (Ao (Ab sr ?_));have g:m<n:=sO h2
  obtain⟨k,rfl⟩:∃k,n=k+1:=⟨n-1,by omega⟩;have q3:=Cd gb (Ag (t m k om) (na k rfl));rw[Rf,I (Ut.2 (H8 q3)),Ad q3]
 have aj:n=m:=sO h2
 subst aj;obtain⟨w1,Ee,af⟩:∃x:Int,IntKind.i64.wrap ((n:Int)-1)=x/\x=(n:Int)-1:=⟨_,rfl,Bp om om⟩;refine J (Y [0,1,5] [] Du (Ah (C3 (λp:Nat × Nat=>⟨[(0,.ro 1 av),(1,.ro 1 bv),(5,.i ((p.1:Int)-1))],[],p.2,45⟩) (λp=>p.1<=n/\a/4294967296^p.1=b/4294967296^p.1) (λp=>p.1) (n,_) ⟨A7 _,by rw[Gj ga,Gj gb]⟩ (by simp only[af];exact Z) ?_)));rintro⟨k,nx⟩⟨hk,s⟩;simp only at hk s;refine J ?_;cases k with
 |zero=>
  refine Y [0,1,5,24] [] sr (A0 rfl sA (λw=>?_));refine A6 (Y [4] [] sr ?_);refine Ao (Ab sr ?_);have:a=b:=sG s
  subst this;simp[Rf]
 |succ k=>
  have gA:=z k om;have gB:=ab k om;have e1:((k+1:Nat):Int)-1=(k:Int):=om;have g:(k:Int)<n:=om;have hw:IntKind.i64.wrap ((k:Int)-1)=(k:Int)-1:=Bp om om;have hP:=N6 k;rw[Ce]at s;have r1:=λh=>Agf hP s h
  have r2:=λh=>Agf hP s.symm h
  have r3:=λh=>Atz s h
  generalize ah:4294967296^k=P at*;generalize a/P%4294967296=x at gA r1 r2 r3;generalize b/P%4294967296=y at gB r1 r2 r3;rw[e1];refine Y [0,1,5,24] [] sr (A0 rfl (λw=>Ae ?_) sA);refine J (Ah (J (Do [(0,[]),(1,[]),(2,[]),(4,[]),(5,[]),(6,[]),(3,[]),(7,[]),(8,[])] [0,1,5,35] [] Eb kr Du ?_)))
  refine Au (λh4=>?_) λh4=>Ae ?_
  .refine Y [4] [] sr (Ao (Ab sr ?_));have d:x<y:=sO h4
   rw[Rf,Ad (r1 d)]
  refine Do [(0,[]),(1,[]),(2,[]),(4,[]),(5,[]),(6,[]),(3,[]),(7,[]),(8,[])] [0,1,5,44] [] Eb kr Du ?_
  refine Au (λh5=>?_) λh5=>Ae ?_
  .refine Y [4] [] sr (Ao (Ab sr ?_));have d:y<x:=sO h5
   have:=r2 d;rw[Rf,I om,Ad this]
  refine Ba [0,1,5] [] Du ?_;have d:x=y:=by simp at h4 h5;omega
  exact⟨(k,_),⟨by simp only;omega,by simp only;rw[ah];exact r3 d⟩,by simp,Z⟩
def At6(g l2:List Nat)(h1:El g)(h2:El l2)(aa:g.length<=1099511627776)(a9:l2.length<=1099511627776):AE 302 [.ro 1 (A2 g),.ro 1 (A2 l2)] (.ro 1 (A2 (B2 (Bf g+Bf l2)))):=by
 have au:=Ig g h1;have ak:=Ig l2 h2
 have a7:(B2 (Bf g)).length<=1099511627776:=by
  rw[<- Kx g h1];exact Ag (Lx g) aa
 have a5:(B2 (Bf l2)).length<=1099511627776:=by
  rw[<- Kx l2 h2];exact Ag (Lx l2) a9
 have ai:=Cp (Bf g);have ag:=Cp (Bf l2);have aj:=C4 (Bf g);have az:=C4 (Bf l2);generalize B2 (Bf g)=m1 at au a7 ai aj;generalize B2 (Bf l2)=m2 at ak a5 ag az;rw[<- aj,<- az];have b0:=Aj m1;have bz:=Aj m2;have al:=Aj g;have ax:=Aj l2;refine Aq func302 λw0 N0=>?_;refine Y [0,1] [] sr (Bn 1 sr ?_);refine Ac au func69 ?_;refine Ay 1 sr (Ac ak func69 ?_);refine Aa [0,1] [] sr ?_
 refine Aac (λp:List Nat × List Nat=>⟨[(0,.ro 1 (A2 p.1)),(1,.ro 1 (A2 p.2))],[],50,63⟩) (λp=>El p.1/\El p.2/\p.2.length<=p.1.length/\p.1.length<=1099511627776/\Bf m1+Bf m2=Bf p.1+Bf p.2) ?_ ?_
 .refine Y [0,1,17] [] sr ?_
  refine C1 (λh1=>?_) λh1=>?_
  .refine Ba [0,1] [] sr ?_;exact⟨(m2,m1),⟨ag,ai,by simp at h1;simp only;omega,a5,Ol _ _⟩,Ad2 rfl rfl rfl sy⟩
  .exact⟨(m1,m2),⟨ai,ag,by simp at h1;simp only;omega,a7,rfl⟩,N4 [0,1] [] rfl rfl rfl sy⟩
 rintro⟨a,b⟩⟨ha,hb,ao,bl,hT⟩;simp only at ha hb ao bl hT;rw[hT];have o:(A2 a).length=a.length:=sm;have a2:(A2 b).length=b.length:=sm;have am:=λk h=>Aty a k h
 have a1:=λk h=>Aty b k h
 obtain⟨s1,aa,bw⟩:∃s:Int,IntKind.i64.wrap ((a.length:Int)+1)=s/\s=((a.length+1:Nat):Int):=⟨_,rfl,A5 om⟩;have br:4*s1<=281474976710656:=om;have bq:s1<=9223372036854775807:=om;have bb:0<=s1:=om;have m:s1.toNat=a.length+1:=om;have be:=Aj a;have ba:=Aj b;generalize A2 a=av at o am be;generalize A2 b=bv at a2 a1 ba;refine Y [0,1,5] [23] (by simp[o,aa,br,bq,bb]<;>rfl) (A9 [6] sr (J (A9 [25,26] Du (Ah ?_))))
 refine C3 (λp:List Nat × Nat × Nat=>⟨[(0,.ro 1 av),(1,.ro 1 bv),(5,.sl 23 53 1 s1.toNat),(6,.int .u64 p.2.1),(25,.i a.length),(26,.i p.1.length)],[(23,⟨53,1,164,K0 p.1 (a.length+1-p.1.length)⟩)],p.2.2,63⟩)
  (λp=>p.1.length<=a.length/\El p.1/\p.2.1<=1/\Bf p.1+p.2.1*4294967296^p.1.length=Bf (a.take p.1.length)+Bf (b.take p.1.length)) (λp=>a.length-p.1.length) ([],0,_) ⟨by simp,by simp[El],by simp,by simp[Bf]⟩ (by simp[m,Apw];exact Z) ?_
 rintro⟨done,c,nx⟩⟨hd,ah,hc,hI⟩;simp only at hd ah hc hI;refine Y [0,1,5,6,25,26,27] [23] sr (J ?_)
 refine Cu (λh2=>?_) λh2=>?_
 .have an:done.length<a.length:=by simp at h2;omega
  obtain⟨n,hn⟩:∃n,a.length+1-done.length=n+1:=⟨a.length-done.length,by omega⟩;have ad:=am done.length an;have e:=Aan (done:=done) (k:=done.length) (n:=n) rfl;obtain⟨k,hk⟩:∃k,done.length=k:=⟨_,rfl⟩;rw[hk]at ad e an hn hI;have bd:=Pa ha k;have bg:=Pa hb k;have aq:=Qy a k;have aw:=Qy b k;have a6:¬k<b.length->Gg b k=0:=λh=>by unfold Gg;rw[Eh oM]
  have a4:=a1 k;have d:=λz=>Aao (done:=done) (k:=k) (n:=n) hk z
  have f:(K0 done (n+1)).length=a.length+1:=by rw[Vp];omega
  have bk:=A5 (k:=k) om;simp only[hk,hn];generalize Gg a k=x at ad bd aq;generalize Gg b k=y at a4 bg aw a6;have a3:IntKind.u64.wrap (x:Int)=x:=wrap_u64 om;have ar:IntKind.u64.wrap (y:Int)=y:=wrap_u64 om;obtain⟨z1,bm,u⟩:∃z:Int,IntKind.u64.wrap ((x:Int)+(c:Int))=z/\z=((x+c:Nat):Int):=⟨_,rfl,Aew om⟩;obtain⟨z2,bf,j⟩:∃z:Int,IntKind.u64.wrap (z1+(y:Int))=z/\z=((x+y+c:Nat):Int):=⟨_,rfl,by rw[u,Aew oM];congr 1;omega⟩;have t:k<av.length:=om;have ae:(k:Int)<(a.length:Int)+1:=om;generalize bx:K0 done (n+1)=ro at e f d|-;refine J (Ah (Y [0,1,5,6,7,25,26] [23] sr (Y [0,1,5,7,8,25,26] [23] (by simp[ad,t,a3,bm]<;>rfl) ?_)))
  refine N3 ⟨[(0,.ro 1 av),(1,.ro 1 bv),(5,.sl 23 53 1 s1.toNat),(7,.i k),(8,.int .u64 z2),(25,.i a.length),(26,.i k)],[(23,⟨53,1,164,ro⟩)],nx+30,63⟩ ?_ ?_
  .refine A9 [39] (by simp[a2]<;>rfl) ?_
   refine C1 (λh3=>?_) λh3=>?_
   .have ab:k<b.length:=by simp at h3;omega
    have a8:k<bv.length:=om;refine Ba [0,1,5,7,8,25,26] [23] (by simp[a4 ab,a8,ar,bf]<;>rfl) ?_;exact⟨rfl,N4 [0,1,5,7,8,25,26] [23] rfl rfl rfl sy⟩
   .have ab:¬k<b.length:=by simp at h3;omega
    have bo:=a6 ab;have bh:z1=z2:=by rw[u,j,bo];congr 1
    rw[bh];exact⟨rfl,N4 [0,1,5,7,8,25,26] [23] rfl rfl rfl sy⟩
  have a0:IntKind.u32.wrap z2=(((x+y+c)%4294967296:Nat):Int):=by rw[j,wrap_u32]
  have ay:z2.fdiv (2^min 32 IntKind.u64.bits)=(((x+y+c)/4294967296:Nat):Int):=by rw[j,Aak]
  have i:=d ((x+y+c)%4294967296);generalize bt:(x+y+c)%4294967296=lo at a0 i;generalize bj:(x+y+c)/4294967296=hi at ay;refine Y [0,1,5,8,25,26] [23] (by simp[e,a0,i,m,ae]<;>rfl) (Ba [0,1,5,6,25,26] [23] (by simp[ay]<;>rfl) (Cw [] (by simp[bk]<;>rfl) ?_))
  refine⟨(done++[lo],hi,nx+30+6+3+2),⟨by simp;omega,Qj ah (by intro q hq;simp at hq;omega),by simp only;omega,?_⟩,by simp;omega,?_⟩
  .simp only[A1,A3,Bo,hk,Pt,Bf];have:=A3x hI (x+y+c) rfl;rw[bt,bj]at this;rw[aq,aw,Ce];rw[Bh (4294967296^k)];omega
  .have bn:((k+1:Nat):Int)=(k:Int)+1:=om;have bu:a.length+1-(k+1)=n:=om;simp only[A1,A3,Bo,hk,bu,m,Dq,bn];exact Z
 .refine A6 ?_;have l:done.length=a.length:=sO h2
  have e:=Aan (done:=done) (k:=a.length) (n:=0) l;have d:=Aao (done:=done) (k:=a.length) (n:=0) l c;have f:(K0 done 1).length=a.length+1:=by rw[Vp];omega
  have ae:(a.length:Int)<(a.length:Int)+1:=om;have bc:IntKind.u32.wrap (c:Int)=(c:Int):=by rw[wrap_u32];omega
  have af:=Ig (done++[c]) (Qj ah (by intro q hq;simp at hq;omega))
  have bp:Bf (done++[c])=Bf a+Bf b:=by
   rw[l,Be,Pn b _ ao]at hI;rw[Pt,l,<- hI];simp only[Bf,Uw,Ef];rw[Bh (4294967296^a.length) c]
  rw[bp]at af;have bs:K0 (done++[c]) 0=A2 (done++[c]):=by simp[K0]
  have w:=Aj (done++[c]);rw[show a.length+1-done.length=0+1 by omega];simp only[Dq]at e d|-;rw[bs]at d;generalize A2 (done++[c])=fin at d af w;have bi:fin.length=a.length+1:=by rw[<- d,Hs,f]
  generalize K0 done 1=ro at e d f|-;refine Y [5] [23] (by simp[o,e,d,m,ae,bc]<;>rfl) (Bn 1 sr ?_);refine Lf 23 [61] [] (by simp[w,bi]<;>rfl) ?_;refine Ac af func69 ?_;refine Aa [4] [] sr ?_;refine By sr ?_;rfl
def Am6(l1 l2:List Nat)(h1:El l1)(h2:El l2)(al:l1.length<=1099511627776)(bw:l2.length<=1099511627776):AE 216 [.ro 1 (A2 l1),.ro 1 (A2 l2)] (.ro 1 (A2 (B2 (Bf l1*Bf l2)))):=by
 have ao:=Ig l1 h1;have am:=Ig l2 h2
 have cg:(B2 (Bf l1)).length<=1099511627776:=by
  rw[<- Kx l1 h1];exact Ag (Lx l1) al
 have cd:(B2 (Bf l2)).length<=1099511627776:=by
  rw[<- Kx l2 h2];exact Ag (Lx l2) bw
 have ha:=Cp (Bf l1);have hb:=Cp (Bf l2);have az:=C4 (Bf l1);have bd:=C4 (Bf l2);generalize B2 (Bf l1)=a at ao cg ha az;generalize B2 (Bf l2)=b at am cd hb bd;rw[<- az,<- bd];have b7:=Aj a;have b5:=Aj b;have a1:=Aj l1;have a9:=Aj l2;have ay:(A2 a).length=a.length:=sm;have ad:(A2 b).length=b.length:=sm;have a2:=λk h=>Aty a k h
 have bg:=λk h=>Aty b k h
 obtain⟨s1,al,ch⟩:∃s:Int,IntKind.i64.wrap ((a.length:Int)+(b.length:Int))=s/\s=((a.length+b.length:Nat):Int):=⟨_,rfl,by rw[Bp om oM];omega⟩;have cf:4*s1<=281474976710656:=om;have ce:s1<=9223372036854775807:=om;have b0:0<=s1:=om;have aa:s1.toNat=a.length+b.length:=om;generalize A2 a=av at ao ay a2 b7;generalize A2 b=bv at am ad bg b5;refine Aq func216 λw0 N0=>?_;refine Y [0,1] [] sr (Bn 1 sr ?_);refine Ac ao func69 ?_;refine Ay 1 sr (Ac am func69 ?_);refine Aa [0,1] [] sr (Y [0,1,5] [21] (by simp[ay,ad,al,cf,ce,b0]<;>rfl) (J (Y [1,5,22,23,24] [21] (by simp[ay]<;>rfl) (Ah ?_))))
 refine C3 (λp:Nat × List Nat × Nat=>⟨[(1,.ro 1 bv),(5,.sl 21 12 1 s1.toNat),(22,.ro 1 av),(23,.i a.length),(24,.i p.1)],[(21,⟨12,1,164,K0 p.2.1 (a.length-p.1)⟩)],p.2.2,72⟩)
  (λp=>p.1<=a.length/\p.2.1.length=p.1+b.length/\El p.2.1/\Bf p.2.1=Bf (a.take p.1)*Bf b) (λp=>a.length-p.1) (0,List.replicate b.length 0,100) ⟨by simp,by simp,by intro x hx;simp at hx;omega,by simp[At1,Bf]⟩ ?_ ?_
 .have bz:K0 (List.replicate b.length 0) (a.length-0)=List.replicate s1.toNat (.int .u32 0):=by
   rw[K0,aa,List.replicate_append_replicate];simp[Aal,Ol]
  simp only[bz];exact N4 [1,5,22,23,24] [21] rfl rfl rfl sy
 rintro⟨i,q,nx⟩⟨hi,hq,ax,hI⟩;simp only at hi hq ax hI;refine Y [1,5,22,23,24,25] [21] sr (J ?_)
 refine Cu (λh1=>?_) λh1=>?_
 .have a4:i<a.length:=by simp at h1;omega
  obtain⟨n,hn⟩:∃n,a.length-i=n+1:=⟨a.length-i-1,by omega⟩;have a3:=a2 i a4;have bb:=Pa ha i;have a5:=Qy a i;have b8:=A5 (k:=i) om;have bc:i<av.length:=om;generalize Gg a i=x at a3 bb a5;have bk:IntKind.u64.wrap (x:Int)=x:=wrap_u64 om;rw[hn];refine J (Ah (Y [1,5,6,7,22,23,24] [21] (by simp[a3,bc]<;>rfl) (Y [1,5,6,7,8,22,23,24] [21] sr ?_)))
  refine Aac (λp:List Nat × Nat × Nat=>⟨[(1,.ro 1 bv),(5,.sl 21 12 1 s1.toNat),(6,.i i),(8,.int .u64 p.2.1),(22,.ro 1 av),(23,.i a.length),(24,.i i)],[(21,⟨12,1,164,K0 p.1 (n+1)⟩)],p.2.2,72⟩)
   (λp=>p.1.length=i+b.length/\El p.1/\p.2.1<4294967296/\Bf p.1+p.2.1*4294967296^(i+b.length)=Bf q+x*Bf b*4294967296^i) ?_ ?_
  .refine Y [1,5,6,7,8,22,23,24,29,30,31] [21] (by simp[ad]<;>rfl) (Ah ?_)
   refine C3 (λp:Nat × List Nat × Nat × Nat=>⟨[(1,.ro 1 bv),(5,.sl 21 12 1 s1.toNat),(6,.i i),(7,.int .u32 x),(8,.int .u64 p.2.2.1),(22,.ro 1 av),(23,.i a.length),(24,.i i),(29,.ro 1 bv),(30,.i b.length),(31,.i p.1)],[(21,⟨12,1,164,K0 p.2.1 (n+1)⟩)],p.2.2.2,72⟩)
    (λp=>p.1<=b.length/\p.2.1.length=i+b.length/\El p.2.1/\p.2.2.1<4294967296/\Bf p.2.1+p.2.2.1*4294967296^(i+p.1)=Bf q+x*Bf (b.take p.1)*4294967296^i) (λp=>b.length-p.1) (0,q,0,_) ⟨by simp,by simp only;omega,ax,by simp,by simp[Bf]⟩ (by simp;exact Z) ?_
   rintro⟨j,l,c,bh⟩⟨hj,f,d,hc,o⟩;simp only at hj f d hc o;refine Y [1,5,6,7,8,22,23,24,29,30,31,32] [21] sr (J ?_)
   refine Cu (λh2=>?_) λh2=>?_
   .have br:j<b.length:=by simp at h2;omega
    have bo:=bg j br;have bi:=Pa hb j;have a8:=Qy b j;have ca:=A5 (k:=j) om;have bq:j<bv.length:=om;generalize Gg b j=y at bo bi a8;have a6:IntKind.u64.wrap (y:Int)=y:=wrap_u64 om;obtain⟨m,hm⟩:∃m,i+j=m:=⟨_,rfl⟩;have aw:m<l.length:=om;have ah:=Azk (q:=l) (n:=n+1) aw;have a0:=Pa d m;have w:=λz=>Azl (q:=l) (n:=n+1) aw z
    have be:=λz=>Apx l m z aw
    have b9:=λ(z:Nat)(hz:z<4294967296)=>Azm d m hz
    have ab:(K0 l (n+1)).length=a.length+b.length:=by rw[Vp];omega
    generalize Gg l m=u at ah a0 be;have bl:IntKind.u64.wrap (u:Int)=u:=wrap_u64 om;have ci:=Ban bb bi a0 hc;obtain⟨z1,cb,bu⟩:∃z:Int,IntKind.u64.wrap ((x:Int)*(y:Int))=z/\z=((x*y:Nat):Int):=⟨_,rfl,by rw[<- Ft];exact wrap_u64 om⟩;obtain⟨z2,b3,bt⟩:∃z:Int,IntKind.u64.wrap (z1+(u:Int))=z/\z=((x*y+u:Nat):Int):=⟨_,rfl,by rw[bu,Aew oM]⟩;obtain⟨z3,bx,aj⟩:∃z:Int,IntKind.u64.wrap (z2+(c:Int))=z/\z=((x*y+u+c:Nat):Int):=⟨_,rfl,by rw[bt,Aew oM]⟩;obtain⟨mi,af,bn⟩:∃z:Int,IntKind.i64.wrap ((i:Int)+(j:Int))=z/\z=(m:Int):=⟨_,rfl,by rw[Bp om oM];omega⟩;have ag:0<=mi/\mi<(a.length:Int)+b.length:=om;have ae:mi.toNat=m:=om;have bf:IntKind.u32.wrap z3=(((x*y+u+c)%4294967296:Nat):Int):=by rw[aj,wrap_u32]
    have ba:z3.fdiv (2^min 32 IntKind.u64.bits)=(((x*y+u+c)/4294967296:Nat):Int):=by rw[aj,Aak]
    have bj:=o;rw[hm]at bj;have au:=A3z (x:=x) (y:=y) (t:=x*y+u+c) bj (be _) rfl;have g:=w ((x*y+u+c)%4294967296);have ai:=b9 ((x*y+u+c)%4294967296) (Dc _ om);have a7:(x*y+u+c)/4294967296<4294967296:=om;generalize(x*y+u+c)%4294967296=lo at bf g ai au;generalize(x*y+u+c)/4294967296=hi' at ba au a7;generalize an:K0 l (n+1)=ro at ah ab g|-;refine J (Ah (Y [1,5,6,7,8,9,10,22,23,24,29,30,31] [21] (by simp[bo,bq]<;>rfl) (Y [1,5,6,7,9,11,22,23,24,29,30,31] [21] (by simp[bk,a6,bl,cb,b3,bx,af,ag,ae,ah,aa]<;>rfl) (Y [1,5,6,7,11,22,23,24,29,30,31] [21] (by simp[af,ag,ae,ah,bf,g]<;>rfl) (Ba [1,5,6,7,8,22,23,24,29,30,31] [21] (by simp[ba]<;>rfl) (Cw [] (by simp[ca]<;>rfl) ?_))))))
    refine⟨(j+1,l.set m lo,hi',bh+1+5+16+8+3+2),⟨br,by rw[Hs];exact f,ai,a7,?_⟩,by simp only;omega,?_⟩
    .simp only;rw[<- Hl i j 1,hm,Ce,au,a8];rw[Ed,Cc,<- hm,Gi]
     have e:x*(y*4294967296^j)*4294967296^i=x*y*(4294967296^i*4294967296^j):=by
      rw[<- B9 x y,B9 (x*y),Bh (4294967296^j)]
     rw[e];omega
    .have aq:((j+1:Nat):Int)=(j:Int)+1:=om;simp only[aq,aa];exact Z
   .refine A6 ?_;have b6:j=b.length:=sO h2
    subst b6;rw[Be]at o;exact⟨(l,c,bh+1),⟨f,d,hc,o⟩,N4 [1,5,6,8,22,23,24] [21] rfl rfl rfl sy⟩
  rintro⟨l,c,b2⟩⟨f,d,hc,o⟩;simp only at f d hc o;have b1:IntKind.u32.wrap (c:Int)=(c:Int):=by rw[wrap_u32];omega
  obtain⟨mi,af,bn⟩:∃z:Int,IntKind.i64.wrap ((i:Int)+(b.length:Int))=z/\z=((i+b.length:Nat):Int):=⟨_,rfl,by rw[Bp om oM];omega⟩;have ag:0<=mi/\mi<(a.length:Int)+b.length:=om;have ae:mi.toNat=i+b.length:=om;have bp:=Aan (done:=l) (k:=i+b.length) (n:=n) f;have w:=Aao (done:=l) (k:=i+b.length) (n:=n) f c;have bm:(K0 l (n+1)).length=a.length+b.length:=by rw[Vp];omega
  generalize an:K0 l (n+1)=ro at bp bm w|-;refine Ba [1,5,22,23,24] [21] (by simp[ad,af,ag,ae,bp,w,b1,aa]<;>rfl) (Cw [] (by simp[b8]<;>rfl) ?_)
  refine⟨(i+1,l++[c],b2+9+2),⟨a4,by simp;omega,Qj d (by intro z hz;simp at hz;omega),?_⟩,by simp only;omega,?_⟩
  .simp only;rw[Pt,f,a5,Cc,<- hI];simp only[Bf,Uw,Ef];rw[Bh (4294967296^(i+b.length)) c,o,B9 x,B9 x,Bh (Bf b)]
  .have aq:((i+1:Nat):Int)=(i:Int)+1:=om;have cc:a.length-(i+1)=n:=om;simp only[aq,aa,cc];exact Z
 .refine A6 ?_;have b4:i=a.length:=sO h1
  subst b4;rw[Be]at hI;have ar:=Ig q ax;rw[hI]at ar;have ak:=Aj q;have bs:(A2 q).length=a.length+b.length:=sG hq
  have an:K0 q (a.length-a.length)=A2 q:=by simp[K0]
  rw[an];generalize A2 q=fin at ar ak bs;refine Bn 1 sr ?_;refine Lf 21 [70] [] (by simp[ak,bs,aa]<;>rfl) ?_;refine Ac ar func69 ?_;refine Aa [4] [] sr ?_;refine By sr ?_;rfl
def nils_ro(sz:Nat):Bj .nils (.ro sz []):=⟨λ_ _ _ h=>h.nils_ro sz,λ_ =>rfl⟩
def Aat(a b:Nat):Rf a b<0↔a<b:=by unfold Rf;split<;>(try split)<;>omega
def At7(a b:Nat):V:=if b<=a then .tup [.ro 1 (A2 (B2 (a-b))),.bool true]else .tup [.ro 1 [],.bool false]
def At8(f l2:List Nat)(h1:El f)(h2:El l2)(be:f.length<=1099511627776)(bc:l2.length<=1099511627776):AC prog 303 [.ro 1 (A2 f),.ro 1 (A2 l2)] (λr=>r=At7 (Bf f) (Bf l2)):=by
 refine AC.relaxP ?_;have ae:=Ig f h1;have aa:=Ig l2 h2;have bp:=Ag (Ql f h1) be;have bl:=Ag (Ql l2 h2) bc;have ak:=Cp (Bf f);have ah:=Cp (Bf l2);have u:=C4 (Bf f);have af:=C4 (Bf l2);have i:=Acr _ _ ak ah;have d:Bf l2<=Bf f->(B2 (Bf l2)).length<=(B2 (Bf f)).length:=λh=>Fg (Fl h (Ko _))
 generalize B2 (Bf f)=a at ae bp ak u i d;generalize B2 (Bf l2)=b at aa bl ah af i d;rw[<- u,<- af]at d|-;clear u af;have a8:=Aj a;have a6:=Aj b;have aq:=Aj f;have ay:=Aj l2;have am:(A2 a).length=a.length:=sm;have a2:(A2 b).length=b.length:=sm;have ar:=λk h=>Aty a k h
 have a1:=λk h=>Aty b k h
 have bo:4*(a.length:Int)<=281474976710656:=om;have bn:(a.length:Int)<=9223372036854775807:=om;generalize A2 a=av at ae am ar a8 i;generalize A2 b=bv at aa a2 a1 a6 i;refine Aq func303 λw0 N0=>?_;refine Y [0,1] [] sr (J (Ak (Ay 1 sr ?_)));refine Ac ae func69 ?_;refine Ay 1 sr (Ac aa func69 ?_);refine Aa [0,1] [] sr (J (J (Ak (Ay 2 sr ?_))));refine Ac i func36 ?_;refine Aa [0,1,17] [] sr ?_
 refine Au (λh3=>?_) λh3=>Ae ?_
 .have e:Bf a<Bf b:=by simpa[Aat]using h3
  refine Y [4,5] [] sr (Ao (Ab sr ?_));rw[At7,I om];exact Bj.tup (.cons (nils_ro 1) (.cons (Bj.refl _) .nil))
 have al:Bf b<=Bf a:=by simpa[Aat]using h3
 have bf:=d al;refine Y [0,1,6] [20] Du (Y [0,1,6,7] [20] sr (J (Y [0,1,6,7,22,23] [20] Du (Ah ?_))))
 refine C3 (λp:List Nat × Nat × Nat=>⟨[(0,.ro 1 av),(1,.ro 1 bv),(6,.sl 20 14 1 a.length),(7,.int .u64 p.2.1),(22,.i a.length),(23,.i p.1.length)],[(20,⟨14,1,164,K0 p.1 (a.length-p.1.length)⟩)],p.2.2,54⟩)
  (λp=>p.1.length<=a.length/\El p.1/\p.2.1<=1/\Bf p.1+Bf (b.take p.1.length)=Bf (a.take p.1.length)+p.2.1*4294967296^p.1.length) (λp=>a.length-p.1.length) ([],0,_) ⟨by simp,by simp[El],by simp,by simp[Bf]⟩ (by simp[Apw];exact Z) ?_
 rintro⟨done,c,nx⟩⟨hd,l,hc,hI⟩;simp only at hd l hc hI;refine Y [0,1,6,7,22,23,24] [20] sr (J ?_)
 refine Au (λh4=>Ae ?_) λh4=>?_
 .have e:done.length<a.length:=by simp at h4;omega
  obtain⟨n,hn⟩:∃n,a.length-done.length=n+1:=⟨a.length-done.length-1,by omega⟩;have ad:=ar done.length e;have an:=Aan (done:=done) (k:=done.length) (n:=n) rfl;obtain⟨k,hk⟩:∃k,done.length=k:=⟨_,rfl⟩;rw[hk]at ad an e hn hI;have a0:=Pa ak k;have a3:=Pa ah k;have au:=Qy a k;have ax:=Qy b k;have ba:¬k<b.length->Gg b k=0:=λh=>by unfold Gg;rw[Eh om]
  have a9:=a1 k;have m:=λz=>Aao (done:=done) (k:=k) (n:=n) hk z
  have a7:(K0 done (n+1)).length=a.length:=by rw[Vp];omega
  have bj:=A5 (k:=k) om;simp only[hk,hn];generalize Gg a k=x at ad a0 au;generalize Gg b k=y at a9 a3 ax ba;have⟨z,c',ao,ai,bs,bd,bh⟩:=Bio a0 a3 hc;have a4:IntKind.u64.wrap (x:Int)=x:=wrap_u64 om;have aw:IntKind.u64.wrap (y:Int)=y:=wrap_u64 om;obtain⟨t1,o⟩:∃t:Int,IntKind.u64.wrap ((x:Int)-(c:Int))=t:=⟨_,rfl⟩;have az:=Bfn x c;rw[o]at ao ai az;obtain⟨t2,g⟩:∃t:Int,IntKind.u64.wrap (t1-(y:Int))=t:=⟨_,rfl⟩;rw[g]at ao ai;have s:k<av.length:=om;have bg:(k:Int)<(a.length:Int):=om;generalize bt:K0 done (n+1)=ro at an a7 m|-;refine J (Ah (Y [0,1,6,7,8,22,23] [20] sr (Y [0,1,6,8,9,22,23] [20] (by simp[ad,s,a4,o]<;>rfl) ?_)))
  refine N3 ⟨[(0,.ro 1 av),(1,.ro 1 bv),(6,.sl 20 14 1 a.length),(8,.i k),(9,.int .u64 t2),(22,.i a.length),(23,.i k)],[(20,⟨14,1,164,ro⟩)],nx+30,54⟩ ?_ ?_
  .refine Y [0,1,6,8,9,22,23,36] [20] Du ?_
   refine Au (λh5=>?_) λh5=>Ae ?_
   .have ab:k<b.length:=by simp at h5;omega
    have bb:k<bv.length:=om;refine Ba [0,1,6,8,9,22,23] [20] (by simp[a9 ab,bb,aw,g]<;>rfl) ?_;exact⟨rfl,N4 [0,1,6,8,9,22,23] [20] rfl rfl rfl sy⟩
   .have ab:¬k<b.length:=by simp at h5;omega
    have bm:=ba ab;have bi:t1=t2:=by rw[<- g,bm,az]
    rw[bi];exact⟨rfl,N4 [0,1,6,8,9,22,23] [20] rfl rfl rfl sy⟩
  have aj:=m z;refine Y [0,1,6,9,22,23] [20] (by simp[an,ao,aj,bg]<;>rfl) (Ba [0,1,6,7,22,23] [20] (by simp[ai]<;>rfl) (Ba [0,1,6,7,22,23] [20] (by simp[bj]<;>rfl) ?_))
  refine⟨(done++[z],c',nx+30+6+3+2),⟨by simp;omega,Qj l (by intro q hq;simp at hq;omega),bd,?_⟩,by simp;omega,?_⟩
  .simp only[A1,A3,Bo,hk,Pt,Bf];have:=Azn hI bh;rw[au,ax,Ce,Bh (4294967296^k) (z+_)];simpa using this
  .have bk:((k+1:Nat):Int)=(k:Int)+1:=om;have br:a.length-(k+1)=n:=om;simp only[A1,A3,Bo,hk,br,Dq,bk];exact Z
 .refine A6 ?_;have j:done.length=a.length:=sO h4
  rw[j,Be,Pn b _ bf]at hI;have e:=Am1 done l;rw[j]at e;have⟨_,hD⟩:=A30 hI e hc al;have ag:=Ig done l;rw[hD]at ag;have bq:K0 done (a.length-done.length)=A2 done:=by simp[K0,j]
  have w:=Aj done;have a5:(A2 done).length=a.length:=sG j
  rw[bq];generalize A2 done=fin at ag w a5;refine J (Ak (Ay 1 sr ?_));refine Lf 20 [52] [] (by simp[w,a5]<;>rfl) ?_;refine Ac ag func69 ?_;refine Aa [4,5] [] sr ?_;refine Ao (Ab sr ?_);rw[At7,Ad al];exact Bj.refl _
def At9(n A d:Nat)(hA:A<4294967296^n)(hd:0<d)(ah:d<4294967296)(hn:n<=1099511627776):AE 179 [.ro 1 (A2 (Cj n A)),.int .u32 d] (.tup [.ro 1 (A2 (B2 (A/d))),.int .u32 ((A%d:Nat):Int)]):=by
 have aa:=λk(h:k<n)=>Aam (v:=A) h
 have c:(A2 (Cj n A)).length=n:=sm;generalize A2 (Cj n A)=av at aa c;have al:4*(n:Int)<=281474976710656:=om;have ak:(n:Int)<=9223372036854775807:=om;have f:IntKind.u64.wrap (d:Int)=d:=wrap_u64 om;have y:d≠0:=om;obtain⟨w1,Ee,af⟩:∃x:Int,IntKind.i64.wrap ((n:Int)-1)=x/\x=(n:Int)-1:=⟨_,rfl,Bp om om⟩;refine Aq func179 λw0 N0=>?_;refine Y [0,1] [] sr (Y [0,1,6] [12] Du (A9 [7] sr (J (A9 [8] Du (Ah ?_)))))
 refine C3 (λp:Nat × Nat=>⟨[(0,.ro 1 av),(1,.int .u32 d),(6,.sl 12 4 1 n),(7,.int .u64 ((A/4294967296^p.1%d:Nat):Int)),(8,.i ((p.1:Int)-1))],[(12,⟨4,1,164,List.replicate p.1 (.int .u32 0)++A2 (Cj (n-p.1) (A/4294967296^p.1/d))⟩)],p.2,44⟩)
  (λp=>p.1<=n) (λp=>p.1) (n,_) (A7 _) (by simp only[af,Gj hA,Nat.zero_mod,F5,Nat.zero_div,Cj,C6,Ex];exact Z) ?_
 rintro⟨k,nx⟩hk;simp only at hk;refine J ?_;cases k with
 |zero=>
  simp only[Uv,Nat.div_one,Hp,Qe,Ff];have j:=Ig (Cj n (A/d)) (O9 _ _);have e:A/d<4294967296^n:=Fl (G7 _ _) hA;rw[Th,Bm e]at j;have g:=Aj (Cj n (A/d));have w:(A2 (Cj n (A/d))).length=n:=sm
  have z:IntKind.u32.wrap ((A%d:Nat):Int)=((A%d:Nat):Int):=by
   have:=Dc A hd;rw[wrap_u32];omega
  generalize A2 (Cj n (A/d))=fin at j g w;generalize((A%d:Nat):Int)=rest at z|-;refine Y [0,1,6,7,8,17] [12] sr (A0 rfl sA (λh3=>?_));refine A6 (Bn 1 sr ?_);refine Lf 12 [7,40] [] Du (Ac j func69 ?_);refine Aa [4,5] [] Du ?_;refine By sr rfl
 |succ k=>
  have gA:=aa k om;have e1:((k+1:Nat):Int)-1=(k:Int):=om;have e:(k:Int)<n:=om;have hw:IntKind.i64.wrap ((k:Int)-1)=(k:Int)-1:=Bp om om;have⟨D1,D2,D3,D4⟩:=A31 (A:=A) (P:=4294967296^k) (d:=d) hd rfl rfl rfl;have i:=D2 ah;have ag:A/4294967296^k%4294967296<4294967296:=Dc _ dc;clear D2;rw[<- Ce]at D1 i D3 D4
  have a:∀q,q=(A/4294967296^(k+1)%d*4294967296+A/4294967296^k%4294967296)/d->(List.replicate (k+1) (V.int .u32 0)++A2 (Cj (n-(k+1)) (A/4294967296^(k+1)/d))).set k (.int .u32 (q:Int))=List.replicate k (.int .u32 0)++A2 (Cj (n-k) (A/4294967296^k/d)):=by
   intro q hq;have aj:n-k=(n-(k+1))+1:=om;rw[aj,D3,<- hq,Ako (by rw[hq];exact i),List.replicate_succ',Cz,Fr _ _ (by simp)];simp
  have s:Hj (List.replicate (k+1) (V.int .u32 0)++A2 (Cj (n-(k+1)) (A/4294967296^(k+1)/d))) k=some (.int .u32 0):=by
   rw[C2,Bv sm,Hg,Ad oM]
  have ae:(List.replicate (k+1) (V.int .u32 0)++A2 (Cj (n-(k+1)) (A/4294967296^(k+1)/d))).length=n:=by simp;omega
  generalize List.replicate (k+1) (V.int .u32 0)++A2 (Cj (n-(k+1)) (A/4294967296^(k+1)/d))=ro at a s ae|-;generalize A/4294967296^(k+1)%d=r,A/4294967296^k%4294967296=x at*;have m:=Am2 (r:=r) (x:=x) om ag;have o:IntKind.u64.wrap (x:Int)=x:=wrap_u64 om;obtain⟨t,ht⟩:∃t,r*4294967296+x=t:=⟨_,rfl⟩;rw[ht]at D1 i a m;have ai:=Apy t d;have ab:=Apz t d;rw[D1]at ab;have l:=a _ rfl;clear a;generalize t/d=q at*;have u:IntKind.u64.wrap (q:Int)=q:=wrap_u64 om;have ad:IntKind.u32.wrap (q:Int)=q:=by rw[wrap_u32];omega
  rw[e1];refine Y [0,1,6,7,8,17] [12] sr ?_;refine A0 rfl (λh3=>Ae ?_) sA;refine J (Ah (Y [0,1,6,8,9] [12] Du (A9 [] (by simp[s,e,f,y,ai,u,ad,l]<;>rfl) (Ba [0,1,6,7,8] [12] (by simp[f,y,ab]<;>rfl) (Cw [] (by simp[hw]<;>rfl) ?_)))));exact⟨(k,_),by simp only;omega,by simp,Z⟩
variable {k n s:Nat}
def bitLen(n:Nat):Nat:=if n=0 then 0 else n.log2+1
def Acs(n:Nat):n<2^bitLen n:=by
 unfold bitLen
 split
 .subst n;decide
 .exact Nat.lt_log2_self
def Qz(h:n≠0):2^(bitLen n-1)<=n:=by
 rw[bitLen,I h];exact Nat.log2_self_le h
def Akr(h1:2^k<=n)(h2:n<2^(k+1)):bitLen n=k+1:=by
 have c:n≠0:=by intro h;subst h;have:=Fy (n:=k) (show 0<2 by decide);omega
 rw[bitLen,I c]
 congr 1
 have a:=(Nat.le_log2 c).2 h1;have b:=(Nat.log2_lt c).2 h2;omega
def Bfr(h:n≠0):bitLen (n*2^k)=bitLen n+k:=by
 have a:=Qz h;have b:=Acs n;have hp:bitLen n≠0:=by rw[bitLen,I h];omega
 obtain⟨m,c⟩:∃m,bitLen n=m+1:=⟨bitLen n-1,by omega⟩;rw[c]at a b|-
 rw[Akr (k:=m+k)]
 .omega
 .rw[Gi];exact Bz _ a
 .rw[show m+k+1=m+1+k by omega,Gi];exact Ge b (Fy dc)
def Y0(h:2^k<=n):bitLen n=k+bitLen (n/2^k):=by
 have c:0<2^k:=Fy dc;have d:n/2^k≠0:=by have:=Nat.div_pos h c;omega
 have a:=Qz d;have b:=Acs (n/2^k);obtain⟨m,e⟩:∃m,bitLen (n/2^k)=m+1:=⟨(n/2^k).log2,by rw[bitLen,I d]⟩;rw[e]at a b|-;simp only[Na]at a
 rw[Akr (k:=m+k)]
 .omega
 .rw[Gi];exact(Gy c).1 a
 .rw[show m+k+1=m+1+k by omega,Gi];exact(C9 c).1 b
def Ba2:∀v:Nat,v<256->∃b:UInt8,Hj ([0,1,2,2,3,3,3,3,4,4,4,4,4,4,4,4,5,5,5,5,5,5,5,5,5,5,5,5,5,5,5,5,6,6,6,6,6,6,6,6,6,6,6,6,6,6,6,6,6,6,6,6,6,6,6,6,6,6,6,6,6,6,6,6,7,7,7,7,7,7,7,7,7,7,7,7,7,7,7,7,7,7,7,7,7,7,7,7,7,7,7,7,7,7,7,7,7,7,7,7,7,7,7,7,7,7,7,7,7,7,7,7,7,7,7,7,7,7,7,7,7,7,7,7,7,7,7,7,8,8,8,8,8,8,8,8,8,8,8,8,8,8,8,8,8,8,8,8,8,8,8,8,8,8,8,8,8,8,8,8,8,8,8,8,8,8,8,8,8,8,8,8,8,8,8,8,8,8,8,8,8,8,8,8,8,8,8,8,8,8,8,8,8,8,8,8,8,8,8,8,8,8,8,8,8,8,8,8,8,8,8,8,8,8,8,8,8,8,8,8,8,8,8,8,8,8,8,8,8,8,8,8,8,8,8,8,8,8,8,8,8,8,8,8,8,8,8,8,8,8,8,8,8,8,8,8]:List UInt8) v=some b/\b.toNat=bitLen v:=by
 have h:∀v:Fin 256,Hj ([0,1,2,2,3,3,3,3,4,4,4,4,4,4,4,4,5,5,5,5,5,5,5,5,5,5,5,5,5,5,5,5,6,6,6,6,6,6,6,6,6,6,6,6,6,6,6,6,6,6,6,6,6,6,6,6,6,6,6,6,6,6,6,6,7,7,7,7,7,7,7,7,7,7,7,7,7,7,7,7,7,7,7,7,7,7,7,7,7,7,7,7,7,7,7,7,7,7,7,7,7,7,7,7,7,7,7,7,7,7,7,7,7,7,7,7,7,7,7,7,7,7,7,7,7,7,7,7,8,8,8,8,8,8,8,8,8,8,8,8,8,8,8,8,8,8,8,8,8,8,8,8,8,8,8,8,8,8,8,8,8,8,8,8,8,8,8,8,8,8,8,8,8,8,8,8,8,8,8,8,8,8,8,8,8,8,8,8,8,8,8,8,8,8,8,8,8,8,8,8,8,8,8,8,8,8,8,8,8,8,8,8,8,8,8,8,8,8,8,8,8,8,8,8,8,8,8,8,8,8,8,8,8,8,8,8,8,8,8,8,8,8,8,8,8,8,8,8,8,8,8,8,8,8,8,8]:List UInt8) v.val=some (UInt8.ofNat (bitLen v.val))/\(UInt8.ofNat (bitLen v.val)).toNat=bitLen v.val:=dc;exact λv a=>⟨_,h ⟨v,a⟩⟩
def Awn{k:IntKind}(hs:s<=k.bits)(x:Nat):(x:Int).fdiv (2^min s k.bits)=((x/2^s:Nat):Int):=by
 rw[F7 hs,Ca _ (Int.le_of_lt (Int.pow_pos dc))];rw[T8,U5];rfl
def Ap4(x:Nat)(t:x<4294967296):AE 232 [.int .u32 x] (.i (bitLen x:Nat)):=by
 have i:∀v:Nat,v<256->∃b:UInt8,Hj ([0,1,2,2,3,3,3,3,4,4,4,4,4,4,4,4,5,5,5,5,5,5,5,5,5,5,5,5,5,5,5,5,6,6,6,6,6,6,6,6,6,6,6,6,6,6,6,6,6,6,6,6,6,6,6,6,6,6,6,6,6,6,6,6,7,7,7,7,7,7,7,7,7,7,7,7,7,7,7,7,7,7,7,7,7,7,7,7,7,7,7,7,7,7,7,7,7,7,7,7,7,7,7,7,7,7,7,7,7,7,7,7,7,7,7,7,7,7,7,7,7,7,7,7,7,7,7,7,8,8,8,8,8,8,8,8,8,8,8,8,8,8,8,8,8,8,8,8,8,8,8,8,8,8,8,8,8,8,8,8,8,8,8,8,8,8,8,8,8,8,8,8,8,8,8,8,8,8,8,8,8,8,8,8,8,8,8,8,8,8,8,8,8,8,8,8,8,8,8,8,8,8,8,8,8,8,8,8,8,8,8,8,8,8,8,8,8,8,8,8,8,8,8,8,8,8,8,8,8,8,8,8,8,8,8,8,8,8,8,8,8,8,8,8,8,8,8,8,8,8,8,8,8,8,8,8]:List UInt8) v=some b/\((b.toNat:Nat):Int)=bitLen v/\IntKind.u8.wrap (v:Int)=v/\IntKind.i64.wrap ((b.toNat:Nat):Int)=bitLen v:=λv c=>by
  have⟨b,h1,h2⟩:=Ba2 v c;have:=b.toNat_lt;exact⟨b,h1,by omega,by rw[IntKind.wrap_u8];omega,by rw[h2,Bp om oM]⟩
 have f:=Awn (k:=.u32) (s:=16) dc x;have e:∀x:Nat,(x:Int).fdiv (2^min 8 IntKind.u32.bits)=((x/256:Nat):Int):=λx=>Awn (k:=.u32) (s:=8) dc x
 have m:=e (x/65536)
 have z:∀v,v<4294967296->bitLen v<=32:=λv c=>by
  rcases Cl 32 (bitLen v)with h|h
  .have w:v≠0:=by rintro rfl;revert h;decide
   have:=Qz w;have:2^32<=2^(bitLen v-1):=Dz dc om;omega
  .exact h
 have u:=z x t;refine Aq func232 λw0 N0=>?_;refine Y [0,2] [] sr ?_
 refine Aac (λp:Nat × Nat=>⟨[(0,.int .u32 p.1),(2,.i p.2)],[],10,19⟩) (λp=>p.1<65536/\bitLen x=p.2+bitLen p.1) ?_ ?_
 .refine Y [0,2,4] [] sr ?_
  refine C1 (λh1=>?_) λh1=>?_
  .have h2:65536<=x:=by simp at h1;omega
   refine Y [0] [] Du (Cw [2] sr ?_);exact⟨(x/65536,16),⟨by simp only;omega,Y0 (k:=16) h2⟩,Ad2 rfl rfl rfl sy⟩
  .have h2:x<65536:=by simp at h1;omega
   exact⟨(x,0),⟨h2,by simp⟩,N4 [0,2] [] rfl rfl rfl sy⟩
 rintro⟨v,b⟩⟨c,a⟩;simp only at c a;have d:IntKind.i64.wrap ((b:Int)+8)=((b+8:Nat):Int):=by rw[Bp om oM];omega
 refine Aac (λp:Nat × Nat=>⟨[(0,.int .u32 p.1),(2,.i p.2)],[],20,19⟩) (λp=>p.1<256/\bitLen x=p.2+bitLen p.1) ?_ ?_
 .refine Y [0,2,8] [] sr ?_
  refine C1 (λh1=>?_) λh1=>?_
  .have h2:256<=v:=by simp at h1;omega
   refine Y [0,2] [] Du (Cw [] Du ?_);refine⟨(v/256,b+8),⟨by simp only;omega,?_⟩,Ad2 rfl rfl rfl sy⟩;have:bitLen v=8+bitLen (v/256):=Y0 (k:=8) h2;simp only;omega
  .have h2:v<256:=by simp at h1;omega
   exact⟨(v,b),⟨h2,a⟩,N4 [0,2] [] rfl rfl rfl sy⟩
 clear c a d;clear v b;rintro⟨v,b⟩⟨c,a⟩;simp only at c a;have⟨y,n,l,o,j⟩:=i v c;have g:IntKind.i64.wrap ((b:Int)+(bitLen v:Int))=(bitLen x:Int):=by rw[Bp om oM];omega
 rw[l]at j;exact Y [2] [] (by simp[n,o,j,l,g]<;>rfl) (By sr rf)
def Azv(x:Nat)(a:x<4294967296):AE 234 [.int .u32 x] (.i ((32-bitLen x:Nat):Int)):=by
 have d:=Ap4 x a
 have hb:bitLen x<=32:=by
  rcases Cl 32 (bitLen x)with h|h
  .have c:x≠0:=by rintro rfl;revert h;decide
   have:=Qz c;have:2^32<=2^(bitLen x-1):=Dz dc om;omega
  .exact h
 have e:IntKind.i64.wrap (32-(bitLen x:Int))=((32-bitLen x:Nat):Int):=by rw[Bp om oM];omega
 generalize bitLen x=q at*;refine Aq func234 λw0 N0=>?_;refine Y [0] [] sr (Bn 1 sr ?_);refine Ac d func232 ?_;exact Aa [2] [] Du (By sr rfl)
variable {m q:Nat}
def Azw(l:List Nat):(A2 l).all Mc=true:=by
 simp only[Ar,Bl];rintro v⟨x,_,rfl⟩;rfl
def Awo(n A s:Nat)(hn:n<=1099511627776)(hs:s<32)(hA:A<4294967296^n):ACO prog 235 [.ro 1 (A2 (Cj n A)),.i s] 1 164 (λF es=>F=(λd q=>.sl d q 1 (n+1))/\es=A2 (Cj (n+1) (A*2^s))):=by
 have ah:=λk(h:k<n)=>Aam (v:=A) h
 have f:(A2 (Cj n A)).length=n:=sm;generalize A2 (Cj n A)=av at ah f;obtain⟨s1,al,a3⟩:∃s:Int,IntKind.i64.wrap ((n:Int)+1)=s/\s=((n+1:Nat):Int):=⟨_,rfl,A5 om⟩;have au:4*s1<=281474976710656:=om;have aq:s1<=9223372036854775807:=om;have a0:0<=s1:=om;have ak:s1.toNat=n+1:=om;refine Kn func235 λw0 N0=>?_;refine Y [0,1] [] sr (Y [0,1,5] [12] (by simp[f,al,au,aq,a0]<;>rfl) ?_);rw[ak];refine J (Y [1,5,13,14,15] [12] Du (Ah ?_))
 refine C3 (λp:Nat × Nat=>⟨[(1,.i s),(5,.sl 12 4 1 (n+1)),(13,.ro 1 av),(14,.i n),(15,.i p.1)],[(12,⟨4,1,164,A2 (Cj (p.1+1) (A%4294967296^p.1*2^s))++List.replicate (n-p.1) (.int .u32 0)⟩)],p.2,41⟩)
  (λp=>p.1<=n) (λp=>n-p.1) (0,_) (Cg _) (by simp[Cj,Sn,Gm,Aal];exact Z) ?_
 rintro⟨k,nx⟩hk;simp only at hk;refine Y [1,5,13,14,15,16] [12] sr (J ?_)
 refine Cu (λh1=>?_) λh1=>?_
 .have g:k<n:=by simp at h1;omega
  obtain⟨m,hm⟩:∃m,n-k=m+1:=⟨n-k-1,by omega⟩;have gA:=ah k g;have hP:=N6 k;have aj:A/4294967296^k%4294967296<4294967296:=Dc _ dc;obtain⟨c,hc⟩:∃c,c=A%4294967296^k*2^s/4294967296^k:=⟨_,rfl⟩
  have a1:c<2^s:=by
   rw[hc];exact(A3t (a:=A) (s:=2^s) hP (Fy dc)).1
  obtain⟨t,ht⟩:∃t,t=A/4294967296^k%4294967296*2^s:=⟨_,rfl⟩;have⟨D1,D2,D3,D4⟩:=A33 aj hs a1 ht
  have hS:2^s<=2147483648:=by
   have:2^s<=2^31:=Dz dc om;exact this
  have hD:=A34 hc ht D3 om;have am:=A35 hc om;rw[am];have u:=Azq (s:=s) (x:=A/4294967296^k%4294967296) om (by rw[<- ht];exact D1);have i:IntKind.u64.wrap ((A/4294967296^k%4294967296:Nat):Int)=((A/4294967296^k%4294967296:Nat):Int):=wrap_u64 om;rw[<- ht]at u;generalize A/4294967296^k%4294967296=x at gA u i;have ay:IntKind.u32.wrap (t:Int)=((t%4294967296:Nat):Int):=wrap_u32 t
  have an:IntKind.u32.wrap ((t:Int).fdiv (2^min 32 IntKind.u64.bits))=((t/4294967296:Nat):Int):=by
   rw[Aak,wrap_u32];congr 1;omega
  have aa:=Azo c (t%4294967296) ⟨by omega,Dc _ dc⟩;rw[D2]at aa;generalize t%4294967296=lo,t/4294967296=hi at*;have ar:¬(s:Int)<0:=om;have az:=A5 (k:=k) om
  have j:Hj (A2 (Cj k (A%4294967296^k*2^s)++[c])++List.replicate (n-k) (V.int .u32 0)) k=some (.int .u32 c):=by
   rw[C2,Bv sm,Bb,Br (by simp)];simp
  have l:Hj (A2 (Cj k (A%4294967296^k*2^s)++[c])++List.replicate (n-k) (V.int .u32 0)) (k+1)=some (.int .u32 0):=by
   rw[C2,Br sm,Hg,Ad (by simp;omega)]
  have y:(A2 (Cj k (A%4294967296^k*2^s)++[c])++List.replicate (n-k) (V.int .u32 0)).length=n+1:=by simp;omega
  have w:((A2 (Cj k (A%4294967296^k*2^s)++[c])++List.replicate (n-k) (V.int .u32 0)).set k (.int .u32 ((c+lo:Nat):Int))).set (k+1) (.int .u32 (hi:Int))=A2 (Cj (k+2) (A%4294967296^(k+1)*2^s))++List.replicate (n-(k+1)) (V.int .u32 0):=by
   rw[hD,hm,show n-(k+1)=m by omega];have hl:(List.map Aal (Cj k (A%4294967296^k*2^s))).length=k:=sm;simp only[A2,C0,B6,C6,Cz,Co,Ff,Gm];rw[Fr _ _ om,hl,F5,Kp,Fr _ _ om,hl,show k+1-k=1 by omega];simp
  generalize A2 (Cj k (A%4294967296^k*2^s)++[c])++List.replicate (n-k) (V.int .u32 0)=ro at l j y w|-;obtain⟨ae,e⟩:∃r,ro.set k (.int .u32 ((c+lo:Nat):Int))=r:=⟨_,rfl⟩;have ag:ae.length=n+1:=by rw[<- e];simpa using y
  rw[e]at w
  have af:Hj ae (k+1)=some (.int .u32 0):=by
   rw[<- e,C2,Ie om,<- C2,l]
  generalize((c+lo:Nat):Int)=z at*;have a2:k<n:=g;have ax:(k:Int)<(n:Int)+1:=om;have ab:(k:Int)<(n:Int):=om;obtain⟨k1,o⟩:∃k1:Int,IntKind.i64.wrap ((k:Int)+1)=k1:=⟨_,rfl⟩;have ao:k1=((k+1:Nat):Int):=by rw[<- o,az]
  have aw:0<=k1/\k1<(n:Int)+1:=om;have ai:k1.toNat=k+1:=om;refine J (Ah (Y [1,5,6,7,13,14,15] [12] (by simp[gA,f,ab]<;>rfl) (Y [1,5,6,8,13,14,15] [12] (by simp[i,u,ar]<;>rfl) (A9 [] (by simp[j,ax,ay,aa,e]<;>rfl) (Ba [1,5,13,14,15] [12] (by simp[o,aw,ai,an,af,w]<;>rfl) (Cw [] (by simp[o]<;>rfl) ?_))))));exact⟨(k+1,_),by simp only;omega,by simp only;omega,by simp only[ao];exact Z⟩
 .have g:k=n:=by simp at h1;omega
  subst g;refine A6 ?_;rw[Bm hA,F5,Qe,Ex];have ad:=Azw (Cj (k+1) (A*2^s));generalize A2 (Cj (k+1) (A*2^s))=fin at ad;refine Y [4] [12] sr ?_;exact Ao (H2 12 rfl rfl rfl ad sr ⟨rfl,rfl⟩)
def A4p{v z:Nat}(d:z=v/4294967296^k%4294967296)(a:q=m+1):(A2 (Cj k v)++List.replicate q (V.int .u32 0)).set k (.int .u32 (z:Int))=A2 (Cj (k+1) v)++List.replicate m (V.int .u32 0):=by
 subst a;have c:(A2 (Cj k v)).length=k:=sm;rw[Fr _ _ om,c,F5,Gm,Kp,Acm,d];simp
def A4q{v:Nat}(a:q=m+1):Hj (A2 (Cj k v)++List.replicate q (V.int .u32 0)) k=some (.int .u32 0):=by
 subst a;rw[C2,Br sm,Hg,Ad (by simp)]
def Bfs(n A s:Nat)(hn:n<=1099511627776)(hs:s<32)(hA:A<4294967296^n):AE 239 [.ro 1 (A2 (Cj n A)),.i s] (.ro 1 (A2 (Cj n (A/2^s)))):=by
 have j:=λk(h:k<n)=>Aam (v:=A) h
 have a:(A2 (Cj n A)).length=n:=sm;generalize A2 (Cj n A)=av at j a;have au:4*(n:Int)<=281474976710656:=om;have ar:(n:Int)<=9223372036854775807:=om;refine Aq func239 λw0 N0=>?_;refine Y [0,1] [] sr (Y [0,1,5] [11] Du (J (A9 [12,13,14] Du (Ah ?_))))
 refine C3 (λp:Nat × Nat=>⟨[(0,.ro 1 av),(1,.i s),(5,.sl 11 3 1 n),(12,.ro 1 av),(13,.i n),(14,.i p.1)],[(11,⟨3,1,164,A2 (Cj p.1 (A/2^s))++List.replicate (n-p.1) (.int .u32 0)⟩)],p.2,44⟩)
  (λp=>p.1<=n) (λp=>n-p.1) (0,_) (Cg _) (by simp[Cj];exact Z) ?_
 rintro⟨k,nx⟩hk;simp only at hk;refine Y [0,1,5,12,13,14,15] [11] sr (J ?_)
 refine Cu (λh1=>?_) λh1=>?_
 .have g:k<n:=by simp at h1;omega
  obtain⟨m,hm⟩:∃m,n-k=m+1:=⟨n-k-1,by omega⟩;have gA:=j k g;have gB:=j (k+1);have ak:A/4294967296^k%4294967296<4294967296:=Dc _ dc;have al:A/4294967296^(k+1)%4294967296<4294967296:=Dc _ dc;have o:=A36 (A:=A) (P:=4294967296^k) (s:=s) hs;rw[<- Ce]at o
  have ao:¬k+1<n->A/4294967296^(k+1)%4294967296=0:=λh=>by
   have:n=k+1:=om;rw[this]at hA;rw[Gj hA]
  have f:=A4q (k:=k) (v:=A/2^s) hm;have d:=λz hz=>A4p (k:=k) (v:=A/2^s) (z:=z) hz hm
  rw[<- o]at d;have af:(A2 (Cj k (A/2^s))++List.replicate (n-k) (V.int .u32 0)).length=n:=by simp;omega
  generalize A2 (Cj k (A/2^s))++List.replicate (n-k) (V.int .u32 0)=ro at f d af|-;clear o;generalize A/4294967296^k%4294967296=x,A/4294967296^(k+1)%4294967296=y at*;have aa:IntKind.u64.wrap (x:Int)=x:=wrap_u64 om;have ah:IntKind.u64.wrap (y:Int)=y:=wrap_u64 om;have w:=A32 (r:=y) (x:=x) al ak;obtain⟨t,ht⟩:∃t,x+y*4294967296=t:=⟨_,rfl⟩;rw[Ol,ht]at w;rw[ht]at d;have ae:=Azp (s:=s) (x:=t) om;have l:=wrap_u32 (t/2^s);have e:=d _ rfl;generalize t/2^s%4294967296=z at e l;generalize((t/2^s:Nat):Int)=tz at ae l;have ay:¬(s:Int)<0:=om;have ax:=A5 (k:=k) om;obtain⟨u,c⟩:∃u:Int,IntKind.i64.wrap ((k:Int)+1)=u:=⟨_,rfl⟩;have aq:u=((k+1:Nat):Int):=by rw[<- c,ax]
  have ag:(k:Int)<n:=om;refine J (Ah (Y [0,1,5,6,7,12,13,14] [11] (by simp[gA,a,ag]<;>rfl) (Y [0,1,5,6,8,12,13,14] [11] Du ?_)))
  refine N3 ⟨[(0,.ro 1 av),(1,.i s),(5,.sl 11 3 1 n),(6,.i k),(8,.int .u64 t),(12,.ro 1 av),(13,.i n),(14,.i k)],[(11,⟨3,1,164,ro⟩)],nx+40,44⟩ ?_ ?_
  .refine A9 [25] Du ?_
   refine C1 (λh3=>?_) λh3=>?_
   .have i:k+1<n:=by simp at h3;omega
    have an:=gB i;have aw:0<=u/\u<n:=om;have aj:u.toNat=k+1:=om;refine Ba [0,1,5,6,8,12,13,14] [11] (by simp[c,aw,aj,an,a,ah,w]<;>rfl) ?_;exact⟨rfl,N4 [0,1,5,6,8,12,13,14] [11] rfl rfl rfl sy⟩
   .have i:¬k+1<n:=by simp at h3;omega
    have az:=ao i;have ai:x=t:=om;rw[ai];exact⟨rfl,N4 [0,1,5,6,8,12,13,14] [11] rfl rfl rfl sy⟩
  refine Ba [0,1,5,12,13,14] [11] (by simp[f,ag,ae,ay,l,e]<;>rfl) (Cw [] (by simp[c]<;>rfl) ?_);have am:n-(k+1)=m:=om;exact⟨(k+1,_),by simp only;omega,by simp only;omega,by simp only[aq,am];exact Z⟩
 .have g:k=n:=by simp at h1;omega
  subst g;refine A6 ?_;rw[F5,Qe,Ex];have ab:=Aj (Cj k (A/2^s));have ad:(A2 (Cj k (A/2^s))).length=k:=sm;generalize A2 (Cj k (A/2^s))=fin at ab ad;refine Bn 1 sr ?_;refine Lf 11 [43] [] (by simp[ab,ad]<;>rfl) ?_;refine Aa [4] [] sr ?_;exact By sr rfl
def Bft(n u v:Nat):Nat:=Apt (v/4294967296^(n-1)) (v/4294967296^(n-2)%4294967296) (u/4294967296^(n-2)%4294967296) 3 (u/4294967296^(n-1)/(v/4294967296^(n-1))) (u/4294967296^(n-1)%(v/4294967296^(n-1)))
def A4r(F:Nat->Nat->Nat->Nat)(cb:Nat->Nat->Bool)(ah:Nat->Bool)(uv vv:List V)(N M i1 i2:Int)(k a x y th tl ad d0 r0:Nat)(j:Hj uv k=some (.int .u32 y))(az:Hj uv (k+1)=some (.int .u32 tl))(ay:Hj uv (k+2)=some (.int .u32 th))
  (i:Hj vv k=some (.int .u32 x))(ae:Hj vv (k+1)=some (.int .u32 a))(a8:a<4294967296)(a7:2147483648<=a)(a6:x<4294967296)(a1:y<4294967296)
  (u:IntKind.i64.wrap (N-1)=i1)(g:IntKind.i64.wrap (N-2)=i2)(b1:0<=i1/\i1<N/\i1<M)(b2:0<=i2/\i2<N/\i2<M)(n1:i1.toNat=k+1)(n2:i2.toNat=k)
  (e:((uv.length:Nat):Int)=M)(c:((vv.length:Nat):Int)=N)(b3:0<=N/\N<M)(n3:N.toNat=k+2)(wa:IntKind.u64.wrap (a:Int)=a)(wx:IntKind.u64.wrap (x:Int)=x)(wy:IntKind.u64.wrap (y:Int)=y)
  (a5:IntKind.u64.wrap (th:Int)=th)(a0:IntKind.u64.wrap (tl:Int)=tl)(an:bits .or .u64 (IntKind.u64.wrap ((th:Int)*2^min 32 IntKind.u64.bits)) (tl:Int)=(ad:Int))(ai:a≠0)
  (hq:(ad:Int).tdiv (a:Int)=d0)(hr:(ad:Int).tmod (a:Int)=r0)(aq:IntKind.u64.wrap (d0:Int)=d0)(a2:d0<18446744073709551616)(av:r0<4294967296)
  (hF:∀m d r,F (m+1) d r=if cb d r=true then(if ah (r+a)=true then d-1 else F m (d-1) (r+a))else d)(a3:∀d r,cb d r=true↔(4294967296<=d\/r*4294967296+y<d*x))(ag:∀z,ah z=true↔4294967296<=z):
  AE 236 [.ro 1 uv,.ro 1 vv] (.int .u64 (F 3 d0 r0:Nat)):=by
 refine Aq func236 λw0 N0=>?_;refine Y [0,1] [] sr (A9 [5] Du ?_);refine Do [(0,[]),(1,[]),(2,[]),(6,[]),(7,[]),(8,[]),(9,[]),(3,[]),(4,[]),(5,[]),(10,[]),(11,[]),(12,[]),(13,[])] [0,1,5,6] [] Eb kr Du (A9 [7] Du (Y [0,1,5,7,8] [] Du (J (Ah ?_))));refine C3 (λp:Nat × Nat × Nat × Nat=>⟨[(0,.ro 1 uv),(1,.ro 1 vv),(5,.i N),(7,.int .u64 p.1),(8,.int .u64 p.2.1)],[],p.2.2.2,77⟩) (λp=>p.1<18446744073709551616/\p.2.1<4294967296/\4294967296<=p.2.1+p.2.2.1*a/\F p.2.2.1 p.1 p.2.1=F 3 d0 r0) (λp=>p.2.2.1) (d0,r0,3,_) ⟨a2,av,by simp only;omega,rfl⟩ Z ?_;rintro⟨d,r,m,nx⟩⟨hd,af,hm,hE⟩;simp only at hd af hm hE;cases m with
 |zero=>omega
 |succ m=>
 rw[<- hE];rw[hF];have n:=a3 d r;have s:=ag (r+a);have w:(d:Int).fdiv (2^min 32 IntKind.u64.bits)=((d/4294967296:Nat):Int):=Aak d;obtain⟨ra,o⟩:∃ra:Int,ra=((r+a:Nat):Int):=⟨_,rfl⟩;have ab:ra.fdiv (2^min 32 IntKind.u64.bits)=(((r+a)/4294967296:Nat):Int):=by rw[o];exact Aak (r+a)
 have a4:IntKind.u64.wrap ((r:Int)+(a:Int))=ra:=by rw[o,<- Dy];exact wrap_u64 om
 have f:=Am2 (r:=r) (x:=y) af a1
 have wd:1<=d->IntKind.u64.wrap ((d:Int)-1)=((d-1:Nat):Int):=λh=>by
  rw[show(d:Int)-1=((d-1:Nat):Int)by omega];exact wrap_u64 om
 refine J ?_
 refine N3 ⟨[(0,.ro 1 uv),(1,.ro 1 vv),(5,.i N),(7,.int .u64 d),(8,.int .u64 r),(62,.bool (cb d r))],[],nx+40,77⟩ ?_ ?_
 .by_cases ao:4294967296<=d
  .have aa:¬d/4294967296=0:=om;generalize d/4294967296=dq at w aa;refine(Di [(0,[]),(1,[]),(2,[]),(3,[]),(4,[]),(5,[]),(6,[]),(7,[]),(8,[]),(12,[]),(13,[]),(14,[]),(15,[]),(16,[]),(17,[]),(9,[]),(10,[]),(11,[]),(18,[]),(19,[]),(20,[]),(21,[]),(22,[])] Eb kr ?_);refine Ci 4 Du (Ci 6 Du ?_);refine Ci 6 Du ?_;refine Ci 6 Du ?_;refine Dj [0,1,5,7,8,62] [] sr ?_;have l:cb d r=true:=n.2 (.inl ao);rw[l];exact⟨rfl,N4 [0,1,5,7,8,62] [] rfl rfl rfl sy⟩
  .have hz:d/4294967296=0:=om;rw[hz]at w
   have au:d*x<18446744073709551616:=by
    have:d*x<=4294967295*4294967295:=If om om;omega
   have t:IntKind.u64.wrap ((d:Int)*(x:Int))=((d*x:Nat):Int):=by rw[<- Ft];exact wrap_u64 au
   have l:cb d r=decide (((r*4294967296+y:Nat):Int)<((d*x:Nat):Int)):=by
    rw[M1,n,decide_eq_true_iff];omega
   rw[l];obtain⟨dx,aj⟩:∃dx:Int,dx=((d*x:Nat):Int):=⟨_,rfl⟩;obtain⟨ry,al⟩:∃ry:Int,ry=((r*4294967296+y:Nat):Int):=⟨_,rfl⟩;rw[<- aj]at t|-;rw[<- al]at f|-;refine(Di [(0,[]),(1,[]),(2,[]),(3,[]),(4,[]),(5,[]),(6,[]),(7,[]),(8,[]),(12,[]),(13,[]),(14,[]),(15,[]),(16,[]),(17,[]),(9,[]),(10,[]),(11,[]),(18,[]),(19,[]),(20,[]),(21,[]),(22,[])] Eb kr ?_);refine Ci 4 Du ?_;refine Ci 6 Du ?_;refine Ci 6 (by simp[g,b2,n2,e,j]<;>rfl) ?_;refine Ci 6 (by simp[wx,wy,f,t]<;>rfl) ?_;refine Dj [0,1,5,7,8,62] [] sr ?_;exact⟨rfl,N4 [0,1,5,7,8,62] [] rfl rfl rfl sy⟩
 refine Cu (λh1=>?_) λh1=>?_
 .have ax:=n.1 h1;rw[Ad h1]
  have ar:1<=d:=by
   rcases Ey d with h0|h0
   .subst h0;simp at ax
   .exact h0
  have am:=wd ar;refine Ah (Y [0,1,5,7,8] [] (by simp[am]<;>rfl) (A9 [] (by simp[u,b1,n1,c,ae,wa,a4]<;>rfl) ?_))
  by_cases ak:4294967296<=r+a
  .obtain⟨q,aw⟩:∃q:Int,q=(((r+a)/4294967296:Nat):Int):=⟨_,rfl⟩;have aa:¬q=0:=om;rw[<- aw]at ab;rw[Ad (s.2 ak)];refine A9 [75] (by simp[ab,aa]<;>rfl) ?_;refine A0 rfl (λh2=>?_) (λh2=>by cases h2);refine A6 ?_;exact Y [4] [] sr (By sr rf)
  .have hz:(((r+a)/4294967296:Nat):Int)=0:=om;rw[hz]at ab;rw[I (λh=>ak (s.1 h))];refine A9 [75] (by simp[ab]<;>rfl) ?_;refine A0 rfl (λh2=>by cases h2) λh2=>Ae ?_
   refine⟨(d-1,r+a,m,nx+40+3+9+3),⟨by simp only;omega,by simp only;omega,?_,rfl⟩,by simp only;omega,?_⟩
   .simp only;rw[Cc]at hm;omega
   .simp only[<- o];exact N4 [0,1,5,7,8] [] rfl rfl rfl sy
 .rw[I (by simp[h1])];refine A6 ?_;exact Y [4] [] sr (By sr rf)
def Bfu(n u v:Nat)(hn:2<=n)(a2:n<=1099511627776)(hv:4294967296^n<=2*v)(t:v<4294967296^n)(hu:u<4294967296^(n+1)):
  AE 236 [.ro 1 (A2 (Cj (n+1) u)),.ro 1 (A2 (Cj n v))] (.int .u64 (Bft n u v:Nat)):=by
 obtain⟨k,rfl⟩:∃k,n=k+2:=⟨n-2,by omega⟩;have hP:=N6 k;have aa:=Aam (k:=k+2+1) (v:=u) (i:=k) om;have ab:=Aam (k:=k+2+1) (v:=u) (i:=k+1) om;have o:=Aam (k:=k+2+1) (v:=u) (i:=k+2) om;have w:=Aam (k:=k+2) (v:=v) (i:=k) om;have l:=Aam (k:=k+2) (v:=v) (i:=k+1) om;have az:(A2 (Cj (k+2+1) u)).length=k+3:=sm;have ay:(A2 (Cj (k+2) v)).length=k+2:=sm;generalize A2 (Cj (k+2+1) u)=uv,A2 (Cj (k+2) v)=vv at*;rw[Bft,show k+2-1=k+1 by omega,show k+2-2=k by omega];have e1:4294967296^(k+1)=4294967296^k*4294967296:=Ce ..;have e2:4294967296^(k+2)=4294967296^(k+1)*4294967296:=Ce ..;have e3:4294967296^(k+2+1)=4294967296^(k+2)*4294967296:=Ce ..;rw[e3]at hu;clear e3;generalize 4294967296^(k+2)=P2 at hv t hu o e2;generalize 4294967296^(k+1)=j at ab l e1 e2|-;generalize 4294967296^k=P0 at aa w e1 hP|-;have ae:0<j:=om;have al:0<P2:=om;have s:v/j<4294967296:=by rw[C9 ae,Bh,<- e2];exact t
 have am:2147483648<=v/j:=by
  rw[Gy ae];omega
 have e:u/j=u/P2*4294967296+u/j%4294967296:=by
  rw[e2,<- Cy u j];omega
 have ad:u/P2<4294967296:=by
  rw[C9 al,Bh];exact hu
 rw[Bm ad]at o;rw[Bm s]at l;have ar:u/j%4294967296<4294967296:=Dc _ dc;have aj:v/P0%4294967296<4294967296:=Dc _ dc;have ao:u/P0%4294967296<4294967296:=Dc _ dc;clear e1 e2 hv t hu hP ae al;generalize v/j=a at l s am|-;generalize u/j%4294967296=tl at ab e ar;generalize u/P2=th at o e ad;generalize u/j=c at e|-;generalize v/P0%4294967296=x at w aj|-;generalize u/P0%4294967296=y at aa ao|-;have g:c<18446744073709551616:=om;obtain⟨i1,ak,aq⟩:∃x:Int,IntKind.i64.wrap (((k+2:Nat):Int)-1)=x/\x=((k+1:Nat):Int):=⟨_,rfl,by rw[Bp om oM];omega⟩;obtain⟨i2,ag,ai⟩:∃x:Int,IntKind.i64.wrap (((k+2:Nat):Int)-2)=x/\x=(k:Int):=⟨_,rfl,by rw[Bp om oM];omega⟩;have b1:0<=i1/\i1<((k+2:Nat):Int)/\i1<((k+3:Nat):Int):=om;have b2:0<=i2/\i2<((k+2:Nat):Int)/\i2<((k+3:Nat):Int):=om;have n1:i1.toNat=k+1:=om;have n2:i2.toNat=k:=om;obtain⟨N,hN⟩:∃N:Int,((k+2:Nat):Int)=N:=⟨_,rfl⟩;obtain⟨M,hM⟩:∃M:Int,((k+3:Nat):Int)=M:=⟨_,rfl⟩;have ah:((uv.length:Nat):Int)=M:=om;have an:((vv.length:Nat):Int)=N:=om;have b3:0<=N/\N<M:=om;have n3:N.toNat=k+2:=om;rw[hN]at ak ag b1 b2;rw[hM]at b1 b2;clear hN hM az ay aq ai;have f:∀z:Nat,z<18446744073709551616->IntKind.u64.wrap (z:Int)=z:=λz h=>wrap_u64 h
 have af:=Am2 (r:=th) (x:=tl) ad ar;rw[<- e]at af;have aw:a≠0:=om;have hq:=Apy c a;have hr:=Apz c a;have au:=f (c/a) (Fl (G7 _ _) g);have a0:c/a<18446744073709551616:=Fl (G7 _ _) g;have av:c%a<4294967296:=Uu (Dc _ om) s;generalize c/a=d0,c%a=r0 at*;refine A4r (Apt a x y) (λd r=>decide (4294967296<=d\/r*4294967296+y<d*x)) (λz=>decide (4294967296<=z)) uv vv N M i1 i2 k a x y th tl c d0 r0 aa ab o w l s am aj ao ak ag b1 b2 n1 n2 ah an b3 n3 (f a om) (f x om) (f y om) (f th om) (f tl om) af aw hq hr au a0 av (λm d r=>?_) (λd r=>by simp only[decide_eq_true_iff]) (λz=>by simp only[decide_eq_true_iff]);simp only[decide_eq_true_iff,Apt]
def Ba3(d v off:Nat)(pre post:List V)(n U W g:Nat)(ho:pre.length=off)(hn:n<=1099511627776)(hU:U<4294967296^(n+1))(hW:W<4294967296^n)(hg:g<4294967296):
  Qv prog 237 [.ss d v 1 off (n+1),.ro 1 (A2 (Cj n W)),.int .u64 g] [(d,⟨v,1,164,Mi pre n U post 0 0⟩)] (λr q=>r=.bool (decide (U<g*W))/\q= [(d,⟨v,1,164,Mi pre n U post (n+1) (Am3 n U (g*W))⟩)]) (λ_ =>False):=by
 have aq:=λk(h:k<n)=>Aam (v:=W) h
 have ae:(A2 (Cj n W)).length=n:=sm;generalize A2 (Cj n W)=wv at aq ae;refine Ec func237 λw0 N0 a3=>?_;refine Y [0,1,2] [d] sr (Y [0,1,2,7,8] [d] sr (J (Y [0,1,2,7,8,14,15,16] [d] Du (Ah ?_))))
 refine C3 (λp:Nat × Nat × Nat × Nat × Nat=>⟨[(0,.ss d v 1 off (n+1)),(1,.ro 1 wv),(2,.int .u64 g),(7,.int .u64 p.2.2.1),(8,.int .u64 p.2.2.2.1),(14,.ro 1 wv),(15,.i n),(16,.i p.1)],[(d,⟨v,1,164,Mi pre n U post p.1 p.2.1⟩)],p.2.2.2.2,67⟩)
  (λp=>p.1<=n/\p.2.1<4294967296^p.1/\p.2.2.1<4294967296/\p.2.2.2.1<=1/\p.2.1+g*(W%4294967296^p.1)=U%4294967296^p.1+4294967296^p.1*(p.2.2.1+p.2.2.2.1)/\a3<=p.2.2.2.2) (λp=>n-p.1) (0,0,0,0,_) ⟨by simp,by simp,by simp,by simp,by simp[Sn],by simp only;omega⟩ Z ?_
 rintro⟨k,x,c,b,nx⟩⟨hk,hx,hc,hb,hI,bb⟩;simp only at hk hx hc hb hI bb;refine Y [0,1,2,7,8,14,15,16,17] [d] sr (J ?_);have e:=Ap1 (pre:=pre) (post:=post) (U:=U) (x:=x) hk;have ai:=Agg (pre:=pre) (post:=post) (U:=U) (x:=x) (show k<=n+1 by omega);have ad:=λz(hz:z<4294967296)=>Ap2 (pre:=pre) (post:=post) (U:=U) hk hx hz
 rw[ho]at e ad;have ah:U/4294967296^k%4294967296<4294967296:=Dc _ dc
 refine Cu (λh1=>?_) λh1=>?_
 .have am:k<n:=by simp at h1;omega
  have a1:=aq k am;have a2:W/4294967296^k%4294967296<4294967296:=Dc _ dc;obtain⟨wk,aj⟩:∃y,y=W/4294967296^k%4294967296:=⟨_,rfl⟩;obtain⟨uk,l⟩:∃y,y=U/4294967296^k%4294967296:=⟨_,rfl⟩;rw[<- aj]at a1 a2;rw[<- l]at e ah
  have a8:g*wk+c<18446744073709551616:=by
   have:g*wk<=4294967295*4294967295:=If om om;omega
  obtain⟨m1,a5,ak⟩:∃z:Int,IntKind.u64.wrap ((g:Int)*(wk:Int))=z/\z=((g*wk:Nat):Int):=⟨_,rfl,by rw[<- Ft];exact wrap_u64 om⟩;obtain⟨p,hp,al⟩:∃z:Int,IntKind.u64.wrap (m1+(c:Int))=z/\z=((g*wk+c:Nat):Int):=⟨_,rfl,by rw[ak,<- Dy];exact wrap_u64 om⟩;obtain⟨c',a4,ax⟩:∃z:Nat,p.fdiv (2^min 32 IntKind.u64.bits)=z/\z=(g*wk+c)/4294967296:=⟨_,by rw[al];exact Aak _,rfl⟩;obtain⟨lo,a6,az⟩:∃z:Nat,IntKind.u32.wrap p=z/\z=(g*wk+c)%4294967296:=⟨_,by rw[al];exact wrap_u32 _,rfl⟩;have bc:c'<4294967296:=om;have bd:lo<4294967296:=om;have ab:IntKind.u64.wrap (uk:Int)=uk:=wrap_u64 om;have av:IntKind.u64.wrap (wk:Int)=wk:=wrap_u64 om;have aw:IntKind.u64.wrap (lo:Int)=lo:=wrap_u64 om;have⟨z,b',j,i,w,an,ag⟩:=A39 ah bd hb;obtain⟨t1,af⟩:∃t:Int,IntKind.u64.wrap ((uk:Int)-(lo:Int))=t:=⟨_,rfl⟩;rw[af]at j i;obtain⟨t2,s⟩:∃t:Int,IntKind.u64.wrap (t1-(b:Int))=t:=⟨_,rfl⟩;rw[s]at j i;have a:=ad z w;have ao:=A4a hx w;have f:=A3r (x:=x) (d:=g) (v:=W) (u:=U) (P:=4294967296^k) (c:=c) (b:=b) (y:=z) (b':=b') hI (by rw[<- aj,<- l,<- az];exact ag);rw[<- aj,<- ax]at f;rw[<- Ce]at f ao;obtain⟨x',a0⟩:∃x',x'=x+4294967296^k*z:=⟨_,rfl⟩;rw[<- a0]at a f ao;obtain⟨k1,ar⟩:∃k1:Int,IntKind.i64.wrap ((k:Int)+1)=k1:=⟨_,rfl⟩;have a7:k1=((k+1:Nat):Int):=by rw[<- ar,(A5 (k:=k) om)]
  have ba:(k:Int)<n:=om;have m:(k:Int)<(n:Int)+1:=om;clear aj l az ax a0 ak al hI ad aq a8;have aa:off+k<(Mi pre n U post k x).length:=by rw[ai];omega
  generalize Mi pre n U post k x=ro at e a aa|-;clear ai;refine J (Ah (Y [0,1,2,7,8,9,10,14,15,16] [d] Du (Y [0,1,2,8,9,11,14,15,16] [d] Du (Y [0,1,2,7,8,9,11,14,15,16] [d] Du (Y [0,1,2,7,9,12,14,15,16] [d] Du (Y [0,1,2,7,12,14,15,16] [d] Du (Ba [0,1,2,7,8,14,15,16] [d] Du (Ba [0,1,2,7,8,14,15,16] [d] Du ?_))))))));refine⟨(k+1,x',c',b',_),⟨by simp only;omega,ao,bc,an,f,?_⟩,by simp only;omega,by simp only[a7];exact Z⟩;simp only;omega
 .have am:k=n:=by simp at h1;omega
  subst am;obtain⟨uk,l⟩:∃y,y=U/4294967296^k%4294967296:=⟨_,rfl⟩;rw[<- l]at e ah;have⟨z,b',j,i,w,an,ag⟩:=A39 ah hc hb;have ab:IntKind.u64.wrap (uk:Int)=uk:=wrap_u64 om;obtain⟨t1,af⟩:∃t:Int,IntKind.u64.wrap ((uk:Int)-(c:Int))=t:=⟨_,rfl⟩;rw[af]at j i;obtain⟨t2,s⟩:∃t:Int,IntKind.u64.wrap (t1-(b:Int))=t:=⟨_,rfl⟩;rw[s]at j i;have a:=ad z w;have⟨E1,E2⟩:=A4b (z:=z) (b':=b') hU hW hx hI (by rw[<- l];exact ag) w an;rw[E1]at a
  have ay:(!decide ((b':Int)=0))=decide (U<g*W):=by
   rw[M1];simp only[Jw,decide_eq_false_iff_not,decide_eq_true_iff];omega
  obtain⟨bz,a9⟩:∃bz:Int,(b':Int)=bz:=⟨_,rfl⟩;rw[a9]at i ay;rw[<- ay];generalize Mi pre k U post (k+1) (Am3 k U (g*W))=fin at a|-;have aa:off+k<(Mi pre k U post k x).length:=by rw[ai];omega
  generalize Mi pre k U post k x=ro at e a aa|-;clear ai ad E1 hI l ag;have m:(k:Int)<(k:Int)+1:=om;refine A6 (Y [0,1,13] [d] Du (Y [13] [d] Du (Y [6] [d] (by simp[i]<;>rfl) ?_)))
  refine Ao (Apn sy ?_ (λk o hk=>B5 ?_ hk))
  .simp[results237]
  .simp
def Ba4(d v off:Nat)(pre post:List V)(n U W:Nat)(ho:pre.length=off)(hn:n<=1099511627776)(hU:U<4294967296^(n+1))(hW:W<4294967296^n):
  Qv prog 238 [.ss d v 1 off (n+1),.ro 1 (A2 (Cj n W))] [(d,⟨v,1,164,Mi pre n U post 0 0⟩)] (λr q=>r=.tup []/\q= [(d,⟨v,1,164,Mi pre n U post (n+1) ((U+W)%4294967296^(n+1))⟩)]) (λ_ =>False):=by
 have ag:=λk(h:k<n)=>Aam (v:=W) h
 have aa:(A2 (Cj n W)).length=n:=sm;generalize A2 (Cj n W)=wv at ag aa;refine Ec func238 λw0 N0 au=>?_;refine Y [0,1,4] [d] sr (J (Y [0,1,4,8,9,10] [d] Du (Ah ?_)))
 refine C3 (λp:Nat × Nat × Nat × Nat=>⟨[(0,.ss d v 1 off (n+1)),(1,.ro 1 wv),(4,.int .u64 p.2.2.1),(8,.ro 1 wv),(9,.i n),(10,.i p.1)],[(d,⟨v,1,164,Mi pre n U post p.1 p.2.1⟩)],p.2.2.2,42⟩)
  (λp=>p.1<=n/\p.2.1<4294967296^p.1/\p.2.2.1<=1/\p.2.1+4294967296^p.1*p.2.2.1=U%4294967296^p.1+W%4294967296^p.1/\au<=p.2.2.2) (λp=>n-p.1) (0,0,0,_) ⟨by simp,by simp,by simp,by simp[Sn],by simp only;omega⟩ Z ?_
 rintro⟨k,x,c,nx⟩⟨hk,hx,hc,hI,a0⟩;simp only at hk hx hc hI a0;refine Y [0,1,4,8,9,10,11] [d] sr (J ?_);have e:=Ap1 (pre:=pre) (post:=post) (U:=U) (x:=x) hk;have w:=Agg (pre:=pre) (post:=post) (U:=U) (x:=x) (show k<=n+1 by omega);have j:=λz(hz:z<4294967296)=>Ap2 (pre:=pre) (post:=post) (U:=U) hk hx hz
 rw[ho]at e j;have ak:U/4294967296^k%4294967296<4294967296:=Dc _ dc
 refine Cu (λh1=>?_) λh1=>?_
 .have ae:k<n:=by simp at h1;omega
  have aq:=ag k ae;have ar:W/4294967296^k%4294967296<4294967296:=Dc _ dc;obtain⟨wk,ah⟩:∃y,y=W/4294967296^k%4294967296:=⟨_,rfl⟩;obtain⟨l,f⟩:∃y,y=U/4294967296^k%4294967296:=⟨_,rfl⟩;rw[<- ah]at aq ar;rw[<- f]at e ak;obtain⟨m1,aw,ab⟩:∃z:Int,IntKind.u64.wrap ((l:Int)+(wk:Int))=z/\z=((l+wk:Nat):Int):=⟨_,rfl,by rw[<- Dy];exact wrap_u64 om⟩;obtain⟨p,hp,ad⟩:∃z:Int,IntKind.u64.wrap (m1+(c:Int))=z/\z=((l+wk+c:Nat):Int):=⟨_,rfl,by rw[ab,<- Dy];exact wrap_u64 om⟩;obtain⟨c',av,ay⟩:∃z:Nat,p.fdiv (2^min 32 IntKind.u64.bits)=z/\z=(l+wk+c)/4294967296:=⟨_,by rw[ad];exact Aak _,rfl⟩;obtain⟨z,hz,t⟩:∃z:Nat,IntKind.u32.wrap p=z/\z=(l+wk+c)%4294967296:=⟨_,by rw[ad];exact wrap_u32 _,rfl⟩;have a1:c'<=1:=om;have s:z<4294967296:=om;have am:IntKind.u64.wrap (l:Int)=l:=wrap_u64 om;have al:IntKind.u64.wrap (wk:Int)=wk:=wrap_u64 om;have a:=j z s;have af:=A4a hx s;have g:=A3s (x:=x) (v:=W) (u:=U) (P:=4294967296^k) (c:=c) (y:=z) (c':=c') hI (by rw[<- ah,<- f];omega);rw[<- Ce]at g af;obtain⟨x',ao⟩:∃x',x'=x+4294967296^k*z:=⟨_,rfl⟩;rw[<- ao]at a g af;obtain⟨k1,ai⟩:∃k1:Int,IntKind.i64.wrap ((k:Int)+1)=k1:=⟨_,rfl⟩;have ax:k1=((k+1:Nat):Int):=by rw[<- ai,(A5 (k:=k) om)]
  have az:(k:Int)<n:=om;have m:(k:Int)<(n:Int)+1:=om;clear ah f t ay ao ab ad hI j ag;have i:off+k<(Mi pre n U post k x).length:=by rw[w];omega
  generalize Mi pre n U post k x=ro at e a i|-;clear w;refine J (Ah (Y [0,1,4,5,6,8,9,10] [d] Du (Y [0,1,5,7,8,9,10] [d] Du (Y [0,1,7,8,9,10] [d] Du (Ba [0,1,4,8,9,10] [d] Du (Ba [0,1,4,8,9,10] [d] Du ?_))))));refine⟨(k+1,x',c',_),⟨by simp only;omega,af,a1,g,?_⟩,by simp only;omega,by simp only[ax];exact Z⟩;simp only;omega
 .have ae:k=n:=by simp at h1;omega
  subst ae;obtain⟨l,f⟩:∃y,y=U/4294967296^k%4294967296:=⟨_,rfl⟩;rw[<- f]at e ak;obtain⟨z,hz,t⟩:∃z:Nat,IntKind.u32.wrap ((l:Int)+(c:Int))=z/\z=(l+c)%4294967296:=⟨_,by rw[<- Dy];exact wrap_u32 _,rfl⟩;have s:z<4294967296:=om;have an:IntKind.u32.wrap (c:Int)=c:=by rw[wrap_u32];omega
  have a:=j z s;have E1:=A4c (z:=z) hU hW hx hI (by rw[<- f];exact t);rw[E1]at a;generalize Mi pre k U post (k+1) _ =fin at a|-;have i:off+k<(Mi pre k U post k x).length:=by rw[w];omega
  generalize Mi pre k U post k x=ro at e a i|-;clear w j E1 hI f t;have m:(k:Int)<(k:Int)+1:=om;refine A6 (Ba [] [d] Du ?_);exact⟨by simp only;omega,.tup [],[(d,⟨v,1,164,fin⟩)],by simp[results238],λk o hk=>B5 gt hk,rfl,rfl⟩
def Bfv(n A s:Nat)(d:n<=1099511627776)(hs:s<32)(c:A<4294967296^n):AE 235 [.ro 1 (A2 (Cj n A)),.i s] (.ro 1 (A2 (Cj (n+1) (A*2^s)))):=by
 refine(Awo n A s d hs c).ac (λF es⟨hF,he⟩=>⟨_,?_,rfl⟩);subst hF he;have hp:=Aj (Cj (n+1) (A*2^s));have a:(A2 (Cj (n+1) (A*2^s))).length=n+1:=sm;generalize A2 (Cj (n+1) (A*2^s))=r at hp a|-;simp[AS.viewT,AS.view,AS.elems,AS.viewC,hp,a,Eng.get]
def Aua(m n A W:Nat)(hn:2<=n)(hm:m<=1099511627776)(cu:n<=m)(hA:A<4294967296^m)(ag:4294967296^(n-1)<=W)(hW:W<4294967296^n):
  AE 180 [.ro 1 (A2 (Cj m A)),.ro 1 (A2 (Cj n W))] (.tup [.ro 1 (A2 (B2 (A/W))),.ro 1 (A2 (B2 (A%W)))]):=by
 obtain⟨k,rfl⟩:∃k,n=k+1:=⟨n-1,by omega⟩;rw[Na]at ag;have aj:(A2 (Cj m A)).length=m:=sm;have bh:(A2 (Cj (k+1) W)).length=k+1:=sm;have af:=Aam (k:=k+1) (v:=W) (i:=k) om;have a7:=N6 k
 have a4:W/4294967296^k<4294967296:=by
  rw[C9 a7,Bh,<- Ce];exact hW
 rw[Bm a4]at af;have ay:W/4294967296^k≠0:=by have:=Nat.div_pos ag a7;omega
 obtain⟨t,ht⟩:∃t,t=W/4294967296^k:=⟨_,rfl⟩;rw[<- ht]at af a4 ay;have c:=Azv t a4;have b9:=Qz ay;have b2:=Acs t;obtain⟨s,hs⟩:∃s,s=32-bitLen t:=⟨_,rfl⟩
 have cv:1<=bitLen t/\bitLen t<=32:=by
  constructor
  .rw[bitLen,I ay];omega
  .rcases Cl 32 (bitLen t)with h|h
   .have:2^32<=2^(bitLen t-1):=Dz dc om;omega
   .exact h
 rw[<- hs]at c;have y:s<32:=om
 have be:2147483648<=t*2^s:=by
  have h1:2^(bitLen t-1)*2^s=2147483648:=by rw[<- Gi,show bitLen t-1+s=31 by omega]
  rw[<- h1];exact Bz _ b9
 have bt:t*2^s<4294967296:=by
  have h1:2^bitLen t*2^s=4294967296:=by rw[<- Gi,show bitLen t+s=32 by omega]
  rw[<- h1];exact Ge b2 (Fy dc)
 have⟨aq,a⟩:=A3u (n:=k) ht be bt om;have aa:=Bfv (k+1) W s om y hW;have ai:=Awo m A s hm y hA;have a2:0<2^s:=Fy dc
 have cx:2^s<=2147483648:=by
  have:2^s<=2^31:=Dz dc om;exact this
 have ao:0<W:=Cd a7 ag;obtain⟨V,hV⟩:∃V,V=W*2^s:=⟨_,rfl⟩;obtain⟨R0,a6⟩:∃R0,R0=A*2^s:=⟨_,rfl⟩;rw[<- hV]at aq a aa;rw[<- a6]at ai;have a8:0<V:=by rw[hV];exact Nat.mul_pos ao a2
 have cf:R0<V*4294967296^(m-k):=by
  have e:4294967296^m=4294967296^k*4294967296^(m-k):=by rw[<- Gi,show k+(m-k)=m by omega]
  rw[a6,hV];have h1:A*2^s<4294967296^k*4294967296^(m-k)*2^s:=by rw[<- e];exact Ge hA a2
  have h2:4294967296^k*4294967296^(m-k)*2^s<=W*4294967296^(m-k)*2^s:=Bz _ (Bz _ ag);rw[Rt W]at h2;exact Cd h1 h2
 have f:(A2 (Cj (k+1+1) V)).take (k+1)=A2 (Cj (k+1) V):=Awk om;have bj:(A2 (Cj (k+1+1) V)).length=k+2:=sm;have aw:=Aj (Cj m A);have ar:=Aj (Cj (k+1) W);have b3:=Aj (Cj (k+1) V);generalize A2 (Cj (k+1) W)=bv at bh af aa ar;generalize A2 (Cj m A)=av at aj ai aw;generalize ck:A2 (Cj (k+1+1) V)=b4 at aa f bj;obtain⟨i1,a1,bs⟩:∃x:Int,IntKind.i64.wrap (((k+1:Nat):Int)-1)=x/\x=(k:Int):=⟨_,rfl,by rw[Bp om oM];omega⟩;obtain⟨N,hN⟩:∃N:Int,N=((k+1:Nat):Int):=⟨_,rfl⟩;rw[<- hN]at a1;have l:((bv.length:Nat):Int)=N:=om;have b1:0<=i1/\i1<N:=om;have n1:i1.toNat=k:=om;have bf:N.toNat=k+1:=om;have ba:0<=N/\N<=((b4.length:Nat):Int):=om;obtain⟨q0,br,cm⟩:∃x:Int,IntKind.i64.wrap ((m:Int)-N)=x/\x=((m-(k+1):Nat):Int):=⟨_,rfl,by rw[Bp om oM];omega⟩;obtain⟨q1,cl,cp⟩:∃x:Int,IntKind.i64.wrap (q0+1)=x/\x=((m-k:Nat):Int):=⟨_,rfl,by rw[Bp om oM];omega⟩;have ci:4*q1<=281474976710656:=om;have bx:q1<=9223372036854775807:=om;have b8:0<=q1:=om;have b7:q1.toNat=m-k:=om;refine Aq func180 λw0 N0=>?_;refine Y [0,1] [] sr (Bn 6 (by simp[l,a1,b1,n1,af]<;>rfl) ?_);refine Ac c func234 ?_;refine Aa [0,1,6] [] sr ?_;refine Bn 2 sr ?_;refine Ac aa func235 ?_;refine Aa [0,1,6,7] [] (by simp[l,ba,bf,f]<;>rfl) ?_;refine Bn 2 sr ?_;refine M5 28 ai func235 rfl kr rfl rfl rfl sr (by simp[AS.views,AS.view,AS.viewC]<;>rfl) sr ?_;refine Aa [0,1,6,7,8] [28] sr ?_;refine Y [0,6,7,8,9] [28] (by simp[l]<;>rfl) (Y [0,6,7,8,9,10] [28,36] (by simp[aj,br,cl,ci,bx,b8]<;>rfl) (J (Y [6,7,8,9,10,11] [28,36] (by simp[aj,br]<;>rfl) ?_)));rw[b7];refine Ah ?_;clear af aa ai c bj f ba a1 bs b1 n1 aw ar aj bh l
 refine C3 (λp:Nat × Nat × Nat × Nat=>⟨[(6,.i s),(7,.ro 1 (A2 (Cj (k+1) V))),(8,.sl 28 19 1 (m+1)),(9,.i N),(10,.sl 36 29 1 (m-k)),(11,.i ((p.1:Int)-1))],[(28,⟨19,1,164,A2 (Cj (m+1) p.2.2.1)⟩),(36,⟨29,1,164,Aaq (m-k) p.1 p.2.1⟩)],p.2.2.2,88⟩)
  (λp=>p.1<=m-k/\p.2.2.1<V*4294967296^p.1/\A*2^s=p.2.1*4294967296^p.1*V+p.2.2.1) (λp=>p.1) (m-k,0,R0,_) ⟨A7 _,cf,by simp only[Ma,Dq];exact a6.symm⟩ (by
   have e:q0=((m-k:Nat):Int)-1:=om;simp only[<- e,A4e];exact Z) ?_
 rintro⟨i,Q,R,nx⟩⟨hi,hR,hI⟩;simp only at hi hR hI;refine J ?_;cases i with
 |zero=>
  rw[Uv,Gq]at hR hI;rw[hV]at hI hR;have⟨E1,E2⟩:=Bam a2 ao hI hR;have hq:=Ig (Cj (m-k) Q) (O9 _ _)
  have bw:Q<4294967296^(m-k):=by
   rw[E1,C9 ao];have e:4294967296^m=4294967296^(m-k)*4294967296^k:=by rw[<- Gi,show m-k+k=m by omega]
   rw[e]at hA;exact Cd hA (Eo _ ag)
  rw[show Bf (Cj (m-k) Q)=A/W by rw[Th,Bm bw,E1]]at hq;have ah:R<4294967296^(k+1):=by rw[<- hV]at hR;exact Uu hR a
  have b6:=Bfs (k+1) R s om y ah;have bd:=Ig (Cj (k+1) (R/2^s)) (O9 _ _);rw[show Bf (Cj (k+1) (R/2^s))=A%W by rw[Th,Bm (Fl (G7 _ _) ah),E2]]at bd;have bc:=Awk (m:=m) (n:=k+1) (R:=R) om;have ae:(A2 (Cj (m+1) R)).length=m+1:=sm;have bo:=Aj (Cj (m+1) R);have a3:=Aj (Cj (m-k) Q);have an:(A2 (Cj (m-k) Q)).length=m-k:=sm;have cd:=Aj (Cj (k+1) R);have ca:=Aj (Cj (k+1) (R/2^s));have b5:0<=N/\N<=(m:Int)+1:=om;simp only[Azs];refine Y [6,7,8,9,10,11,42] [28,36] sr ?_;refine A0 rfl sA λh1=>?_;refine A6 ?_;generalize A2 (Cj (m-k) Q)=qv at hq a3 an|-
  have bp:(A2 (Cj (m+1) R)).map (Go.Eng.V.frz 36 29 1 qv)=A2 (Cj (m+1) R):=by
   simp only[A2,Mb];rfl
  generalize A2 (Cj (m+1) R)=rv at ae bo bc bp|-;refine Bw 36 [6,8,9,10] [28] (by simp[a3,an,Eng.get]<;>rfl) ?_;rw[bp];refine Bw 28 [6,8,9,10] [] (by simp[bo,ae,Eng.get]<;>rfl) (J (Di [(0,[]),(1,[]),(2,[]),(3,[]),(4,[]),(5,[]),(6,[]),(7,[]),(8,[]),(9,[])] Eb kr ?_));refine Ci 1 sr ?_;refine B4 (λhg=>hq) func69 ?_;refine Ci 4 (by simp[b5,bf,ae,bc]<;>rfl) ?_;refine B4 (λhg=>b6) func239 ?_;refine B4 (λhg=>bd) func69 ?_;refine Dj [4,5] [] sr ?_;exact By sr rfl
 |succ j=>
  have hP:=N6 j;rw[Ce]at hR hI;obtain⟨u,hu⟩:∃u,u=R/4294967296^j:=⟨_,rfl⟩;obtain⟨q,hq⟩:∃q,q=u/V:=⟨_,rfl⟩;have⟨D1,D2,D3,D4,D5⟩:=A3v hP a8 hR hu hq;obtain⟨w,hw⟩:∃w,w=u-q*V:=⟨_,rfl⟩;rw[<- hw]at D4 D5;obtain⟨R',bu⟩:∃R',R'=w*4294967296^j+R%4294967296^j:=⟨_,rfl⟩;rw[<- bu]at D4 D5;have cb:=Bas hI D4
  have a0:u<4294967296^(k+1+1):=by
   have:V*4294967296<=4294967296^(k+1)*4294967296:=Bz _ (H8 a);rw[<- Ce]at this;exact Cd D1 this
  have bl:j+(k+1)<=m:=om;have z:=Bfp (m:=m) (n:=k+1) (j:=j) (R:=R) bl
  have ah:R<4294967296^(j+(k+1+1)):=by
   have h1:V*(4294967296^j*4294967296)<=4294967296^(k+1)*(4294967296^j*4294967296):=Bz _ (H8 a);have h2:4294967296^(k+1)*(4294967296^j*4294967296)=4294967296^(j+(k+1+1)):=by rw[<- Ce,<- Gi];congr 1;omega
   rw[h2]at h1;exact Cd hR h1
  have cg:w<4294967296^(k+1+1):=Fl (by rw[hw];exact Zr _ _) a0;have g:=λU=>Bap (m:=m) (n:=k+1) (j:=j) (R:=R) (U:=U) bl cg ah
  rw[<- bu]at g;rw[<- hu]at z;obtain⟨d,hd⟩:∃d,d=Bft (k+1) u V:=⟨_,rfl⟩;have al:=Bfu (k+1) u V hn om aq a a0;rw[<- hd]at al;have⟨F1,F2⟩:=Atx (n:=k+1) hn aq a D1 d hd;have ax:(A2 (Cj j R)).length=j:=sm;have ad:=Azr (pre:=A2 (Cj j R)) (post:=Aap m (k+1) j R) (n:=k+1) (U:=u);have ae:=Agg (pre:=A2 (Cj j R)) (post:=Aap m (k+1) j R) (n:=k+1) (U:=u) (x:=0) (show 0<=k+1+1 by omega);have am:(A2 (Cj (m+1) R)).length=m+1:=sm;rw[z]at am;rw[ax]at ad ae;have bn:=Ba3 28 19 j (A2 (Cj j R)) (Aap m (k+1) j R) (k+1) u V d ax om a0 a F1;have bm:=λU hU=>Ba4 28 19 j (A2 (Cj j R)) (Aap m (k+1) j R) (k+1) U V ax om hU a
  have ak:=λU x=>At2 (pre:=A2 (Cj j R)) (post:=Aap m (k+1) j R) (n:=k+1) (U:=U) (w:=x)
  have bz:=Aj (Cj (k+1+1) u);simp only[];rw[z];have e1:((j+1:Nat):Int)-1=(j:Int):=om;rw[e1];obtain⟨j1,au,cn⟩:∃x:Int,IntKind.i64.wrap ((j:Int)+N)=x/\x=((j+(k+1):Nat):Int):=⟨_,rfl,by rw[Bp om oM];omega⟩;obtain⟨j2,az,cr⟩:∃x:Int,IntKind.i64.wrap (j1+1)=x/\x=((j+(k+1)+1:Nat):Int):=⟨_,rfl,by rw[Bp om oM];omega⟩;have c1:(j:Int)<=j2/\j2<=(m:Int)+1:=om;have c2:j2.toNat-j=k+1+1:=om;have c3:j+(k+1+1)<=m+1:=om;refine Y [6,7,8,9,10,11,42] [28,36] sr ?_;refine A0 rfl (λh1=>Ae ?_) sA;refine J (Ah (Bn 8 (by simp[au,az,c1,c2]<;>rfl) ?_));refine Afu al func236 rfl kr rfl rfl rfl sr (by simp[AS.views,AS.view,AS.elems,Eng.get,am,c3,ad,bz]) rfl sr ?_;refine Aa [6,7,8,9,10,11,12] [28,36] sr ?_;have cj:∀x:Nat,x<4294967296->IntKind.u32.wrap (x:Int)=x:=λx h=>by rw[wrap_u32];omega
  have bg:=cj q D2;have cz:V=V:=rfl
  refine Aac (λp:Nat=>⟨[(6,.i s),(7,.ro 1 (A2 (Cj (k+1) V))),(8,.sl 28 19 1 (m+1)),(9,.i N),(10,.sl 36 29 1 (m-k)),(11,.i j),(12,.int .u64 q)],[(28,⟨19,1,164,A2 (Cj (m+1) R')⟩),(36,⟨29,1,164,Aaq (m-k) (j+1) Q⟩)],p,88⟩) (λp=>True) ?_ ?_
  .refine Bn 9 (by simp[au,az,c1,c2]<;>rfl) ?_;refine D0 bn func237 rfl kr rfl rfl rfl sr (λk o hk=>B5 gt hk) ?_ λch a5=>a5.elim;rintro r bk ct⟨rfl,rfl⟩cq;refine⟨λk hk=>Jq hk,_,by simp<;>rfl,?_⟩;refine Aa [6,7,8,9,10,11,12,63] [28,36] sr ?_
   rcases F2 with F2|F2
   .have⟨G1,G2⟩:=Baq (n:=k+1) (w:=w) a8 F2 (by rw[hw,hq]);rw[G2,g];refine A0 rfl (λh2=>by simp at h2;exact absurd h2 G1) λh2=>Ae ?_;have a9:d=q:=by rw[F2,hq]
    rw[a9];exact⟨_,trivial,N4 [6,7,8,9,10,11,12] [28,36] rfl rfl rfl (A7 _)⟩
   .have⟨G1,G2,G3,G4⟩:=Bar (n:=k+1) (w:=w) a8 a F2 (by rw[hw,hq]);have ab:=bm _ G2;rw[G3,g]at ab;rw[ak];have a9:d=q+1:=by rw[F2,hq]
    have wd:IntKind.u64.wrap ((d:Int)-1)=(q:Int):=by rw[show(d:Int)-1=(q:Int)by omega];exact wrap_u64 om
    refine A0 rfl (λh2=>?_) (λh2=>by simp at h2;omega);refine Y [6,7,8,9,10,11,12] [28,36] (by simp[wd]<;>rfl) (Mr 8 (by simp[au,az,c1,c2]<;>rfl) ?_);refine D0 ab func238 rfl kr rfl rfl rfl sr (λk o hk=>B5 gt hk) ?_ λch a5=>a5.elim;rintro r bk cy⟨rfl,rfl⟩co;refine⟨λk hk=>Jq hk,_,by simp<;>rfl,?_⟩;refine Aa [6,7,8,9,10,11,12] [28,36] sr ?_;exact⟨_,trivial,Z⟩
  rintro cw -;have bi:A*2^s=(Q*4294967296+q)*4294967296^j*V+R':=cb;obtain⟨Q',ce⟩:∃Q',Q'=Q*4294967296+q:=⟨_,rfl⟩;have bq:=A4g (M:=m-k) (i:=j) (Q:=Q) hi D2;have b0:=A4f (M:=m-k) (i:=j) (Q:=Q);have cc:=A4d (M:=m-k) (i:=j+1) (Q:=Q) hi;rw[<- ce]at bq bi;have Ee:IntKind.i64.wrap ((j:Int)-1)=(j:Int)-1:=Bp om om;have c0:(j:Int)<((m-k:Nat):Int):=om;have bb:j<m-k:=om;refine Ba [6,7,8,9,10,11] [28,36] (by simp[bb,b0,bg,bq]<;>rfl) (Cw [] (by simp[Ee]<;>rfl) ?_);exact⟨(j,Q',R',_),⟨by simp only;omega,by rw[Bh V]at*;simpa[Bh]using D5,bi⟩,by simp,Z⟩
variable {b:Nat}
def Vt(n:Nat):V:=.ro 1 (A2 (B2 n))
def Am7(a b:Nat):V:=if b=0 then .tup [.ro 1 [],.ro 1 [],.bool false]else .tup [Vt (a/b),Vt (a%b),.bool true]
def A4s(h:(B2 b).length=1):B2 b= [b]/\b<4294967296/\b≠0:=by
 have h1:=Ko b;have h2:=Xa 0 b h;rw[h]at h1;simp only[Nat.pow_one,Uv]at h1 h2;have a:b≠0:=om;refine⟨?_,h1,a⟩;rw[Lh a,Bm h1,Gj h1,Et]
def Tm(i l2:List Nat)(h1:El i)(h2:El l2)(af:i.length<=1099511627776):AE 120 [.ro 1 (A2 i),.ro 1 (A2 l2)] (Am7 (Bf i) (Bf l2)):=by
 refine AC.relaxP ?_;have ad:=Ig i h1;have x:=Ig l2 h2;have g:=Ag (Ql i h1) af;have y:=Aj i;have s:=Aj l2;obtain⟨a,ha⟩:∃a,a=Bf i:=⟨_,rfl⟩;obtain⟨b,hb⟩:∃b,b=Bf l2:=⟨_,rfl⟩;rw[<- ha]at ad g|-;rw[<- hb]at x|-;clear ha hb;have k:=Acr _ _ (Cp a) (Cp b);rw[C4,C4]at k;have n:=Aas (B2 a) (Cp a) g;rw[C4]at n;have f:=Aj (B2 a);have l:=Aj (B2 b);have m:(A2 (B2 b)).length=(B2 b).length:=sm;refine Aq func120 λw0 N0=>?_;refine Y [0,1] [] sr (J (Ak (Ay 1 sr ?_)));refine Ac ad func69 ?_;refine Ay 1 sr (Ac x func69 ?_);obtain⟨bv,c⟩:∃bv,bv=A2 (B2 b):=⟨_,rfl⟩;obtain⟨av,e⟩:∃av,av=A2 (B2 a):=⟨_,rfl⟩;rw[<- e,<- c]at k;rw[<- e]at n f;rw[<- c]at l m;rw[<- e,<- c];refine Aa [0,1] [] sr (J (A9 [17] (by simp[m]<;>rfl) ?_))
 refine Au (λh3=>?_) λh3=>Ae ?_
 .have j:b=0:=by
   have:(B2 b).length=0:=by simp at h3;simp[h3]
   exact Vn.1 (Am.1 this)
  refine Y [4,5,6] [] sr ?_;refine Ao (Ab sr ?_);rw[Am7,Ad j];exact Bj.tup (.cons (nils_ro 1) (.cons (nils_ro 1) (.cons (Bj.refl _) .nil)))
 have u:(B2 b).length≠0:=by intro h;rw[Am]at h;simp[h]at h3
 have j:b≠0:=by rintro rfl;rw[Et]at u;simp at u
 have ab:Am7 a b=.tup [Vt (a/b),Vt (a%b),.bool true]:=by rw[Am7,I j]
 rw[ab];refine J (J (Ak (Ay 2 sr ?_)));refine Ac k func36 ?_;refine Aa [0,1,21] [] sr ?_
 refine Au (λh4=>?_) λh4=>Ae ?_
 .have z:a<b:=by simpa[Aat]using h4
  refine J (Ak (Ay 1 sr ?_));refine Ac n func178 ?_;refine Aa [4,5,6] [] sr ?_;refine Ao (Ab sr ?_);rw[Gj z,Bm z,Vt,Vt,Et,<- e];exact Bj.tup (.cons (nils_ro 1) (.cons (Bj.refl _) (.cons (Bj.refl _) .nil)))
 have ai:b<=a:=by simpa[Aat]using h4
 refine J (Y [0,1,26] [] (by simp[m]<;>rfl) ?_)
 refine Au (λh5=>?_) λh5=>Ae ?_
 .have ae:(B2 b).length=1:=by simp at h5;omega
  have⟨ah,ak,_⟩:=A4s ae;have d:=At9 (B2 a).length a b (Ko a) om ak g;rw[<- Qx,<- e]at d;rw[ah]at c;have al:Hj bv 0=some (.int .u32 b):=by rw[c];rfl
  have o:bv.length=1:=by rw[c];rfl
  have t:a%b<18446744073709551616:=by have:=Dc a (show 0<b by omega);omega
  have aa:=Agl (a%b) t;have hw:IntKind.u64.wrap ((a%b:Nat):Int)=((a%b:Nat):Int):=wrap_u64 t;show AW _ _ _ _ _ _
  have am:=Aj (B2 (a/b));obtain⟨md,ag⟩:∃md:Int,md=((a%b:Nat):Int):=⟨_,rfl⟩;rw[<- ag]at d aa hw;refine J (Ak (Ay 4 (by simp[al,o]<;>rfl) ?_));refine Ac d func179 ?_;refine Aa [7,8] [] sr ?_;refine J (Ak (Ay 3 (by simp[hw]<;>rfl) ?_));refine Ac aa func160 ?_;refine Aa [4,5,6] [] sr ?_;refine Ao (Ab sr ?_);exact Bj.refl _
 have aj:2<=(B2 b).length:=by
  have:(B2 b).length≠1:=by intro h;simp[h]at h5
  omega
 have w:(B2 b).length<=(B2 a).length:=Fg (Fl ai (Ko _));have d:=Aua (B2 a).length (B2 b).length a b aj g w (Ko a) (Xa _ _ om) (Ko b);rw[<- Qx,<- Qx,<- e,<- c]at d;refine J (Ak (Ay 2 sr ?_));refine Ac d func180 ?_;refine Aa [9,10] [] sr ?_;refine Y [4,5,6] [] sr ?_;refine Ao (Ab sr ?_);exact Bj.refl _
def Acu{a:Nat}(h:a<=b):(B2 a).length<=(B2 b).length:=Fg (Fl h (Ko b))
def Azx(n:Nat):(Vt n).pureV=true:=by simpa[Vt]using Aj (B2 n)
def A4t(d l2:List Nat)(h1:El d)(h2:El l2)(j:d.length<=1099511627776)(g:l2.length<=1099511627776):AE 119 [.ro 1 (A2 d),.ro 1 (A2 l2)] (Vt (Nat.gcd (Bf d) (Bf l2))):=by
 have t:=Aas d h1 j;have k:=Aas l2 h2 g;have s:=Ag (Ql d h1) j;have m:=Ag (Ql l2 h2) g;have n:=Aj d;have h:=Aj l2;generalize Bf d=a at t s|-;generalize Bf l2=b at k m|-;refine Aq func119 λw0 N0=>?_;refine Y [0,1] [] sr (Bn 1 sr ?_);refine Ac t func178 ?_;refine Ay 1 sr (Ac k func178 ?_);refine Aa [0,1] [] sr (J (Ah (C3 (λp:Nat × Nat × Nat=>⟨[(0,.ro 1 (A2 (B2 p.1))),(1,.ro 1 (A2 (B2 p.2.1)))],[],p.2.2,25⟩) (λp=>(B2 p.1).length<=1099511627776/\(B2 p.2.1).length<=1099511627776/\Nat.gcd p.1 p.2.1=Nat.gcd a b) (λp=>p.2.1) (a,b,_) ⟨s,m,rfl⟩ Z ?_)));rintro⟨x,y,nx⟩⟨hx,w,u⟩;simp only at hx w u;have c:=Tm (B2 x) (B2 y) (Cp x) (Cp y) hx;rw[C4,C4]at c;have l:=Aj (B2 x);have i:=Aj (B2 y);have e:(A2 (B2 y)).length=(B2 y).length:=sm;show AW _ _ _ _ _ ⟨[(0,.ro 1 (A2 (B2 x))),(1,.ro 1 (A2 (B2 y)))],[],nx,25⟩
 generalize z:A2 (B2 x)=xv at c l|-;generalize aa:A2 (B2 y)=yv at c i e|-;refine J (Y [0,1,14] [] Du ?_)
 refine Cu (λh1=>?_) λh1=>?_
 .have f:y≠0:=by rintro rfl;rw[Et]at h1;simp at h1
  have o:=Dc x (show 0<y by omega);rw[Am7,I f,Vt,Vt]at c;refine Ah (Bn 2 sr ?_);refine Ac c func120 ?_;refine Aa [1,6] [] sr (Ba [0,1] [] sr ?_);refine⟨(y,x%y,_),⟨w,Ag (Acu (H8 o)) w,?_⟩,o,by simp only[aa];exact Z⟩;simp only;rw[<- u,Nat.gcd_comm y,<- Nat.gcd_rec,Nat.gcd_comm]
 .have f:y=0:=by
   have:(B2 y).length=0:=by simp at h1;simp[h1]
   exact Vn.1 (Am.1 this)
  subst f;rw[Nat.gcd_zero_right]at u;refine A6 (Y [4] [] sr ?_);refine By sr ?_;rw[<- u,Vt,z]
def Am8(h:(B2 n).length=k+1):bitLen n=32*k+bitLen (n/4294967296^k):=by
 have h1:=Xa k n h;have e:4294967296^k=2^(32*k):=by rw[Nat.pow_mul]
 rw[e]at h1|-;exact Y0 h1
def Awp(l:List Nat)(h:El l)(hs:l.length<=1099511627776):AE 250 [.ro 1 (A2 l)] (.i (bitLen (Bf l):Nat)):=by
 have j:=Ig l h;have hl:=Ag (Ql l h) hs;have ad:=Aj l;generalize Bf l=n at j hl|-;have a:(A2 (B2 n)).length=(B2 n).length:=sm;refine Aq func250 λw0 N0=>?_;refine Y [0] [] sr (J (Ak (Ay 1 sr ?_)));refine Ac j func69 ?_;obtain⟨w,o⟩:∃w,w=A2 (B2 n):=⟨_,rfl⟩;rw[<- o]at a|-;refine Aa [0] [] sr (J (A9 [7] (by simp[a]<;>rfl) ?_))
 refine Au (λh1=>?_) λh1=>Ae ?_
 .have ab:n=0:=by
   have:(B2 n).length=0:=by simp at h1;simp[h1]
   exact Vn.1 (Am.1 this)
  refine Y [2] [] sr (Ao (Ab sr ?_));rw[ab];rfl
 have ae:(B2 n).length≠0:=by intro h;rw[Am]at h;simp[h]at h1
 obtain⟨k,y⟩:∃k,(B2 n).length=k+1:=⟨(B2 n).length-1,by omega⟩;have c:=Am8 y;have d:=Ko n;rw[y]at d a hl
 have e:n/4294967296^k<4294967296:=by
  rw[C9 (N6 k),Bh,<- Ce];exact d
 have x:=Aam (k:=k+1) (v:=n) (i:=k) om;rw[Bm e,<- y,<- Qx,<- o]at x;obtain⟨t,j⟩:∃t,t=n/4294967296^k:=⟨_,rfl⟩;rw[<- j]at e x c;have s:=Ap4 t e
 have g:bitLen t<=32:=by
  rcases Cl 32 (bitLen t)with h|h
  .have h0:t≠0:=by rintro rfl;revert h;decide
   have:=Qz h0;have:2^32<=2^(bitLen t-1):=Dz dc om;omega
  .exact h
 clear d j;generalize bitLen t=z at s c g;rw[c];have w1:IntKind.i64.wrap ((w.length:Int)-1)=(k:Int):=by rw[Bp om oM];omega
 obtain⟨m,hm,af⟩:∃m:Int,IntKind.i64.wrap (32*(k:Int))=m/\m=((32*k:Nat):Int):=⟨_,rfl,by rw[Bp om oM];omega⟩;have w3:IntKind.i64.wrap (m+(z:Int))=((32*k+z:Nat):Int):=by rw[Bp om oM];omega
 have aa:k<w.length:=om;obtain⟨fin,u⟩:∃f:Int,f=((32*k+z:Nat):Int):=⟨_,rfl⟩;rw[<- u]at w3|-;refine J (Ak (Ay 10 (by simp[w1,hm,aa,x]<;>rfl) ?_));refine Ac s func232 ?_;refine Aa [2] [] (by simp[w3]<;>rfl) ?_;exact Ao (Ab sr rfl)
def Be3(x:Nat)(hx:x<4294967296):bits .or .u64 0 (IntKind.u64.wrap ((x:Int)*2^min (0:Int).toNat IntKind.u64.bits))=(x:Int):=by
 have e:IntKind.u64.wrap ((x:Int)*2^min (0:Int).toNat IntKind.u64.bits)=(x:Int):=by
  show IntKind.u64.wrap ((x:Int)*1)=_
  rw[IntKind.wrap_u64];omega
 rw[e,show(0:Int)=((0:Nat):Int)from rfl,Xb 0 x ⟨by omega,by omega⟩];simp
def Bit(x y:Nat)(hx:x<4294967296)(hy:y<4294967296):bits .or .u64 (x:Int) (IntKind.u64.wrap ((y:Int)*2^min (32:Int).toNat IntKind.u64.bits))=((x+y*4294967296:Nat):Int):=by
 have e:IntKind.u64.wrap ((y:Int)*2^min (32:Int).toNat IntKind.u64.bits)=((y*4294967296:Nat):Int):=by
  show IntKind.u64.wrap ((y:Int)*4294967296)=_
  rw[IntKind.wrap_u64];omega
 rw[e,Xb x (y*4294967296) ⟨by omega,by omega⟩,Wq,Bh];have:=Hh (i:=32) (b:=x) om y;simp only[show(2:Nat)^32=4294967296 from rfl]at this;rw[<- this]
 congr 1
 omega
def hw0:IntKind.i64.wrap 0=0:=rfl
def Ee:IntKind.i64.wrap 1=1:=rfl
def Tn:IntKind.i64.wrap 2=2:=rfl
def Ba5(l:List Nat)(h:El l)(n:Nat)(ab:Bf l=n):AC prog 307 [.ro 1 (A2 l)] (λr=>r=.tup (if n<18446744073709551616 then [.int .u64 n,.bool true]else [.int .u64 0,.bool false])):=by
 have ht:=Ig l h;rw[ab]at ht;have z:=Aj l;have hp:=Aj (B2 n);have hl:(A2 (B2 n)).length=(B2 n).length:=sm
 have a:(n<18446744073709551616/\(B2 n= []/\n=0\/(∃x,B2 n= [x]/\n=x/\x<4294967296)\/∃x y,B2 n= [x,y]/\n=x+y*4294967296/\x<4294967296/\y<4294967296))\/(¬n<18446744073709551616/\2<(B2 n).length):=by
  by_cases h0:n=0
  .subst h0;exact .inl ⟨by omega,.inl ⟨Et,rfl⟩⟩
  rw[Lh h0]
  by_cases h1:n/4294967296=0
  .rw[h1,Et];exact .inl ⟨by omega,.inr (.inl ⟨_,rfl,by omega,by omega⟩)⟩
  rw[Lh h1]
  by_cases h2:n/4294967296/4294967296=0
  .rw[h2,Et];exact .inl ⟨by omega,.inr (.inr ⟨_,_,rfl,by omega,by omega,by omega⟩)⟩
  rw[Lh h2];exact .inr ⟨by omega,by simp⟩
 refine Aq func307 λw0 N0=>?_;refine Y [0] [] sr (J (Ak (Ay 1 sr ?_)));refine Ac ht func69 ?_;refine Aa [0] [] sr (J (Y [0,11] [] sr ?_))
 refine Au (λh1=>?_) λh1=>Ae ?_
 .refine Y [2,3] [] sr (Ao (Ab sr ?_))
  have:¬n<18446744073709551616:=by
   rcases a with⟨_,h|⟨x,h,_⟩|⟨x,y,h,_⟩⟩|⟨h,_⟩
   .simp[h.1]at h1
   .simp[h]at h1
   .simp[h]at h1
   .exact h
  rw[I this]
 have ae:(B2 n).length<=2:=sO h1
 have aa:n<18446744073709551616:=by
  rcases a with⟨h,_⟩|⟨_,h⟩
  .exact h
  .omega
 rw[Ad aa];refine Y [0,4] [] sr (J (Y [4,12,13,14] [] sr (Ah ?_)));simp only[D9]at*;refine Bu (λk nx=>⟨[(4,.int .u64 (Bf ((B2 n).take k))),(12,.ro 1 (A2 (B2 n))),(13,.i (B2 n).length),(14,.i k)],[],nx,28⟩) (λk=>k<=(B2 n).length) (B2 n).length _ (Cg _) Z ?_;intro k nx hk hI;refine Y [4,12,13,14,15] [] sr (J ?_)
 refine Au (λh2=>Ae ?_) λh2=>?_
 .have d:k<(B2 n).length:=by simp at h2;omega
  have af:=A5 (k:=k) om;refine J (Ah ?_)
  rcases a with⟨_,h|⟨x,h,e,t⟩|⟨x,y,h,e,t,hy⟩⟩|⟨h,_⟩
  .rw[h.1]at d;simp at d
  .have o:k=0:=by rw[h]at d;simp at d;exact d
   subst o;obtain⟨c,m,i⟩:∃c:Int,IntKind.i64.wrap 0=c/\c=0:=⟨_,rfl,rfl⟩;have j:¬c<0:=om;have f:bits .or .u64 0 (IntKind.u64.wrap ((x:Int)*2^min c.toNat IntKind.u64.bits))=x:=by rw[i];exact Be3 x t
   have g:IntKind.u64.wrap (x:Int)=x:=wrap_u64 om;rw[h];refine Y [4,5,6,12,13,14] [] Du (Ba [4,12,13,14] [] (by simp[Bf,m,j,g,f]<;>rfl) (Ba [4,12,13,14] [] Du ?_));exact⟨by simp,by simp,_,by simp[Bf,Aal];exact Z⟩
  .have g:IntKind.u64.wrap (x:Int)=x:=wrap_u64 om;have s:IntKind.u64.wrap (y:Int)=y:=wrap_u64 om;rw[h]
   by_cases o:k=0
   .subst o;obtain⟨c,m,i⟩:∃c:Int,IntKind.i64.wrap 0=c/\c=0:=⟨_,rfl,rfl⟩;have j:¬c<0:=om;have f:bits .or .u64 0 (IntKind.u64.wrap ((x:Int)*2^min c.toNat IntKind.u64.bits))=x:=by rw[i];exact Be3 x t
    refine Y [4,5,6,12,13,14] [] Du (Ba [4,12,13,14] [] (by simp[Bf,m,j,g,f]<;>rfl) (Ba [4,12,13,14] [] (by simp[Ee]<;>rfl) ?_));exact⟨by simp,by simp,_,by simp[Bf,Aal];exact Z⟩
   .have u:k=1:=by rw[h]at d;simp at d;omega
    subst u;obtain⟨c,m,i⟩:∃c:Int,IntKind.i64.wrap 32=c/\c=32:=⟨_,rfl,rfl⟩;have j:¬c<0:=om;obtain⟨w,f,ho⟩:∃w:Int,bits .or .u64 (x:Int) (IntKind.u64.wrap ((y:Int)*2^min c.toNat IntKind.u64.bits))=w/\w=((x+y*4294967296:Nat):Int):=⟨_,rfl,by rw[i];exact Bit x y t hy⟩;refine Y [4,5,6,12,13,14] [] (by simp[Hj,Aal]<;>rfl) (Ba [4,12,13,14] [] (by simp[Bf,m,j,s,f]<;>rfl) (Ba [4,12,13,14] [] (by simp[Tn]<;>rfl) ?_));exact⟨by simp,by simp,_,by simp[Bf,Aal,ho,Int.mul_comm (y:Int)];exact Z⟩
  .omega
 .refine A6 ?_;refine Y [2,3] [] sr ?_;refine Ao (Ab sr ?_);have ad:k=(B2 n).length:=sO h2
  rw[ad,Be,C4]
def Aey(b:Bool)(l:List Nat)(h:El l)(hs:l.length<=1099511627776):AE 215 [.bool b,.ro 1 (A2 l)] ((nI (sgn b (Bf l))).v):=by
 have c:=Aas l h hs;have hp:=Aj l;rw[Bfq];generalize Bf l=n at c|-;have a:(A2 (B2 n)).length=(B2 n).length:=sm
 have f:decide (n=0)=decide ((B2 n).length=0):=by
  rw[decide_eq_decide,<- Vn,Am]
 rw[f];obtain⟨e,d⟩:∃e,e=A2 (B2 n):=⟨_,rfl⟩;rw[<- d]at c a|-;generalize(B2 n).length=k at a|-
 have g:(!decide (k=0))=decide ((0:Int)<(k:Int)):=by
  rw[M1];simp;omega
 rw[g];generalize A2 l=lv at c hp|-;refine Aq func215 λw0 N0=>?_;refine Y [0,1,4] [4] sr (Bn 1 sr ?_);refine Ac c func178 ?_;refine Aa [0,1,4] [4] sr ?_
 cases b
 .refine Y [4] [4] (by simp[a]<;>rfl) (By sr ?_);simp
 .refine Y [4] [4] (by simp[a]<;>rfl) (By sr ?_);simp
def Ke(b:Bool)(n:Nat)(hs:(B2 n).length<=1099511627776):AE 215 [.bool b,.ro 1 (A2 (B2 n))] ((nI (sgn b n)).v):=by
 have:=Aey b (B2 n) (Cp n) hs
 rwa[C4]at this
def Em(z:Int):∃c a,(nI z).v=.agg [.bool c,.ro 1 a]/\a.all V.pureE=true:=⟨_,_,rfl,Aj _⟩
def Auc(z:Int)(h1: -9223372036854775808<=z)(h2:z<9223372036854775808):AC prog 162 [.i z] (λr=>r=(nI z).v):=by
 have i:(B2 z.natAbs).length<=1099511627776:=Ag (Fg (m:=3) om) dc;have a:=Agl z.natAbs om;have e:=Aj (B2 z.natAbs);have f:=λb=>Ke b z.natAbs i
 by_cases hz:z<0
 .have d:=f true;rw[show sgn true z.natAbs=z by simp only[sgn,if_true];omega]at d;have⟨c,k,h,g⟩:=Em z;rw[h]at d|-;obtain⟨w,j⟩:∃w:Int,IntKind.u64.wrap z=w:=⟨_,rfl⟩;have Tn:IntKind.u64.wrap (-w)=((z.natAbs:Nat):Int):=by rw[<- j,Ly,Ly];omega
  generalize A2 (B2 z.natAbs)=l at a d e;generalize((z.natAbs:Nat):Int)=q at a Tn;refine Aq func162 λw0 N0=>?_;refine Y [0,2] [2] sr (J (Y [0,2,4] [2] sr ?_));refine A0 rfl (λh1=>?_) (λh1=>by simp at h1;omega);refine J (Ak (Ay 3 Du ?_));refine Ac a func160 ?_;refine Ac d func215 ?_;exact Aa [2] [2] sr (Ao (Ab sr rfl))
 .have d:=f false;rw[show sgn false z.natAbs=z by simp only[sgn];rw[I dC];omega]at d;have⟨c,k,h,g⟩:=Em z;rw[h]at d|-;have Tn:IntKind.u64.wrap z=((z.natAbs:Nat):Int):=by rw[Ly];omega
  generalize A2 (B2 z.natAbs)=l at a d e;generalize((z.natAbs:Nat):Int)=q at a Tn;refine Aq func162 λw0 N0=>?_;refine Y [0,2] [2] sr (J (Y [0,2,4] [2] sr ?_));refine A0 rfl (λh1=>by simp at h1;omega) (λh1=>Ae (J (Ak (Ay 2 Du ?_))));refine Ac a func160 ?_;refine Ac d func215 ?_;exact Aa [2] [2] sr (Ao (Ab sr rfl))
def Ap5(a b:Nat): -1<=Rf a b/\Rf a b<=1:=by unfold Rf;split<;>(try split)<;>omega
def Aau(a:RI)(h:El a.mag):AC prog 102 [a.v] (λr=>r=.i (G9 a.val)):=by
 have⟨b,l⟩:=a;have d:=(Acr l [] h (by simp[El])).argsR (args:=[.ro 1 (A2 l),.nils]) (.cons (Bj.refl _) (.cons (nils_ro 1) .nil));have hp:=Aj l;rw[RI.v,RI.val,A4h];simp only[Bf]at d|-;have⟨g,e⟩:=Ap5 (Bf l) 0;generalize Rf (Bf l) 0=c at d g e|-;generalize A2 l=lv at d hp|-;have f:IntKind.i64.wrap (-c)= -c:=Bp om om;refine Aq func102 λw0 N0=>?_;refine Y [1] [1] sr (J (Ak (Ay 2 sr ?_)));refine Ac d func36 ?_;refine Aa [1,3] [1] sr (J (Y [3,8] [] sr ?_))
 refine Au (λh1=>?_) λh1=>Ae ?_
 .refine Y [2] [] Du (Ao (Ab sr ?_));simp[h1]
 .refine Y [2] [] sr (Ao (Ab sr ?_));simp[h1]
def Azy(z:Int): -1<=G9 z/\G9 z<=1:=by unfold G9;split<;>(try split)<;>omega
def Ba6(a b:RI)(h1:El a.mag)(h2:El b.mag):AC prog 163 [a.v,b.v] (λr=>r=.i (cmpI a.val b.val)):=by
 have j:=Aau a h1;have n:=Aau b h2;have k:=Acr _ _ h1 h2;have⟨p,l⟩:=a;have⟨q,m⟩:=b;simp only at h1 h2 k;have i:=Aj l;have g:=Aj m;have d:=Bau p q (Bf l) (Bf m);rw[RI.v,RI.val]at j n;rw[RI.v,RI.v,RI.val,RI.val];simp only at j n|-
 have f:G9 (sgn p (Bf l))<G9 (sgn q (Bf m))->cmpI (sgn p (Bf l)) (sgn q (Bf m))= -1:=by
  unfold G9 cmpI;intro h;(repeat' split at h)<;>(repeat' split)<;>omega
 have e:G9 (sgn q (Bf m))<G9 (sgn p (Bf l))->cmpI (sgn p (Bf l)) (sgn q (Bf m))=1:=by
  unfold G9 cmpI;intro h;(repeat' split at h)<;>(repeat' split)<;>omega
 have⟨u,s⟩:=Azy (sgn p (Bf l));have⟨t,z⟩:=Ap5 (Bf l) (Bf m);generalize G9 (sgn p (Bf l))=x at j d f e u s;generalize G9 (sgn q (Bf m))=y at n d f e;generalize cmpI (sgn p (Bf l)) (sgn q (Bf m))=w at d f e|-;generalize Rf (Bf l) (Bf m)=c at k d t z;generalize A2 l=lv at j k i|-;generalize A2 m=mv at n k g|-
 have hw:IntKind.i64.wrap (x*c)=x*c:=by
  have:x= -1\/x=0\/x=1:=om;rcases this with rfl|rfl|rfl<;>exact Bp om om
 refine Aq func163 λw0 N0=>?_;refine Y [2,3] [2,3] sr (J (Di [(0,[]),(1,[]),(2,[]),(3,[]),(4,[]),(5,[])] Eb kr ?_));refine Ci 1 sr (E8 (λo=>j) func102 rfl kr rfl rfl sr rfl rfl sr sM sr ?_);refine Ci 1 sr (E8 (λo=>n) func102 rfl kr rfl rfl sr rfl rfl sr sM sr ?_);refine Dj [2,3,5,6] [2,3] sr ?_;refine J (Y [2,3,5,6,13] [2,3] sr ?_)
 refine Au (λh1=>?_) λh1=>Ae ?_
 .refine Y [4] [] sr ?_;refine Ao (Ab sr ?_);rw[f (sG h1)]
 refine J (Y [2,3,5,16] [2,3] sr ?_)
 refine Au (λh2=>?_) λh2=>Ae ?_
 .refine Y [4] [] sr ?_;refine Ao (Ab sr ?_);rw[e (sG h2)]
 refine J (Ak (Ay 5 sr ?_));refine Ac k func36 ?_;refine Aa [4] [] Du ?_;refine Ao (Ab sr ?_);rw[d (sG h1) (sG h2)]
def Pp(a b:RI)(h1:a.ok 274877906944)(h2:b.ok 274877906944):AE 164 [a.v,b.v] ((nI (a.val*b.val)).v):=by
 have⟨h1,i⟩:=h1;have⟨h2,j⟩:=h2;have⟨p,l⟩:=a;have⟨q,m⟩:=b;simp only at h1 h2 i j;have g:=Am6 l m h1 h2 om om;have k:=N7 (Ag (K1 h1) i) (Ag (K1 h2) j);have h:=Ke (p != q) (Bf l*Bf m) om;have f:=Aj l;have d:=Aj m;rw[RI.v,RI.v,RI.val,RI.val];simp only;rw[Awl];have⟨c,lw,s,o⟩:=Em (sgn (p != q) (Bf l*Bf m));rw[s]at h|-;have e:=Aj (B2 (Bf l*Bf m));generalize A2 (B2 (Bf l*Bf m))=nv at g h e;generalize A2 l=lv at g f|-;generalize A2 m=mv at g d|-;have hb:∀x y:Bool,(x != y)= !(x==y):=λx y=>rfl
 refine Aq func164 λw0 N0=>?_;refine Y [2,3,4] [2,3,4] sr (J (Di [(0,[]),(2,[]),(5,[]),(7,[]),(1,[]),(3,[]),(4,[]),(6,[]),(8,[]),(9,[]),(10,[]),(11,[])] Eb kr ?_));refine Ci 9 sr (B4 (λn=>g) func216 ?_);refine E8 (c:=true) (λn=>h) func215 rfl kr rfl rfl sr rfl rfl (by cases p<;>cases q<;>rfl) sM sr (Dj [4] [4] sr ?_);exact By sr rfl
def Aav(a b:RI)(h1:a.ok 274877906944)(h2:b.ok 274877906944):AC prog 270 [a.v,b.v] (λr=>r=(nI (a.val+b.val)).v):=by
 have⟨h1,k1⟩:=h1;have⟨h2,y⟩:=h2;have⟨p,l⟩:=a;have⟨q,m⟩:=b;simp only at h1 h2 k1 y;have s:=At6 l m h1 h2 om om;have d:=At8 l m h1 h2 om om;have f:=At8 m l h2 h1 om om;have l1:=Ag (K1 h1) k1;have l2:=Ag (K1 h2) y;have l3:=Aex l1 l2;have j:=Aj l;have i:=Aj m;rw[RI.v,RI.v,RI.val,RI.val];simp only;obtain⟨n,hn⟩:∃n,n=Bf l:=⟨_,rfl⟩;obtain⟨k,g⟩:∃k,k=Bf m:=⟨_,rfl⟩;rw[<- hn]at s d f l1 l3|-;rw[<- g]at s d f l2 l3|-;clear hn g;generalize A2 l=lv at s d f j|-;generalize A2 m=mv at s d f i|-
 by_cases h:p=q
 .subst h;rw[Bav];have g:=Ke p (n+k) om;have⟨c,x,u,t⟩:=Em (sgn p (n+k));rw[u]at g|-;have e:=Aj (B2 (n+k));generalize A2 (B2 (n+k))=z at s g e;refine Aq func270 λw0 N0=>?_;refine Y [2,3,4] [2,3,4] sr (J (Y [2,3,4,13] [2,3,4] sr ?_));refine A0 rfl (λh1=>?_) (λh1=>by cases h1);refine J (Di [(0,[]),(2,[]),(4,[]),(1,[]),(3,[]),(5,[]),(6,[]),(7,[]),(8,[])] Eb kr ?_);refine Ci 6 sr (E8 (λhg=>s) func302 rfl kr rfl rfl sr rfl rfl sr sM sr ?_);refine E8 (λhg=>g) func215 rfl kr rfl rfl sr rfl rfl sr sM sr (Dj [4] [4] sr ?_);exact Ao (Ab sr rfl)
 .have hd:decide (p=q)=false:=sG h
  have w:(p==q)=false:=sG h
  refine Aq func270 λw0 N0=>?_;refine Y [2,3,4] [2,3,4] sr (J (Y [2,3,4,13] [2,3,4] Du ?_));refine A0 rfl (λh1=>by cases h1) λh1=>Ae (J ?_)
  by_cases o:k<=n
  .rw[Baw h o];rw[At7,Ad o]at d;have g:=Ke p (n-k) (Ag (Ui (Zr n k)) om);have⟨c,x,u,t⟩:=Em (sgn p (n-k));rw[u]at g|-;have e:=Aj (B2 (n-k));generalize A2 (B2 (n-k))=z at d g e;refine J (Ak (Ay 4 sr ?_));refine Ac d func303 ?_;refine Aa [2,3,4,5,6] [2,3,4] sr ?_;refine Y [2,3,4,5,30] [2,3,4] sr ?_;refine A0 rfl (λh2=>?_) (λh2=>by cases h2);refine J (Ak (Ay 3 sr ?_));refine Ac g func215 ?_;refine Aa [4] [4] sr ?_;exact Ao (Ab sr rfl)
  .rw[A4i h oM];rw[At7,I o]at d;rw[At7,Ad oM]at f;have g:=Ke q (k-n) (Ag (Ui (Zr k n)) om);have⟨c,x,u,t⟩:=Em (sgn q (k-n));rw[u]at g|-;have e:=Aj (B2 (k-n));generalize A2 (B2 (k-n))=z at f g e;refine J (Ak (Ay 4 sr ?_));refine Ac d func303 ?_;refine Aa [2,3,4,5,6] [2,3,4] sr ?_;refine Y [2,3,4,5,30] [2,3,4] sr ?_;refine A0 rfl (λh2=>by cases h2) (λh2=>Ae (J (Ak (Ay 4 sr ?_))));refine Ac f func303 ?_;refine Aa [3,4,7] [3,4] sr ?_;refine J (Ak (Ay 3 sr ?_));refine Ac g func215 ?_;refine Aa [4] [4] sr ?_;exact Ao (Ab sr rfl)
def Awq(a:RI)(h1:a.ok 1099511627776):AE 337 [a.v] ((nI (-a.val)).v):=by
 have⟨h1,f⟩:=h1;have⟨p,l⟩:=a;simp only at h1 f;have e:=Aey (!p) l h1 f;have d:=Aj l;rw[RI.v,RI.val];simp only;rw[Bax]at e;have⟨c,lw,h,g⟩:=Em (-sgn p (Bf l));rw[h]at e|-;generalize A2 l=lv at e d|-;refine Aq func337 λw0 N0=>?_;refine Y [1,2] [1,2] sr (Bn 5 sr ?_);refine Ac e func215 ?_;exact Aa [2] [2] sr (By sr rfl)
def Ba7(a b:RI)(h1:a.ok 274877906944)(h2:b.ok 274877906944):AE 327 [a.v,b.v] ((nI (a.val-b.val)).v):=by
 have f:=Awq b ⟨h2.1,Ag h2.2 dc⟩;have d:=Aav a (nI (-b.val)) h1 (Hn (by rw[Ox,Oq];exact RI.sz h2));rw[Iz,<- Rx]at d;have h:=Aj a.mag;have i:=Aj b.mag;have⟨c,lw,l,k⟩:=Em (a.val-b.val);have⟨c2,m,g,e⟩:=Em (-b.val);rw[l]at d|-;rw[g]at f d;rw[RI.v]at d|-;rw[RI.v]at f|-;generalize A2 a.mag=av at d h|-;generalize A2 b.mag=bv at f i|-;refine Aq func327 λw0 N0=>?_;refine Y [2,3,4] [2,3,4] sr (J (Di [(0,[]),(1,[]),(2,[]),(3,[]),(4,[])] Eb kr ?_));refine Ci 2 sr (E8 (λj=>f) func337 rfl kr rfl rfl sr rfl rfl sr sM sr ?_);refine E8 (λj=>d) func270 rfl kr rfl rfl sr rfl rfl sr sM sr (Dj [4] [4] sr ?_);exact By sr rfl
def RR.vp(a:RR):a.v.pureV=true:=by
 simpa[RR.v]using⟨(Aj a.num.mag),(Aj a.den)⟩
def Ll(q:Rat):∃c a d,(nR q).v=.agg [.bool c,.ro 1 a,.ro 1 d]/\a.all V.pureE=true/\d.all V.pureE=true:=⟨_,_,_,rfl,Aj _,Aj _⟩
def pV(a:RR):V:=.tup [a.p.num.v,.ro 1 (A2 a.p.den)]
def Ms(a:RR)(h:El a.den):AC prog 101 [a.v] (λr=>r=pV a):=by
 refine AC.relaxP ?_;have⟨⟨b,l⟩,d⟩:=a;simp only at h;have f:=(Acr d [] h (by simp[El])).argsR (args:=[.ro 1 (A2 d),.nils]) (.cons (Bj.refl _) (.cons (nils_ro 1) .nil));have hp:=Aj d;have k:=Aj l;have n:=Agl 1 dc;rw[pV,RR.p,RR.v];simp only[Bf]at f|-;have j:(Rf (Bf d) 0=0)↔Bf d=0:=by unfold Rf;constructor<;>intro h<;>(repeat' split at h)<;>(repeat' split)<;>omega
 generalize Rf (Bf d) 0=c at f j;generalize m:A2 d=dv at f hp|-;generalize g:A2 l=lv at k|-;refine Aq func101 λw0 N0=>?_;refine Y [1,2] [1,2] sr (J (J (Ak (Ay 2 sr ?_))));refine Ac f func36 ?_;refine Aa [1,2,7] [1,2] sr ?_
 refine Au (λh1=>?_) λh1=>Ae ?_
 .have e:=j.1 (sG h1);rw[Ad e];simp only[RI.v];generalize A2 (B2 1)=ov at n|-;refine J (Ak (Ay 1 sr ?_));refine Ac n func160 ?_;refine Aa [2,3] [2] sr (Ao (Ab sr ?_));exact Bj.tup (.cons (Bj.agg (.cons (Bj.refl _) (.cons (nils_ro 1) .nil))) (.cons (Bj.refl _) .nil))
 .have e:¬Bf d=0:=λh=>by simp[j.2 h]at h1
  rw[I e];simp only[RI.v,m,g];refine J (Aeu (.take 0 [] (.take 2 [] (.take 1 [] (.alt 3 (.take 4 [] (.take 5 [] .done)) (.alt 4 (.take 3 [] (.take 5 [] .done)) .stop))))) Eb kr (Uf (L:=[2,3]) (M:=[2]) sr ?_));intro T o;have i:=(show T=_ by simpa using o);subst i;refine Ao (Ab sr ?_);exact Bj.refl _
def To(a:RI)(d:List Nat)(h1:a.ok 1099511627776)(h2:El d)(h3:d.length<=1099511627776)(x:Bf d≠0):AE 214 [a.v,.ro 1 (A2 d)] ((nR (mkRat a.val (Bf d))).v):=by
 have⟨h1,t⟩:=h1;have⟨b,l⟩:=a;simp only at h1 t;have o:=A4t l d h1 h2 t h3;have e0:(RI.mk b l).val=sgn b (Bf l):=rfl;rw[e0,Bip b (Bf l) (Bf d) x];have l1:=Ag (K1 h1) t;obtain⟨n,hn⟩:∃n,n=Bf l:=⟨_,rfl⟩;obtain⟨m,w⟩:∃m,m=Bf d:=⟨_,rfl⟩;have f:=Tm l (B2 (n.gcd m)) h1 (Cp _) t;have e:=Tm d (B2 (n.gcd m)) h2 (Cp _) h3;rw[C4,<- hn]at f;rw[C4,<- w]at e;rw[<- hn,<- w]at o|-;rw[<- hn]at l1;rw[<- w]at x
 have z:n.gcd m≠0:=by
  intro h;exact x (Nat.gcd_eq_zero_iff.1 h).2
 rw[Am7,I z]at f e;have u:=Ke b (n/n.gcd m) (Ag (Ui (G7 _ _)) l1);have⟨c,lw,hv,aa⟩:=Em (sgn b (n/n.gcd m));rw[hv]at u
 have y:(RR.mk (nI (sgn b (n/n.gcd m))) (B2 (m/n.gcd m))).v=.agg [.bool c,.ro 1 lw,.ro 1 (A2 (B2 (m/n.gcd m)))]:=by
  have g:=hv;rw[RI.v]at g;injection g with g;simp only[List.cons.injEq,and_true]at g;rw[RR.v];simp only[g.1,g.2]
 rw[y];have k:=Aj l;have j:=Aj d;have i:=Aj (B2 (n.gcd m));have s:=Aj (B2 (n/n.gcd m));rw[RI.v];simp only;rw[Vt]at o;rw[Vt,Vt]at f e;generalize A2 (B2 (n.gcd m))=gv at o f e i;generalize A2 (B2 (n/n.gcd m))=qv at f u s;generalize A2 (B2 (m/n.gcd m))=rv at e|-;generalize A2 l=lv at o f k|-;generalize A2 d=dv at o e j|-;generalize A2 (B2 (n%n.gcd m))=x1 at f;generalize A2 (B2 (m%n.gcd m))=x2 at e;refine Aq func214 λw0 N0=>?_;refine Y [1,2,4] [2,4] sr (Bn 3 sr ?_);refine Ac o func119 ?_;refine Aa [1,2,4,5] [2,4] sr (Bn 3 sr ?_);refine Ac f func120 ?_;refine Aa [1,2,4,5,6] [2,4] sr (Bn 2 sr ?_);refine Ac e func120 ?_;refine Aa [2,4,6,9] [2,4] sr (Bn 3 sr ?_);refine Ac u func215 ?_;exact Aa [4] [4] sr (By sr rfl)
def Tp(l:List Nat)(h:El l)(hs:l.length<=1099511627776):AE 165 [.ro 1 (A2 l)] ((nI (Bf l)).v):=by
 have a:=Aey false l h hs;have hp:=Aj l;rw[show sgn false (Bf l)=(Bf l:Int)by simp[sgn]]at a;have⟨c,lw,e,d⟩:=Em (Bf l);rw[e]at a|-;generalize A2 l=lv at a hp|-;refine Aq func165 λw0 N0=>?_;refine Y [0,2] [2] sr (Bn 1 sr ?_);refine Ac a func215 ?_;exact Aa [2] [2] sr (By sr rfl)
def Awr(a b:RR)(h1:a.ok 137438953472)(h2:b.ok 137438953472):AE 174 [a.v,b.v] ((nR (a.val*b.val)).v):=by
 have l:=Ms a h1.lim;have k:=Ms b h2.lim;have g:=RR.p_ok h1 dc;have f:=RR.p_ok h2 dc;have z:=RR.p_val a;have e2:=RR.p_val b;have d1:=RR.p_ne a;have d2:=RR.p_ne b;rw[pV]at l k;have u:=RR.vp a;have w:=RR.vp b;have ea:=vRR a;have eb:=vRR b;rw[ea]at l u|-;rw[eb]at k w|-;rw[<- z,<- e2];generalize a.p=a' at*;generalize b.p=b' at*;clear z e2 h1 h2;have⟨x,d⟩:=a';have⟨y,e⟩:=b';simp only at l k d1 d2;have m:=Pp x y ⟨g.num.1,Ag g.num.2 dc⟩ ⟨f.num.1,Ag f.num.2 dc⟩;have m2:=Am6 d e g.lim f.lim (Ag g.len dc) (Ag f.len dc)
 have s1:Ox (x.val*y.val)<=274877906944:=by
  rw[Ox,Ry];exact Ag (N7 (RI.sz g.num) (RI.sz f.num)) dc
 have s2:(B2 (Bf d*Bf e)).length<=274877906944:=Ag (N7 (Ag (K1 g.lim) g.len) (Ag (K1 f.lim) f.len)) dc;have h:=To (nI (x.val*y.val)) (B2 (Bf d*Bf e)) (Hn (Ag s1 dc)) (Cp _) (Ag s2 dc) (by rw[C4];exact Jn d1 d2);rw[Iz,C4,<- Rat.mkRat_mul_mkRat]at h;show AC _ _ _ (λr=>r=(nR (mkRat x.val (Bf d)*mkRat y.val (Bf e))).v)
 generalize mkRat x.val (Bf d)*mkRat y.val (Bf e)=q at h|-;have⟨c,lw,dw,hv,ah,ae⟩:=Ll q;rw[hv]at h|-;have⟨c2,aa,o,j⟩:=Em (x.val*y.val);rw[o]at m h;have i:=Aj (B2 (Bf d*Bf e));have hx:=Aj x.mag;have hy:=Aj y.mag;have n:=Aj d;have s:=Aj e;have ex:x.v=.agg [.bool x.neg,.ro 1 (A2 x.mag)]:=rfl;have t:y.v=.agg [.bool y.neg,.ro 1 (A2 y.mag)]:=rfl;rw[ex]at l m;rw[t]at k m;clear ea eb ex t;generalize A2 (B2 (Bf d*Bf e))=nv at m2 h i;generalize A2 x.mag=xv,A2 y.mag=yv,A2 d=ab,A2 e=ag,A2 a.num.mag=av,A2 b.num.mag=bv,A2 a.den=ad,A2 b.den=af at*;refine Aq func174 λw0 N0=>?_;refine Y [2,3,4] [2,3,4] sr (Bn 1 sr ?_);refine Ac l func101 ?_ (hp:=by simpa using u);refine Aa [3,4,5,6] [3,4,5] sr (Bn 1 sr ?_);refine Ac k func101 ?_ (hp:=by simpa using w);refine Aa [4,5,6,7,8] [4,5,7] sr (Bn 2 sr ?_);refine Ac m func164 ?_;refine Ay 2 sr (Ac m2 func216 ?_);refine Ac h func214 ?_;exact Aa [4] [4] sr (By sr rfl)
variable {x:Int}
def Uj{y:Int}(h1:Ox x<=k)(h2:Ox y<=k):Ox (x+y)<=k+1:=by
 have h:=Aex h1 h2;rw[Ox];refine Ag (Ui (Int.natAbs_add_le x y)) ?_;rw[Nat.max_self]at h;exact h
def Aws(a b:RR)(h1:a.ok 68719476736)(h2:b.ok 68719476736):AE 304 [a.v,b.v] ((nR (a.val+b.val)).v):=by
 have p1:=Ms a h1.lim;have n:=Ms b h2.lim;have g:=RR.p_ok h1 dc;have f:=RR.p_ok h2 dc;have e1:=RR.p_val a;have e2:=RR.p_val b;have d1:=RR.p_ne a;have d2:=RR.p_ne b;rw[pV]at p1 n;have pa:=RR.vp a;have pb:=RR.vp b;have ea:=vRR a;have eb:=vRR b;rw[ea]at p1 pa|-;rw[eb]at n pb|-;rw[<- e1,<- e2];generalize a.p=a' at*;generalize b.p=b' at*;clear e1 e2 h1 h2;have⟨x,d⟩:=a';have⟨y,e⟩:=b';simp only at p1 n d1 d2;have l1:=Ag (K1 g.lim) g.len;have l2:=Ag (K1 f.lim) f.len;have z1:Ox (Bf d:Int)<=68719476736:=by rw[Ox,Ez];exact l1
 have z2:Ox (Bf e:Int)<=68719476736:=by rw[Ox,Ez];exact l2
 have w1:=Tp d g.lim (Ag g.len dc);have w2:=Tp e f.lim (Ag f.len dc);have m1:=Pp x (nI (Bf e)) ⟨g.num.1,Ag g.num.2 dc⟩ (Hn (Ag z2 dc));have m2:=Pp y (nI (Bf d)) ⟨f.num.1,Ag f.num.2 dc⟩ (Hn (Ag z1 dc));rw[Iz]at m1 m2
 have s1:Ox (x.val*(Bf e:Int))<=137438953472:=by
  rw[Ox,Ry];exact Ag (N7 (RI.sz g.num) z2) dc
 have s2:Ox (y.val*(Bf d:Int))<=137438953472:=by
  rw[Ox,Ry];exact Ag (N7 (RI.sz f.num) z1) dc
 have m4:=Aav (nI (x.val*(Bf e:Int))) (nI (y.val*(Bf d:Int))) (Hn (Ag s1 dc)) (Hn (Ag s2 dc));rw[Iz,Iz]at m4;have s3:=Uj s1 s2;have m5:=Am6 d e g.lim f.lim (Ag g.len dc) (Ag f.len dc);have s4:(B2 (Bf d*Bf e)).length<=274877906944:=Ag (N7 l1 l2) dc;have i:=To (nI (x.val*(Bf e:Int)+y.val*(Bf d:Int))) (B2 (Bf d*Bf e)) (Hn (Ag s3 dc)) (Cp _) (Ag s4 dc) (by rw[C4];exact Jn d1 d2);rw[Iz,C4,<- Rat.mkRat_add_mkRat x.val y.val d1 d2]at i;show AC _ _ _ (λr=>r=(nR (mkRat x.val (Bf d)+mkRat y.val (Bf e))).v)
 generalize mkRat x.val (Bf d)+mkRat y.val (Bf e)=q at i|-;have⟨c,lw,dw,hv,an,aj⟩:=Ll q;rw[hv]at i|-;have⟨c2,ae,u,l⟩:=Em (x.val*(Bf e:Int));rw[u]at m1 m4;have⟨c3,af,z,w⟩:=Em (y.val*(Bf d:Int));rw[z]at m2 m4;have⟨c4,am,aa,o⟩:=Em (x.val*(Bf e:Int)+y.val*(Bf d:Int));rw[aa]at i m4;have⟨c5,ah,k,ab⟩:=Em (Bf d:Int);rw[k]at w1 m2;have⟨c6,ao,s,m⟩:=Em (Bf e:Int);rw[s]at w2 m1;have j:=Aj (B2 (Bf d*Bf e));have hx:=Aj x.mag;have hy:=Aj y.mag;have t:=Aj d;have ad:=Aj e;have ex:x.v=.agg [.bool x.neg,.ro 1 (A2 x.mag)]:=rfl;have ey:y.v=.agg [.bool y.neg,.ro 1 (A2 y.mag)]:=rfl;rw[ex]at p1 m1;rw[ey]at n m2;clear ea eb ex ey hv u z aa k s;generalize A2 (B2 (Bf d*Bf e))=nv at m5 i j;generalize A2 x.mag=xv,A2 y.mag=yv,A2 d=ag,A2 e=al,A2 a.num.mag=av,A2 b.num.mag=bv,A2 a.den=ai,A2 b.den=ak at*;refine Aq func304 λw0 N0=>?_;refine Y [2,3,4] [2,3,4] sr (Bn 1 sr ?_);refine Ac p1 func101 ?_ (hp:=by simpa using pa);refine Aa [3,4,5,6] [3,4,5] sr (Bn 1 sr ?_);refine Ac n func101 ?_ (hp:=by simpa using pb);refine Aa [4,5,6,7,8] [4,5,7] sr (J (Di [(1,[]),(2,[]),(5,[]),(0,[9]),(3,[]),(6,[]),(4,[9]),(7,[]),(8,[]),(9,[]),(10,[])] Eb kr ?_));refine Ci 1 sr (B4 (λh=>w2) func165 ?_);refine Ci 2 sr ?_;refine B4 (λh=>m1) func164 ?_;refine B4 (λh=>w1) func165 ?_;refine Ci 1 sr ?_;refine B4 (λh=>m2) func164 ?_;refine B4 (λh=>m4) func270 ?_;refine Dj [4,6,8,9] [4,9] sr ?_;refine J (Di [(1,[]),(2,[]),(3,[]),(0,[]),(4,[]),(5,[])] Eb kr ?_);refine Ci 2 sr ?_;refine B4 (λh=>m5) func216 ?_;refine Ci 1 sr ?_;refine B4 (λh=>i) func214 ?_;refine Dj [4] [4] sr ?_;exact By sr rfl
def Sb(a b:RR)(h1:a.ok 137438953472)(h2:b.ok 137438953472):AE 104 [a.v,b.v] (.i (N8 a.val b.val)):=by
 have w:=Ms a h1.lim;have j:=Ms b h2.lim;have f:=RR.p_ok h1 dc;have e:=RR.p_ok h2 dc;have e1:=RR.p_val a;have e2:=RR.p_val b;have d1:=RR.p_ne a;have d2:=RR.p_ne b;rw[pV]at w j;have pa:=RR.vp a;have pb:=RR.vp b;have ea:=vRR a;have eb:=vRR b;rw[ea]at w pa|-;rw[eb]at j pb|-;rw[<- e1,<- e2];generalize a.p=a' at*;generalize b.p=b' at*;clear e1 e2 h1 h2;have⟨x,c⟩:=a';have⟨y,d⟩:=b';simp only at w j d1 d2;have l1:=Ag (K1 f.lim) f.len;have l2:=Ag (K1 e.lim) e.len;have z1:Ox (Bf c:Int)<=137438953472:=by rw[Ox,Ez];exact l1
 have z2:Ox (Bf d:Int)<=137438953472:=by rw[Ox,Ez];exact l2
 have w1:=Tp c f.lim (Ag f.len dc);have w2:=Tp d e.lim (Ag e.len dc);have t:=Pp x (nI (Bf d)) ⟨f.num.1,Ag f.num.2 dc⟩ (Hn (Ag z2 dc));have o:=Pp y (nI (Bf c)) ⟨e.num.1,Ag e.num.2 dc⟩ (Hn (Ag z1 dc));rw[Iz]at t o;have s:=Ba6 (nI (x.val*(Bf d:Int))) (nI (y.val*(Bf c:Int))) (Cp _) (Cp _);rw[Iz,Iz]at s;show AC _ _ _ (λr=>r=.i (N8 (mkRat x.val (Bf c)) (mkRat y.val (Bf d))))
 rw[Awm d1 d2];generalize cmpI (x.val*(Bf d:Int)) (y.val*(Bf c:Int))=af at s|-;have⟨c2,ad,l,h⟩:=Em (x.val*(Bf d:Int));rw[l]at t s;have⟨c3,ae,n,m⟩:=Em (y.val*(Bf c:Int));rw[n]at o s;have⟨c5,ah,g,u⟩:=Em (Bf c:Int);rw[g]at w1 o;have⟨c6,al,k,i⟩:=Em (Bf d:Int);rw[k]at w2 t;have hx:=Aj x.mag;have hy:=Aj y.mag;have aa:=Aj c;have ab:=Aj d;have ex:x.v=.agg [.bool x.neg,.ro 1 (A2 x.mag)]:=rfl;have ey:y.v=.agg [.bool y.neg,.ro 1 (A2 y.mag)]:=rfl;rw[ex]at w t;rw[ey]at j o;clear ea eb ex ey l n g k;generalize A2 x.mag=xv,A2 y.mag=yv,A2 c=ag,A2 d=ak,A2 a.num.mag=av,A2 b.num.mag=bv,A2 a.den=ai,A2 b.den=aj at*;refine Aq func104 λw0 N0=>?_;refine Y [2,3] [2,3] sr (Bn 1 sr ?_);refine Ac w func101 ?_ (hp:=by simpa using pa);refine Aa [3,5,6] [3,5] sr (Bn 1 sr ?_);refine Ac j func101 ?_ (hp:=by simpa using pb);refine Aa [5,6,7,8] [5,7] sr (J (Di [(1,[]),(2,[]),(5,[]),(0,[]),(3,[]),(6,[]),(4,[]),(7,[]),(8,[]),(9,[])] Eb kr ?_));refine Ci 1 sr (B4 (λz=>w2) func165 ?_);refine Ci 2 sr (B4 (λz=>t) func164 ?_);refine B4 (λz=>w1) func165 ?_;refine Ci 1 sr ?_;refine B4 (λz=>o) func164 ?_;refine B4 (λz=>s) func163 ?_;refine Dj [4] [] sr ?_;exact By sr rfl
def Ap6(a:RR)(h1:El a.den)(h2:El a.num.mag):AE 56 [a.v] (.i (Ad8 a.val)):=by
 have d:=Ms a h1;have h:=RR.p_ne a
 have c:El a.p.num.mag:=by
  unfold RR.p
  split
  .simp[El]
  .exact h2
 rw[pV]at d;have e:=RR.vp a;have f:=vRR a;rw[f]at d e|-;rw[<-(RR.p_val a)];generalize a.p=o at*;have⟨x,g⟩:=o;simp only at d h c;have m:=Aau x c;show AC _ _ _ (λr=>r=.i (Ad8 (mkRat x.val (Bf g))))
 rw[A4k h];have i:=Aj x.mag;have ex:x.v=.agg [.bool x.neg,.ro 1 (A2 x.mag)]:=rfl;rw[ex]at d m;clear f ex;generalize A2 x.mag=xv,A2 g=j,A2 a.num.mag=av,A2 a.den=l,G9 x.val=n at*;refine Aq func56 λw0 N0=>?_;refine Y [1] [1] sr (Bn 1 sr ?_);refine Ac d func101 ?_ (hp:=by simpa using e);refine Aa [3] [3] sr (Bn 1 sr ?_);refine Ac m func102 ?_;exact Aa [2] [] sr (By sr rfl)
def Ba8(a:RR)(h1:a.ok 1099511627776):AE 305 [a.v] ((nR (-a.val)).v):=by
 have h:=Ms a h1.lim;have i:=RR.p_ok h1 dc;have m:=RR.p_val a;have s:=RR.p_ne a;rw[pV]at h;have l:=RR.vp a;have o:=vRR a;rw[o]at h l|-;rw[<- m];generalize a.p=a' at*;clear m h1;have⟨x,e⟩:=a';simp only at h s;have k:=Awq x i.num;have d:=To (nI (-x.val)) e (Hn (by rw[Ox,Oq];exact RI.sz i.num)) i.lim i.len s;rw[Iz,<- Rat.neg_mkRat]at d;show AC _ _ _ (λr=>r=(nR (-mkRat x.val (Bf e))).v)
 generalize -mkRat x.val (Bf e)=q at d|-;have⟨c,lw,dw,n,aa,y⟩:=Ll q;rw[n]at d|-;have⟨c2,t,g,f⟩:=Em (-x.val);rw[g]at k d;have z:=Aj x.mag;have j:=Aj e;have ex:x.v=.agg [.bool x.neg,.ro 1 (A2 x.mag)]:=rfl;rw[ex]at h k;clear o ex n g;generalize A2 x.mag=xv,A2 e=u,A2 a.num.mag=av,A2 a.den=w at*;refine Aq func305 λw0 N0=>?_;refine Y [1,2] [1,2] sr (Bn 1 sr ?_);refine Ac h func101 ?_ (hp:=by simpa using l);refine Aa [2,3,4] [2,3] sr (Bn 1 sr ?_);refine Ac k func337 ?_;refine Ay 1 sr (Ac d func214 ?_);exact Aa [2] [2] sr (By sr rfl)
def Am9(q:Rat):Qk (-q)=Qk q:=by rw[Qk,Qk,Rat.neg_num,Rat.neg_den,Ox,Ox,Oq]
def Ba9(a b:RR)(h1:a.ok 68719476736)(h2:b.ok 68719476736):AE 272 [a.v,b.v] ((nR (a.val-b.val)).v):=by
 have i:=Ba8 b ⟨⟨h2.num.1,Ag h2.num.2 dc⟩,h2.lim,Ag h2.len dc⟩;have d:=Aws a (nR (-b.val)) h1 (Nn (by rw[Am9];exact RR.sz h2 dc));rw[Mj,<- Rat.sub_eq_add_neg]at d;have o:=RR.vp a;have t:=RR.vp b;have⟨c,lw,dw,l,z,w⟩:=Ll (a.val-b.val);have⟨c2,s,aa,f,e,g⟩:=Ll (-b.val);rw[l]at d|-;rw[f]at i d;have m:=vRR a;have k:=vRR b;rw[m]at d o|-;rw[k]at i t|-;have x:=Aj a.num.mag;have hy:=Aj b.num.mag;have h:=Aj a.den;have j:=Aj b.den;clear m k l f;generalize A2 a.num.mag=av,A2 b.num.mag=bv,A2 a.den=u,A2 b.den=y at*;refine Aq func272 λw0 N0=>?_;refine Y [2,3,4] [2,3,4] sr (J (Di [(0,[]),(1,[]),(2,[]),(3,[]),(4,[])] Eb kr ?_));refine Ci 2 sr (B4 (λn=>i) func305 ?_);refine B4 (λn=>d) func304 ?_;exact Dj [4] [4] sr (By sr rfl)
def Bba:(nR 0).v=.agg [.bool false,.ro 1 [],.ro 1 (A2 (B2 1))]:=by
 have h:nR 0=⟨nI 0,B2 1⟩:=rfl;rw[h,RR.v];simp[nI,Et]
def Bbb:AE 213 [] ((nR 0).v):=by
 refine AC.relaxP ?_;have a:=Agl 1 dc;rw[Bba];generalize A2 (B2 1)=ov at a|-;refine Aq func213 λw0 N0=>?_;refine Y [0] [0] sr (J (Ak (Ac a func160 ?_)));refine Aa [0] [0] sr (By sr ?_);exact Bj.agg (.cons (Bj.refl _) (.cons (nils_ro 1) (.cons (Bj.refl _) .nil)))
variable {d:Nat}
def Bbc{b:Bool}(h:d≠0):mkRat (n:Int) d=Tk (mkRat (sgn b n) d):=by
 have e:(0:Rat)=mkRat 0 1:=by rw[Rv]
 have a:mkRat (sgn b n) d<0↔sgn b n<0:=by rw[e,A4j h dC];simp
 unfold Tk
 by_cases hs:sgn b n<0
 .rw[Ad (a.2 hs),Rat.neg_mkRat]
  congr 1
  cases b
  .simp[sgn]at hs;omega
  .simp[sgn]
 .rw[I (λh=>hs (a.1 h))]
  congr 1
  cases b
  .simp[sgn]
  .simp only[sgn,if_true]at hs|-;omega
def Bbd(a:RR)(h1:a.ok 1099511627776):AE 271 [a.v] ((nR (Tk a.val)).v):=by
 have i:=Ms a h1.lim;have d:=RR.p_ok h1 dc;have m:=RR.p_val a;have k:=RR.p_ne a;rw[pV]at i;have l:=RR.vp a;have o:=vRR a;rw[o]at i l|-;rw[<- m];generalize a.p=a' at*;clear m h1;have⟨x,f⟩:=a';simp only at i k;have s:=Tp x.mag d.num.lim d.num.len;have hl:Ox (Bf x.mag:Int)<=1099511627776:=by rw[Ox,Ez];exact Ag (K1 d.num.lim) d.num.len
 have e:=To (nI (Bf x.mag)) f (Hn hl) d.lim d.len k;rw[Iz,Bbc (b:=x.neg) k]at e;show AC _ _ _ (λr=>r=(nR (Tk (mkRat (sgn x.neg (Bf x.mag)) (Bf f)))).v)
 generalize Tk (mkRat (sgn x.neg (Bf x.mag)) (Bf f))=q at e|-;have⟨c,lw,dw,n,aa,y⟩:=Ll q;rw[n]at e|-;have⟨c2,t,h,g⟩:=Em (Bf x.mag);rw[h]at s e;have z:=Aj x.mag;have j:=Aj f;have ex:x.v=.agg [.bool x.neg,.ro 1 (A2 x.mag)]:=rfl;rw[ex]at i;clear o ex n h;generalize A2 x.mag=xv,A2 f=u,A2 a.num.mag=av,A2 a.den=w at*;refine Aq func271 λw0 N0=>?_;refine Y [1,2] [1,2] sr (Bn 1 sr ?_);refine Ac i func101 ?_ (hp:=by simpa using l);refine Aa [2,3,4] [2,3] sr (Bn 2 sr ?_);refine Ac s func165 ?_;refine Ay 1 sr (Ac e func214 ?_);exact Aa [2] [2] sr (By sr rfl)
def Pd(x y:Int):V:=if y=0 then .tup [(nR 0).v,.bool false]else .tup [(nR (mkRat (x*G9 y) y.natAbs)).v,.bool true]
def Aud(y:Int):G9 y=0↔y=0:=by unfold G9;(repeat' split)<;>omega
def Ap7(b c:Bool)(n m:Nat)(h:sgn c m≠0):sgn (b != c) n=sgn b n*G9 (sgn c m):=by
 have:G9 (sgn c m)=sgn c 1:=by
  unfold G9 sgn at*;cases c<;>simp at h|-<;>omega
 rw[this,Awl,Gq]
def Aaw(a b:RI)(h1:a.ok 1099511627776)(h2:b.ok 1099511627776):AC prog 161 [a.v,b.v] (λr=>r=Pd a.val b.val):=by
 have e:=Aau b h2.lim;have y:=Bbb;have i:=Aey (a.neg != b.neg) a.mag h1.lim h1.len;have o:=Aj a.mag;have g:=Aj b.mag;have⟨p,l⟩:=a;have⟨q,m⟩:=b;simp only at i o g;have e1:(RI.mk p l).v=.agg [.bool p,.ro 1 (A2 l)]:=rfl;have e2:(RI.mk q m).v=.agg [.bool q,.ro 1 (A2 m)]:=rfl;have e3:(RI.mk p l).val=sgn p (Bf l):=rfl;have z:(RI.mk q m).val=sgn q (Bf m):=rfl;rw[e2,z]at e;rw[e1,e2,e3,z];have k:=Aud (sgn q (Bf m))
 by_cases d:sgn q (Bf m)=0
 .rw[Pd,Ad d];rw[k.2 d]at e;have⟨c,lw,dw,w,x,u⟩:=Ll 0;rw[w]at y|-;generalize A2 l=lv at o|-;generalize A2 m=mv at g e|-;refine Aq func161 λw0 N0=>?_;refine Y [2,3,4] [2,3,4] sr (J (J (Ak (Ay 1 sr ?_))));refine Ac e func102 ?_;refine Aa [2,3,4,8] [2,3,4] sr (A0 rfl (λh1=>?_) (λh1=>by cases h1));refine J (Ak (Ac y func213 ?_));exact Aa [4,5] [4] sr (Ao (Ab sr rfl))
 .rw[Pd,I d];have s:Bf m≠0:=by intro h;rw[h]at d;exact d (by unfold sgn;split<;>rfl)
  have f:=To (nI (sgn (p != q) (Bf l))) m (Hn (by rw[Ox,Xc];exact Ag (K1 h1.lim) h1.len)) h2.lim h2.len s;rw[Iz,Ap7 p q _ _ d]at f;rw[Ap7 p q _ _ d]at i;rw[Xc];have n:G9 (sgn q (Bf m))≠0:=λh=>d (k.1 h)
  have⟨c2,aa,t,j⟩:=Em (sgn p (Bf l)*G9 (sgn q (Bf m)));rw[t]at i f;generalize mkRat (sgn p (Bf l)*G9 (sgn q (Bf m))) (Bf m)=qq at f|-;have⟨c,lw,dw,w,x,u⟩:=Ll qq;rw[w]at f|-;generalize G9 (sgn q (Bf m))=sg at e n;generalize A2 l=lv at o i|-;generalize A2 m=mv at g e f|-;refine Aq func161 λw0 N0=>?_;refine Y [2,3,4] [2,3,4] sr (J (J (Ak (Ay 1 sr ?_))));refine Ac e func102 ?_;refine Aa [2,3,4,8] [2,3,4] Du (A0 rfl (λh1=>by cases h1) (λh1=>Ae (J (Di [(0,[]),(2,[]),(5,[]),(8,[]),(1,[]),(3,[]),(4,[]),(6,[]),(7,[]),(9,[]),(10,[]),(11,[]),(12,[])] Eb kr ?_))));refine Ci 8 sr (E8 (c:=true) (λhg=>i) func215 rfl kr rfl rfl sr rfl rfl (by cases p<;>cases q<;>rfl) sM sr ?_);refine Ci 1 sr (E8 (λhg=>f) func214 rfl kr rfl rfl sr rfl rfl sr sM sr ?_);exact Dj [4,5] [4] sr (Ao (Ab sr rfl))
def L0{z:Int}(h1: -18446744073709551616<=z)(h2:z<=18446744073709551616):Ox z<=3:=Fg (m:=3) om
def Ana(x y:Int):∃c a d b,Pd x y=.tup [.agg [.bool c,.ro 1 a,.ro 1 d],.bool b]/\a.all V.pureE=true/\d.all V.pureE=true:=by
 unfold Pd
 split
 .exact⟨_,_,_,_,rfl,Aj _,Aj _⟩
 .exact⟨_,_,_,_,rfl,Aj _,Aj _⟩
def Vu(x y:Int)(h1: -9223372036854775808<=x)(h2:x<9223372036854775808)(l: -9223372036854775808<=y)(s:y<9223372036854775808):AE 103 [.i x,.i y] (Pd x y):=by
 have k:=Auc x h1 h2;have h:=Auc y l s;have a:=Aaw (nI x) (nI y) (Hn (Ag (L0 om om) dc)) (Hn (Ag (L0 om om) dc));rw[Iz,Iz]at a;have⟨c,lw,m,e⟩:=Em x;have⟨c2,n,f,d⟩:=Em y;have⟨c3,o,t,b3,g,j,i⟩:=Ana x y;rw[m]at k a;rw[f]at h a;rw[g]at a|-;refine Aq func103 λw0 N0=>?_;refine Y [0,1,4] [4] sr (Bn 1 sr ?_);refine Ac k func162 ?_;refine Ay 1 sr (Ac h func162 ?_);refine Ac a func161 ?_;exact Aa [4,5] [4] sr (By sr rfl)
def Vv(z:Int):V:=if -9223372036854775808<=z/\z<=9223372036854775807 then .tup [.i z,.bool true]else .tup [.i 0,.bool false]
def Azz(x:Int):IntKind.i64.wrap x=(x+9223372036854775808)%18446744073709551616-9223372036854775808:=by rw[IntKind.wrap_i64]
def A4u(a:RI)(h:El a.mag):AC prog 274 [a.v] (λr=>r=Vv a.val):=by
 have⟨b,l⟩:=a;simp only at h;have c:=Ba5 l h _ rfl;have hp:=Aj l;have j:(RI.mk b l).v=.agg [.bool b,.ro 1 (A2 l)]:=rfl;have i:(RI.mk b l).val=sgn b (Bf l):=rfl;rw[j,i];generalize A2 l=lv at c hp|-;generalize Bf l=n at c|-
 by_cases g:n<18446744073709551616
 .rw[Ad g]at c
  cases b
  .refine Aq func274 λw0 N0=>?_;refine Y [1] [1] sr (J (Ak (Ay 2 sr ?_)));refine Ac c func307 ?_;refine Aa [1,4,5] [1] sr (J (Y [1,4,13] [1] sr ?_));refine A0 rfl (λh1=>by cases h1) (λh1=>Ae (J (Y [4,15] [] sr ?_)));refine A0 rfl (λh2=>by cases h2) (λh2=>Ae (J (Y [4,22] [] sr ?_)))
   refine Au (λe=>?_) λe=>Ae ?_
   .refine Y [2,3] [] sr (Ao (Ab sr ?_));simp at e;rw[Vv,I (by simp only[sgn];rw[I dC];omega)]
   .simp at e;have f:IntKind.i64.wrap (n:Int)=n:=Bp om om;refine Y [2,3] [] Du (Ao (Ab sr ?_));rw[Vv,Ad (by simp only[sgn];rw[I dC];omega)];rfl
  .have hw0:IntKind.i64.wrap (IntKind.u64.wrap (-(n:Int)))= -(n:Int)\/9223372036854775808<n:=by
    rw[Azz,Ly];omega
   refine Aq func274 λw0 N0=>?_;refine Y [1] [1] sr (J (Ak (Ay 2 sr ?_)));refine Ac c func307 ?_;refine Aa [1,4,5] [1] sr (J (Y [1,4,13] [1] sr ?_));refine A0 rfl (λh1=>by cases h1) (λh1=>Ae (J (Y [4,15] [] sr ?_)));refine A0 rfl (λh2=>?_) (λh2=>by cases h2);refine J (Y [4,17] [] sr ?_)
   refine Au (λd=>?_) λd=>Ae ?_
   .simp at d;refine Y [2,3] [] sr (Ao (Ab sr ?_));rw[Vv,I (by simp only[sgn,if_true];omega)]
   .simp at d;have f:=hw0.resolve_right om;refine Y [2,3] [] Du (Ao (Ab sr ?_));rw[Vv,Ad (by simp only[sgn,if_true];omega)];rfl
 .rw[I g]at c;refine Aq func274 λw0 N0=>?_;refine Y [1] [1] sr (J (Ak (Ay 2 sr ?_)));refine Ac c func307 ?_;refine Aa [1,4,5] [1] sr (J (Y [1,4,13] [1] sr ?_));refine A0 rfl (λh1=>?_) (λh1=>by cases h1);refine Y [2,3] [] sr (Ao (Ab sr ?_));rw[Vv,I (by unfold sgn;split<;>omega)]
def A4v(b:Bool)(hd:0<d)(h:b=false\/n%d=0):sgn b (n/d)=sgn b n/(d:Int)/\sgn b (n%d)=sgn b n%(d:Int):=by
 cases b
 .exact⟨by simp[sgn],by simp[sgn]⟩
 .have c:=sG h
  have f:n=d*(n/d):=by have:=G5 n d;omega
  have e:=(Int.ediv_emod_unique (a:=sgn true n) (b:=(d:Int)) (r:=sgn true (n%d)) (q:=sgn true (n/d)) om).2 ⟨by
   rw[c];simp only[sgn,if_true]
   conv=>rhs;rw[f]
   rw[Ft,Wt];simp,by rw[c];simp[sgn],by rw[c];simp[sgn];omega⟩
  exact⟨e.1.symm,e.2.symm⟩
def A4w(g:0<d)(h:n%d≠0):sgn true (n/d+1)=sgn true n/(d:Int)/\sgn false (d-n%d)=sgn true n%(d:Int):=by
 have e:=Dc n g;have c:=G5 n d
 have f:=(Int.ediv_emod_unique (a:=sgn true n) (b:=(d:Int)) (r:=sgn false (d-n%d)) (q:=sgn true (n/d+1)) om).2 ⟨by
   simp only[sgn,if_true];rw[I dC];generalize n/d=q at c|-;generalize n%d=r at c e|-;subst c;rw[Wt,Dy,Dy,Ft,Int.mul_add];omega,by simp only[sgn];rw[I dC];omega,by simp only[sgn];rw[I dC];omega⟩
 exact⟨f.1.symm,f.2.symm⟩
def Az0(b:Bool)(j i e a:List V)(k:Nat)(A B:V)(c1 w:Bool)(u x:List V)(o:A=.agg [.bool c1,.ro 1 u])(t:B=.agg [.bool w,.ro 1 x])(s:AC prog 120 [.ro 1 j,.ro 1 i] (λr=>r=.tup [.ro 1 e,.ro 1 a,.bool true]))
  (l:j.all V.pureE=true)(g:i.all V.pureE=true)(c:e.all V.pureE=true)(d:a.all V.pureE=true)(hl:a.length=k)(f:b=false\/k=0)
  (z:AC prog 215 [.bool b,.ro 1 e] (λr=>r=A))(y:AC prog 215 [.bool b,.ro 1 a] (λr=>r=B)):
  AC prog 308 [.agg [.bool b,.ro 1 j],.agg [.bool false,.ro 1 i]] (λr=>r=.tup [A,B,.bool true]):=by
 subst o t;refine Aq func308 λw0 N0=>?_;refine Y [2,3,4,5] [2,3,4,5] sr (J (Ak (Ay 4 sr ?_)));refine Ac s func120 ?_;refine Aa [2,3,4,5,7,8,9] [2,3,4,5] sr (J (Y [2,3,4,5,7,8,20] [2,3,4,5] sr ?_));refine A0 rfl (λh1=>by cases h1) λh1=>Ae (J ?_);have n:b=true->k=0:=λh=>f.resolve_left (by rw[h];decide)
 cases b
 all_goals
  refine Y [2,3,4,5,7,8,32] [2,3,4,5] Du (A0 rfl (λh2=>?_) (λh2=>by cases h2));refine J (Di [(0,[]),(2,[]),(5,[]),(7,[]),(9,[]),(1,[]),(3,[]),(4,[]),(6,[]),(8,[]),(10,[]),(11,[]),(12,[]),(13,[])] Eb kr ?_);refine Ci 8 sr (E8 (λm=>z) func215 rfl kr rfl rfl sr rfl rfl sr sM sr ?_);refine Ci 1 sr (E8 (λm=>y) func215 rfl kr rfl rfl sr rfl rfl sr sM sr ?_);exact Dj [4,5,6] [4,5] sr (Ao (Ab sr rfl))
def Az1(n e i d l a s:List V)(k:Nat)(A B:V)(c1 c2:Bool)(w1 w2:List V)(x:A=.agg [.bool c1,.ro 1 w1])(z:B=.agg [.bool c2,.ro 1 w2])(y:AE 120 [.ro 1 n,.ro 1 e] (.tup [.ro 1 i,.ro 1 d,.bool true]))
  (o:n.all V.pureE=true)(c:e.all V.pureE=true)(g:i.all V.pureE=true)(h:d.all V.pureE=true)(f:l.all V.pureE=true)(m:a.all V.pureE=true)(j:s.all V.pureE=true)(hl:d.length=k)(u:k≠0)
  (ho:AE 160 [.int .u64 1] (.ro 1 l))(w:AE 302 [.ro 1 i,.ro 1 l] (.ro 1 a))(hs:AE 303 [.ro 1 e,.ro 1 d] (.tup [.ro 1 s,.bool true]))
  (m1:AE 215 [.bool true,.ro 1 a] A)(m2:AE 215 [.bool false,.ro 1 s] B):
  AE 308 [.agg [.bool true,.ro 1 n],.agg [.bool false,.ro 1 e]] (.tup [A,B,.bool true]):=by
 subst x z;refine Aq func308 λw0 N0=>?_;refine Y [2,3,4,5] [2,3,4,5] sr (Bn 4 sr ?_);refine Ac y func120 ?_;refine Aa [2,3,4,5,7,8,9] [2,3,4,5] sr (J (Y [2,3,4,5,7,8,20] [2,3,4,5] sr ?_));refine A0 rfl (λh1=>by cases h1) (λh1=>Ae (J (Y [2,3,4,5,7,8,32] [2,3,4,5] Du ?_)));refine A0 rfl (λh2=>by cases h2) λh2=>Ae (Bn 1 sr ?_);refine Ac ho func160 ?_;refine Ac w func302 ?_;refine Aa [3,4,5,7,8] [3,4,5] sr (Bn 3 sr ?_);refine Ac hs func303 ?_;refine Aa [3,4,5,7,8] [3,4,5] sr ?_;refine J (Di [(0,[]),(1,[]),(2,[]),(4,[]),(3,[]),(5,[]),(6,[]),(7,[]),(8,[])] Eb kr ?_);refine Ci 1 sr ?_;refine B4 (λt=>m1) func215 ?_;refine Ci 3 sr ?_;refine B4 (λt=>m2) func215 ?_;refine Dj [4,5,6] [4,5] sr ?_;exact By sr rfl
def Bbe(a:RI)(m:List Nat)(h1:a.ok 274877906944)(h2:El m)(h3:m.length<=274877906944)(j:Bf m≠0):AE 308 [a.v,(RI.mk false m).v] (.tup [(nI (a.val/(Bf m:Int))).v,(nI (a.val%(Bf m:Int))).v,.bool true]):=by
 have⟨b,l⟩:=a;have⟨h1,k1⟩:=h1;simp only at h1 k1;have n:=Tm l m h1 h2 om;rw[Am7,I j,Vt,Vt]at n;have i:=Aj l;have g:=Aj m;have e:=Aj (B2 (Bf l/Bf m));have f:=Aj (B2 (Bf l%Bf m));have l1:=Ag (K1 h1) k1;have l2:=Ag (K1 h2) h3;have lq:(B2 (Bf l/Bf m)).length<=274877906944:=Ag (Ui (G7 _ _)) l1;have lr:(B2 (Bf l%Bf m)).length<=274877906944:=Ag (Ui (Nat.mod_le _ _)) l1;have hl:(A2 (B2 (Bf l%Bf m))).length=(B2 (Bf l%Bf m)).length:=sm;have hz:(B2 (Bf l%Bf m)).length=0↔Bf l%Bf m=0:=by rw[Am];exact Vn
 show AC _ _ [.agg [.bool b,.ro 1 (A2 l)],.agg [.bool false,.ro 1 (A2 m)]] (λr=>r=.tup [(nI (sgn b (Bf l)/(Bf m:Int))).v,(nI (sgn b (Bf l)%(Bf m:Int))).v,.bool true])
 by_cases k:b=false\/Bf l%Bf m=0
 .have⟨s,w⟩:=A4v b (H6 j) k;rw[<- s,<- w];have⟨x,o,c,_⟩:=Em (sgn b (Bf l/Bf m));have⟨t,u,d,_⟩:=Em (sgn b (Bf l%Bf m));exact Az0 b _ _ _ _ _ _ _ x t o u c d n i g e f hl (k.imp id hz.2) (Ke b _ om) (Ke b _ om)
 .have hb:b=true:=by cases b<;>simp at k|-
  subst hb;have z:Bf l%Bf m≠0:=λh=>k (.inr h)
  have⟨s,w⟩:=A4w (H6 j) z;rw[<- s,<- w];have⟨x,o,c,_⟩:=Em (sgn true (Bf l/Bf m+1));have⟨t,u,d,_⟩:=Em (sgn false (Bf m-Bf l%Bf m));have y:=At6 (B2 (Bf l/Bf m)) (B2 1) (Cp _) (Cp _) om (by rw[Am4];decide);rw[C4,C4]at y;have hs:=At8 m (B2 (Bf l%Bf m)) h2 (Cp _) om om;rw[C4,At7,Ad (H8 (Dc _ (H6 j)))]at hs;have l5:=Aex lq (show(B2 1).length<=1 by rw[Am4];decide);exact Az1 _ _ _ _ _ _ _ _ _ _ x t o u c d n i g e f (Aj _) (Aj _) (Aj _) hl (λh=>z (hz.1 h)) (Agl 1 dc) y hs (Ke true _ om) (Ke false _ (Ag (Ui (Zr _ _)) om))
def A4x(b:Bool)(n d:Nat)(h:d≠0):(mkRat (sgn b n) d).floor=sgn b n/(d:Int):=by
 have⟨h1,h2⟩:=Vq b n d h;rw[Rat.floor_def,h1,h2];have f:n.gcd d≠0:=λe=>h (Nat.gcd_eq_zero_iff.1 e).2
 have⟨c,i⟩:=Ua n d;have⟨d',j⟩:=Nat.gcd_dvd_right n d;generalize n.gcd d=g at*;subst i j;have a:=H6 f;rw[Ki _ a,Ki _ a];have e:sgn b (g*c)=(g:Int)*sgn b c:=by unfold sgn;cases b<;>simp[Wt]
 rw[e,Ft,Int.mul_ediv_mul_of_pos _ _ om]
def Az2(a:RR)(h1:a.ok 274877906944):AE 275 [a.v] ((nI a.val.floor).v):=by
 have i:=Ms a h1.lim;have j:=RR.p_ok h1 dc;have y:=RR.p_val a;have o:=RR.p_ne a;rw[pV]at i;have s:=RR.vp a;have z:=vRR a;rw[z]at i s|-;rw[<- y];generalize a.p=a' at*;clear y h1;have⟨x,d⟩:=a';simp only at i o;have w:=Tp d j.lim (Ag j.len dc)
 have n:nI (Bf d)=⟨false,B2 (Bf d)⟩:=by
  rw[nI,Ez];congr 1
 have f:=Bbe x (B2 (Bf d)) j.num (Cp _) (Ag (K1 j.lim) j.len) (by rw[C4];exact o);rw[<- n,C4]at f;show AC _ _ _ (λr=>r=(nI (mkRat (sgn x.neg (Bf x.mag)) (Bf d)).floor).v)
 rw[A4x _ _ _ o];have t:x.val=sgn x.neg (Bf x.mag):=rfl;rw[t]at f;have⟨c,lw,m,af⟩:=Em (sgn x.neg (Bf x.mag)/(Bf d:Int));have⟨c3,ab,h,u⟩:=Em (sgn x.neg (Bf x.mag)%(Bf d:Int));have⟨c2,aa,e,g⟩:=Em (Bf d:Int);rw[m,e,h]at f;rw[e]at w;rw[m];have hx:=Aj x.mag;have l:=Aj d;have ex:x.v=.agg [.bool x.neg,.ro 1 (A2 x.mag)]:=rfl;rw[ex]at i f;clear z ex m e h t;generalize A2 x.mag=xv,A2 d=ad,A2 a.num.mag=av,A2 a.den=ae at*;refine Aq func275 λw0 N0=>?_;refine Y [1,2] [1,2] sr (Bn 1 sr ?_);refine Ac i func101 ?_ (hp:=by simpa using s);refine Aa [2,3,4] [2,3] sr (J (Aeu (.take 1 [] (.take 2 [] (.take 0 [5,6] (.take 3 [] (.take 4 [] (.take 5 [] (.take 6 [] (.take 7 [] (.alt 8 (.take 9 [] (.take 10 [] (.take 11 [] (.take 12 [] .done)))) (.alt 9 (.take 8 [] (.take 10 [] (.take 11 [] (.take 12 [] .done)))) .stop)))))))))) Eb kr ?_));refine Ug sr (App (λhg=>w) func165 rfl kr rfl rfl sr rfl rfl sr sM sr ?_);refine Ug sr (App (λhg=>f) func308 rfl kr rfl rfl sr rfl rfl sr sM sr ?_);refine Uf (L:=[2,5]) (M:=[2,5]) sr ?_;intro T hT;have k:=(show T=_ by simpa using hT);subst k;exact Y [2] [2] sr (By sr rf)
end Go.Proofs.YtnoignhlamifmaaGreatDoor
namespace Go.Proofs
open Go.Shelf
def Tryz.lays125_ren:Go.Shelf.Ren:=⟨λ|125=>177|128=>232|129=>233|n=>n,λ|46=>102|3=>3|51=>164|53=>42|4=>4|5=>5|9=>9|n=>n,λ|n=>n⟩
def Tryz.lays125:Go.Proofs.Lays.n125 prog lays125_ren:=Go.ly
def Tryz.bits_Len(x:Int)(w:World)(a:0<=x)(h1:x<=18446744073709551615):
  Calls prog 177 #[.int .u64 x] w λe w'=>e=.returned (.int .i64 (Lib.bitLen x.toNat))/\w'=w:=Any.bits_Len lays125 x w a h1
def Tryz.lays219_ren:Go.Shelf.Ren:=⟨λ|219=>295|217=>331|225=>332|224=>333|267=>334|266=>350|314=>351|n=>n,λ|9=>9|3=>3|4=>4|5=>5|46=>102|146=>476|51=>164|n=>n,λ|1=>1|n=>n⟩
def Tryz.lays144_ren:Go.Shelf.Ren:=⟨λ|144=>222|143=>259|219=>295|217=>331|225=>332|224=>333|267=>334|266=>350|314=>351|n=>n,λ|9=>9|4=>4|3=>3|5=>5|46=>102|146=>476|51=>164|n=>n,λ|1=>1|n=>n⟩
def Tryz.lays144:Go.Proofs.Lays.n144 prog lays144_ren:=Go.ly
open Go.RowKit Go.Lib in
theorem Tryz.strings_Contains(s sub:ByteArray)(m:Int)(w:World)(hs:s.size<4294967281)(hm:w.cell? ⟨1,0,none⟩=some (.int .i64 m)):
  Calls prog 222 #[.string s,.string sub] w fun e w'=>e=.returned (.bool (Lib.contains s.data.toList sub.data.toList))/\w'=w:=Any.strings_Contains lays144 s sub m w hs hm
def Tryz.lays145_ren:Go.Shelf.Ren:=⟨λ|145=>217|220=>256|219=>295|217=>331|225=>332|224=>333|267=>334|266=>350|314=>351|n=>n,λ|9=>9|4=>4|59=>359|3=>3|5=>5|46=>102|146=>476|51=>164|n=>n,λ|1=>1|n=>n⟩
def Tryz.lays145:Go.Proofs.Lays.n145 prog lays145_ren:=Go.ly
open Go.RowKit Go.Lib in
theorem Tryz.strings_Cut(s sep:ByteArray)(m:Int)(w:World)(hs:s.size<4294967281)(hm:w.cell? ⟨1,0,none⟩=some (.int .i64 m)):
  Calls prog 217 #[.string s,.string sep] w fun e w'=>e=.returned (.tuple #[.string ⟨(Lib.cut s.data.toList sep.data.toList).1.toArray⟩,.string ⟨(Lib.cut s.data.toList sep.data.toList).2.1.toArray⟩,.bool (Lib.cut s.data.toList sep.data.toList).2.2])/\∃n,w'=w.drewN n:=Any.strings_Cut lays145 s sep m w hs hm
def Tryz.lays189_ren:Go.Shelf.Ren:=⟨λ|189=>117|125=>177|257=>176|128=>232|129=>233|294=>223|295=>224|296=>225|297=>226|298=>227|299=>228|216=>229|300=>230|301=>231|328=>265|329=>266|330=>267|331=>268|332=>269|215=>248|343=>301|n=>n,λ|28=>25|3=>3|46=>102|0=>0|51=>164|53=>42|4=>4|183=>364|182=>363|131=>269|5=>5|9=>9|218=>400|222=>403|228=>431|229=>432|n=>n,λ|n=>n⟩
def Tryz.lays189:Go.Proofs.Lays.n189 prog lays189_ren:=Go.ly
open Go.Sort Go.RowKit in
theorem Tryz.slices_Sort_int(blk off cap:Nat)(zs:List Int)(w:World)(hH:Holds (Value.int .i64) w blk off zs.toArray)(hblk:blk<w.heap.size)(hsz:zs.length<4611686018427387904):
  Calls prog 117 #[.slice (some ⟨blk,off,none⟩) zs.length cap] w fun e w'=>
   e=.returned (.tuple #[])/\∃n os,w'=grow (putRow (Value.int .i64) (Sort.ahead w n) blk off (zs.mergeSort fun x y=>decide (x<=y)).toArray) os:=Any.slices_Sort_int lays189 blk off cap zs w hH hblk hsz
def Tryz.lays154_ren:Go.Shelf.Ren:=⟨λ|154=>218|138=>257|165=>258|143=>259|166=>260|197=>261|169=>262|195=>296|218=>297|240=>298|241=>299|219=>295|260=>300|276=>335|277=>336|217=>331|225=>332|224=>333|267=>334|266=>350|314=>351|n=>n,λ|9=>9|3=>3|4=>4|72=>392|0=>0|76=>394|105=>396|21=>21|5=>5|70=>390|20=>20|37=>45|75=>125|127=>430|164=>168|46=>102|119=>462|139=>465|138=>464|146=>476|51=>164|80=>398|n=>n,λ|1=>1|3=>2|4=>3|n=>n⟩
def Tryz.lays155_ren:Go.Shelf.Ren:=⟨λ|155=>169|154=>218|138=>257|165=>258|143=>259|166=>260|197=>261|169=>262|195=>296|218=>297|240=>298|241=>299|219=>295|260=>300|276=>335|277=>336|217=>331|225=>332|224=>333|267=>334|266=>350|314=>351|n=>n,λ|9=>9|3=>3|4=>4|72=>392|0=>0|76=>394|105=>396|21=>21|5=>5|70=>390|20=>20|37=>45|75=>125|127=>430|164=>168|46=>102|119=>462|139=>465|138=>464|146=>476|51=>164|80=>398|n=>n,λ|1=>1|3=>2|4=>3|n=>n⟩
def Tryz.lays155:Go.Proofs.Lays.n155 prog lays155_ren:=Go.ly
def Tryz.Builder_Extra_155:Builder.Extra prog lays155_ren:=Go.lx
open Go.RowKit Go.Lib in
theorem Tryz.strings_ReplaceAll(s old new:ByteArray)(m:Int)(w:World)(hs:s.size<4294967281)(hm:w.cell? ⟨1,0,none⟩=some (.int .i64 m))(h1:1<=old.size)(hlen:s.size+Lib.countB s old*new.size<=140737488355328):
  Calls prog 169 #[.string s,.string old,.string new] w fun e w'=>
   e=.returned (.string ⟨(Lib.replaceAll s.data.toList old.data.toList new.data.toList).toArray⟩)/\Below w.heap.size w w':=Any.strings_ReplaceAll lays155 Builder_Extra_155 s old new m w hs hm h1 hlen
def Tryz.laysNm220_ren:Go.Shelf.Ren:=⟨λ|20=>118|n=>n,λ|22=>25|3=>3|4=>4|0=>0|n=>n,λ|n=>n⟩
def Tryz.laysNm220:Go.Proofs.Lays2.n20 prog laysNm220_ren:=Go.ly
open Go.RowKit Go.Lib Go.Sort in
theorem Tryz.slices_Compact_int(blk off cap:Nat)(zs:List Int)(w:World)(hH:Holds (Value.int .i64) w blk off zs.toArray)(hsz:zs.length<=9223372036854775807)(hcap:zs.length<=cap):
  Calls prog 118 #[.slice (some ⟨blk,off,none⟩) zs.length cap] w fun e w'=>e=.returned (.slice (some ⟨blk,off,none⟩) (Lib.compact zs).length cap)/\∃q,w'=putRow (Value.int .i64) (Sort.ahead w q) blk off (Lib.compact zs++List.replicate (zs.length-(Lib.compact zs).length) 0).toArray:=Any.slices_Compact_int laysNm220 blk off cap zs w hH hsz hcap
open Go.RowKit Go.Lib Go.Sort in
theorem Tryz.slices_Compact_int_empty(a:Option Addr)(cap:Nat)(w:World):
  Calls prog 118 #[.slice a 0 cap] w fun e w'=>e=.returned (.slice a 0 cap)/\w'=w:=Any.slices_Compact_int_empty laysNm220 a cap w
end Go.Proofs
namespace Go.Proofs.YtnoignhlamifmaaGreatDoor
open Go.Eng Go.Eng.Limb Go.RowKit Go.Sort Go.Lib
variable {N:Nat->Prop}{xs:List Value}
abbrev Ap8:Value:=.iface 241 (.agg #[.pointer (some ⟨4,125,none⟩)])
def gv:Gp where
 P:=λw=>(∃m,w.cell? ⟨1,0,none⟩=some (.int .i64 m))/\Glw 0 Ap8 w
 bl:=λb=>b=0\/b=1
 stable:=by
  rintro w w'⟨⟨m,h1⟩,h2⟩hk;refine⟨⟨m,?_⟩,?_⟩
  .rw[World.cell?_of_block (hk 1 (.inr rfl))];exact h1
  .unfold Glw at h2|-;rw[World.cell?_of_block (hk 0 (.inl rfl))];exact h2
 low:=by
  rintro w⟨⟨m,h1⟩,h2⟩b(rfl|rfl)
  .exact h2.lt
  rcases Cl 1 w.heap.size with h|h
  .exact h
  .simp[World.cell?,Cq h]at h1
def Ap9{w:World}{v u:V}(a:xs.length= [v,u].length)(hp:∀(i:Nat)x z,xs[i]? =some x->[v,u][i]? =some z->Pur w N x z):∃x y,xs= [x,y]/\Pur w N x v/\Pur w N y u:=by
 cases xs with
 |nil=>simp at a
 |cons x r=>cases r with
  |nil=>simp at a
  |cons y r=>cases r with
   |nil=>exact⟨x,y,rfl,hp 0 x v rfl rfl,hp 1 y u rfl rfl⟩
   |cons _ _ =>simp at a
def Aqa(w:World)(k:Nat):Below w.heap.size w (w.drewN k):=by
 have:=Lib.below_grow w.heap.size w (A7 _) k #[];simpa using this
def Bbf(s a:List UInt8)(hs:s.length<4294967281):Kb gv prog 217 [.str s,.str a] (λr=>r=.tup [.str (Lib.cut s a).1,.str (Lib.cut s a).2.1,.bool (Lib.cut s a).2.2]):=by
 intro w N xs h _ j hp;obtain⟨x,y,rfl,d,g⟩:=Ap9 j hp;cases d;cases g
 have⟨⟨m,l⟩,_⟩:=h;refine(strings_Cut ⟨s.toArray⟩ ⟨a.toArray⟩ m w (by rw[Lib.size_eq];simpa using hs) l).mono ?_;rintro e w'⟨rfl,k,rfl⟩;refine⟨_,_,rfl,rfl,.tup _ _ rfl ?_,Aqa w k⟩;intro i x c d f
 rcases i with _ |_ |_ |i
 .simp at d f;subst d f;exact .str _
 .simp at d f;subst d f;exact .str _
 .simp at d f;subst d f;exact .bool _
 .simp at d
abbrev AQ(f:Nat)(l:List V)(v:V):Prop:=Kb gv prog f l (fun r=>r=v)
end Go.Proofs.YtnoignhlamifmaaGreatDoor
namespace Go.Eng.Limb
open Go.Eng
structure Ru where
 kind:Int
 n:Int
 mn:Int
 mx:Int
 code:List UInt8
def Ru.cs(r:Ru):List V:=[.i r.kind,.i r.n,.i r.mn,.i r.mx,.str r.code]
def Ru.v(r:Ru):V:=.agg r.cs
def Ru.known(r:Ru):Prop:=1<=r.kind/\r.kind<=9
def Agm(a b:Int):Int:=if a<0\/9999999<a\/b<0\/9999999<b then 3 else if b<a then 23 else 0
def Xu(n:Int):Bool:=decide (1<=n)&&decide (n<=9999999)
def Ru.fits(r:Ru):Bool:=
 if r.kind=1 then decide (r.n=0)
 else if r.kind=2\/r.kind=3 then decide (r.n=0)&&decide (r.mn=0)&&decide (r.code= [])
 else if r.kind=4 then decide (r.n=0)&&decide (r.code= [])
 else if r.kind=5\/r.kind=6 then decide (r.code= [])
 else if r.kind=7\/r.kind=8 then decide (r.mn=0)&&decide (r.mx=0)&&decide (r.code= [])
 else if r.kind=9 then decide (r.n=0)&&decide (r.mn=0)&&decide (r.mx=0)&&decide (r.code= [])
 else false
end Go.Eng.Limb
namespace Go.Proofs.YtnoignhlamifmaaGreatDoor
open Go.Eng Go.Eng.Limb
variable {α:Type}{k:Nat}{l:List UInt8}
abbrev Ns(l:List (List UInt8)):List V:=l.map V.str
def Bjy(h:k<l.length):Hj l k=some l[k]:=by rw[C2];simp[h]
def okB(c:UInt8):Bool:=(decide (65<=c.toNat)&&decide (c.toNat<=90))||(decide (48<=c.toNat)&&decide (c.toNat<=57))
def Aks(s:List UInt8):Bool:=s.all okB&&(decide (1<=s.length)&&decide (s.length<=8))
def Aej(s:List UInt8)(hs:s.length<=1000):AC prog 167 [.str s] (λr=>r=.bool (Aks s)):=by
 have m:=λ(k:Nat)(h:k<s.length)=>Bjy h
 refine Aq func167 λw0 N0=>?_;refine Y [0] [] sr (J (Y [0,3] [] sr (Ah (Bu (λk nx=>⟨[(0,.str s),(3,.i k)],[],nx,40⟩) (λk=>(s.take k).all okB=true) s.length _ sm Z ?_))));intro k nx hk g;refine J (Y [0,3,7] [] sr ?_)
 refine Au (λh1=>Ae ?_) λh1=>?_
 .have a:k<s.length:=by simp at h1;omega
  have j:=m k a;have t:=A5 (k:=k) om;have e:=Az (l:=s) (i:=k) a;have d:=Aw a;generalize s[k]=c at j e d;refine J (Ah (Y [0,3,31] [] (by simp[j,a]<;>rfl) ?_))
  refine Au (λh2=>?_) λh2=>Ae ?_
  .refine Y [2] [] sr (Ao (Ab sr ?_));have:s.all okB=false:=Jy.2 ⟨c,d,by simp[okB]at h2|-;omega⟩;simp[Aks,this]
  have n:okB c=true:=by simp[okB]at h2|-;omega
  refine Ba [0,3] [] Du ?_;exact⟨a,by rw[e,Kv,g];simp[n],_,Z⟩
 .refine A6 (Y [2] [] sr ?_);refine Ao (Ab sr ?_);have f:k=s.length:=sO h1
  rw[f,Be]at g;have u:((1:Int)<=s.length)=(1<=s.length):=by simp;omega
  have o:((s.length:Int)<=8)=(s.length<=8):=by simp;omega
  simp[Aks,g,u,o]
def Pz:Nat->List (List UInt8)->List UInt8->List (List UInt8)× Nat × Bool
 |0,done,_ =>(done,0,false)
 |n+1,done,a=>
  if(Lib.cut a [46]).2.2=false then(done++[(Lib.cut a [46]).1]++List.replicate n [],done.length+1,true)
  else Pz n (done++[(Lib.cut a [46]).1]) (Lib.cut a [46]).2.1
def Bbg(p:List (List UInt8)× Nat × Bool):V:=.tup [.agg (Ns p.1),.i p.2.1,.bool p.2.2]
def Awt(s a:List UInt8):(Lib.cut s a).2.1.length<=s.length/\(Lib.cut s a).1.length<=s.length:=by
 unfold Lib.cut
 split
 .simp only[Da,Eu];omega
 .simp
def Aqb:∀(n:Nat)(done:List (List UInt8))(a:List UInt8),(Pz n done a).1.length=done.length+n
 |0,done,a=>by simp[Pz]
 |n+1,done,a=>by
  rw[Pz]
  split
  .simp
  .rw[Aqb n];simp;omega
def Bfw:∀(l:List α),l.length=5->∃a b c d e,l= [a,b,c,d,e]
 | [a,b,c,d,e],_ =>⟨a,b,c,d,e,rfl⟩
def Anb(g:List UInt8)(hs:g.length<=1000):Kb gv prog 166 [.str g] (λr=>r=Bbg (Pz 5 [] g)):=by
 refine B0 func166 λw0 N0 hG=>?_;refine Y [0,2] [2] sr (Y [0,2,5] [2,5] sr (J (Y [0,2,5,10] [2,5] sr (Ah ?_))))
 refine C3 (λp:List (List UInt8)× List UInt8 × Nat=>⟨[(0,.str p.2.1),(2,.bp 2 0 5 0 0),(5,.bp 5 3 5 0 0),(10,.i p.1.length)],[(2,⟨0,5,300,[.agg [.str [],.str [],.str [],.str [],.str []]]⟩),(5,⟨3,5,300,[.agg (Ns (p.1++List.replicate (5-p.1.length) []))]⟩)],p.2.2,30⟩)
  (λp=>p.1.length<=5/\p.2.1.length<=1000/\Pz (5-p.1.length) p.1 p.2.1=Pz 5 [] g) (λp=>5-p.1.length) ([],g,_) ⟨by simp,hs,rfl⟩ Z ?_
 rintro⟨done,cd,nx⟩⟨hd,ah,l⟩;simp only at hd ah l;have s:(Ns (done++List.replicate (5-done.length) [])).length=5:=by simp;omega
 by_cases af:done.length<5
 .obtain⟨n,hn⟩:∃n,5-done.length=n+1:=⟨4-done.length,by omega⟩;rw[hn]at l s|-;rw[Pz]at l;have hc:=Bbf cd [46] om;have m:=Awt cd [46];have w:(Ns (done++List.replicate (n+1) [])).take done.length=Ns done:=sm
  have t:(Ns (done++List.replicate (n+1) [])).drop (done.length+1)=Ns (List.replicate n []):=by
   have e:Ns (done++List.replicate (n+1) [])=Ns done++(V.str []::Ns (List.replicate n [])):=by simp[Gm]
   have hl:done.length+1=(Ns done++[V.str []]).length:=sm;have e2:Ns done++(V.str []::Ns (List.replicate n []))=(Ns done++[V.str []])++Ns (List.replicate n []):=sm;rw[e,e2,hl,Ws]
  generalize Lib.cut cd [46]=ct at hc l m;have⟨i,tl,more⟩:=ct;simp only at hc l m;obtain⟨k,hk⟩:∃k,done.length=k:=⟨_,rfl⟩;have x:Ns (done++[i]++List.replicate n [])=Ns done++ .str i::Ns (List.replicate n []):=sm;generalize ai:Ns (done++List.replicate (n+1) [])=av at s w t|-;rw[hk]at w t af hn|-;have ag:(k:Int)<5:=om;have aa:=A5 (k:=k) om;have ab:k<=4:=om;have u:av.take k++ .str i::av.drop (k+1)=Ns (done++[i]++List.replicate n []):=by rw[w,t,x]
  have j:more=false->Bbg (Pz 5 [] g)=.tup [.agg (Ns (done++[i]++List.replicate n [])),.i (k+1:Nat),.bool true]:=λh=>by
   rw[<- l,Ad h,Bbg,hk]
  have z:more≠false->Pz n (done++[i]) tl=Pz 5 [] g:=λh=>by rw[I h]at l;exact l
  have ad:(done++[i]++List.replicate n []).length=5:=by simp;omega
  have⟨a,b,c,d,f,y⟩:=Bfw _ ad;rw[y]at u j;simp only[Ns,B6,C6]at u j;refine Y [0,2,5,10,11] [2,5] sr (J (A0 rfl (λh1=>Ae ?_) (λh1=>by simp at h1;omega)));refine J (Ah (Y [0,2,5,6,10] [2,5] sr (J (Ak (Ay 1 sr ?_)))));refine Bq hG hc func217 ?_;refine Aa [2,5,6,7,8,9,10] [2,5] sr (Y [2,5,6,8,9,10] [2,5] (by simp[ag,s,ab,u]<;>rfl) (J (Y [2,5,6,8,10,23] [2,5] sr ?_)))
  refine Au (λh2=>?_) λh2=>Ae ?_
  .refine Y [2,3,4] [2] Du ?_;refine Ao (Ab sr ?_);rw[j (sG h2)];have o:((k+1:Nat):Int)=(k:Int)+1:=om;rw[o]
  refine Ba [0,2,5,10] [2,5] sr (Ba [0,2,5,10] [2,5] Du ?_)
  refine⟨(done++[i],tl,nx+1+2+9+4+2+2+2),⟨by simp;omega,by simp only;omega,?_⟩,by simp;omega,?_⟩
  .simp only[A1,A3,Bo,hk];rw[show 5-(k+(0+1))=n by omega];exact z (sG h2)
  .have o:((k+1:Nat):Int)=(k:Int)+1:=om;have ae:5-(k+1)=n:=om;simp only[A1,A3,Bo,hk,Dq,o,ae,y,Ns,B6,C6];exact Z
 .have h5:done.length=5:=om;obtain⟨a,b,c,d,f,rfl⟩:=Bfw _ h5;rw[h5,F5,Pz]at l;refine Y [0,2,5,10,11] [2,5] sr (J (A0 rfl sA (λh1=>?_)));refine A6 ?_;refine Y [2,3,4] [2] sr ?_;refine Ao (Ab sr ?_);rw[<- l];rfl
def Agn:∀(n:Nat)(done:List (List UInt8))(c:List UInt8),(∀x∈done,x.length<=1000)->c.length<=1000->∀x∈(Pz n done c).1,x.length<=1000
 |0,done,c,h,_ =>by simpa[Pz]using h
 |n+1,done,c,h,hc=>by
  have d:=Awt c [46];rw[Pz]
  split
  .intro x a
   rcases Cn.1 a with a|a
   .rcases Cn.1 a with a|a
    .exact h x a
    .simp at a;subst a;omega
   .have:=(List.mem_replicate.1 a).2;subst this;simp
  .refine Agn n _ _ (λx a=>?_) om
   rcases Cn.1 a with a|a
   .exact h x a
   .simp at a;subst a;omega
def A4y:∀(n:Nat)(done:List (List UInt8))(a:List UInt8),(Pz n done a).2.1<=done.length+n
 |0,done,a=>by simp[Pz]
 |n+1,done,a=>by
  rw[Pz]
  split
  .simp
  .have:=A4y n (done++[(Lib.cut a [46]).1]) (Lib.cut a [46]).2.1;simp at this;omega
def P1(a:List UInt8):Bool:=decide (a.length<=24)&&((Pz 5 [] a).2.2&&((Pz 5 [] a).1.take (Pz 5 [] a).2.1).all Aks)
def Y1(e:List UInt8):Kb gv prog 105 [.str e] (λr=>r=.bool (P1 e)):=by
 refine B0 func105 λw0 N0 hG=>?_;refine Y [0] [] sr (J (Y [0,10] [] sr ?_))
 refine Au (λh1=>?_) λh1=>Ae ?_
 .refine Y [2] [] sr (Ao (Ab sr ?_));have:¬e.length<=24:=sO h1
  simp[P1,this]
 have aj:e.length<=24:=sO h1
 have y:=Anb e om;have o:=Agn 5 [] e sm om;have hn:=A4y 5 [] e;have u:=Aqb 5 [] e;have g:P1 e=((Pz 5 [] e).2.2&&((Pz 5 [] e).1.take (Pz 5 [] e).2.1).all Aks):=by simp[P1,aj]
 generalize Pz 5 [] e=p at y o hn u g;have⟨A,n,ok⟩:=p;simp only[Bo,Dq]at o hn u g;rw[Bbg]at y;simp only at y;have⟨a,b,c,d,f,hA⟩:=Bfw A u;have ad:Ns A= [.str a,.str b,.str c,.str d,.str f]:=by rw[hA];rfl
 rw[ad]at y;refine J (Ak (Ay 1 sr ?_));refine Bq hG y func166 ?_;refine Aa [3,4,5] [3] sr (J (Y [3,4,18] [3] sr ?_))
 refine Au (λh2=>?_) λh2=>Ae ?_
 .refine Y [2] [] sr (Ao (Ab sr ?_));have:ok=false:=sG h2
  simp[g,this]
 have ag:ok=true:=sG h2
 rw[ag,Bool.true_and]at g;refine Bw 3 [3,4] [] sr ?_;have ah:(n:Int)<=5:=om;refine J (Y [20,21,22] [] Du ?_);have s:List.take n [V.str a,.str b,.str c,.str d,.str f]=Ns (A.take n):=by rw[<- ad];simp[Ns]
 have ai:(A.take n).length=n:=by simp;omega
 have m:=λ(k:Nat)(h:k<(A.take n).length)=>(show Hj (Ns (A.take n)) k=some (.str (A.take n)[k])by rw[C2,Ns,Bb,Ai h];rfl)
 have ab:∀x∈A.take n,x.length<=1000:=λx hx=>o x (Dg hx)
 have w:(Ns (A.take n)).length=n:=by simp;omega
 have af:min n 5=n:=om;simp only[s,af];generalize A.take n=sl at g ai m ab w|-;generalize Ns sl=sv at m w|-;refine Ah (Bu (λk nx=>⟨[(20,.ro 1 sv),(21,.i n),(22,.i k)],[],nx,30⟩) (λk=>(sl.take k).all Aks=true) n _ sm Z ?_);intro k nx hk hI;refine Y [20,21,22,23] [] sr (J ?_)
 refine Au (λh3=>Ae ?_) λh3=>?_
 .have t:k<sl.length:=by simp at h3;omega
  have z:k<sv.length:=om;have ga:=m k t;have hw:=A5 (k:=k) om;have ae:=Az (l:=sl) (i:=k) t;have j:=Aw t;have aa:=Aej sl[k] (ab _ j);generalize sl[k]=x at ga ae j aa;refine J (Ah (Y [7,20,21,22] [] (by simp[ga,z]<;>rfl) (J (Ak (Ay 1 sr ?_)))));refine Fe aa func167 rfl kr rfl rfl rfl rfl rfl sr ?_;refine Aa [20,21,22,28] [] sr ?_
  refine Au (λh4=>?_) λh4=>Ae ?_
  .refine Y [2] [] sr ?_;refine Ao (Ab sr ?_);have:=Jy.2 ⟨x,j,by simpa using h4⟩;rw[g,this]
  refine Ba [20,21,22] [] Du ?_;exact⟨by omega,by rw[ae,Kv,hI];simp;simpa using h4,_,Z⟩
 .refine A6 ?_;refine Y [2] [] sr ?_;refine Ao (Ab sr ?_);have ak:k=sl.length:=sO h3
  rw[ak,Be]at hI;rw[g,hI]
def Az3(t:TypeId)(cs:List V):Bj (.ifc t (.agg cs)) (.dm t cs):=by
 refine⟨λw N x c=>?_,λ_ =>rfl⟩;cases c with
 |ifc _ y _ _ e=>cases e with
  |agg xs _ f d a=>exact .dm t xs cs f d a
def Aqc(r:Ru):TypeId:=
 if r.kind=1 then 280 else if r.kind=2 then 282 else if r.kind=3 then 283 else if r.kind=4 then 284 else if r.kind=5 then 286 else if r.kind=6 then 288 else if r.kind=7 then 290 else if r.kind=8 then 291 else 293
def Ago(r:Ru):List V:=
 if r.kind=1 then [.i r.mn,.i r.mx,.fc 153 [] [.rp r.v],.str r.code]
 else if r.kind=2 then [.i r.mn,.i r.mx,.fn 156]
 else if r.kind=3 then [.i r.mn,.i r.mx,.fn 157]
 else if r.kind=4 then [.i r.mn,.i r.mx,.fn 158]
 else if r.kind=5 then [.i r.mn,.i r.mx,.fc 159 [] [.rp r.v],.i r.n]
 else if r.kind=6 then [.i r.mn,.i r.mx,.i r.n]
 else if r.kind=7 then [.i r.n]
 else if r.kind=8 then [.i r.n]
 else []
def Y2(r:Ru):V:=.dm (Aqc r) (Ago r)
def Acv(a b:Int):AE 405 [.agg [.i a,.i b]] (.i (Agm a b)):=by
 unfold Agm;refine Aq func405 λw0 N0=>?_;refine Y [1] [1] sr (J (A9 [20] sr ?_))
 refine Au (λh1=>?_) λh1=>Ae ?_
 .exact Y [2] [] sr (Ao (Ab sr (by rw[Ad (sO h1)])))
 rw[I (sO h1)];refine J (Y [25] [] sr ?_)
 refine Au (λh2=>?_) λh2=>Ae ?_
 .exact Y [2] [] sr (Ao (Ab sr (by rw[Ad (sG h2)])))
 exact Y [2] [] sr (Ao (Ab sr (by rw[I (sG h2)])))
def Aez(n:Int):AE 58 [.i n] (.bool (Xu n)):=by
 refine Aq func58 λw0 N0=>?_;exact Y [0] [] sr (Y [2] [] sr (By sr (by simp[Xu])))
def J6(b:Bool):Int:=if b=true then 1 else 0
def Vw(b:Bool):AE 154 [.bool b] (.i (J6 b)):=by
 unfold J6;refine Aq func154 λw0 N0=>?_;refine Y [0] [] sr (J (Y [3] [] sr ?_))
 refine Au (λh1=>?_) λh1=>Ae ?_
 .exact Y [2] [] sr (Ao (Ab sr (by rw[Ad h1])))
 exact Y [2] [] sr (Ao (Ab sr (by rw[I (by rw[h1];decide)])))
def Bbh:Uh prog 280 "examboard/blueprint.check" 4 409 0 4:=by
 intro xs w e
 match xs,e with
 | [a,b,c,d],_ =>show _ =_;kernel_rfl
def Bbi:Uh prog 282 "examboard/blueprint.check" 3 405 0 2:=by
 intro xs w d
 match xs,d with
 | [a,b,c],_ =>show _ =_;kernel_rfl
def Bbj:Uh prog 283 "examboard/blueprint.check" 3 405 0 2:=by
 intro xs w d
 match xs,d with
 | [a,b,c],_ =>show _ =_;kernel_rfl
def Bbk:Uh prog 284 "examboard/blueprint.check" 3 405 0 2:=by
 intro xs w d
 match xs,d with
 | [a,b,c],_ =>show _ =_;kernel_rfl
def Bbl:Uh prog 286 "examboard/blueprint.check" 4 414 0 4:=by
 intro xs w e
 match xs,e with
 | [a,b,c,d],_ =>show _ =_;kernel_rfl
def Bbm:Uh prog 288 "examboard/blueprint.check" 3 417 0 3:=by
 intro xs w d
 match xs,d with
 | [a,b,c],_ =>show _ =_;kernel_rfl
def Bbn:Uh prog 290 "examboard/blueprint.check" 1 423 0 1:=by
 intro xs w c
 match xs,c with
 | [a],_ =>show _ =_;kernel_rfl
def Bbo:Uh prog 291 "examboard/blueprint.check" 1 433 0 1:=by
 intro xs w c
 match xs,c with
 | [a],_ =>show _ =_;kernel_rfl
def Bbp:Uh prog 293 "examboard/blueprint.check" 0 439 0 0:=by
 intro xs w a
 match xs,a with
 | [],_ =>show _ =_;kernel_rfl
def Bfx(a b:Int)(f:V)(c:List UInt8):Kb gv prog 409 [.agg [.i a,.i b,.fc 153 [] [.rp f],.str c]] (λr=>r=.i (if P1 c=false then 2 else Agm a b)):=by
 have d:=Y1 c;generalize P1 c=q at d|-;refine B0 func409 λw0 N0 g=>?_;refine Y [1] [1] sr (J (J (Ak (Ay 2 sr ?_))));refine Bq g d func105 ?_;refine Aa [1,6] [1] sr ?_
 refine Au (λh1=>?_) λh1=>Ae ?_
 .exact Y [2] [] sr (Ao (Ab sr (by rw[Ad (sG h1)])))
 rw[I (sG h1)];refine J (Ak (Ay 3 sr ?_));refine Ac (Acv a b) func405 ?_;exact Aa [2] [] sr (Ao (Ab sr rfl))
def Bfy(a b n:Int)(d:V):AC prog 414 [.agg [.i a,.i b,.fc 159 [] [.rp d],.i n]] (λr=>r=.i (if n<1\/10<n then 3 else Agm a b)):=by
 refine Aq func414 λw0 N0=>?_;refine Y [1] [1] sr (J (Y [1,10] [1] sr ?_))
 refine Au (λh1=>?_) λh1=>Ae ?_
 .exact Y [2] [] sr (Ao (Ab sr (by rw[Ad (sO h1)])))
 rw[I (sO h1)];refine J (Ak (Ay 3 sr ?_));refine Ac (Acv a b) func405 ?_;exact Aa [2] [] sr (Ao (Ab sr rfl))
def Bfz(a b n:Int):AC prog 417 [.agg [.i a,.i b,.i n]] (λr=>r=.i (if Xu n=false\/a=0 then 3 else Agm a b)):=by
 have c:=Aez n;generalize Xu n=q at c|-;refine Aq func417 λw0 N0=>?_;refine Y [1] [1] sr (J (J (Ak (Ay 2 sr ?_))));refine Ac c func58 ?_;refine Aa [1,12] [1] sr ?_
 refine Au (λh1=>?_) λh1=>Ae ?_
 .exact Y [2] [] sr (Ao (Ab sr (by rw[Ad (sG h1)])))
 rw[I (sG h1)];refine J (Ak (Ay 2 sr ?_));refine Ac (Acv a b) func405 ?_;exact Aa [2] [] sr (Ao (Ab sr rfl))
def Bf0(n:Int):AE 423 [.agg [.i n]] (.i (if Xu n=false then 3 else 0)):=by
 have a:=Aez n;generalize Xu n=q at a|-;refine Aq func423 λw0 N0=>?_;refine Y [1] [1] sr (J (J (Ak (Ay 2 sr ?_))));refine Ac a func58 ?_;refine Aa [6] [] sr ?_
 refine Au (λh1=>?_) λh1=>Ae ?_
 .exact Y [2] [] sr (Ao (Ab sr (by rw[Ad (sG h1)])))
 exact Y [2] [] sr (Ao (Ab sr (by rw[I (sG h1)])))
def Bf1(n:Int):AE 433 [.agg [.i n]] (.i (if Xu n=false then 3 else 0)):=by
 have a:=Aez n;generalize Xu n=q at a|-;refine Aq func433 λw0 N0=>?_;refine Y [1] [1] sr (J (J (Ak (Ay 2 sr ?_))));refine Ac a func58 ?_;refine Aa [6] [] sr ?_
 refine Au (λh1=>?_) λh1=>Ae ?_
 .exact Y [2] [] sr (Ao (Ab sr (by rw[Ad (sG h1)])))
 exact Y [2] [] sr (Ao (Ab sr (by rw[I (sG h1)])))
def Bf2:AE 439 [.agg []] (.i 0):=by
 refine Aq func439 λw0 N0=>?_;exact Y [] [] sr (A9 [2] sr (By sr rf))
def Anc(r:Ru):Int:=
 if r.kind=1 then(if P1 r.code=false then 2 else Agm r.mn r.mx)
 else if r.kind=2\/r.kind=3\/r.kind=4 then Agm r.mn r.mx
 else if r.kind=5 then(if r.n<1\/10<r.n then 3 else Agm r.mn r.mx)
 else if r.kind=6 then(if Xu r.n=false\/r.mn=0 then 3 else Agm r.mn r.mx)
 else if r.kind=7\/r.kind=8 then(if Xu r.n=false then 3 else 0)
 else 0
def Akt{r:Ru}(h:r.fits=true):r.kind=1\/r.kind=2\/r.kind=3\/r.kind=4\/r.kind=5\/r.kind=6\/r.kind=7\/r.kind=8\/r.kind=9:=by
 unfold Ru.fits at h
 (repeat' split at h)<;>first|omega|cases h
def Y3{r:Ru}(h:r.fits=true):r.known:=by
 have:=Akt h;unfold Ru.known;omega
def Bbq(r:Ru)(h:r.known):ICQ gv prog (Y2 r) "examboard/blueprint.check" [] (λx=>x=.i (Anc r)):=by
 unfold Y2 Aqc Ago Anc;have a:r.kind=1\/r.kind=2\/r.kind=3\/r.kind=4\/r.kind=5\/r.kind=6\/r.kind=7\/r.kind=8\/r.kind=9:=by unfold Ru.known at h;omega
 rcases a with e|e|e|e|e|e|e|e|e<;>simp only[e,if_true,if_false,Int.reduceEq,or_false,or_true]
 .exact⟨280,_,409,_,0,4,.inl rfl,Bbh,func409,rfl,by kernel_rfl,Bfx _ _ _ _⟩
 .exact⟨282,_,405,_,0,2,.inl rfl,Bbi,func405,rfl,by kernel_rfl,(Acv _ _).q gv⟩
 .exact⟨283,_,405,_,0,2,.inl rfl,Bbj,func405,rfl,by kernel_rfl,(Acv _ _).q gv⟩
 .exact⟨284,_,405,_,0,2,.inl rfl,Bbk,func405,rfl,by kernel_rfl,(Acv _ _).q gv⟩
 .exact⟨286,_,414,_,0,4,.inl rfl,Bbl,func414,rfl,by kernel_rfl,(Bfy _ _ _ _).q gv⟩
 .exact⟨288,_,417,_,0,3,.inl rfl,Bbm,func417,rfl,by kernel_rfl,(Bfz _ _ _).q gv⟩
 .exact⟨290,_,423,_,0,1,.inl rfl,Bbn,func423,rfl,by kernel_rfl,(Bf0 _).q gv⟩
 .exact⟨291,_,433,_,0,1,.inl rfl,Bbo,func433,rfl,by kernel_rfl,(Bf1 _).q gv⟩
 .exact⟨293,_,439,_,0,0,.inl rfl,Bbp,func439,rfl,by kernel_rfl,Bf2.q gv⟩
variable {d i j n:Nat}{x:Int}
def L1(g:Gr):AC prog 55 [g.v] (λr=>r=.i (Li g)):=by
 have⟨a,c⟩:=g;show AC _ _ [.agg [.ro 1 (Av a),.ro 1 (Av c)]] _
 have hp:∀(k:Nat)(h:k<a.length),Hj (Av a) k=some (.i a[k]):=λk h=>Fu h
 have hq:∀(k:Nat)(h:k<c.length),Hj (Av c) k=some (.i c[k]):=λk h=>Fu h
 have t:=A4 a;have lq:=A4 c;unfold Li;simp only;generalize Av a=pv at hp t|-;generalize Av c=w at hq lq|-;refine Aq func55 λw0 N0=>?_;refine Y [1] [1] sr (J (Y [1,9] [1] sr ?_))
 refine Au (λh1=>?_) λh1=>Ae ?_
 .exact Y [2] [] sr (Ao (Ab sr (by rw[Ad (sO h1)])))
 rw[I (sO h1)];refine J (Y [1,13] [1] sr ?_)
 refine Au (λh2=>?_) λh2=>Ae ?_
 .exact Y [2] [] sr (Ao (Ab sr (by rw[Ad (by rw[<- t];simpa using h2)])))
 rw[I (by rw[<- t];simpa using h2)];refine J (Y [1,20] [1] sr ?_)
 refine Au (λh3=>?_) λh3=>Ae ?_
 .exact Y [2] [] sr (Ao (Ab sr (by rw[Ad (sO h3)])))
 have ae:c.length=a.length:=sO h3
 have ad:a.length<=21:=sO h1
 rw[I oM];refine J (Y [1,22,23,24] [1] sr (Ah (Bu (λk nx=>⟨[(1,.bp 1 0 2 0 0),(22,.ro 1 pv),(23,.i a.length),(24,.i k)],[(1,⟨0,2,27,[.agg [.ro 1 pv,.ro 1 w]]⟩)],nx,71⟩) (λk=>Su (a.drop k) (c.drop k)=Su a c) a.length _ sm (by rw[t];exact Z) ?_)));intro k nx hk i;refine Y [1,22,23,24,25] [1] sr (J ?_)
 refine Au (λu=>Ae ?_) λu=>?_
 .have d:k<a.length:=by simp at u;omega
  have e:k<pv.length:=om;have s:k<w.length:=om;have j:=hp k d;have o:=hq k om;have hw:=A5 (k:=k) om;have f:=Ap3 (l:=a) (m:=c) d om;generalize a[k]=p at j f;generalize c[k]=q at o f;refine J (Ah (Y [1,3,4,22,23,24] [1] (by simp[j,e]<;>rfl) (Y [1,22,23,24,50] [1] (by simp[o,s]<;>rfl) ?_)))
  refine Au (λz=>?_) λz=>Ae ?_
  .refine Y [2] [] sr (Ao (Ab sr ?_));have:Agh p q=true:=by simp[Agh]at z|-;omega
   rw[Ad (by rw[<- i,f,this];rfl)]
  refine Ba [1,22,23,24] [1] Du ?_;have:Agh p q=false:=by simp[Agh]at z|-;omega
  exact⟨d,by rw[<- i,f,this];rfl,_,Z⟩
 .have ab:k=a.length:=by simp at u;omega
  rw[I (by rw[<- i,ab,Ck];simp[Su])];refine A6 (J (Y [1,5] [1] sr (Ah (Bu (λk nx=>⟨[(1,.bp 1 0 2 0 0),(5,.i ((k:Int)+1))],[(1,⟨0,2,27,[.agg [.ro 1 pv,.ro 1 w]]⟩)],nx,71⟩) (λk=>Vr (a.drop k)=Vr a) a.length _ sm Z ?_))));intro k nx hk i;refine J (Y [1,5,56] [1] sr ?_)
  refine Au (λh6=>Ae ?_) λh6=>?_
  .have d:k+1<a.length:=by simp at h6;omega
   have e:(k:Int)+1<(pv.length:Int):=om;have n:(k:Int)<(pv.length:Int):=om;have aa:(0:Int)<=(k:Int)+1:=om;have x:((k:Int)+1).toNat=k+1:=om;have j:=hp k om;have o:=hp (k+1) d;have hw:IntKind.i64.wrap ((k:Int)+1+1)=(k:Int)+1+1:=Bp om om;have Tn:IntKind.i64.wrap (k:Int)=(k:Int):=Bp om om;have f:=At3 (l:=a) (k:=k) d;generalize a[k]=p at j f;generalize a[k+1]=q at o f;refine J (Ah (Do [(0,[]),(2,[]),(5,[]),(7,[]),(8,[]),(1,[]),(3,[]),(4,[]),(6,[]),(9,[]),(10,[]),(11,[])] [1,5,70] [1] Eb kr (by simp[j,o,Tn,e,n,aa,x]<;>rfl) ?_))
   refine Au (λh7=>?_) λh7=>Ae ?_
   .refine Y [2] [] sr ?_;refine Ao (Ab sr ?_);have:decide (p<q)=false:=by simp at h7|-;omega
    rw[Ad (by rw[<- i,f,this];rfl)]
   refine Ba [1,5] [1] (by simp[hw]<;>rfl) ?_;have:decide (p<q)=true:=by simp at h7|-;omega
   exact⟨by omega,by rw[<- i,f,this];simp,_,Z⟩
  .refine A6 ?_;refine Y [2] [] sr ?_;refine Ao (Ab sr ?_);have y:a.length<=k+1:=sO h6
   rw[I (by rw[<- i,Azt y];simp)]
def Rg(x:Int):Pd x 1=.tup [(nR x).v,.bool true]:=by
 have:mkRat (x*G9 1) (1:Int).natAbs=(x:Rat):=by
  show mkRat (x*1) 1=_
  rw[Int.mul_one,Rat.mkRat_one]
 rw[Pd,I dc,this]
def Qm(h1: -18446744073709551616<=x)(h2:x<=18446744073709551616):Qk (x:Rat)<=3:=by
 have:=L0 h1 h2;have hd:(B2 (x:Rat).den).length<=3:=by rw[Rat.den_intCast,Am4];decide
 rw[Qk,Rat.num_intCast];omega
def Uk{z:Int}(h:d≠0)(h1:Ox z<=k)(h2:(B2 d).length<=k):Qk (mkRat z d)<=k:=by
 have e:sgn (decide (z<0)) z.natAbs=z:=by unfold sgn;split<;>rename_i h<;>simp at h<;>omega
 have:=Acp (b:=decide (z<0)) (n:=z.natAbs) h h1 h2
 rwa[e]at this
def L3{y:Int}(h1:Ox x<=i)(h2:Ox y<=j):Ox (x*y)<=i+j:=by
 rw[Ox,Ry];exact N7 h1 h2
def Xe(h:(B2 n).length<=k):Ox (n:Int)<=k:=by rw[Ox,Ez];exact h
def Ae0{q:Rat}(h:Qk q<=k):Ox q.num<=k:=by unfold Qk at h;omega
def Xf{q:Rat}(h:Qk q<=k):(B2 q.den).length<=k:=by unfold Qk at h;omega
def Ane{a b:Rat}(h1:Qk a<=i)(h2:Qk b<=j):Qk (a+b)<=i+j+1:=by
 rw[Rat.add_def'];refine Uk (Jn a.den_nz b.den_nz) ?_ (Ag (N7 (Xf h1) (Xf h2)) om);exact Uj (L3 (Ae0 h1) (Xe (Xf h2))) (Ag (L3 (Ae0 h2) (Xe (Xf h1))) om)
def Awu{a b:Rat}(h1:Qk a<=i)(h2:Qk b<=j):Qk (a*b)<=i+j:=by
 rw[Rat.mul_def'];exact Uk (Jn a.den_nz b.den_nz) (L3 (Ae0 h1) (Ae0 h2)) (N7 (Xf h1) (Xf h2))
def Awv{a b:Rat}(h1:Qk a<=i)(h2:Qk b<=j):Qk (a-b)<=i+j+1:=by
 rw[Rat.sub_eq_add_neg];exact Ane h1 (by rw[Am9];exact h2)
def Bbr{a:Rat}(h:Qk a<=i):Qk (Tk a)<=i:=by
 unfold Tk;split
 .rw[Am9];exact h
 .exact h
def Aqd(p:Int)(hp: -1000<=p/\p<=1000)(q:RR)(c:q.ok 34359738368):AE 242 [.i p,q.v] ((nR (Tk (p-q.val))).v):=by
 have k:=Vu p 1 om om dc dc;rw[Rg]at k;have d:=Qm (x:=p) om om;have h:(nR (p:Rat)).ok 68719476736:=Nn (Ag d dc);have hs:=Ba9 (nR p) q h ⟨⟨c.num.1,Ag c.num.2 dc⟩,c.lim,Ag c.len dc⟩;have t:(nR ((p:Rat)-q.val)).ok 1099511627776:=Nn (Ag (Awv d (RR.sz c dc)) dc);have g:=Bbd (nR ((p:Rat)-q.val)) t;rw[Mj]at g hs;have e:=vRR q;have a:=Aj q.num.mag;have f:=Aj q.den;rw[e]at hs|-;clear e t;have⟨c1,l1,d1,j,i,o⟩:=Ll (p:Rat);have⟨c2,l2,d2,l,s,m⟩:=Ll ((p:Rat)-q.val);have⟨c3,l3,d3,n,u,w⟩:=Ll (Tk ((p:Rat)-q.val));rw[j]at k hs;rw[l]at hs g;rw[n]at g|-;generalize A2 q.num.mag=qa at hs a|-;generalize A2 q.den=qb at hs f|-;refine Aq func242 λw0 N0=>?_;refine Y [0,3,4] [3,4] sr (Bn 1 sr ?_);refine Ac k func103 ?_;refine Aa [3,4,5] [3,4,5] sr (Bn 2 sr ?_);refine Ac hs func272 ?_;refine Ac g func271 ?_;exact Aa [4] [4] sr (By sr rfl)
variable {c:Nat}
def A4z{r:List Int}(h:r.length≠c):Acq c r=1:=by unfold Acq;rw[Ad h]
def Sw(m:Mo)(n:Int):AE 106 [moV m,.i n] (.i (Lj m n)):=by
 have hn:=λ(k:Nat)(h:k<m.length)=>Tj h
 have hl:=Lz m;unfold moV Lj;generalize Es m=s at hn hl|-;refine Aq func106 λw0 N0=>?_;refine Y [1,2] [2] sr (J (Y [2,23] [2] sr ?_))
 refine Au (λh1=>?_) λh1=>Ae ?_
 .exact Y [4] [] sr (Ao (Ab sr (by rw[Ad (sO h1)])))
 have ag:1<=n/\n<=21/\(m.length:Int)=n:=sO h1
 rw[I oM];have i:0<m.length:=om;have g0:=hn 0 i;have ae:0<s.length:=om
 have hc:Xs m=m[0].length:=by
  cases m with
  |nil=>simp at i
  |cons r m=>rfl
 rw[hc];have li:=A4 m[0];generalize Av m[0]=iv at g0 li;generalize ai:m[0].length=a at li|-;refine Y [2,5] [2] (by simp[g0,ae]<;>rfl) (J (A9 [34] sr ?_))
 refine Au (λh2=>?_) λh2=>Ae ?_
 .exact Y [4] [] sr (Ao (Ab sr (by rw[Ad (sO h2)])))
 have af:2<=a/\a<=6:=sO h2
 rw[I oM];refine J (Y [5,36,37,38] [] sr (Ah (Bu (λk nx=>⟨[(5,.i a),(36,.ro 1 s),(37,.i m.length),(38,.i k)],[],nx,65⟩) (λk=>Mk (Acq a) (m.drop k)=Mk (Acq a) m) m.length _ sm (by rw[hl,li];exact Z) ?_)));intro k nx hk e;refine Y [5,36,37,38,39] [] sr (J ?_)
 refine Au (λh3=>Ae ?_) λh3=>?_
 .have f:k<m.length:=by simp at h3;omega
  have g:k<s.length:=om;have gk:=hn k f;have hw:=A5 (k:=k) om;rw[Pb _ f]at e;generalize m[k]=r at gk e;have hr:=λ(j:Nat)(h:j<r.length)=>Fu h
  have lr:=A4 r;generalize Av r=rv at gk hr lr;refine J (Ah (Y [5,7,36,37,38] [] (by simp[gk,g]<;>rfl) (J (A9 [45] sr ?_))))
  refine Au (λw=>?_) λw=>Ae ?_
  .refine Y [4] [] sr ?_;refine Ao (Ab sr ?_);have:Acq a r=1:=A4z (sO w);rw[<- e,Ad (by rw[this];decide),this]
  have ah:r.length=a:=sO w
  refine Y [5,7,8,36,37,38] [] sr (J (Y [5,8,36,37,38,46,47,48] [] sr (Ah ?_)))
  refine C3 (λt:Nat × Nat × Int=>⟨[(5,.i a),(8,.i t.2.2),(36,.ro 1 s),(37,.i m.length),(38,.i k),(46,.ro 1 rv),(47,.i r.length),(48,.i (t.1:Nat))],[],t.2.1,65⟩)
   (λt=>t.1<=r.length/\0<=t.2.2/\t.2.2<=1000*t.1/\(r.drop t.1).any Ai8=r.any Ai8/\t.2.2+Ai7 (r.drop t.1)=Ai7 r) (λt=>r.length-t.1) (0,_,0) ⟨by simp,by simp,by simp,by simp,by simp⟩ (by rw[lr];exact Z) ?_
  rintro⟨j,aj,sm⟩⟨i1,i2,i3,c,l⟩;simp only at i1 i2 i3 c l|-;refine Y [5,8,36,37,38,46,47,48,49] [] sr (J ?_)
  refine Au (λh5=>Ae ?_) λh5=>?_
  .have y:j<r.length:=by simp at h5;omega
   have ab:j<rv.length:=om;have gj:=hr j y;have u:=A5 (k:=j) om;rw[A4l _ y]at c;rw[Azu y]at l;generalize r[j]=x at gj c l;refine J (Ah (Y [5,8,10,36,37,38,46,47,48] [] (by simp[gj,ab]<;>rfl) (J (A9 [57] sr ?_))))
   refine Au (λh6=>?_) λh6=>Ae ?_
   .refine Y [4] [] sr ?_;refine Ao (Ab sr ?_);have o:Ai8 x=true:=by simp[Ai8]at h6|-;omega
    have:Acq a r=3:=by unfold Acq;rw[I om,Ad (by rw[<- c,o];rfl)]
    rw[<- e,Ad (by rw[this];decide),this]
   have o:Ai8 x=false:=by simp[Ai8]at h6|-;omega
   have hx:1<=x/\x<=1000:=by simp[Ai8]at o;omega
   have z:IntKind.i64.wrap (sm+x)=sm+x:=Bp om om;refine Ba [5,8,36,37,38,46,47,48] [] (by simp[z]<;>rfl) (Cw [] (by simp[u]<;>rfl) ?_);exact⟨(j+1,_,sm+x),⟨by simp only;omega,by simp only;omega,by simp only;omega,by rw[<- c,o];rfl,by simp only;omega⟩,by simp only;omega,Z⟩
  .refine A6 ?_;have aa:j=r.length:=sO h5
   rw[aa,Ck]at c l;simp only[List.any_nil,Ai7]at c l;refine Y [5,36,37,38,63] [] sr ?_
   have d:Acq a r=if Ai7 r≠1000 then 19 else 0:=by
    unfold Acq;rw[I om,I (by rw[<- c];decide)]
   refine Au (λh7=>?_) λh7=>Ae ?_
   .refine Y [4] [] sr ?_;refine Ao (Ab sr ?_);have:Acq a r=19:=by rw[d,Ad (sO h7)]
    rw[<- e,Ad (by rw[this];decide),this]
   have:Acq a r=0:=by rw[d,I (sO h7)]
   refine Ba [5,36,37,38] [] (by simp[hw]<;>rfl) ?_;exact⟨f,by rw[<- e,this];rfl,_,Z⟩
 .refine A6 ?_;refine Y [4] [] sr ?_;refine Ao (Ab sr ?_);have ad:k=m.length:=sO h3
  rw[<- e,ad,Ck];rfl
def Anf(m:Mo):AC prog 62 [moV m] (λr=>r=.i (Xs m:Nat)):=by
 have i:=λ(k:Nat)(h:k<m.length)=>Tj h
 have l:=Lz m;unfold moV
 by_cases e:0<m.length
 .have d:=i 0 e
  have j:Xs m=m[0].length:=by
   cases m with
   |nil=>simp at e
   |cons r m=>rfl
  rw[j];have g:=A4 m[0];generalize Av m[0]=iv at d g;generalize Es m=f at d l|-;have a:0<f.length:=om;have c:f≠ []:=by intro h;rw[h]at a;simp at a
  refine Aq func62 λw0 N0=>?_;refine Y [1] [1] sr (J (Y [1,6] [1] sr ?_));refine A0 rfl (λh1=>by simp at h1;exact absurd h1 c) λh1=>Ae ?_;exact Y [2] [] (by simp[d,a]<;>rfl) (Ao (Ab sr (by rw[g])))
 .have:m= []:=by cases m with
   |nil=>rfl
   |cons r m=>simp at e
  subst this;refine Aq func62 λw0 N0=>?_;refine Y [1] [1] Du (J (Y [1,6] [1] sr ?_));refine A0 rfl (λh1=>?_) sA;exact Y [2] [] sr (Ao (Ab sr rf))
structure Pit where
 id:Int
 code:List UInt8
 fam:Int
 st:Int
 wo:Int
 se:Int
 pt:Int
 ky:Int
 m:Mo
def Pit.cs(p:Pit):List V:=[.i p.id,.str p.code,.i p.fam,.i p.st,.i p.wo,.i p.se,.i p.pt,.i p.ky,.ro 1 (Es p.m)]
def Pit.v(p:Pit):V:=.agg p.cs
def C5(l:List Pit):List V:=l.map Pit.v
@[simp]def E4(l:List Pit):(C5 l).length=l.length:=by simp[C5]
def I8{l:List Pit}(h:k<l.length):Hj (C5 l) k=some l[k].v:=by rw[C2];simp[C5,h]
def Cx(l:List Pit):(C5 l).all V.pureE=true:=by
 rw[Ar];intro x a;simp only[C5,Bl]at a;obtain⟨n,_,rfl⟩:=a;rfl
def Biu(a c g d e f:Int):Bool:=
 (decide (a<0)||decide (9999999<a))||((decide (c<0)||decide (9999999<c))||((decide (g<0)||decide (2000<g))||((decide (d<1)||decide (2000<d))||((decide (e<1)||decide (5<e))||((decide (f<0)||decide (10<f)))))))
def Aue(n:Int)(p:Pit):Int:=
 if P1 p.code=false then 2 else if Biu p.fam p.st p.wo p.se p.pt p.ky=true then 3 else Lj p.m n
def Ai9(p:Pit)(n:Int):Kb gv prog 59 [p.v,.i n] (λr=>r=.i (Aue n p)):=by
 have g:=Y1 p.code;have c:=Sw p.m n;have⟨id,code,d,l,u,o,t,s,m⟩:=p;unfold Aue Biu Pit.v Pit.cs;simp only at g c|-;have ev:moV m=.agg [.ro 1 (Es m)]:=rfl;have x:=D7 m;rw[ev]at c;generalize Es m=mv at c x|-;generalize Lj m n=me at c|-;generalize P1 code=cv at g|-;refine B0 func59 λw0 N0 y=>?_;refine Y [1,2] [2] sr (J (J (Ak (Ay 2 sr ?_))));refine Bq y g func105 ?_;refine Aa [1,2,8] [2] sr ?_
 refine Au (λh1=>?_) λh1=>Ae ?_
 .exact Y [4] [] sr (Ao (Ab sr (by rw[Ad (sG h1)])))
 rw[I (sG h1)];refine J (Ah (J (Y [1,2,9] [2] sr ?_)))
 refine Au (λh=>Ae ?_) λh=>?_
 .have e:(decide (d<0)||decide (9999999<d))=true:=sG h
  refine A0 rfl (λ_ =>?_) (λa=>by rw[h]at a;cases a);exact Y [4] [] sr (Ao (Ab sr (by rw[Ad (by rw[e];rfl)])))
 have e:(decide (d<0)||decide (9999999<d))=false:=sG h
 refine Y [1,2,9] [2] sr ?_
 refine Au (λh=>Ae ?_) λh=>?_
 .have f:(decide (l<0)||decide (9999999<l))=true:=sG h
  refine A0 rfl (λ_ =>?_) (λa=>by rw[h]at a;cases a);exact Y [4] [] sr (Ao (Ab sr (by rw[Ad (by rw[e,f];rfl)])))
 have f:(decide (l<0)||decide (9999999<l))=false:=sG h
 refine Y [1,2,9] [2] sr ?_
 refine Au (λh=>Ae ?_) λh=>?_
 .have i:(decide (u<0)||decide (2000<u))=true:=sG h
  refine A0 rfl (λ_ =>?_) (λa=>by rw[h]at a;cases a);exact Y [4] [] sr (Ao (Ab sr (by rw[Ad (by rw[e,f,i];rfl)])))
 have i:(decide (u<0)||decide (2000<u))=false:=sG h
 refine Y [1,2,9] [2] sr ?_
 refine Au (λh=>Ae ?_) λh=>?_
 .have j:(decide (o<1)||decide (2000<o))=true:=sG h
  refine A0 rfl (λ_ =>?_) (λa=>by rw[h]at a;cases a);exact Y [4] [] sr (Ao (Ab sr (by rw[Ad (by rw[e,f,i,j];rfl)])))
 have j:(decide (o<1)||decide (2000<o))=false:=sG h
 refine Y [1,2,9] [2] sr ?_
 refine Au (λh=>Ae ?_) λh=>?_
 .have k:(decide (t<1)||decide (5<t))=true:=sG h
  refine A0 rfl (λ_ =>?_) (λa=>by rw[h]at a;cases a);exact Y [4] [] sr (Ao (Ab sr (by rw[Ad (by rw[e,f,i,j,k];rfl)])))
 have k:(decide (t<1)||decide (5<t))=false:=sG h
 refine Ba [1,2,9] [2] sr ?_
 refine Au (λh=>?_) λh=>Ae ?_
 .have w:(decide (s<0)||decide (10<s))=true:=sG h
  exact Y [4] [] sr (Ao (Ab sr (by rw[Ad (by rw[e,f,i,j,k,w];rfl)])))
 have w:(decide (s<0)||decide (10<s))=false:=sG h
 rw[I (by rw[e,f,i,j,k,w];decide)];refine J (Ak (Ay 3 sr ?_));refine Ac c func106 ?_;exact Aa [4] [] sr (Ao (Ab sr rfl))
def Tq(a:Int):List Int->Bool
 | []=>true
 |x::r=>Xu x&&decide (a<x)&&Tq x r
def Qn(l:List Pit):List Int:=l.map Pit.id
def J5(l:List Pit)(n:Int):Int:=if 18<l.length then 5 else if Tq 0 (Qn l)=false then 23 else Mk (Aue n) l
def Agp(l:List Int)(k:Nat):Int:=if k=0 then 0 else(l[k-1]?).getD 0
def Az4{l:List Int}(h:k<l.length)(p:Int):Tq p (l.drop k)=(Xu l[k]&&decide (p<l[k])&&Tq l[k] (l.drop (k+1))):=by
 rw[Bt h,Tq]
def Mt(l:List Pit)(n:Int):Kb gv prog 29 [.ro 9 (C5 l),.i n] (λr=>r=.i (J5 l n)):=by
 have hn:=λ(k:Nat)(h:k<l.length)=>I8 h
 have hl:=E4 l;have ag:=λ(p:Pit)=>Ai9 p n
 unfold J5;generalize C5 l=lv at hn hl|-;refine B0 func29 λw0 N0 hG=>?_;refine Y [0,1] [] sr (J (Y [0,1,12] [] sr ?_))
 refine Au (λh1=>?_) λh1=>Ae ?_
 .exact Y [4] [] sr (Ao (Ab sr (by rw[Ad (sO h1)])))
 have ai:l.length<=18:=sO h1
 rw[I oM];refine J (Y [0,1,13,14,15] [] sr (Ah (Bu (λk nx=>⟨[(0,.ro 9 lv),(1,.i n),(13,.ro 9 lv),(14,.i l.length),(15,.i k)],[],nx,53⟩) (λk=>Tq (Agp (Qn l) k) ((Qn l).drop k)=Tq 0 (Qn l)) l.length _ (by simp[Agp]) (by rw[hl];exact Z) ?_)));intro k nx hk a;refine Y [0,1,13,14,15,16] [] sr (J ?_)
 refine Au (λh2=>Ae ?_) λh2=>?_
 .have d:k<l.length:=by simp at h2;omega
  have j:k<lv.length:=om;have gk:=hn k d;have hw:=A5 (k:=k) om;have ah:(Qn l).length=l.length:=by simp[Qn]
  rw[Az4 oM]at a;have aa:(Qn l)[k]'(by omega)=l[k].id:=by simp[Qn]
  have e:Agp (Qn l) (k+1)=l[k].id:=by
   unfold Agp;rw[I om,show k+1-1=k by omega,Ai om,aa];rfl
  rw[aa]at a;have g:=Aez l[k].id;have er:l[k].v=.agg [.i l[k].id,.str l[k].code,.i l[k].fam,.i l[k].st,.i l[k].wo,.i l[k].se,.i l[k].pt,.i l[k].ky,.ro 1 (Es l[k].m)]:=rfl;rw[er]at gk;have i:Xu l[k].id=true->0<l[k].id:=λh=>by simp[Xu]at h;omega
  generalize Xu l[k].id=nb at g a i;generalize l[k].id=ab,l[k].code=x1,l[k].fam=x2,l[k].st=x3,l[k].wo=x4,l[k].se=x5,l[k].pt=x6,l[k].ky=x7,Es l[k].m=x8 at*;refine J (Ah (Y [0,1,5,6,13,14,15] [6] Du ?_));have t:IntKind.i64.wrap (-1)= -1:=Bp om om
  rcases Ey k with rfl|aj
  .cases nb with
   |false=>
    refine J (Di [(0,[]),(1,[]),(2,[]),(3,[]),(4,[]),(5,[]),(6,[]),(7,[]),(8,[]),(10,[]),(11,[]),(12,[]),(13,[]),(14,[]),(9,[]),(15,[]),(16,[]),(17,[]),(18,[])] Eb kr ?_);refine Ci 2 sr ?_;refine E8 (λhg=>g) func58 rfl kr rfl rfl sr rfl rfl sr sm sr ?_;refine Ci 8 sR ?_;refine Dj [0,1,13,14,15,38] [] Du ?_;refine A0 rfl (λf=>?_) sA;refine Y [4] [] sr ?_;refine Ao (Ab sr ?_);rw[Ad (by rw[<- a];rfl)]
   |true=>
    have ad:0<ab:=i rfl;refine J (Di [(0,[]),(1,[]),(2,[]),(3,[]),(4,[]),(5,[]),(6,[]),(7,[]),(8,[]),(10,[]),(11,[]),(12,[]),(13,[]),(14,[]),(9,[]),(15,[]),(16,[]),(17,[]),(18,[])] Eb kr ?_);refine Ci 2 sr ?_;refine E8 (λhg=>g) func58 rfl kr rfl rfl sr rfl rfl sr sm sr ?_;refine Ci 8 sR ?_;refine Dj [0,1,13,14,15,38] [] Du ?_;refine A0 rfl sA λf=>Ae (Ba [0,1,13,14,15] [] sR ?_);exact⟨d,by rw[<- a,e];simp[Agp,ad],_,Z⟩
  .have s:(0:Int)<(k:Int):=om;have x:(1:Int)<=(k:Int):=om;have y:IntKind.i64.wrap ((k:Int)-1)=(k:Int)-1:=Bp om om;have u:(0:Int)<=(k:Int)-1:=om;have w:(k:Int)-1<(lv.length:Int):=om;have o:((k:Int)-1).toNat=k-1:=om;have gp:=hn (k-1) om
   have af:Agp (Qn l) k=l[k-1].id:=by
    unfold Agp;rw[I om,Ai oM];simp[Qn]
   rw[af]at a;have ep:l[k-1].v=.agg [.i l[k-1].id,.str l[k-1].code,.i l[k-1].fam,.i l[k-1].st,.i l[k-1].wo,.i l[k-1].se,.i l[k-1].pt,.i l[k-1].ky,.ro 1 (Es l[k-1].m)]:=rfl;rw[ep]at gp;generalize l[k-1].id=ip at*;cases nb with
   |false=>
    refine J (Di [(0,[]),(1,[]),(2,[]),(3,[]),(4,[]),(5,[]),(6,[]),(7,[]),(8,[]),(10,[]),(11,[]),(12,[]),(13,[]),(14,[]),(9,[]),(15,[]),(16,[]),(17,[]),(18,[])] Eb kr ?_);refine Ci 2 sr ?_;refine E8 (λhg=>g) func58 rfl kr rfl rfl sr rfl rfl sr sm sr ?_;refine Ci 8 sR ?_;refine Dj [0,1,13,14,15,38] [] (by simp[y,w,o,x,gp]<;>rfl) ?_;refine A0 rfl (λf=>?_) sA;refine Y [4] [] sr ?_;refine Ao (Ab sr ?_);rw[Ad (by rw[<- a];rfl)]
   |true=>
    refine J (Di [(0,[]),(1,[]),(2,[]),(3,[]),(4,[]),(5,[]),(6,[]),(7,[]),(8,[]),(10,[]),(11,[]),(12,[]),(13,[]),(14,[]),(9,[]),(15,[]),(16,[]),(17,[]),(18,[])] Eb kr ?_);refine Ci 2 sr ?_;refine E8 (λhg=>g) func58 rfl kr rfl rfl sr rfl rfl sr sm sr ?_;refine Ci 8 sR ?_;refine Dj [0,1,13,14,15,38] [] (by simp[y,w,o,x,gp]<;>rfl) ?_
    refine Au (λf=>?_) λf=>Ae ?_
    .have ak:ab<=ip:=by simp at f;omega
     refine Y [4] [] sr ?_;refine Ao (Ab sr ?_);rw[Ad (by rw[<- a];simp;intro h;omega)]
    have ae:ip<ab:=sO f
    refine Ba [0,1,13,14,15] [] (by simp[hw]<;>rfl) ?_;exact⟨d,by rw[<- a,e];simp[ae],_,Z⟩
 .refine A6 ?_;have z:k=l.length:=sO h2
  have ah:(Qn l).length=l.length:=by simp[Qn]
  rw[z,I0 oM]at a;rw[I (by rw[<- a];simp[Tq])];refine J (Y [1,40,41,42] [] sr (Ah (Bu (λk nx=>⟨[(1,.i n),(40,.ro 9 lv),(41,.i l.length),(42,.i k)],[],nx,53⟩) (λk=>Mk (Aue n) (l.drop k)=Mk (Aue n) l) l.length _ sm (by rw[hl];exact Z) ?_)));clear a z hk;intro k nx hk a;refine Y [1,40,41,42,43] [] sr (J ?_)
  refine Au (λh4=>Ae ?_) λh4=>?_
  .have d:k<l.length:=by simp at h4;omega
   have j:k<lv.length:=om;have gk:=hn k d;have hw:=A5 (k:=k) om;rw[Pb _ d]at a;have c:=ag l[k];have er:l[k].v=.agg [.i l[k].id,.str l[k].code,.i l[k].fam,.i l[k].st,.i l[k].wo,.i l[k].se,.i l[k].pt,.i l[k].ky,.ro 1 (Es l[k].m)]:=rfl;have pm:=D7 l[k].m;rw[er]at gk c;generalize Aue n l[k]=pe at c a;generalize Es l[k].m=mv at gk c pm;refine J (Ah (Y [1,8,40,41,42] [8] (by simp[gk,j]<;>rfl) (J (Ak (Ay 2 sr ?_)))));refine Bq hG c func59 ?_;refine Aa [1,9,40,41,42] [] sr ?_;refine Y [1,9,40,41,42,50] [] sr ?_
   refine Au (λh5=>?_) λh5=>Ae ?_
   .exact Y [4] [] sr (Ao (Ab sr (by rw[<- a,Ad (sG h5)])))
   refine Ba [1,40,41,42] [] (by simp[hw]<;>rfl) ?_;exact⟨d,by rw[<- a,I (sG h5)],_,Z⟩
  .refine A6 ?_;refine Y [4] [] sr ?_;refine Ao (Ab sr ?_);have z:k=l.length:=sO h4
   rw[<- a,z,Ck];rfl
@[simp]def Bjz:D8 prog 293=some (.agg []):=by kernel_rfl
def Aku(r:Ru):V:=
 if r.kind=1 then .dm 280 [.i r.mn,.i r.mx,.fc 153 [] [.rp r.v],.str r.code]
 else if r.kind=2 then .ifc 282 (.agg [.i r.mn,.i r.mx,.fn 156])
 else if r.kind=3 then .ifc 283 (.agg [.i r.mn,.i r.mx,.fn 157])
 else if r.kind=4 then .ifc 284 (.agg [.i r.mn,.i r.mx,.fn 158])
 else if r.kind=5 then .dm 286 [.i r.mn,.i r.mx,.fc 159 [] [.rp r.v],.i r.n]
 else if r.kind=6 then .ifc 288 (.agg [.i r.mn,.i r.mx,.i r.n])
 else if r.kind=7 then .ifc 290 (.agg [.i r.n])
 else if r.kind=8 then .ifc 291 (.agg [.i r.n])
 else if r.kind=9 then .ifc 293 (.agg [])
 else .nili
def Aqe{r:Ru}(h:r.known):Bj (Aku r) (Y2 r):=by
 have a:r.kind=1\/r.kind=2\/r.kind=3\/r.kind=4\/r.kind=5\/r.kind=6\/r.kind=7\/r.kind=8\/r.kind=9:=by unfold Go.Eng.Limb.Ru.known at h;omega
 unfold Aku Y2 Aqc Ago;rcases a with e|e|e|e|e|e|e|e|e<;>simp only[e,if_true,if_false,Int.reduceEq]<;>first|exact Bj.refl _ |exact Az3 _ _
def A40{r:Ru}(h:¬r.known):Aku r=.nili:=by
 unfold Go.Eng.Limb.Ru.known at h;unfold Aku
 (repeat' split)<;>first|rfl|omega
def Aax(r:Ru):AC prog 100 [r.v] (λx=>x=.tup [Aku r,.bool r.fits]):=by
 have⟨k,n,a,b,c⟩:=r;unfold Aku Ru.fits Ru.v Ru.cs;simp only;refine Aq func100 λw0 N0=>?_;refine Y [1] [1] sr (Bw 1 [1] [] sr (Y [1,4] [4] sr ?_));refine Do [(0,[]),(3,[]),(6,[]),(9,[]),(1,[]),(2,[]),(12,[]),(4,[]),(5,[]),(13,[]),(7,[]),(8,[]),(14,[]),(10,[]),(11,[]),(15,[])] [1,4,5,6,7,8] [4] Eb kr sr (J (Y [1,4,5,6,7,8,32] [4] sr (Ah (Y [1,4,5,6,7,8,32,33] [4] sr ?_))))
 refine Au (λh1=>?_) λh1=>?_
 .have e:=sG h1
  subst e;exact Y [1,4,5,9] [4] sr (Y [2,3] [] sr (Ao (Ab sr sm)))
 refine Y [1,4,5,6,7,8,32,44] [4] sr ?_
 refine Au (λh2=>?_) λh2=>?_
 .have e:=sG h2
  subst e;exact Y [4,5,6,8,10] [4] sr (Y [2,3] [] sr (Ao (Ab sr sm)))
 refine Y [1,4,5,6,7,8,32,58] [4] sr ?_
 refine Au (λd=>?_) λd=>?_
 .have e:=sG d
  subst e;exact Y [4,5,6,8,11] [4] sr (Y [2,3] [] sr (Ao (Ab sr sm)))
 refine Y [1,4,5,6,7,8,32,72] [4] sr ?_
 refine Au (λg=>?_) λg=>?_
 .have e:=sG g
  subst e;exact Y [4,5,8,12] [4] sr (Y [2,3] [] sr (Ao (Ab sr sm)))
 refine Y [1,4,5,6,7,8,32,83] [4] sr ?_
 refine Au (λl=>?_) λl=>?_
 .have e:=sG l
  subst e;exact Y [1,4,8,13] [4] sr (Y [2,3] [] sr (Ao (Ab sr sm)))
 refine Y [1,4,5,6,7,8,32,94] [4] sr ?_
 refine Au (λh=>?_) λh=>?_
 .have e:=sG h
  subst e;exact Y [2,3] [] sr (Ao (Ab sr sm))
 refine Y [1,5,6,7,8,32,102] [] sr ?_
 refine Au (λj=>?_) λj=>?_
 .have e:=sG j
  subst e;exact Y [2,3] [] sr (Ao (Ab sr sm))
 refine Y [1,5,6,7,8,32,115] [] sr ?_
 refine Au (λi=>?_) λi=>?_
 .have e:=sG i
  subst e;exact Y [2,3] [] sr (Ao (Ab sr sm))
 refine Y [5,6,7,8,128] [] sr ?_
 refine Au (λf=>?_) λf=>Ae ?_
 .have e:=sG f
  subst e;exact Y [2,3] [] sr (Ao (Ab sr sm))
 refine Y [2,3] [] sr ?_;have e1:=sG h1
 have w:=sG h2
 have t:=sG d
 have u:=sG g
 have m:=sG l
 have s:=sG h
 have z:=sG j
 have o:=sG i
 have y:=sG f
 exact Ao (Ab sr G8)
def Ad9{r:Ru}(h:r.known):AC prog 100 [r.v] (λx=>x=.tup [.dm (Aqc r) (Ago r),.bool r.fits]):=
 (Aax r).relax (Bj.tup (.cons (Aqe h) (.cons (Bj.refl _) .nil)))
def Aqf{r:Ru}(h:¬r.known):AC prog 100 [r.v] (λx=>x=.tup [.nili,.bool false]):=by
 have:=Aax r;rw[A40 h]at this
 have a:r.fits=false:=by
  cases hh:r.fits with
  |false=>rfl
  |true=>exact absurd (Y3 hh) h
 rwa[a]at this
def Hu(l:List Ru):List V:=l.map Ru.v
@[simp]def Ts(l:List Ru):(Hu l).length=l.length:=by simp[Hu]
def Vx{l:List Ru}(h:k<l.length):Hj (Hu l) k=some l[k].v:=by rw[C2];simp[Hu,h]
def Dr(l:List Ru):(Hu l).all V.pureE=true:=by
 rw[Ar];intro x a;simp only[Hu,Bl]at a;obtain⟨n,_,rfl⟩:=a;rfl
def Akv(r:Ru):Int:=if r.fits=false then 1 else Anc r
def Tt(len:Int)(rs:List Ru):Int:=if len<1\/18<len then 3 else if 20<rs.length then 5 else Mk Akv rs
def Rh(len:Int)(rs:List Ru):V:=.agg [.i len,.ro 5 (Hu rs)]
def Yc(len:Int)(rs:List Ru):Kb gv prog 54 [Rh len rs] (λr=>r=.i (Tt len rs)):=by
 have y:=λ(k:Nat)(h:k<rs.length)=>Vx h
 have z:=Ts rs;unfold Rh Tt;generalize Hu rs=u at y z|-;refine B0 func54 λw0 N0 hG=>?_;refine Y [1] [1] sr (J (Y [1,15] [1] sr ?_))
 refine Au (λh1=>?_) λh1=>Ae ?_
 .exact Y [2] [] sr (Ao (Ab sr (by rw[Ad (sG h1)])))
 rw[I (sG h1)];refine J (Y [1,19] [1] sr ?_)
 refine Au (λh2=>?_) λh2=>Ae ?_
 .exact Y [2] [] sr (Ao (Ab sr (by rw[Ad (sO h2)])))
 have w:rs.length<=20:=sO h2
 rw[I om];refine J (Y [21,22,23] [] sr (Ah (Bu (λk nx=>⟨[(21,.ro 5 u),(22,.i rs.length),(23,.i k)],[],nx,40⟩) (λk=>Mk Akv (rs.drop k)=Mk Akv rs) rs.length _ sm (by rw[z];exact Z) ?_)));intro k nx hk g;refine Y [21,22,23,24] [] sr (J ?_)
 refine Au (λs=>Ae ?_) λs=>?_
 .have i:k<rs.length:=by simp at s;omega
  have f:k<u.length:=om;have m:=y k i;have hw:=A5 (k:=k) om;rw[Pb Akv i]at g;generalize rs[k]=r at m g;have x:r.v=.agg [.i r.kind,.i r.n,.i r.mn,.i r.mx,.str r.code]:=rfl;have a:Akv r=if r.fits=false then 1 else Anc r:=rfl
  by_cases d:r.known
  case neg=>
   have c:=Aqf d
   have hf:r.fits=false:=by
    cases hh:r.fits with
    |false=>rfl
    |true=>exact absurd (Y3 hh) d
   rw[x]at m c;rw[Ad hf]at a;refine J (Ah (Y [4,21,22,23] [4] (by simp[m,f]<;>rfl) (J (Ak (Ay 1 sr ?_)))));refine Ac c func100 ?_;refine Aa [5,6,21,22,23] [] sr ?_;refine J (Y [5,21,22,23,33] [] sr ?_);refine A0 rfl (λj=>?_) sA;refine Y [2] [] sr ?_;refine Ao (Ab sr ?_);rw[<- g,Ad (by rw[a];decide),a]
  have c:=Ad9 d;have l:=Bbq r d;rw[x]at m c;unfold Y2 at l;generalize Aqc r=dt at c l;generalize Ago r=dc at c l;generalize Anc r=ce at l a;generalize r.fits=fb at c a;refine J (Ah (Y [4,21,22,23] [4] (by simp[m,f]<;>rfl) (J (Ak (Ay 1 sr ?_)))));refine Ac c func100 ?_;refine Aa [5,6,21,22,23] [] sr ?_;refine J (Y [5,21,22,23,33] [] sr ?_)
  refine Au (λj=>?_) λj=>Ae ?_
  .refine Y [2] [] sr ?_;refine Ao (Ab sr ?_);have e:fb=false:=sG j
   subst e;rw[Ad rfl]at a;rw[<- g,Ad (by rw[a];decide),a]
  have e:fb=true:=sG j
  subst e;rw[I dC]at a;refine J (Ak (Ay 1 sr ?_));refine Akk hG l sm rfl rfl sr sr sm sr ?_;refine Aa [7,21,22,23] [] sr ?_;refine Y [7,21,22,23,37] [] sr ?_
  refine Au (λo=>?_) λo=>Ae ?_
  .refine Y [2] [] sr ?_;refine Ao (Ab sr ?_);rw[<- g,a,Ad (sG o)]
  refine Ba [21,22,23] [] Du ?_;exact⟨i,by rw[<- g,a,I (sG o)],_,Z⟩
 .refine A6 ?_;refine Y [2] [] sr ?_;refine Ao (Ab sr ?_);have t:k=rs.length:=sO s
  rw[<- g,t,Ck];rfl
variable {w:List Nat}
def Ks(w:List Nat)(m:Nat):Prop:=∀x∈w,(B2 x).length<=m
def Auf{p:Int}(h: -1000<=p/\p<=1000):Ox p<=1:=Fg (m:=1) om
def Ang(h:Ks w 1000):∀k,k<=w.length->Ox (Gk (w.take k):Int)<=1000+k
 |0,_ =>by simp[Gk,Ox,Et]
 |k+1,hk=>by
  rw[Xd om,Dy];have:=Uj (Ang h k om) (Ag (Xe (h w[k] (Aw om))) (by omega:1000<=1000+k));omega
def Anh{l:List Int}(h:Ks w 1000)(hp:∀p∈l,-1000<=p/\p<=1000)(c:w.length=l.length):∀k,k<=w.length->Ox (M6 (l.take k) (w.take k))<=1001+k
 |0,_ =>by simp[M6,Ox,Et]
 |k+1,hk=>by
  rw[Akp om oM];have:=Uj (Anh h hp c k om) (Ag (L3 (Xe (h w[k] (Aw om))) (Auf (hp l[k] (Aw om)))) (by omega:1000+1<=1001+k));omega
def Ani{l:List Int}(h:Ks w 1000)(hp:∀p∈l,-1000<=p/\p<=1000)(d:w.length=l.length):∀k,k<=w.length->Ox (Sv (l.take k) (w.take k))<=1002+k
 |0,_ =>by simp[Sv,Ox,Et]
 |k+1,hk=>by
  have a:=Auf (hp l[k] (Aw om));rw[Akq om oM];have:=Uj (Ani h hp d k om) (Ag (L3 (L3 (Xe (h w[k] (Aw om))) a) a) (by omega:1000+1+1<=1002+k));omega
def Biv(n:Nat):sgn false n=(n:Int):=rfl
def Aww(g:Gr)(w:List Nat)(hg:Li g=0)(s:w.length=g.pts.length)(hw:Ks w 1000)(h0:Gk w≠0):
  AE 240 [g.v,.ro 1 (Cb w)] (.tup [(nI (Gk w)).v,(nI (M6 g.pts w)).v,(nI (Sv g.pts w)).v,.i 0]):=by
 have hv:=L1 g;rw[hg]at hv;obtain⟨aj,ag,ai,l,-,-⟩:=Kc hg;have⟨pts,m⟩:=g;simp only at s aj ag ai l|-;have ev:(Gr.mk pts m).v=.agg [.ro 1 (Av pts),.ro 1 (Av m)]:=rfl;rw[ev]at hv|-;have z0:=Ang hw;have z1:=Anh hw l s;have z2:=Ani hw l s;have hp:∀(k:Nat)(h:k<pts.length),Hj (Av pts) k=some (.i pts[k]):=λk h=>Fu h
 have hq:∀(k:Nat)(h:k<w.length),Hj (Cb w) k=some (.ro 1 (Gv w[k])):=λk h=>Ky h
 have lp:=A4 pts;have lq:=H5 w;have pp:=Af pts;have pq:=Af m;have pw:=B1 w;have t:=Aau (nI (Gk w)) (Cp _);rw[Iz,At5]at t;have ab:G9 (Gk w)=1:=by unfold G9;rw[I om,Ad oM]
 rw[ab]at t;simp only[At5];generalize Av pts=pv at hp lp hv pp|-;generalize Av m=qv at hv pq|-;generalize Cb w=wv at hq lq pw|-;refine Aq func240 λw0 N0=>?_;refine Y [1,2,4,5,6] [2,4,5,6] sr (J (Bn 1 sr ?_));refine Ac hv func55 ?_;refine Aa [1,2,4,5,6,8] [2,4,5,6] sr (A9 [20] sr ?_);refine A0 rfl sA (λh1=>Ae (J (Y [1,2,4,5,6,30] [2,4,5,6] sr ?_)));refine A0 rfl (λh2=>by simp at h2;omega) λh2=>Ae (Y [1,2,4,5,6,9,10,11] [2,4,5,6,9,10,11] sr ?_);refine Ni 9 1 109 1 164 [1,2,4,5,6,9,10,11] [2,4,5,6,9,10,11,109] sr ?_;refine Bw 109 [1,2,4,5,6,9,10,11] [2,4,5,6,9,10,11] sr ?_;refine Ni 10 1 109 1 164 [1,2,4,5,6,9,10,11] [2,4,5,6,9,10,11,109] sr ?_;refine Bw 109 [1,2,4,5,6,9,10,11] [2,4,5,6,9,10,11] sr ?_;refine Ni 11 1 109 1 164 [1,2,4,5,6,9,10,11] [2,4,5,6,9,10,11,109] sr ?_;refine Bw 109 [1,2,4,5,6,9,10,11] [2,4,5,6,9,10,11] sr (J (Y [1,4,5,6,9,10,11,35,36,37] [4,5,6,9,10,11] sr (Ah ?_)))
 refine Bu (λk nx=>⟨[(1,V.ro 1 wv),(4,V.bp 4 1 2 0 0),(5,V.bp 5 2 2 0 0),(6,V.bp 6 3 2 0 0),(9,V.bp 9 16 2 0 0),(10,V.bp 10 17 2 0 0),(11,V.bp 11 18 2 0 0),(35,V.ro 1 pv),(36,V.int IntKind.i64 pts.length),(37,V.int IntKind.i64 k)],
  [(4,{ v:=1,sz:=2,ty:=32,es:=[V.agg [V.bool false,V.nils]]}),(5,{ v:=2,sz:=2,ty:=32,es:=[V.agg [V.bool false,V.nils]]}),(6,{ v:=3,sz:=2,ty:=32,es:=[V.agg [V.bool false,V.nils]]}),
   (9,{ v:=16,sz:=2,ty:=32,es:=[V.agg [V.bool (nIb (Gk (w.take k))),V.ro 1 (nIl (Gk (w.take k)))]]}),(10,{ v:=17,sz:=2,ty:=32,es:=[V.agg [V.bool (nIb (M6 (pts.take k) (w.take k))),V.ro 1 (nIl (M6 (pts.take k) (w.take k)))]]}),
   (11,{ v:=18,sz:=2,ty:=32,es:=[V.agg [V.bool (nIb (Sv (pts.take k) (w.take k))),V.ro 1 (nIl (Sv (pts.take k) (w.take k)))]]})],nx,73⟩) (λk=>True) pts.length 26 trivial ?_ ?_
 .rw[lp];simp only[Kh,Gk,M6,Sv,Int.natCast_zero,A4m,A4n];exact Z
 intro k nx hk _;refine Y [1,4,5,6,9,10,11,35,36,37,38] [4,5,6,9,10,11] sr (J ?_)
 refine Cu (λh3=>?_) λh3=>?_
 .have j:k<pts.length:=by simp at h3;omega
  have y:k<pv.length:=om;have aa:k<wv.length:=om;have a:k<w.length:=om;have gp:=hp k j;have gq:=hq k a;have ah:=A5 (k:=k) om;have y0:=z0 k om;have y1:=z1 k om;have y2:=z2 k om;have e0:=Xd a;have e1:=Akp j a;have e2:=Akq j a;have ae:=hw w[k] (Aw a);have ad:=l pts[k] (Aw j);generalize pts[k]=p at gp ad e1 e2;generalize w[k]=x at gq ae e0 e1 e2;generalize Gk (w.take k)=s0 at y0 e0|-;generalize M6 (pts.take k) (w.take k)=s1 at y1 e1|-;generalize Sv (pts.take k) (w.take k)=s2 at y2 e2|-;have sp:=Auf ad;have sx:=Xe ae;have c:=Ke false x om;have o:=Auc p om om;have n:=Pp (nI x) (nI p) (Hn om) (Hn om);have sm:=L3 sx sp;have f:=Aav (nI s0) (nI x) (Hn om) (Hn om);have i:=Aav (nI s1) (nI (x*p)) (Hn om) (Hn om);have e:=Pp (nI (x*p)) (nI p) (Hn om) (Hn om);have al:=L3 sm sp;have d:=Aav (nI s2) (nI (x*p*p)) (Hn om) (Hn om);rw[Biv]at c;simp only[Iz,At5]at c o n f i e d;change AC _ _ [.bool false,.ro 1 (Gv x)] _ at c;have u:∀z:Int,(nIl z).all V.pureE=true:=Vs;have pn:=F9 x;refine J (Ah (Y [1,4,5,6,9,10,11,12,13,35,36,37] [4,5,6,9,10,11] (by simp[gp,y]<;>rfl) (Bn 4 (by simp[gq,aa]<;>rfl) ?_)));refine Ac c func215 ?_;refine Aa [1,4,5,6,9,10,11,13,14,35,36,37] [4,5,6,9,10,11,14] sr ?_;refine Bn 1 sr ?_;refine Ac o func162 ?_;refine Aa [1,4,5,6,9,10,11,14,15,35,36,37] [4,5,6,9,10,11,14,15] sr ?_;refine Bn 2 sr ?_;refine Ac n func164 ?_;refine Aa [1,4,5,6,9,10,11,14,15,16,35,36,37] [4,5,6,9,10,11,14,15,16] sr ?_;refine Bn 2 sr ?_;refine Ac f func270 ?_;refine Aa [1,4,5,6,9,10,11,15,16,35,36,37] [4,5,6,9,10,11,15,16] sr ?_;refine Bn 2 sr ?_;refine Ac i func270 ?_;refine Aa [1,4,5,6,9,10,11,15,16,35,36,37] [4,5,6,9,10,11,15,16] sr ?_;refine Di [(0,[]),(1,[]),(2,[]),(3,[]),(4,[]),(5,[])] Eb kr ?_;refine Ci 3 sr ?_;refine B4 (λhg=>e) func164 ?_;refine B4 (λhg=>d) func270 ?_;refine Dj [1,4,5,6,9,10,11,35,36,37] [4,5,6,9,10,11] sr ?_;refine Cw [] Du ?_;exact⟨j,trivial,_,by simp only[e0,e1,e2,Dy];exact Z⟩
 .refine A6 ?_;have ak:k=pts.length:=sO h3
  subst ak;have ew:w.take pts.length=w:=Bi om;have ep:pts.take pts.length=pts:=Bi om;simp only[ew,ep];refine J (Bn 1 sr ?_);refine Ac t func102 ?_;refine Aa [4,5,6,9,10,11,66] [4,5,6,9,10,11] sr ?_;refine A0 rfl sA (λh4=>Ae (J (Aeu (.take 0 [] (.alt 1 (.alt 2 (.take 3 [] (.take 4 [] (.take 5 [] (.take 6 [] .done)))) (.alt 3 (.alt 2 (.take 4 [] (.take 5 [] (.take 6 [] .done))) (.alt 4 (.take 2 [] (.take 5 [] (.take 6 [] .done))) .stop)) .stop)) (.alt 2 (.alt 1 (.take 3 [] (.take 4 [] (.take 5 [] (.take 6 [] .done)))) (.alt 3 (.take 1 [] (.take 4 [] (.take 5 [] (.take 6 [] .done)))) .stop)) (.alt 3 (.take 1 [] (.alt 2 (.take 4 [] (.take 5 [] (.take 6 [] .done))) (.alt 4 (.take 2 [] (.take 5 [] (.take 6 [] .done))) .stop))) .stop)))) Eb kr ?_)));refine Uf (L:=[4,5,6,7]) (M:=[4,5,6]) sr ?_;intro T hT;have af:=(show T=_ by simpa using hT);subst af;exact By Du rfl
def Ul(x:Int)(h:n≠0):Pd x (n:Int)=.tup [(nR (mkRat x n)).v,.bool true]:=by
 have h1:G9 (n:Int)=1:=by unfold G9;rw[I om,Ad oM]
 rw[Pd,I om,h1,Int.mul_one,Ez]
def P6(g:Gr)(w:List Nat):Rat:=mkRat (M6 g.pts w) (Gk w)
def Y4(g:Gr)(w:List Nat):Rat:=mkRat ((Gk w:Int)*Sv g.pts w-M6 g.pts w*M6 g.pts w) (Gk w*Gk w)
structure sumsOk(g:Gr)(w:List Nat):Prop where
 grid:Li g=0
 len:w.length=g.pts.length
 sz:Ks w 1000
 pos:Gk w≠0
def sumsOk.sz0{g:Gr}(h:sumsOk g w):Ox (Gk w)<=1021:=by
 have:=Ang h.sz w.length (A7 _);rw[Be]at this;have hl:=(Kc h.grid).len;have:=h.len;omega
def sumsOk.sz1{g:Gr}(h:sumsOk g w):Ox (M6 g.pts w)<=1022:=by
 have:=Anh h.sz (Kc h.grid).pts h.len w.length (A7 _);rw[Be,Bi (by have:=h.len;omega)]at this;have hl:=(Kc h.grid).len;have:=h.len;omega
def sumsOk.sz2{g:Gr}(h:sumsOk g w):Ox (Sv g.pts w)<=1023:=by
 have:=Ani h.sz (Kc h.grid).pts h.len w.length (A7 _);rw[Be,Bi (by have:=h.len;omega)]at this;have hl:=(Kc h.grid).len;have:=h.len;omega
def Acw(h:Ox (n:Int)<=k):(B2 n).length<=k:=by rwa[Ox,Ez]at h
def A41{g:Gr}(h:sumsOk g w):Qk (P6 g w)<=1022:=Uk h.pos h.sz1 (Ag (Acw h.sz0) dc)
def Bbs(g:Gr)(w:List Nat)(h:sumsOk g w):AE 181 [g.v,.ro 1 (Cb w)] (.tup [(nR (P6 g w)).v,.i 0]):=by
 have c:=Aww g w h.grid h.len h.sz h.pos;have a:=Aaw (nI (M6 g.pts w)) (nI (Gk w)) (Hn (Ag h.sz1 dc)) (Hn (Ag h.sz0 dc));rw[Iz,Iz,Ul _ h.pos]at a;change AC _ _ _ (λr=>r=.tup [(nR (P6 g w)).v,.bool true])at a;simp only[At5,Xt]at c a|-;have k:=Vs;have e:=Jb (P6 g w);have d:=Jc (P6 g w);have ev:g.v=.agg [.ro 1 (Av g.pts),.ro 1 (Av g.pri)]:=rfl;rw[ev]at c|-;have i:=B1 w;have f:=Af g.pts;have j:=Af g.pri;generalize Cb w=wv at c i|-;generalize Av g.pts=pv at c f|-;generalize Av g.pri=qv at c j|-;generalize nRb (P6 g w)=mb at a|-;generalize nRl (P6 g w)=ml at a e|-;generalize nRd (P6 g w)=md at a d|-;refine Aq func181 λw0 N0=>?_;refine Y [1,2,4] [2,4] sr (Bn 2 sr ?_);refine Ac c func240 ?_;refine Aa [4,6,7,9] [4,6,7] sr (J (A9 [21] sr ?_));refine A0 rfl sA λh1=>Ae (Bn 2 sr ?_);refine Ac a func161 ?_;refine Aa [4,10] [4,10] sr (Y [4,5] [4] sr ?_);exact By Du rfl
def Aqg(g:Gr)(w:List Nat)(h:sumsOk g w):AE 293 [g.v,.ro 1 (Cb w)] (.tup [(nR (Y4 g w)).v,.i 0]):=by
 have c:=Aww g w h.grid h.len h.sz h.pos;have m:=h.sz0;have n:=h.sz1;have k2:=h.sz2;have f:=Pp (nI (Gk w)) (nI (Sv g.pts w)) (Hn om) (Hn om);have d:=Pp (nI (M6 g.pts w)) (nI (M6 g.pts w)) (Hn om) (Hn om);have e:=Pp (nI (Gk w)) (nI (Gk w)) (Hn om) (Hn om);have m1:=L3 m k2;have m2:=L3 n n;have m3:=L3 m m;simp only[Iz]at f d e;have i:=Ba7 (nI ((Gk w:Int)*Sv g.pts w)) (nI (M6 g.pts w*M6 g.pts w)) (Hn om) (Hn om)
 have m4:Ox ((Gk w:Int)*Sv g.pts w-M6 g.pts w*M6 g.pts w)<=3000:=by
  rw[Rx];have:=Uj (k:=2044) (x:=(Gk w:Int)*Sv g.pts w) (y:= -(M6 g.pts w*M6 g.pts w)) om (by rw[Ox,Oq];exact m2);omega
 have a:=Aaw (nI ((Gk w:Int)*Sv g.pts w-M6 g.pts w*M6 g.pts w)) (nI ((Gk w:Int)*Gk w)) (Hn om) (Hn om);simp only[Iz]at i a;rw[<- Ft,Ul _ (Jn h.pos h.pos)]at a;rw[Ft]at a;change AC _ _ _ (λr=>r=.tup [(nR (Y4 g w)).v,.bool true])at a;simp only[At5,Xt]at c a f d e i|-;have j:=Vs;have s:=Jb (Y4 g w);have o:=Jc (Y4 g w);have ev:g.v=.agg [.ro 1 (Av g.pts),.ro 1 (Av g.pri)]:=rfl;rw[ev]at c|-;have u:=B1 w;have t:=Af g.pts;have z:=Af g.pri;generalize Cb w=wv at c u|-;generalize Av g.pts=pv at c t|-;generalize Av g.pri=qv at c z|-;generalize nRb (Y4 g w)=mb at a|-;generalize nRl (Y4 g w)=ml at a s|-;generalize nRd (Y4 g w)=md at a o|-;refine Aq func293 λw0 N0=>?_;refine Y [1,2,4] [2,4] sr (Bn 2 sr ?_);refine Ac c func240 ?_;refine Aa [4,6,7,8,9] [4,6,7,8] sr (J (A9 [22] sr ?_));refine A0 rfl sA (λh1=>Ae (J (Di [(0,[10]),(1,[10]),(2,[]),(3,[10]),(4,[10]),(5,[]),(6,[]),(7,[]),(8,[])] Eb kr ?_)));refine Ci 2 sr (B4 (λl=>f) func164 ?_);refine Ci 2 sr ?_;refine B4 (λl=>d) func164 ?_;refine B4 (λl=>i) func327 ?_;refine Dj [4,6,10] [4,6,10] sr ?_;refine J (Di [(0,[11]),(1,[11]),(2,[11]),(3,[]),(4,[]),(5,[]),(6,[]),(7,[]),(8,[]),(9,[]),(10,[])] Eb kr ?_);refine Ci 3 sr ?_;refine B4 (λl=>e) func164 ?_;refine B4 (λl=>a) func161 ?_;refine Dj [4,11] [4,11] sr ?_;refine Y [4,5] [4] sr ?_;exact By Du rfl
def Bbt(g:Gr)(hg:Li g=0)(q:Rat)(hq:Qk q<=34359738368):AE 182 [g.v,(nR q).v] (.tup [.i (Agj g.pts q:Nat),.i 0]):=by
 have f:=L1 g;rw[hg]at f;obtain⟨ai,m,-,hpt,-,-⟩:=Kc hg;have c:=λ(p:Int)(hp: -1000<=p/\p<=1000)=>Aqd p hp (nR q) (Nn hq)
 simp only[Mj]at c;have z:∀p:Int,-1000<=p/\p<=1000->Qk (Tk (p-q))<=34359738372:=λp hp=>Bbr (Awv (Qm (x:=p) om om) hq)
 have i:=λ(a b:Rat)(ha:Qk a<=34359738372)(hb:Qk b<=34359738372)=>Sb (nR a) (nR b) (Nn (Ag ha dc)) (Nn (Ag hb dc))
 simp only[Mj]at i;have⟨pts,n⟩:=g;simp only at ai m hpt|-;have ev:(Gr.mk pts n).v=.agg [.ro 1 (Av pts),.ro 1 (Av n)]:=rfl;rw[ev]at f|-;have hp:∀(k:Nat)(h:k<pts.length),Hj (Av pts) k=some (.i pts[k]):=λk h=>Fu h
 have lp:=A4 pts;have pp:=Af pts;have pq:=Af n;simp only[Xt]at c i|-;have p1:=Jb;have p2:=Jc;generalize Av pts=pv at hp lp f pp|-;generalize Av n=qv at f pq|-;have g0:=hp 0 m;have o:=hpt _ (Aw m);have ag:=z _ o;have af:=c _ o
 have s:Agj pts q=Tl q (pts.drop 1) 1 0 (Tk (pts[0]-q)):=by
  cases pts with
  |nil=>simp at m
  |cons p r=>rfl
 have ah:0<pv.length:=om;refine Aq func182 λw0 N0=>?_;refine Y [2,3] [2,3] sr (J (Bn 1 sr ?_));refine Ac f func55 ?_;refine Aa [2,3,6] [2,3] sr (A9 [14] sr ?_);refine A0 rfl sA (λh1=>Ae (Y [2,3,7] [2,3] sr (J (Di [(0,[]),(1,[8]),(2,[]),(3,[8]),(4,[8]),(5,[]),(6,[]),(7,[])] Eb kr ?_))));refine Ci 5 Du ?_;refine B4 (λhg=>af) func242 ?_;refine Dj [2,3,7,8] [2,3,8] sr ?_;refine J (A9 [9] sr (Ah ?_))
 refine C3 (λt:Nat × Nat × Rat × Nat=>⟨[(2,V.bp 2 0 2 0 0),(3,V.bp 3 1 3 0 0),(7,V.int IntKind.i64 (t.2.1:Nat)),(8,V.bp 8 16 3 0 0),(9,V.int IntKind.i64 ((t.1:Nat):Int))],
  [(2,{ v:=0,sz:=2,ty:=27,es:=[V.agg [V.ro 1 pv,V.ro 1 qv]]}),(3,{ v:=1,sz:=3,ty:=34,es:=[V.agg [V.bool (nRb q),V.ro 1 (nRl q),V.ro 1 (nRd q)]]}),(8,{ v:=16,sz:=3,ty:=34,es:=[V.agg [V.bool (nRb t.2.2.1),V.ro 1 (nRl t.2.2.1),V.ro 1 (nRd t.2.2.1)]]})],t.2.2.2,43⟩)
  (λt=>1<=t.1/\t.1<=pts.length/\Qk t.2.2.1<=34359738372/\Tl q (pts.drop t.1) t.1 t.2.1 t.2.2.1=Agj pts q) (λt=>pts.length-t.1) (1,0,Tk (pts[0]-q),19) ⟨by simp,by simp only;omega,ag,s.symm⟩ Z ?_
 rintro⟨k,b,d,nx⟩⟨i1,i2,i3,j⟩;simp only at i1 i2 i3 j|-;refine J (Y [2,3,7,8,9,26] [2,3,8] sr ?_)
 refine Cu (λh2=>?_) λh2=>?_
 .have w:k<pts.length:=by simp at h2;omega
  have ab:k<pv.length:=om;have gp:=hp k w;have ad:=A5 (k:=k) om;have l:=hpt _ (Aw w);rw[At4 q w]at j;generalize pts[k]=p at gp l j;have aa:=c p l;have u:=z p l;have y:=i _ d u i3;generalize Tk (p-q)=e at aa u y j;refine J (Ah (J (Di [(0,[]),(2,[]),(1,[10]),(3,[]),(4,[10]),(5,[10]),(6,[]),(7,[]),(8,[])] Eb kr ?_)));refine Ci 6 (by simp[gp,ab]<;>rfl) ?_;refine B4 (λhg=>aa) func242 ?_;refine Dj [2,3,7,8,9,10] [2,3,8,10] sr ?_;refine Bn 2 sr ?_;refine Ac y func104 ?_;refine Aa [2,3,7,8,9,10,39] [2,3,8,10] sr ?_;have ae:N8 e d<0↔e<d:=by unfold N8;by_cases h:e<d<;>simp[h];split<;>decide
  refine C1 (λh3=>?_) λh3=>?_
  .refine R8 [(0,[]),(2,[]),(1,[]),(3,[])] [2,3,7,8,9] [2,3,8] Eb kr sr ?_;refine Cw [] Du ?_;rw[Ad (ae.1 (sG h3))]at j;exact⟨(k+1,k,e,_),⟨by simp,by simp only;omega,u,j⟩,by simp only;omega,Z⟩
  refine Ba [2,3,7,8,9] [2,3,8] Du ?_;rw[I (λh=>by rw[<- ae]at h;simp at h3;omega)]at j;exact⟨(k+1,b,d,_),⟨by simp,by simp only;omega,i3,j⟩,by simp only;omega,Z⟩
 .refine A6 ?_;have aj:k=pts.length:=sO h2
  rw[aj,Ck]at j;simp only[Tl]at j;exact Y [4,5] [] sr (By sr (by rw[j]))
def Um(q a:Rat):Bool:=decide (a<q)&&decide (q<=1)
def Aqh{a b:Rat}:0<N8 a b↔b<a:=by
 unfold N8
 by_cases h:a<b
 .have c:¬b<a:=λh2=>Rat.not_lt.2 (Rat.le_of_lt h) h2
  simp[h,c]
 .by_cases h2:b<a<;>simp[h,h2]
def Awx{a b:Rat}:N8 a b<=0↔a<=b:=by
 rw[<- Rat.not_lt,<- Aqh];omega
def Aqi(a:RR)(h:a.ok 137438953472)(x y:Int)(h1: -9223372036854775808<=x)(h2:x<9223372036854775808)(h3:0<y)(h4:y<9223372036854775808):
  AE 57 [a.v,.i x,.i y] (.bool (Um a.val (mkRat x y.natAbs))):=by
 have hy:∃n:Nat,y=n/\n≠0:=⟨y.natAbs,by omega,by omega⟩;obtain⟨n,rfl,s⟩:=hy;rw[Ez];have g:=Vu x n h1 h2 om h4;have f:=Vu 1 1 dc dc dc dc;rw[Ul _ s]at g;rw[Rg]at f;have t:Qk (mkRat x n)<=3:=Uk s (L0 om om) (Acw (L0 (z:=(n:Int)) om om));have e:=Sb a (nR (mkRat x n)) h (Nn (Ag t dc));have d:=Sb a (nR ((1:Int):Rat)) h (Nn (Ag (Qm dc dc) dc));rw[Mj]at e d;have e1:((1:Int):Rat)=1:=rfl;rw[e1]at f d;have k:=Aqh (a:=a.val) (b:=mkRat x n);have m:=Awx (a:=a.val) (b:=1)
 have o:Um a.val (mkRat x n)=(decide (0<N8 a.val (mkRat x n))&&decide (N8 a.val 1<=0)):=by
  unfold Um;simp only[k,m]
 rw[o];have u:=vRR a;have pa:=RR.vp a;rw[u]at e d pa|-;simp only[Xt]at g f e d;have w:=Jb;have l:=Jc;have i:=Aj a.num.mag;have j:=Aj a.den;generalize N8 a.val (mkRat x n)=z1 at e|-;generalize N8 a.val 1=z2 at d|-;generalize A2 a.num.mag=am,A2 a.den=ad at*;clear k m o u t;refine Aq func57 λw0 N0=>?_;refine Y [1,2,3] [3] sr (Bn 2 sr ?_);refine Ac g func103 ?_;refine Aa [3,7] [3,7] sr (J (Ak (Ac f func103 ?_)));refine Aa [3,7,9] [3,7,9] sr (Bn 2 sr ?_);refine Ac e func104 ?_;refine Ay 4 sr (Gf (c:=decide (0<z1)) (λhg=>d) func104 ?_ (hg:=sm));exact Aa [6] [] sr (By sr sm)
def Bd(l:List (Int × Int)):List V:=l.map λp=>.agg [.i p.1,.i p.2]
@[simp]def Ei(l:List (Int × Int)):(Bd l).length=l.length:=by simp[Bd]
def Im{l:List (Int × Int)}(h:k<l.length):Hj (Bd l) k=some (.agg [.i l[k].1,.i l[k].2]):=by rw[C2];simp[Bd,h]
def Bc(l:List (Int × Int)):(Bd l).all V.pureE=true:=by
 rw[Ar];intro x a;simp only[Bd,Bl]at a;obtain⟨n,_,rfl⟩:=a;rfl
structure Po where
 len:Int
 rules:List Ru
 g:Gr
 en:List (Int × Int)
 mn:Int
 var:RR
 cut:Int
 lvl:RR
 top:Int
 rate:RR
 slack:Int
def Po.cs(p:Po):List V:=
 [.i p.len,.ro 5 (Hu p.rules),.ro 1 (Av p.g.pts),.ro 1 (Av p.g.pri),.ro 2 (Bd p.en),.i p.mn,
  .bool p.var.num.neg,.ro 1 (A2 p.var.num.mag),.ro 1 (A2 p.var.den),.i p.cut,
  .bool p.lvl.num.neg,.ro 1 (A2 p.lvl.num.mag),.ro 1 (A2 p.lvl.den),.i p.top,
  .bool p.rate.num.neg,.ro 1 (A2 p.rate.num.mag),.ro 1 (A2 p.rate.den),.i p.slack]
def Po.v(p:Po):V:=.agg p.cs
def vPo(p:Po):p.v=V.agg [.i p.len,.ro 5 (Hu p.rules),.ro 1 (Av p.g.pts),.ro 1 (Av p.g.pri),.ro 2 (Bd p.en),.i p.mn,.bool p.var.num.neg,.ro 1 (A2 p.var.num.mag),.ro 1 (A2 p.var.den),.i p.cut,.bool p.lvl.num.neg,.ro 1 (A2 p.lvl.num.mag),.ro 1 (A2 p.lvl.den),.i p.top,.bool p.rate.num.neg,.ro 1 (A2 p.rate.num.mag),.ro 1 (A2 p.rate.den),.i p.slack]:=rfl
structure Po.ok(p:Po):Prop where
 var:p.var.ok 137438953472
 lvl:p.lvl.ok 137438953472
 rate:p.rate.ok 34359738368
def Bbu(p:Po):Bool:=
 (decide (p.mn<0)||decide (p.len<p.mn))||(decide (Ad8 p.var.val<0)||((decide (p.cut<0)||decide ((p.g.pts.length:Int)-1<p.cut))||((!decide (p.cut=0)&& !Um p.lvl.val (mkRat 1 2))||
 ((decide (p.top<1)||decide (5<p.top))||((!Um p.rate.val (mkRat 0 1))||(decide (p.slack<0)||decide (1000000<p.slack)))))))
def Xv(p:Po):Int:=
 if Tt p.len p.rules≠0 then Tt p.len p.rules else if Li p.g≠0 then Li p.g else if 400<p.en.length then 5 else if Bbu p=true then 3 else 0
def Qo(p:Po)(e:p.ok):Kb gv prog 28 [p.v] (λr=>r=.i (Xv p)):=by
 have t:=Yc p.len p.rules;have n:=L1 p.g;have u:=Ap6 p.var e.var.lim e.var.num.lim;have j:=Aqi p.lvl e.lvl 1 2 dc dc dc dc;have f:=Aqi p.rate ⟨⟨e.rate.num.lim,Ag e.rate.num.len dc⟩,e.rate.lim,Ag e.rate.len dc⟩ 0 1 dc dc dc dc;change AC _ _ _ (λr=>r=.bool (Um p.lvl.val (mkRat 1 2)))at j;change AC _ _ _ (λr=>r=.bool (Um p.rate.val (mkRat 0 1)))at f;have⟨len,rules,⟨a,l⟩,en,mn,⟨⟨vb,z⟩,vd⟩,k,⟨⟨lb,lm⟩,ld⟩,o,⟨⟨rb,rm⟩,rd⟩,d⟩:=p;unfold Xv Bbu Po.v Po.cs;simp only at t n u j f|-;have m:=A4 a;have le:=Ei en;have q1:=Dr rules;have q2:=Af a;have q3:=Af l;have q4:=Aj z;have q5:=Aj vd;have q6:=Aj lm;have q7:=Aj ld;have q8:=Aj rm;have q9:=Aj rd;have e1:Rh len rules=.agg [.i len,.ro 5 (Hu rules)]:=rfl;have e2:(Gr.mk a l).v=.agg [.ro 1 (Av a),.ro 1 (Av l)]:=rfl;have e3:(RR.mk ⟨vb,z⟩ vd).v=.agg [.bool vb,.ro 1 (A2 z),.ro 1 (A2 vd)]:=rfl;have e4:(RR.mk ⟨lb,lm⟩ ld).v=.agg [.bool lb,.ro 1 (A2 lm),.ro 1 (A2 ld)]:=rfl;have e5:(RR.mk ⟨rb,rm⟩ rd).v=.agg [.bool rb,.ro 1 (A2 rm),.ro 1 (A2 rd)]:=rfl;rw[e1]at t;rw[e2]at n;rw[e3]at u;rw[e4]at j;rw[e5]at f;clear e1 e2 e3 e4 e5 e;generalize Tt len rules=x1 at t|-;have aa:Li ⟨a,l⟩=0->a.length<=21:=λh=>(Kc h).len
 generalize Li ⟨a,l⟩=x2 at n aa|-;generalize Ad8 (RR.mk ⟨vb,z⟩ vd).val=x3 at u|-;generalize Um (RR.mk ⟨lb,lm⟩ ld).val (mkRat 1 2)=x4 at j|-;generalize Um (RR.mk ⟨rb,rm⟩ rd).val (mkRat 0 1)=x5 at f|-;generalize Hu rules=w1,Av a=w2,Av l=w3,A2 z=w4,A2 vd=w5,A2 lm=w6,A2 ld=w7,A2 rm=w8,A2 rd=w9,Bd en=w0 at*;refine B0 func28 λw0 N0 hG=>?_;refine Y [1] [1] sr (J (J (Ak (Ay 2 sr ?_))));refine Bq hG t func54 ?_;refine Aa [1,3] [1] sr (Y [1,3,9] [1] sr ?_)
 refine Au (λh1=>?_) λh1=>Ae ?_
 .exact Y [2] [] sr (Ao (Ab sr (by rw[Ad (sG h1)])))
 rw[I (sG h1)];refine J (J (Ak (Ay 2 sr ?_)));refine Ac n func55 ?_;refine Aa [1,4] [1] sr (Y [1,4,15] [1] sr ?_)
 refine Au (λh2=>?_) λh2=>Ae ?_
 .exact Y [2] [] sr (Ao (Ab sr (by rw[Ad (sG h2)])))
 rw[I (sG h2)];refine J (Y [1,20] [1] sr ?_)
 refine Au (λh3=>?_) λh3=>Ae ?_
 .exact Y [2] [] sr (Ao (Ab sr (by rw[Ad (sO h3)])))
 rw[I (sO h3)];refine J (Ah (J (Y [1,21] [1] sr ?_)))
 refine Au (λh=>Ae ?_) λh=>?_
 .have s:(decide (mn<0)||decide (len<mn))=true:=by simpa[m]using h
  refine A0 rfl (λ_ =>?_) (λi=>by rw[h]at i;cases i);exact Y [2] [] sr (Ao (Ab sr (by rw[Ad (by rw[s];rfl)])))
 have s:(decide (mn<0)||decide (len<mn))=false:=by simpa[m]using h
 refine J (Ak (Ay 2 sr ?_));refine Ac u func56 ?_;refine Aa [1,21] [1] sr ?_
 refine Au (λh=>Ae ?_) λh=>?_
 .have w:decide (x3<0)=true:=by simpa[m]using h
  refine A0 rfl (λ_ =>?_) (λi=>by rw[h]at i;cases i);exact Y [2] [] sr (Ao (Ab sr (by rw[Ad (by rw[s,w];rfl)])))
 have w:decide (x3<0)=false:=by simpa[m]using h
 have ab:=sG h2
 have ad:=aa ab;have Ee:IntKind.i64.wrap ((w2.length:Int)-1)=(w2.length:Int)-1:=Bp om om;refine Y [1,21] [1] (by simp[Ee]<;>rfl) ?_
 refine Au (λh=>Ae ?_) λh=>?_
 .have x:(decide (k<0)||decide ((a.length:Int)-1<k))=true:=by simpa[m]using h
  refine A0 rfl (λ_ =>?_) (λi=>by rw[h]at i;cases i);exact Y [2] [] sr (Ao (Ab sr (by rw[Ad (by rw[s,w,x];rfl)])))
 have x:(decide (k<0)||decide ((a.length:Int)-1<k))=false:=by simpa[m]using h
 refine J (Ak (Ay 6 sr ?_));refine Ep (c:= !decide (k=0)) (λhg=>j) func57 rfl kr sm rfl rfl sr sM sr (Aa [1,21] [1] sr ?_)
 refine Au (λh=>Ae ?_) λh=>?_
 .have y:(!decide (k=0)&& !x4)=true:=by simpa[m]using h
  refine A0 rfl (λ_ =>?_) (λi=>by rw[h]at i;cases i);exact Y [2] [] sr (Ao (Ab sr (by rw[Ad (by rw[s,w,x,y];rfl)])))
 have y:(!decide (k=0)&& !x4)=false:=by simpa[m]using h
 refine Y [1,21] [1] sr ?_
 refine Au (λh=>Ae ?_) λh=>?_
 .have g4:(decide (o<1)||decide (5<o))=true:=by simpa[m]using h
  refine A0 rfl (λ_ =>?_) (λi=>by rw[h]at i;cases i);exact Y [2] [] sr (Ao (Ab sr (by rw[Ad (by rw[s,w,x,y,g4];rfl)])))
 have g4:(decide (o<1)||decide (5<o))=false:=by simpa[m]using h
 refine J (Ak (Ay 2 sr ?_));refine Ac f func57 ?_;refine Aa [1,21] [1] sr ?_
 refine Au (λh=>Ae ?_) λh=>?_
 .have g5:(!x5)=true:=by simpa[m]using h
  refine A0 rfl (λ_ =>?_) (λi=>by rw[h]at i;cases i);exact Y [2] [] sr (Ao (Ab sr (by rw[Ad (by rw[s,w,x,y,g4,g5];rfl)])))
 have g5:(!x5)=false:=by simpa[m]using h
 refine Ba [21] [] sr ?_
 refine Au (λh=>?_) λh=>Ae ?_
 .have g6:(decide (d<0)||decide (1000000<d))=true:=sG h
  exact Y [2] [] sr (Ao (Ab sr (by rw[Ad (by rw[s,w,x,y,g4,g5,g6];rfl)])))
 have g6:(decide (d<0)||decide (1000000<d))=false:=sG h
 exact Y [2] [] sr (Ao (Ab sr (by rw[I (by rw[s,w,x,y,g4,g5,g6];decide)])))
def Pe(l:List Int):List Nat:=l.map Int.toNat
def Q0(h:k<w.length):(Cb w)[k]? =some (.ro 1 (Gv w[k])):=by rw[<- C2];exact Ky h
def A43(g:Gr)(hg:Li g=0):AE 114 [g.v] (.tup [.ro 1 (Cb (Pe g.pri)),.i 0]):=by
 have l:=L1 g;rw[hg]at l;obtain⟨ab,y,aa,-,hpr,-⟩:=Kc hg;have⟨d,pri⟩:=g;simp only at ab y aa hpr|-;have ev:(Gr.mk d pri).v=.agg [.ro 1 (Av d),.ro 1 (Av pri)]:=rfl;rw[ev]at l|-;have hq:∀(k:Nat)(h:k<pri.length),Hj (Av pri) k=some (.i pri[k]):=λk h=>Fu h
 have lq:=A4 pri;have pp:=Af d;have pq:=Af pri;have hz:(Pe pri).length=pri.length:=by simp[Pe]
 have hn:∀(k:Nat)(h:k<pri.length),(Cb (Pe pri))[k]? =some (.ro 1 (Gv pri[k].toNat)):=λk h=>by rw[Q0 om];simp[Pe]
 have s:(Cb (Pe pri)).length=pri.length:=by rw[H5,hz]
 have x:=B1 (Pe pri);generalize Av d=pv,Av pri=m,Cb (Pe pri)=f at*;refine Aq func114 λw0 N0=>?_;refine Y [1] [1] sr (J (Bn 1 sr ?_));refine Ac l func55 ?_;refine Aa [1,4] [1] sr (A9 [11] sr ?_);refine A0 rfl sA λh1=>Ae ?_;have u:(m.length:Int)<=9223372036854775807:=om;have w:24*(m.length:Int)<=281474976710656:=om;refine Y [1,5] [1,16] (by simp[u,w]<;>rfl) (J (Y [5,18,19,20] [16] sr (Ah (Bu (λk nx=>⟨[(5,V.sl 16 (11) 1 m.length),(18,V.ro 1 m),(19,V.i m.length),(20,V.i k)],[(16,{ v:=11,sz:=1,ty:=30,es:=E9 f .nils k})],nx,33⟩) (λk=>True) pri.length _ trivial (by rw[H3,s,<- lq];exact Z) ?_))));intro k nx hk hI;have t:=I3 f .nils k om;refine Y [5,18,19,20,21] [16] sr (J ?_)
 refine Cu (λh2=>?_) λh2=>?_
 .have c:k<pri.length:=by simp at h2;omega
  have i:k<m.length:=om;have j:k<f.length:=om;have ga:=hq k c;have a:=I5 f .nils k j (hn k c);have o:Hj (E9 f .nils k) k=some .nils:=I4 f .nils k j;have hw:=A5 (k:=k) om;have ad:=hpr _ (Aw c);generalize pri[k]=p at ga a ad;obtain⟨n,rfl⟩:∃n:Nat,p=n:=⟨p.toNat,by omega⟩;rw[Dh]at a;have e:=Agl n om;change AC _ _ _ (λr=>r=.ro 1 (Gv n))at e;have z:=wrap_u64 (n:=n) om;have pn:=F9 n;generalize E9 f .nils k=row at o a t|-;refine J (Ah (Y [5,6,7,18,19,20] [16] (by simp[ga,i]<;>rfl) (Mr 4 (by simp[z]<;>rfl) ?_)));refine Ac e func160 ?_;refine Aa [5,18,19,20] [16] (by simp[i,o,a]<;>rfl) ?_;refine Cw [] (by simp[hw]<;>rfl) ?_;exact⟨c,trivial,_,Z⟩
 .refine A6 ?_;have ae:k=pri.length:=sO h2
  rw[Jm f .nils k om];refine Bw 16 [5] [] (by simp[x,s,lq]<;>rfl) ?_;exact Y [2,3] [] sr (By sr rf)
def A44(g:Gr)(c:Li g=0):AE 64 [g.v] (.tup [.ro 1 (Cb (Pe g.pri)),.i 0]):=by
 have a:=A43 g c;have ev:g.v=.agg [.ro 1 (Av g.pts),.ro 1 (Av g.pri)]:=rfl;rw[ev]at a|-;have d:=Af g.pts;have f:=Af g.pri;have e:=B1 (Pe g.pri);generalize Av g.pts=pv,Av g.pri=qv,Cb (Pe g.pri)=nv at*;refine Aq func64 λw0 N0=>?_;refine Y [1] [1] sr (Bn 1 sr ?_);refine Ac a func114 ?_;exact Aa [2,3] [] sr (By Du (rfl))
variable {b m:Nat}
def Xw(w:List Nat):Nat:=w.foldl Nat.gcd 0
def Ri(w:List Nat):List Nat:=w.map (· / Xw w)
def Qp(w:List Nat)(m:Mo)(k:Nat):List Nat:=List.zipWith (λx(r:List Int)=>x*(r.getD k 0).toNat) w m
def Akw(h:k<w.length):Xw (w.take (k+1))=Nat.gcd (Xw (w.take k)) w[k]:=by
 unfold Xw;rw[Az h,Ot];rfl
def Bbv{a:Nat}(h1:(B2 a).length<=m)(h2:(B2 b).length<=m):(B2 (Nat.gcd a b)).length<=m:=by
 by_cases c:b=0
 .rw[c,Nat.gcd_zero_right];exact h1
 .exact Ag (Acu (Nat.gcd_le_right a om)) h2
def Aqj(h:Ks w m):∀k,k<=w.length->(B2 (Xw (w.take k))).length<=m
 |0,_ =>by simp[Xw,Et]
 |k+1,hk=>by
  rw[Akw om];exact Bbv (Aqj h k om) (h _ (Aw _))
def Agq(w:List Nat)(hw:Ks w 1000000)(af:w.length<=1000000):AE 66 [.ro 1 (Cb w)] (.ro 1 (Cb (Ri w))):=by
 have hq:∀(k:Nat)(h:k<w.length),Hj (Cb w) k=some (.ro 1 (Gv w[k])):=λk h=>Ky h
 have lq:=H5 w;have hn:∀(k:Nat)(h:k<w.length),(Cb (Ri w))[k]? =some (.ro 1 (Gv (w[k]/Xw w))):=λk h=>by rw[Q0 (by simp[Ri,h])];simp[Ri]
 have u:(Cb (Ri w)).length=w.length:=by simp[Ri]
 have ad:=B1 (Ri w);have o:=Aqj hw;generalize Cb (Ri w)=j,Cb w=i at*;refine Aq func66 λw0 N0=>?_;refine Y [0] [] sr (A9 [3] sr ?_);refine Apj 3 (.ro 1 (Gv (Xw (w.take 0)))) [0,3] [] rfl rfl (by rw[Kh,Xw,List.foldl_nil,Gv,Et];exact Bj.nils 1) sr (J (A9 [9,10,11] sr (Ah (Bu (λk nx=>⟨[(0,V.ro 1 i),(3,V.ro 1 (Gv (Xw (w.take k)))),(9,V.ro 1 i),(10,V.i i.length),(11,V.i k)],[],nx,41⟩) (λk=>True) w.length _ trivial (by simp only[Kh];exact Z) ?_))));intro k nx hk hI;refine Y [0,3,9,10,11,12] [] sr (J ?_)
 refine Cu (λh1=>?_) λh1=>?_
 .have a:k<w.length:=by simp at h1;omega
  have d:k<i.length:=om;have n:=hq k a;have Ee:=A5 (k:=k) om;have hs:=Akw a;have hx:=hw _ (Aw a);have hg:=o k om;generalize w[k]=x at n hs hx;generalize Xw (w.take k)=g at hs hg|-;have f:=A4t (B2 g) (B2 x) (Cp _) (Cp _) om om;rw[C4,C4,<- hs]at f;change AC _ _ [.ro 1 (Gv g),.ro 1 (Gv x)] (λr=>r=.ro 1 (Gv (Xw (w.take (k+1)))))at f;have p1:=F9 g;have p2:=F9 x;refine J (Ah (Y [0,3,5,9,10,11] [] (by simp[n,d]<;>rfl) (Mr 2 sr ?_)));refine Ac f func119 ?_;refine Aa [0,3,9,10,11] [] sr ?_;refine Cw [] (by simp[Ee]<;>rfl) ?_;exact⟨a,trivial,_,Z⟩
 .refine A6 ?_;have t:k=w.length:=sO h1
  subst t;have ae:=o w.length om;rw[Be]at ae|-;generalize Xw w=G at*;have pG:=F9 G;have aa:(i.length:Int)<=9223372036854775807:=om;have ab:24*(i.length:Int)<=281474976710656:=om;refine Y [0,3,6] [21] (by simp[aa,ab]<;>rfl) (J (Y [3,6,22,23,24] [21] sr (Ah (Bu (λk s=>⟨[(3,V.ro 1 (Gv G)),(6,V.sl 21 (nx+3) 1 i.length),(22,V.ro 1 i),(23,V.i i.length),(24,V.i k)],[(21,{ v:=nx+3,sz:=1,ty:=30,es:=E9 j .nils k})],s,41⟩) (λk=>True) w.length _ trivial (by rw[H3,u,<- lq];exact Z) ?_))));intro k s hk hI;have y:=I3 j .nils k om;refine Y [3,6,22,23,24,25] [21] sr (J ?_)
  refine Cu (λh2=>?_) λh2=>?_
  .have a:k<w.length:=by simp at h2;omega
   have d:k<i.length:=om;have l:k<j.length:=om;have n:=hq k a;have e:=I5 j .nils k l (hn k a);have m:Hj (E9 j .nils k) k=some .nils:=I4 j .nils k l;have Ee:=A5 (k:=k) om;have hx:=hw _ (Aw a);generalize w[k]=x at n hx e;have c:=Tm (B2 x) (B2 G) (Cp _) (Cp _) om;rw[C4,C4]at c
   obtain⟨z,r2,hr⟩:∃z r2,Am7 x G=.tup [.ro 1 (Gv (x/G)),z,r2]/\z.pureV=true/\r2.pureV=true:=by
    unfold Am7;split
    .rename_i h;rw[h,Nat.div_zero];exact⟨_,_,by rw[Gv,Et];rfl,rfl,rfl⟩
    .exact⟨_,_,rfl,Azx _,rfl⟩
   rw[hr.1]at c;have q1:=hr.2.1;have q2:=hr.2.2;change AC _ _ [.ro 1 (Gv x),.ro 1 (Gv G)] _ at c;have p2:=F9 x;generalize E9 j .nils k=row at m e y|-;refine J (Ah (Y [3,6,7,8,22,23,24] [21] (by simp[n,d]<;>rfl) (Mr 4 sr ?_)));refine Ac c func120 ?_;refine Aa [3,6,22,23,24] [21] (by simp[d,m,e]<;>rfl) ?_;refine Cw [] (by simp[Ee]<;>rfl) ?_;exact⟨a,trivial,_,Z⟩
  .refine A6 ?_;have t:k=w.length:=sO h2
   rw[Jm j .nils k oM];refine Bw 21 [6] [] (by simp[ad,u,lq]<;>rfl) ?_;exact Y [2] [] sr (By sr rf)
def Agr{m:Mo}(k:Nat)(h:m.length=w.length):(Qp w m k).length=w.length:=by simp[Qp,h]
def A45{m:Mo}(h:m.length=w.length)(a:i<w.length):(Qp w m k)[i]'(by rw[Agr k h];exact a)=w[i]*((m[i]'(by omega)).getD k 0).toNat:=by simp[Qp]
def Az5(w:List Nat)(m:Mo)(d:Nat)(hm:Lj m w.length=0)(hk:d<Xs m)(hw:Ks w 1000000):
  AE 206 [.ro 1 (Cb w),moV m,.i d] (.tup [.ro 1 (Cb (Qp w m d)),.i 0]):=by
 have g:=Sw m w.length;rw[hm]at g;have ab:=Anf m;obtain⟨ml,mp,ao,-,m6,mrow⟩:=Aar hm;have hq:∀(k:Nat)(h:k<w.length),Hj (Cb w) k=some (.ro 1 (Gv w[k])):=λk h=>Ky h
 have lq:=H5 w;have hr:∀(k:Nat)(h:k<m.length),Hj (Es m) k=some (.ro 1 (Av m[k])):=λk h=>Tj h
 have lr:=Lz m;have pm:=D7 m
 have hn:∀(k:Nat)(h:k<w.length)(h2:k<m.length),(Cb (Qp w m d))[k]? =some (.ro 1 (Gv (w[k]*(m[k].getD d 0).toNat))):=λk h h2=>by
  rw[Q0 (by rw[Agr d ml];exact h),A45 ml h]
 have ad:(Cb (Qp w m d)).length=w.length:=by rw[H5,Agr d ml]
 have ai:=B1 (Qp w m d);have ev:moV m=.agg [.ro 1 (Es m)]:=rfl;rw[ev]at g ab|-;generalize Cb (Qp w m d)=l,Cb w=y,Es m=mv at*;rw[<- lq]at g;refine Aq func206 λw0 N0=>?_;refine Y [0,2,4] [4] sr (J (A9 [15] sr ?_));refine A0 rfl (λh1=>by simp at h1;omega) (λh1=>Ae (J (Bn 3 sr ?_)));refine Ac g func106 ?_;refine Aa [0,2,4,8] [4] sr (A9 [21] sr ?_);refine A0 rfl sA (λh2=>Ae (Y [0,2,4,9] [4] sr (J (Bn 7 sr ?_))));refine Gf (c:=true) (λhg=>ab) func62 ?_;refine Aa [0,2,4,9,39] [4] sr ?_;refine A0 rfl (λh3=>by simp at h3;omega) λh3=>Ae ?_;have af:(y.length:Int)<=9223372036854775807:=om;have ag:24*(y.length:Int)<=281474976710656:=om;refine Y [0,2,4,9,10] [4,42] (by simp[af,ag]<;>rfl) (J (Y [2,4,9,10,43,44,45] [4,42] sr (Ah (Bu (λk nx=>⟨[(2,V.i d),(4,V.bp 4 (0) 1 0 0),(9,V.bool true),(10,V.sl 42 (33) 1 y.length),(43,V.ro 1 y),(44,V.i y.length),(45,V.i k)],[(4,{ v:=0,sz:=1,ty:=109,es:=[V.agg [V.ro 1 mv]]}),(42,{ v:=33,sz:=1,ty:=30,es:=E9 l .nils k})],nx,73⟩) (λk=>True) w.length _ trivial (by rw[H3,ad,<- lq];exact Z) ?_))));intro k nx hk hI;have ae:=I3 l .nils k om;refine Y [2,4,9,10,43,44,45,46] [4,42] sr (J ?_)
 refine Cu (λh4=>?_) λh4=>?_
 .have i:k<w.length:=by simp at h4;omega
  have o:k<y.length:=om;have s:k<l.length:=om;have e:k<m.length:=om;have t:k<mv.length:=om;have ga:=hq k i;have gr:=hr k e;have a:=I5 l .nils k s (hn k i e);have z:Hj (E9 l .nils k) k=some .nils:=I4 l .nils k s;have Ee:=A5 (k:=k) om;have hx:=hw _ (Aw i);obtain⟨ah,aa,-⟩:=mrow _ (Aw e);generalize w[k]=x at ga a hx;generalize m[k]=rw at gr a ah aa;have u:d<rw.length:=om;have gi:=Fu u;have li:=A4 rw;have ak:rw.getD d 0=rw[d]:=by simp[List.getD,u]
  rw[ak]at a;have hp:=aa _ (Aw u);generalize rw[d]=p at gi a hp;generalize Av rw=iv at gr gi li;have al:d<iv.length:=om;obtain⟨n,rfl⟩:∃n:Nat,p=n:=⟨p.toNat,by omega⟩;rw[Dh]at a;have j:=Agl n om;change AC _ _ _ (λr=>r=.ro 1 (Gv n))at j;have aj:=wrap_u64 (n:=n) om;have an:(B2 n).length<=1:=Fg om;have f:=Am6 (B2 x) (B2 n) (Cp _) (Cp _) om om;rw[C4,C4]at f;change AC _ _ [.ro 1 (Gv x),.ro 1 (Gv n)] (λr=>r=.ro 1 (Gv (x*n)))at f;have pn:=F9 n;have px:=F9 x;have am:=F9 (x*n);generalize E9 l .nils k=row at z a ae|-;refine J (Ah (Y [2,4,9,10,11,12,43,44,45] [4,42] (by simp[ga,o]<;>rfl) (A9 [50] sr ?_)))
  refine A0 rfl (λh5=>?_) sA
  .refine Mr 12 (by simp[gr,t,gi,al,aj]<;>rfl) ?_;refine Ac j func160 ?_;refine Ac f func216 ?_;refine Aa [2,4,9,10,43,44,45] [4,42] (by simp[o,z,a]<;>rfl) ?_;refine Cw [] (by simp[Ee]<;>rfl) ?_;exact⟨i,trivial,_,Z⟩
 .refine A6 ?_;have aq:k=w.length:=sO h4
  rw[Jm l .nils k oM];refine Bw 42 [10] [] (by simp[ai,ad,lq]<;>rfl) ?_;exact Y [6,7] [] sr (By sr rf)
def U8(s:Int):Int:=IntKind.u64.wrap (IntKind.u64.wrap (s*6364136223846793005)+1442695040888963407)
def hiD(s:Int):Nat:=((U8 s/4294967296)%4294967296).toNat
def Rj(s:Int)(n:Nat):Nat:=hiD s*n/4294967296
def Awy(s:Int):0<=U8 s/\U8 s<18446744073709551616:=by unfold U8;rw[IntKind.wrap_u64];omega
def A46(s:Int):hiD s<4294967296:=by have:=Awy s;unfold hiD;omega
def Az6(s:Int)(h:0<n):Rj s n<n:=by
 have:=A46 s;unfold Rj;rw[C9 om,Bh];exact Nat.mul_lt_mul_of_pos_left this h
def A47(s:Int):AE 67 [.int .u64 s] (.int .u64 (U8 s)):=by
 refine Aq func67 λw0 N0=>?_;exact Y [0] [] sr (Y [2] [] sr (By sr rf))
def Bbw(s:Int):AE 197 [.int .u64 s] (.tup [.int .u32 (hiD s:Nat),.int .u64 (U8 s)]):=by
 have a:=A47 s;have hr:=Awy s;unfold hiD;generalize U8 s=z at*
 have c:IntKind.u32.wrap (z.fdiv (2^min 32 IntKind.u64.bits))=(((z/4294967296)%4294967296).toNat:Int):=by
  rw[IntKind.wrap_u32];have:z.fdiv (2^min 32 IntKind.u64.bits)=z/4294967296:=Ca _ dc;rw[this];omega
 refine Aq func197 λw0 N0=>?_;refine Y [0] [] sr (Bn 1 sr ?_);refine Ac a func67 ?_;exact Aa [0] [] sr (Y [2,3] [] sr (By sr (by rw[<- c])))
def A48(s:Int)(n:Nat)(h1:1<=n)(h2:n<=2147483648):AE 141 [.int .u64 s,.i n] (.tup [.i (Rj s n:Nat),.int .u64 (U8 s)]):=by
 have a:=Bbw s;have f:=A46 s;unfold Rj;generalize hiD s=x,U8 s=z at*;have j:IntKind.u64.wrap (x:Int)=x:=wrap_u64 om;have i:IntKind.u64.wrap (n:Int)=n:=wrap_u64 om
 have d:x*n<18446744073709551616:=by
  have:=If (H8 f) h2;omega
 obtain⟨y,c⟩:∃y,y=x*n:=⟨_,rfl⟩;rw[<- c]at d|-;have g:IntKind.u64.wrap ((x:Int)*n)=(y:Nat):=by rw[c,<- Ft];rw[c]at d;exact wrap_u64 d
 have h:(y:Int).fdiv (2^min 32 IntKind.u64.bits)=((y/4294967296:Nat):Int):=Aak y;have e:IntKind.i64.wrap ((y:Int)/4294967296)=(y:Int)/4294967296:=Bp om om;refine Aq func141 λw0 N0=>?_;refine Y [0,1] [] sr (J (A9 [12] sr ?_));refine A0 rfl (λh1=>by simp at h1;omega) λh1=>Ae (Bn 1 sr ?_);refine Ac a func197 ?_;exact Aa [0,1,6] [] sr (Y [4,5] [] (by simp[j,i,g,h,e]<;>rfl) (By sr rf))
def Vy(n:Int):Int:=if n<0 then 0 else if 1000000<n then 1000000 else n
def Aay(n:Int):0<=Vy n/\Vy n<=1000000:=by unfold Vy;(repeat' split)<;>omega
def Ags(n:Int):AE 173 [.i n] (.i (Vy n)):=by
 refine Aq func173 λw0 N0=>?_;exact Y [0] [] sr (Y [2] [] sr (By sr (by unfold Vy;(repeat' split)<;>first|rfl|omega|skip)))
def Akx(n:Int)(h1: -9223372036854775808<=n)(h2:n<9223372036854775808):AE 175 [.i n] ((nR (n:Rat)).v):=by
 have a:=Vu n 1 h1 h2 dc dc;rw[Rg]at a;simp only[Xt]at a|-;have p1:=Jb;have p2:=Jc;refine Aq func175 λw0 N0=>?_;refine Y [0,2] [2] sr (Bn 1 sr ?_);refine Ac a func103 ?_;exact Aa [2,3] [2,3] sr (Y [2] [2] sr (By sr rf))
open Go.RowKit Go.Sort
variable {g:Nat}{ty:TypeId}
def Tu(l:List Int):(Av l).all Mc=true:=by
 rw[Ar];intro x a;simp only[Av,Bl]at a;obtain⟨n,_,rfl⟩:=a;rfl
def Yd(p:Option Addr)(a:Nat)(w:World):Calls prog 117 #[.slice p 0 a] w λe w'=>e=.returned (.tuple #[])/\w'=w:=Any.slices_Sort_int_none lays189 p a w
def Aky(c:List Int):∀e∈Av c,e.fits 1:=by
 intro x a;simp only[Av,Bl]at a;obtain⟨h,_,rfl⟩:=a;exact⟨rfl,by simp[V.cells,V.isCell]⟩
def Akz{w:World}{e:List Int}(h:Ad1 w g ty 1 c (Av e)):Holds (Value.int .i64) w g 0 e.toArray/\g<w.heap.size/\∃a,w.heap[g]? =some (.cells a ty (0,0))/\a.size=c:=by
 have⟨h1,h2,a,d,h4,k⟩:=h;refine⟨λj f=>?_,(B7.1 d).1,a,d,by omega⟩;simp only[C8]at f;have⟨x,i,hp⟩:=k j (.i e[j]) 0 (.i e[j]) (by simp[Av,f]) rfl;simp only[Gq,Ef]at i;cases hp
 constructor
 .simp[World.cell?,d,i,f]
 .simp[World.frozen?,d]
def Awz{w:World}{t:Array Obj}{a:Array Value}{ts us:List Int}(x:w.heap[g]? =some (.cells a ty (0,0)))(hs:a.size=d)(hl:us.length<=ts.length)(ht:ts.length<=d)(f:ts.take us.length=us):
  Ad1 (grow (putRow (Value.int .i64) (Go.Sort.ahead w n) g 0 ts.toArray) t) g ty 1 d (Av us):=by
 refine⟨by rw[A4];omega,Aky us,_,heap_sortedI _ x,by simp[putCells,hs],λk e j c s m=>?_⟩;simp only[Av,Bb,Ax]at s;obtain⟨z,h,rfl⟩:=s
 have o:j=0:=by
  rcases j with _ |j
  .rfl
  .simp[V.cells]at m
 subst o;simp only[V.cells,D6,Ap]at m;subst m;have u:=(Al.1 h).1
 have r:ts[k]? =some z:=by
  rw[<- f]at h;rw[Cm u]at h;exact h
 refine⟨.int .i64 z,?_,.int _ _⟩;have l:k<a.size:=om;have i:k<ts.length:=om;simp[putCells,l,i];exact(Al.1 r).2
def Kt(a:List Int):List Int:=a.mergeSort λx y=>decide (x<=y)
def Agt(f:List Int)(hz:f.length<=17592186044416):ACI prog 117 1 3 (Av f) (Av (Kt f)) (λ_ _ =>.tup []):=by
 refine⟨λw g h i a=>?_,λm=>?_⟩
 .have⟨j,k,l,o,hs⟩:=Akz a;have c:=a.1;rw[A4]at c|-;refine(slices_Sort_int g 0 h f w j k om).mono ?_;rintro e w'⟨rfl,n,os,rfl⟩;exact⟨_,rfl,grownBy_sortedI _,Awz (us:=Kt f) o hs (A7 _) (sG c) Be,λd v μ N' _ =>.pur (.tup [] [] rfl sm)⟩
 .have:f= []:=by simpa[Av]using m
  subst this;refine⟨by simp[Kt,Av],λw A=>(Yd A 0 w).mono ?_⟩;rintro e w'⟨rfl,rfl⟩;exact⟨_,rfl,⟨rfl,rfl,rfl,A7 _,λ_ _ _ =>rfl⟩,λd v μ N' _ =>.pur (.tup [] [] rfl sm)⟩
def Aug(a:List Int):(Lib.compact a).length<=a.length:=by
 have c:∀m,(Lib.compactUpTo a.toArray m).length<=m:=by
  intro m
  induction m with
  |zero=>simp[Lib.compactUpTo]
  |succ m ih=>
   rw[Lib.compactUpTo_succ,A1];split<;>simp<;>omega
 exact c a.length
def Aqk(f:List Int)(hz:f.length<=17592186044416):ACI prog 118 1 3 (Av f) (Av (Lib.compact f)) (λd v=>.sl d v 1 (Lib.compact f).length):=by
 have o:=Aug f
 refine⟨λw g i h a=>?_,λn=>?_⟩
 .have⟨k,hg,m,r,hs⟩:=Akz a;have c:=a.1;rw[A4]at c|-;refine(slices_Compact_int g 0 i f w k om c).mono ?_;rintro e w'⟨rfl,q,rfl⟩;have l:∀d:Array Int,putRow (Value.int .i64) (Go.Sort.ahead w q) g 0 d=grow (putRow (Value.int .i64) (Go.Sort.ahead w q) g 0 d) #[]:=λd=>by simp
  rw[l];exact⟨_,rfl,grownBy_sortedI _,Awz r hs sm so sm,λd v μ N' j=>.slr d v 1 _ g i j om h⟩
 .have:f= []:=by simpa[Av]using n
  subst this;refine⟨by simp[Lib.compact,Lib.compactUpTo,Av],λw A=>(slices_Compact_int_empty A 0 w).mono ?_⟩;rintro e w'⟨rfl,rfl⟩;exact⟨_,rfl,⟨rfl,rfl,rfl,A7 _,λ_ _ _ =>rfl⟩,λd v μ N' j=>.slv d v 1 A j⟩
def U1(c d:Int)(a:Rat)(sl:Int):Bool:=decide (((Vy c+1:Int):Rat)<=a*((Vy d+1+Vy sl:Int):Rat))
def Bbx(m s:Int)(r:RR)(sl:Int)(n:r.ok 34359738368):AC prog 116 [.i m,.i s,r.v,.i sl] (λx=>x=.bool (U1 m s r.val sl)):=by
 have h:=Ags s;have j:=Ags sl;have i:=Ags m;have r1:=Aay s;have r2:=Aay sl;have r3:=Aay m;unfold U1;generalize Vy s=a,Vy sl=b,Vy m=c at*;have e:=Akx (a+1+b) om om;have f:=Akx (c+1) om om;have u:Qk ((a+1+b:Int):Rat)<=3:=Qm om om;have y:Qk ((c+1:Int):Rat)<=3:=Qm om om;have d:=Awr r (nR ((a+1+b:Int):Rat)) ⟨⟨n.num.lim,Ag n.num.len dc⟩,n.lim,Ag n.len dc⟩ (Nn (Ag u dc));rw[Mj]at d;have z3:Qk (r.val*((a+1+b:Int):Rat))<=34359738371:=Awu (RR.sz n dc) u;have g:=Sb (nR ((c+1:Int):Rat)) (nR (r.val*((a+1+b:Int):Rat))) (Nn (Ag y dc)) (Nn (Ag z3 dc));rw[Mj,Mj]at g;have t:=Awx (a:=((c+1:Int):Rat)) (b:=r.val*((a+1+b:Int):Rat));generalize N8 ((c+1:Int):Rat) (r.val*((a+1+b:Int):Rat))=z at g t;have w:decide (((c+1:Int):Rat)<=r.val*((a+1+b:Int):Rat))=decide (z<=0):=by simp only[t]
 rw[w];clear w t z3 y u;generalize((a+1+b:Int):Rat)=A,((c+1:Int):Rat)=C at*;generalize r.val*A=M at*;have er:=vRR r;rw[er]at d|-;have o:=Aj r.num.mag;have l:=Aj r.den;generalize A2 r.num.mag=am,A2 r.den=ad at*;simp only[Xt]at e f d g;have p1:=Jb;have p2:=Jc;have w1:IntKind.i64.wrap (a+1)=a+1:=Bp om om;have w2:IntKind.i64.wrap (a+1+b)=a+1+b:=Bp om om;have w3:IntKind.i64.wrap (c+1)=c+1:=Bp om om;refine Aq func116 λw0 N0=>?_;refine Y [0,1,3,6] [6] sr (J (Di [(1,[]),(2,[]),(3,[]),(4,[]),(5,[]),(6,[]),(7,[]),(0,[9]),(8,[]),(9,[]),(10,[])] Eb kr ?_));refine Ci 1 sr (B4 (λk=>h) func173 ?_);refine Ci 2 Du ?_;refine B4 (λk=>j) func173 ?_;refine Ci 1 Du ?_;refine B4 (λk=>e) func175 ?_;refine Ci 1 sr ?_;refine B4 (λk=>d) func174 ?_;refine Dj [0,9] [9] sr ?_;refine J (Di [(0,[]),(1,[]),(2,[]),(3,[]),(4,[]),(5,[]),(6,[]),(7,[])] Eb kr ?_);refine Ci 1 sr ?_;refine B4 (λk=>i) func173 ?_;refine Ci 1 Du ?_;refine B4 (λk=>f) func175 ?_;refine Ci 1 sr ?_;refine B4 (λk=>g) func104 ?_;refine Dj [8] [] sr ?_;exact By sr (rfl)
def Fo(m:List (Int × Int))(a:Int):Int:=match m with
 | []=>0
 |(x,v)::r=>if x=a then v else Fo r a
def Aaz(l:List (Int × Int))(m:List (Int × Int)):List (Int × Int):=match l with
 | []=>m
 |u::r=>Aaz r ((u.1,Vy (Fo m u.1+Vy u.2))::m)
def mV(m:List (Int × Int)):List (Int × V):=m.map λp=>(p.1,.i p.2)
def Ae1(m:List (Int × Int))(a:Int):Nu false (.i 0) (Hk a (mV m))=.i (Fo m a):=by
 induction m with
 |nil=>rfl
 |cons p r ih=>
  have⟨x,v⟩:=p;simp only[mV,B6,Hk,Fo]at ih|-
  split
  .rfl
  .exact ih
def Az7{l m:List (Int × Int)}(h:k<l.length):Aaz (l.drop k) m=Aaz (l.drop (k+1)) ((l[k].1,Vy (Fo m l[k].1+Vy l[k].2))::m):=by
 rw[Bt h,Aaz]
def A49{m:List (Int × Int)}(h:∀p∈m,0<=p.2/\p.2<=1000000)(a:Int):0<=Fo m a/\Fo m a<=1000000:=by
 induction m with
 |nil=>simp[Fo]
 |cons p r ih=>
  rw[Fo]
  split
  .exact h _ (Fk ..)
  .exact ih λq c=>h q (Dx _ c)
@[simp]def Auh:Zx prog 221=some (.i64,3):=by kernel_rfl
def Az8(l:List (Int × Int)):AC prog 115 [.ro 2 (Bd l)] (λr=>∃b,r=.mp b .i64 (mV (Aaz l []))):=by
 have hq:∀(k:Nat)(h:k<l.length),Hj (Bd l) k=some (.agg [.i l[k].1,.i l[k].2]):=λk h=>Im h
 have lq:=Ei l;refine K8 0 rfl λi=>?_;rw[lq]at i;have ad:l.length<=maxLen:=i
 have ab:(l.length:Int)<=9223372036854775807:=by
  have:maxLen<=9223372036854775807:=dc;omega
 generalize Bd l=w at*;refine Azb func115 rfl (by show(1:Nat)<=27;omega) λw0 N0=>?_;refine J (Ak (A3n rfl rfl rfl G8 Du ?_));refine Aa [0] [] sr (J (Ak (R9 .i64 rfl rfl (λb hb _ =>⟨_,rfl,?_⟩))));refine Aa [0,3] [] sr (J (Y [3,7,8,9] [] sr ?_));refine Ah (C3 (λx:Nat × Nat × List (Int × Int)=>⟨[(3,.mp b .i64 (mV x.2.2)),(7,V.ro 2 w),(8,V.i w.length),(9,V.i (x.1:Nat))],[],x.2.1,27⟩) (λx=>x.1<=l.length/\Aaz (l.drop x.1) x.2.2=Aaz l []/\∀p∈x.2.2,0<=p.2/\p.2<=1000000) (λx=>l.length-x.1) (0,_,[]) ⟨Cg _,rfl,by simp⟩ Z ?_);rintro⟨k,nx,m⟩⟨hk,d,t⟩;simp only at hk d t|-;refine Y [3,7,8,9,10] [] sr (J ?_)
 refine Cu (λh1=>?_) λh1=>?_
 .have f:k<l.length:=by simp at h1;omega
  have n:k<w.length:=om;have y:=hq k f;have Ee:=A5 (k:=k) om;rw[Az7 f]at d;generalize l[k]=u at y d;have⟨s,z⟩:=u;simp only at y d;have a:=Ags z;have hc:=Aay z;generalize Vy z=g at a hc d;have hl:=A49 t s;have j:=Ae1 m s;generalize Fo m s=la at hl j d;have Tn:IntKind.i64.wrap (la+g)=la+g:=Bp om om;have c:=Ags (la+g);have o:=Aay (la+g);generalize Vy (la+g)=nn at c o d;refine J (Ah (Y [3,5,7,8,9] [5] (by simp[y,n]<;>rfl) ?_));refine Di [(0,[]),(1,[]),(3,[]),(4,[]),(7,[]),(2,[]),(5,[]),(6,[]),(8,[]),(9,[]),(10,[]),(11,[]),(12,[])] Eb kr ?_;refine Ci 9 (by simp[j,-Nu]<;>rfl) ?_;refine B4 (λhg=>a) func173 ?_;refine Ci 1 (by simp[Tn]<;>rfl) ?_;refine B4 (λhg=>c) func173 ?_;refine X6 (b:=b) hb rfl sm rfl rfl rfl sr sr sr rfl Auh rfl sr ?_;refine Dj [3,7,8,9] [] sr ?_;refine Cw [] (by simp[Ee]<;>rfl) ?_;exact⟨(k+1,_,(s,nn)::m),⟨f,d,λp hp=>(B8.1 hp).elim (λe=>e▸o) (t p)⟩,by simp only;omega,Z⟩
 .refine A6 ?_;have aa:k=l.length:=sO h1
  rw[aa,Ck,Aaz]at d;subst d;refine Y [2] [] sr ?_;exact Ao (Aza rfl rfl rfl ⟨b,rfl⟩)
end Go.Proofs.YtnoignhlamifmaaGreatDoor
