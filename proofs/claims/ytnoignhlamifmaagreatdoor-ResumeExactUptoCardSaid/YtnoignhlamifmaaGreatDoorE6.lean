/- Resuming, part 6. No condition. -/
import Derived.Test.YtnoignhlamifmaaGreatDoorE5
import Derived.Stop.Asserts
import Derived.Test.YtnoignhlamifmaaGreatDoorCards
import Derived.Test.YtnoignhlamifmaaGreatDoorTie
import Derived.Deep.DeepHandedRow
import Derived.Lib.LaidTab
import Derived.Stop.LaidErr
set_option maxHeartbeats 8000000
set_option linter.all false
set_option maxRecDepth 10000
open Go.Proofs.Tryz
namespace Go.Proofs.YtnoignhlamifmaaGreatDoor
open Go.Eng
def Pg(c:Nd->Int):List Nd->Int
 |[]=>0
 |x::r=>c x+Pg c r
def Xo{c:Nd->Int}:∀ {l:List Nd},(∀x∈l,0<=c x)->0<=Pg c l
 |[],_=>by simp[Pg]
 |x::r,h=>by
  have h1:=h x sm;have h2:=Xo (c:=c) (l:=r) (λy d=>h y Gi);simp only[Pg];omega
def Anr{c:Nd->Int}:∀ {l:List Nd}{k:Nat}(h:k<l.length),Pg c (l.take (k+1))=Pg c (l.take k)+c l[k]
 |x::r,0,_=>by simp[Pg]
 |x::r,k+1,h=>by
  have:=Anr (c:=c) (l:=r) (k:=k) (sG h);simp only[I6,Pg,List.getElem_cons_succ];rw[this];omega
def Ap9{c:Nd->Int}:∀ {l:List Nd}(k:Nat),(∀x∈l,0<=c x)->Pg c (l.take k)<=Pg c l
 |[],k,_=>by simp[Pg]
 |x::r,0,h=>by simpa[Pg]using Xo h
 |x::r,k+1,h=>by
  have:=Ap9 (c:=c) (l:=r) k (λy d=>h y Gi);simp only[I6,Pg];omega
set_option maxRecDepth 100000 in
def R8(t kd n:Int)(s:List UInt8)(l:List Nd)(lv d:Int)(c:Nd->Int)(ht:0<=t/\t<=9999999)(a6:1<=lv/\lv<=8)(hr:d<=1048576)
  (g:(kd=1/\s=[]/\l=[])\/(kd=2/\n=0/\l=[]/\s.length<=2000)\/(kd=3/\n=0/\s=[]/\l.length<=1024))
  (hc:∀x∈l,0<=c x)(ae:∀x∈l,∀r,c x<=r->r<=1048576->AC prog 151 [x.v,.i (lv+1),.i r] (λq=>∃k:Int,q=.tup [.i k,.bool true]/\0<=k/\k<=c x))
  (ay:21+s.length+Pg c l<=d):
  AC prog 151 [(Nd.mk t kd n s l).v,.i lv,.i d] (λq=>∃k:Int,q=.tup [.i k,.bool true]/\0<=k/\k<=21+s.length+Pg c l):=by
 have af:=λ(k:Nat)(h:k<l.length)=>Axe h
 have al:(l.map Nd.v).length=l.length:=sm;have ad:l=[]->l.map Nd.v=[]:=by rintro rfl;rfl
 have a5:(0:Int)<=s.length:=om;have a4:=Xo hc
 have a8:(s.length:Int)<=2000:=by
  rcases g with⟨_,h,_⟩|⟨_,_,_,h⟩|⟨_,_,h,_⟩
  .rw[h];simp
  .omega
  .rw[h];simp
 have a2:(l.length:Int)<=1024:=by
  rcases g with⟨_,_,h⟩|⟨_,_,h,_⟩|⟨_,_,_,h⟩
  .rw[h];simp
  .rw[h];simp
  .omega
 rw[Nd.v];generalize l.map Nd.v=z at af al ad;have ag:¬(1024:Int)<z.length:=om;have ah:¬(2000:Int)<s.length:=om;have g1:¬8<lv:=om;have g2:¬t<0:=om;have g3:¬9999999<t:=om;refine Ai func151 (λw0 N0=>?_);refine Y [1,2,3] [3] sr (J (A5 [24] C1 ?_));refine Ce (J (Y [1,2,3,53] [3] sr ?_))
 refine A1 (λh2=>?_) (λh2=>?_)
 .exfalso
  rcases g with⟨rfl,rfl,h⟩|⟨rfl,rfl,h,_⟩|⟨rfl,rfl,rfl,_⟩
  .rw[ad h]at h2;simp at h2
  .rw[ad h]at h2;simp at h2
  .simp at h2
 refine Au 3 sr ?_;have an:=Bfe (IntKind.u64.wrap t);have aa:=Ra (IntKind.u64.wrap t);generalize vl (IntKind.u64.wrap t)=o at an aa;have Ec:IntKind.i64.wrap (o+1)=o+1:=Cu om om;refine Aw aa func209 ?_ (ha:=rfl) (hp:=rfl);refine Ak [1,2,3,8] [3] C1 ?_
 refine Ye (λp:Int×Nat=>⟨[(1,.i lv),(2,.i d),(3,.bp 3 0 5 0 0),(8,.i p.1)],[(3,⟨0,5,94,[.agg [.i t,.i kd,.i n,.str s,.ro 5 z]]⟩)],p.2,130⟩) (λp=>0<=p.1/\p.1<=21+s.length) ?_ ?_
 .refine Y [1,2,3,8,60] [3] sr (Ad (A5 [61] sr ?_))
  refine Co (λh3=>?_) (λh3=>?_)
  .refine Ik 3 sr (T2 rfl rfl rfl func210 rfl kr rfl sm (Bff _) ?_);rintro r⟨k2,rfl⟩;refine⟨_,rfl,?_⟩;have m:=Bfe k2;have e:=Ra k2;generalize vl k2=j at m e;have u:IntKind.i64.wrap (o+1+j)=o+1+j:=Cu om om;refine Aw e func209 ?_ (ha:=rfl) (hp:=rfl);refine Ak [1,2,3,8] [3] C1 ?_;exact⟨(o+1+j,_),⟨by simp only;omega,by simp only;omega⟩,Z⟩
  .refine Y [1,2,3,8,60,69] [3] sr ?_
   refine Co (λh4=>?_) (λh4=>?_)
   .have m:=Bfe (IntKind.u64.wrap s.length);have e:=Ra (IntKind.u64.wrap s.length);generalize vl (IntKind.u64.wrap s.length)=j at m e;have u:IntKind.i64.wrap (j+s.length)=j+s.length:=Cu om om;have ao:IntKind.i64.wrap (o+1+(j+s.length))=o+1+(j+s.length):=Cu om om;refine H6 [0,2,6,1,2,4,7,5] sr (B8 6 sr ?_);refine B1 (λhg=>e) func209 ?_;refine C5 [1,2,3,8] [3] C1 ?_;exact⟨(o+1+(j+s.length),_),⟨by simp only;omega,by simp only;omega⟩,Z⟩
   .refine Y [1,2,3,8,82] [3] sr ?_
    refine Co (λh5=>?_) (λh5=>?_)
    .refine Ik 5 sr ?_;have m:=Bfe (IntKind.u64.wrap z.length);have e:=Ra (IntKind.u64.wrap z.length);generalize vl (IntKind.u64.wrap z.length)=j at m e;have u:IntKind.i64.wrap (o+1+j)=o+1+j:=Cu om om;refine Aw e func209 ?_ (ha:=rfl) (hp:=rfl);refine Ak [1,2,3,8] [3] C1 ?_;exact⟨(o+1+j,_),⟨by simp only;omega,by simp only;omega⟩,Z⟩
    .exfalso
     simp at h3 h4 h5;omega
 rintro⟨sz,a1⟩⟨aj,ab⟩;simp only at aj ab;have w:¬d<sz:=om;refine J (Y [1,2,3,8,105] [3] (by simp[ag,ah,w]<;>rfl) ?_);refine Ce (J (Y [1,2,8,107,108,109] [] sr (Ad (If (λp:Nat×Int×Nat=>⟨[(1,.i lv),(2,.i d),(8,.i p.2.1),(107,.ro 5 z),(108,.i z.length),(109,.i p.1)],[],p.2.2,130⟩) (λp=>p.1<=l.length/\0<=p.2.1/\p.2.1<=21+s.length+Pg c (l.take p.1)) (λp=>l.length-p.1) (0,sz,_) ⟨B5 _,aj,by simpa[Pg]using ab⟩ Z ?_))));rintro⟨k,q,nx⟩⟨hk,ai,am⟩;simp only at hk ai am;have a7:=Ap9 (c:=c) (l:=l) k hc;refine Y [1,2,8,107,108,109,110] [] sr (J ?_)
 refine Bk (λh5=>?_) (λh5=>?_)
 .have y:k<l.length:=by simp at h5;omega
  have ak:k<z.length:=om;have ga:=af k y;have au:=Anr (c:=c) y;have az:=Ap9 (c:=c) (l:=l) (k+1) hc;have f:=ae l[k] (As y) (d-q) om om;have av:=Hr (k:=k) om;have ar:IntKind.i64.wrap (lv+1)=lv+1:=Cu om om;have aq:IntKind.i64.wrap (d-q)=d-q:=Cu om om;generalize c l[k]=ck at au f;rcases hkk:l[k]with⟨kt,kk,kn,a9,aw⟩;rw[hkk]at ga f;rw[Nd.v]at ga f;generalize aw.map Nd.v=ba at ga f;refine J (Ad (Y [1,2,8,10,107,108,109] [10] (by simp[ga,ak]<;>rfl) (Au 6 (by simp[ar,aq]<;>rfl) ?_)));refine T2 rfl rfl rfl func151 rfl kr rfl sm f ?_;rintro r⟨p,rfl,a0,a3⟩;have ax:IntKind.i64.wrap (q+p)=q+p:=Cu om om;refine⟨_,rfl,?_⟩;refine Ak [1,2,8,11,12,107,108,109] [] sr ?_;refine J (Y [1,2,8,11,107,108,109,124] [] sr ?_);refine Ce (A6 [1,2,8,107,108,109] [] (by simp[ax]<;>rfl) (Cs [] (by simp[av]<;>rfl) ?_));exact⟨(k+1,q+p,_),⟨y,by simp only;omega,by simp only;omega⟩,by simp only;omega,Z⟩
 .refine A3 ?_;refine Y [6,7] [] sr ?_;refine Bv sr ?_;exact⟨q,rfl,ai,by omega⟩
variable {n:Nat}
def Adb(a b:Nat)(c:a<2^64/\b<2^64):bits .or .u64 a b=((a|||b:Nat):Int)/\bits .and .u64 a b=((a&&& b:Nat):Int)/\bits .xor .u64 a b=((a^^^b:Nat):Int):=by
 have d:BitVec.ofInt 64 (a:Int)=BitVec.ofNat 64 a:=sm;have f:BitVec.ofInt 64 (b:Int)=BitVec.ofNat 64 b:=sm;have h1:=O5 c.1 c.2
 have h2:a&&& b<2^64:=Nat.and_lt_two_pow _ c.2;have e:∀n:Nat,n<2^64->IntKind.u64.wrap (n:Int)=n:=λn hn=>by rw[IntKind.wrap_u64];omega
 refine⟨?_,?_,?_⟩
 .show IntKind.u64.wrap ((BitVec.ofInt 64 (a:Int)|||BitVec.ofInt 64 (b:Int)).toNat:Int)=_
  rw[d,f,Nk,Dj,Dj,Bl c.1,Bl c.2];exact e _ h1
 .show IntKind.u64.wrap ((BitVec.ofInt 64 (a:Int)&&& BitVec.ofInt 64 (b:Int)).toNat:Int)=_
  rw[d,f,BitVec.toNat_and,Dj,Dj,Bl c.1,Bl c.2];exact e _ h2
 .show IntKind.u64.wrap ((BitVec.ofInt 64 (a:Int)^^^BitVec.ofInt 64 (b:Int)).toNat:Int)=_
  rw[d,f,BitVec.toNat_xor,Dj,Dj,Bl c.1,Bl c.2];exact e _ (Nat.xor_lt_two_pow c.1 c.2)
def Ans(a b:Nat)(c:a<2^8/\b<2^8):bits .or .u8 a b=((a|||b:Nat):Int)/\bits .and .u8 a b=((a&&& b:Nat):Int):=by
 have e:BitVec.ofInt 8 (a:Int)=BitVec.ofNat 8 a:=sm;have f:BitVec.ofInt 8 (b:Int)=BitVec.ofNat 8 b:=sm;have h1:=O5 c.1 c.2
 have h2:a&&& b<2^8:=Nat.and_lt_two_pow _ c.2;have d:∀n:Nat,n<2^8->IntKind.u8.wrap (n:Int)=n:=λn hn=>by rw[IntKind.wrap_u8];omega
 refine⟨?_,?_⟩
 .show IntKind.u8.wrap ((BitVec.ofInt 8 (a:Int)|||BitVec.ofInt 8 (b:Int)).toNat:Int)=_
  rw[e,f,Nk,Dj,Dj,Bl c.1,Bl c.2];exact d _ h1
 .show IntKind.u8.wrap ((BitVec.ofInt 8 (a:Int)&&& BitVec.ofInt 8 (b:Int)).toNat:Int)=_
  rw[e,f,BitVec.toNat_and,Dj,Dj,Bl c.1,Bl c.2];exact d _ h2
def Bli:∀n:Nat,n<256->n|||128=n%128+128:=by decide+kernel
def Kz(x:Nat):List UInt8:=if h:x<128 then [UInt8.ofNat x]else UInt8.ofNat (x%128+128)::Kz (x/128)
termination_by x
decreasing_by omega
def Adc{x:Nat}(h:x<128):Kz x=[UInt8.ofNat x]:=by rw[Kz,dif_pos h]
def Ago{x:Nat}(h:128<=x):Kz x=UInt8.ofNat (x%128+128)::Kz (x/128):=by rw[Kz,dif_neg om]
def Xp:∀(k:Nat)(x:Nat),x<128^(k+1)->(Kz x).length<=k+1
 |0,x,h=>by rw[Adc (sG h)];simp
 |k+1,x,h=>by
  by_cases h1:x<128
  .rw[Adc h1];simp
  .rw[Ago om];have:=Xp k (x/128) (by rw[C2 om];rw[Cd]at h;exact h);simp only[Ax];omega
def Ajh{x:Nat}(h:x<2^64):(Kz x).length<=10:=Xp 9 x (Rc h dc)
abbrev F6(l:List UInt8):List V:=l.map Ze
def H7(l:List UInt8):(F6 l).all Ih=true:=by
 rw[Ao];intro x c;simp only[Bc]at c;obtain⟨b,_,rfl⟩:=c;rfl
def Gg(l:List UInt8):(F6 l).all V.pureE=true:=by
 rw[Ao];intro x c;simp only[Bc]at c;obtain⟨b,_,rfl⟩:=c;rfl
def Aji(h:n<256):Ze (UInt8.ofNat n)=.int .u8 n:=by
 unfold Ze;rw[UInt8.toNat_ofNat',Bl om]
def Mv(es:List UInt8)(x:Nat)(t:x<2^64)(hl:es.length<=2^40):ACA prog 211 [.int .u64 x] 1 5 (F6 es) (F6 (Kz x)):=by
 have z:=Ajh t;refine Adw func211 rfl (by show(2:Nat)<=20;omega) λd v w0 N0 g=>?_;refine Ez (d+1) [0,1] [d] sr ?_;refine J (Ad ?_);refine If (λp:List UInt8×Nat×Nat×Nat=>⟨[(0,.sl d p.2.2.1 1 (F6 (es++p.1)).length),(1,.int .u64 p.2.1)],[(d,⟨p.2.2.1,1,5,F6 (es++p.1)⟩)],p.2.2.2,20⟩) (λp=>p.1++Kz p.2.1=Kz x/\p.2.1<2^64/\g<=p.2.2.2) (λp=>p.2.1) ([],x,v,g+1) ⟨rfl,t,by simp only;omega⟩ (by simp only[Do,Db];exact Z) ?_;rintro⟨p,y,v',nx⟩⟨hp,u,n⟩;simp only at hp u n;have w:p.length<=10:=by have:=congrArg List.length hp;simp at this;omega
 have h:es.length+p.length+1<=maxLen:=by simp[maxLen];omega
 have f:es.length+p.length<=140737488355327:=om;refine J (Ez (d+1) [0,1,6] [d] sr ?_)
 refine Bk (λh1=>?_) λh1=>?_
 .have s:128<=y:=by simp at h1;omega
  obtain⟨c,ob,sy,j,l,e,r,m⟩:∃c ob sy:Int,IntKind.u8.wrap (y:Int)=c/\bits .or .u8 c 128=ob/\V.int .u8 ob=Ze (UInt8.ofNat (y%128+128))/\(y:Int).fdiv (2^min (7:Int).toNat IntKind.u64.bits)=sy/\sy=((y/128:Nat):Int):=by
   refine⟨_,_,_,rfl,rfl,?_,rfl,?_⟩
   .have j:IntKind.u8.wrap (y:Int)=((y%256:Nat):Int):=by rw[IntKind.wrap_u8];omega
    rw[Aji om,j];have:=(Ans (y%256) 128 ⟨by omega,by omega⟩).1;rw[Bli _ oM]at this;rw[show(128:Int)=((128:Nat):Int)from rfl,this]
    congr 2
    omega
   .show(y:Int).fdiv 128=_
    rw[B4 _ oM];omega
  refine Ad (Ez (d+1) [0,1] [d] (by simp[j,l,h,f]<;>rfl) ?_);have k:(y:Int).fdiv (2^min 7 IntKind.u64.bits)=sy:=r;refine U3 (d+1) [0,1] [d] (by simp[k]<;>rfl) ?_
  refine⟨(p++[UInt8.ofNat (y%128+128)],y/128,nx+2+5,nx+12),⟨?_,by simp only;omega,by simp only;omega⟩,by simp only;omega,?_⟩
  .simp only[B6,Pm];rw[<-Ago s];exact hp
  .simp only[e,m,Cg,Br,Ci,Aq,Db,Ax,Bg];exact Z
 .have o:y<128:=by simp at h1;omega
  obtain⟨c,j,e⟩:∃c:Int,IntKind.u8.wrap (y:Int)=c/\V.int .u8 c=Ze (UInt8.ofNat y):=by
   refine⟨_,rfl,?_⟩;rw[Aji om,IntKind.wrap_u8]
   congr 1
   omega
  rw[Adc o]at hp;refine A3 ?_;refine Ez (d+1) [4] [d] (by simp[j,h,f]<;>rfl) ?_;refine Aj ?_;rw[<-hp]
  refine Aq9 (v':=nx+2+4) sy ?_ ?_
  .simp[results211];omega
  .simp[e]
variable {k:Nat}{l:List UInt8}
def A9x(h:k<l.length):Gz (F6 l) k=some (Ze l[k]):=by rw[C0];simp[h]
def Tt(l:List UInt8):(F6 l).length=l.length:=by simp
def Tu(h:n<2^64):IntKind.u64.wrap (n:Int)=n:=by rw[IntKind.wrap_u64];omega
def Aqa(h:Int)(c:UInt8):Int:=IntKind.u64.wrap (bits .xor .u64 h (IntKind.u64.wrap (c.toNat:Int))*1099511628211)
def dig(h:Int)(l:List UInt8):Int:=l.foldl Aqa h
def Axg(h:Int)(c:UInt8):0<=Aqa h c/\Aqa h c<2^64:=by unfold Aqa;rw[IntKind.wrap_u64];omega
def A9y(h:Int)(c:k<l.length):dig h (l.take (k+1))=Aqa (dig h (l.take k)) l[k]:=by
 unfold dig;rw[Av c,O8];rfl
def Az3(h:Int)(l:List UInt8):AE 70 [.int .u64 h,.ro 1 (F6 l)] (.int .u64 (dig h l)):=by
 have n:=λ(k:Nat)(h:k<l.length)=>A9x h
 have s:=Tt l;generalize F6 l=lv at n s;refine K6 1 rfl λf=>?_;unfold maxLen at f;refine Ai func70 λw0 N0=>?_;refine Y [0,1] [] sr (J (Y [0,7,8,9] [] sr (Ad (H5 (λk=>[(0,.int .u64 (dig h (l.take k))),(9,.i k)]) (λ_=>[]) (λk=>True) l.length trivial (by simp[dig];exact Z) ?_))));intro k nx hk _;refine Y [0,7,8,9,10] [] sr (J ?_)
 refine Bk (λh1=>?_) λh1=>?_
 .have d:k<l.length:=by simp at h1;omega
  have e:k<lv.length:=om;have m:=n k d;have g:=A9y h d;simp only[Ze]at m;generalize hc:l[k]=c at m g;generalize dig h (l.take k)=q at g;unfold Aqa at g;refine J (Ad (Y [0,6,7,8,9] [] (by simp[m,e]<;>rfl) (A6 [0,7,8,9] [] sr (Cs [] (by simp[(Hr (k:=k) om)]<;>rfl) ?_))));simp only[g];exact⟨d,trivial,_,Z⟩
 .refine A3 (Y [4] [] sr ?_);refine Bv sr ?_;have j:k=l.length:=sO h1
  rw[j,Bb]
def Kl(x:Nat):Nat->List UInt8
 |0=>[]
 |n+1=>UInt8.ofNat (x/256^n%256)::Kl x n
def J9(x:Nat):∀n,(Kl x n).length=n
 |0=>rfl
 |n+1=>by simp[Kl,J9 x n]
def Ajj(x:Nat)(k:Nat)(hk:k<=7):(x:Int).fdiv (2^min (8*(k:Int)).toNat IntKind.u64.bits)=((x/256^k:Nat):Int):=by
 have c:k=0\/k=1\/k=2\/k=3\/k=4\/k=5\/k=6\/k=7:=om
 rcases c with rfl|rfl|rfl|rfl|rfl|rfl|rfl|rfl
 .show(x:Int).fdiv 1=_;rw[B4 _ dC];omega
 .show(x:Int).fdiv 256=_;rw[B4 _ dC];omega
 .show(x:Int).fdiv 65536=_;rw[B4 _ dC];omega
 .show(x:Int).fdiv 16777216=_;rw[B4 _ dC];omega
 .show(x:Int).fdiv 4294967296=_;rw[B4 _ dC];omega
 .show(x:Int).fdiv 1099511627776=_;rw[B4 _ dC];omega
 .show(x:Int).fdiv 281474976710656=_;rw[B4 _ dC];omega
 .show(x:Int).fdiv 72057594037927936=_;rw[B4 _ dC];omega
def Bjb(a:Nat)(h:a<2^64):bits .and .u64 (a:Int) 255=((a%256:Nat):Int):=by
 have:=(Adb a 255 ⟨h,by decide⟩).2.1;rw[show(255:Int)=((255:Nat):Int)from rfl,this]
 congr 1
 exact Ky a 8
def Axh(h:Int)(n:Nat)(hn:n<2^64):AE 126 [.int .u64 h,.int .u64 n] (.int .u64 (dig h (Kl n 8))):=by
 refine Ai func126 λw0 N0=>?_;refine Y [0,1] [] sr (J (A5 [5] sr (Ad (Gn (λp:Nat×Int×Nat=>[(0,.int .u64 p.2.1),(5,.i (8*(p.1:Int)-8))]) (λ_=>[]) (λp=>p.2.2) (λp=>p.1<=8/\dig p.2.1 (Kl n p.1)=dig h (Kl n 8)) (λp=>p.1) (8,h,_) ⟨A2 _,rfl⟩ Z ?_))));rintro⟨k,q,nx⟩⟨hk,z⟩;simp only at hk z;refine J (Y [0,1,5,7] [] sr ?_)
 refine Bk (λh1=>?_) λh1=>?_
 .have aa:0<k:=by simp at h1;omega
  obtain⟨j,rfl⟩:∃j,k=j+1:=⟨k-1,by omega⟩;have l:=Ajj n j om;have u:n/256^j<2^64:=Fe (G7 _ _) hn;have hand:=Bjb (n/256^j) u;obtain⟨c,w,f⟩:∃c:Int,8*((j+1:Nat):Int)-8=c/\c=8*(j:Int):=⟨_,rfl,by omega⟩;rw[<-f]at l;have t:¬c<0:=om;obtain⟨s,d⟩:∃s:Int,(n:Int).fdiv (2^min c.toNat IntKind.u64.bits)=s:=⟨_,rfl⟩;have m:s=((n/256^j:Nat):Int):=by rw[<-d,l]
  rw[<-m]at hand;obtain⟨o,e⟩:∃o:Int,bits .and .u64 s 255=o:=⟨_,rfl⟩;have g:o=((n/256^j%256:Nat):Int):=by rw[<-e,hand]
  have y:IntKind.i64.wrap (c-8)=8*(j:Int)-8:=by rw[Cu om oM];omega
  rw[w];refine J (Ad (A6 [0,1,5] [] (by simp[d,e,t]<;>rfl) (Cs [] (by simp[y]<;>rfl) ?_)))
  refine⟨(j,Aqa q (UInt8.ofNat (n/256^j%256)),nx+13),⟨by simp only;omega,?_⟩,by simp only;omega,?_⟩
  .rw[<-z];rfl
  .have:Aqa q (UInt8.ofNat (n/256^j%256))=IntKind.u64.wrap (bits .xor .u64 q o*1099511628211):=by
    unfold Aqa;rw[UInt8.toNat_ofNat',Bl om,Tu om,g]
   simp only[this];exact Z
 .have x:k=0:=by simp at h1;omega
  subst x;refine A3 (Y [4] [] sr ?_);refine Bv sr ?_;rw[<-z];rfl
def Afw:Int:=14695981039346656037
def Bjc(l:List UInt8):AE 40 [.ro 1 (F6 l)] (.int .u64 (dig Afw l)):=by
 refine Ai func40 λw0 N0=>?_;refine Y [0] [] sr (Au 1 sr ?_);refine Ef (Az3 Afw l) func70 rfl kr rfl rfl rfl rfl rfl sr (Ak [2] [] sr ?_);exact Bv sr rfl
def At9:AE 40 [.nils] (.int .u64 Afw):=AC.argsR (Bjc []) (.cons (Bh.nils 1) .nil)
def chn(c:Nat)(l:List UInt8):Int:=dig (dig Afw (Kl c 8)) l
def Aua(c:Nat)(hp:c<2^64)(l:List UInt8):AE 72 [.int .u64 c,.ro 1 (F6 l)] (.int .u64 (chn c l)):=by
 have e:=Axh Afw c hp;have d:=Az3 (dig Afw (Kl c 8)) l;have hp:=Gg l;unfold chn;generalize dig Afw (Kl c 8)=q at e d;generalize F6 l=lv at d;refine Ai func72 λw0 N0=>?_;refine Y [0,1] [] sr (Au 1 sr ?_);refine Ef e func126 rfl kr rfl rfl rfl rfl rfl sr (C3 1 sr ?_);refine Ef d func70 rfl kr rfl rfl rfl rfl rfl sr (Ak [4] [] sr ?_);exact Bv sr rfl
def Hl(l:List UInt8):Nat:=l.foldl (λv c=>(v*256+c.toNat)%2^64) 0
def A32(c:k<l.length):Hl (l.take (k+1))=(Hl (l.take k)*256+l[k].toNat)%2^64:=by
 unfold Hl;rw[Av c,O8];rfl
def Az4(l:List UInt8):Hl l<2^64:=by
 rcases l.eq_nil_or_concat with rfl|⟨l',b,rfl⟩
 .decide
 .unfold Hl;rw[List.concat_eq_append,O8];exact Dd _ dc
def Bjd(v c:Nat)(hc:c<256):bits .or .u64 (IntKind.u64.wrap ((v:Int)*2^min (8:Int).toNat IntKind.u64.bits)) (IntKind.u64.wrap (c:Int))=(((v*256+c)%2^64:Nat):Int):=by
 have h1:IntKind.u64.wrap ((v:Int)*2^min (8:Int).toNat IntKind.u64.bits)=((v*256%2^64:Nat):Int):=by
  show IntKind.u64.wrap ((v:Int)*256)=_
  rw[IntKind.wrap_u64];omega
 rw[h1,Tu om,(Adb _ _ ⟨Dd _ dc,by omega⟩).1]
 congr 1
 have h2:v*256%2^64=2^8*(v%2^56):=om;rw[h2,<-Hh oM];omega
def Axi(l:List UInt8):AE 71 [.ro 1 (F6 l)] (.int .u64 (Hl l)):=by
 have s:=λ(k:Nat)(h:k<l.length)=>A9x h
 have w:=Tt l;generalize F6 l=lv at s w;refine K6 0 rfl λg=>?_;unfold maxLen at g;refine Ai func71 λw0 N0=>?_;refine Y [0] [] sr (A5 [3] sr (J (Y [3,6,7,8] [] sr (Ad (H5 (λk=>[(3,.int .u64 (Hl (l.take k))),(8,.i k)]) (λ_=>[]) (λk=>True) l.length trivial (by simp[Hl];exact Z) ?_)))));intro k nx hk _;refine Y [3,6,7,8,9] [] sr (J ?_)
 refine Bk (λh1=>?_) λh1=>?_
 .have e:k<l.length:=by simp at h1;omega
  have f:k<lv.length:=om;have n:=s k e;have u:=Hr (k:=k) om;have o:=A32 e;simp only[Ze]at n;generalize hc:l[k]=c at n o;have d:=Bjd (Hl (l.take k)) c.toNat c.toNat_lt;rw[<-o]at d;generalize Hl (l.take k)=q,Hl (l.take (k+1))=t at d;have j:bits .or .u64 (IntKind.u64.wrap ((q:Int)*2^min 8 IntKind.u64.bits)) (IntKind.u64.wrap (c.toNat:Int))=(t:Int):=d;refine J (Ad (Y [3,5,6,7,8] [] (by simp[n,f]<;>rfl) (A6 [3,6,7,8] [] (by simp[j]<;>rfl) (Cs [] (by simp[u]<;>rfl) ?_))));exact⟨e,trivial,_,Z⟩
 .refine A3 ?_;refine Y [2] [] sr ?_;refine Bv sr ?_;have m:k=l.length:=sO h1
  rw[m,Bb]
def Bfg(es:List UInt8)(x n:Nat)(af:x<2^64)(hn:n<=8)(hl:es.length<=2^40):ACA prog 98 [.int .u64 x,.i n] 1 5 (F6 es) (F6 (Kl x n)):=by
 refine Adw func98 rfl (by show(3:Nat)<=23;omega) λd v w0 N0 c=>?_;have hw0:IntKind.i64.wrap ((n:Int)-1)=(n:Int)-1:=Cu om om;refine Ez (d+1) [0,1,2] [d] sr (J (Ez (d+1) [0,1,7] [d] C1 ?_));refine Ad (If (λp:Nat×List UInt8×Nat×Nat=>⟨[(0,.sl d p.2.2.1 1 (F6 (es++p.2.1)).length),(1,.int .u64 x),(7,.i ((p.1:Int)-1))],[(d,⟨p.2.2.1,1,5,F6 (es++p.2.1)⟩)],p.2.2.2,23⟩) (λp=>p.1<=n/\p.2.1++Kl x p.1=Kl x n/\c<=p.2.2.2) (λp=>p.1) (n,[],v,c+1+3) ⟨A2 _,rfl,by simp only;omega⟩ (by simp only[Do,Db];exact Z) ?_);rintro⟨k,p,v',nx⟩⟨hk,hp,r⟩;simp only at hk hp r;have ag:p.length<=8:=by have:=congrArg List.length hp;simp[J9]at this;omega
 have u:es.length+p.length+1<=maxLen:=by simp[maxLen];omega
 have y:es.length+p.length<=140737488355327:=om;refine J (Ez (d+1) [0,1,7,11] [d] sr ?_)
 refine Bk (λh1=>?_) λh1=>?_
 .have ae:0<k:=by simp at h1;omega
  obtain⟨j,rfl⟩:∃j,k=j+1:=⟨k-1,by omega⟩;have l:=Ajj x j om;obtain⟨e,aa,ah⟩:∃e:Int,((j+1:Nat):Int)-1=e/\e=j:=⟨_,rfl,by omega⟩;obtain⟨g,ab,f⟩:∃g:Int,IntKind.i64.wrap (8*e)=g/\g=8*(j:Int):=⟨_,rfl,by rw[Cu om oM];omega⟩;rw[<-f]at l;have s:¬g<0:=om;obtain⟨o,h⟩:∃o:Int,(x:Int).fdiv (2^min g.toNat IntKind.u64.bits)=o:=⟨_,rfl⟩;have m:o=((x/256^j:Nat):Int):=by rw[<-h,l]
  obtain⟨bv,w,ad⟩:∃bv:Int,IntKind.u8.wrap o=bv/\V.int .u8 bv=Ze (UInt8.ofNat (x/256^j%256)):=by
   refine⟨_,rfl,?_⟩;rw[Aji om,m,IntKind.wrap_u8]
   congr 1
  have t:IntKind.i64.wrap (e-1)=(j:Int)-1:=by rw[Cu om oM];omega
  rw[aa];refine J (Ad (U3 (d+1) [0,1,7] [d] (by simp[ab,s,h,w,u,y]<;>rfl) ?_));refine U3 (d+1) [0,1,7] [d] (by simp[t]<;>rfl) ?_
  refine⟨(j,p++[UInt8.ofNat (x/256^j%256)],nx+2+7,nx+14),⟨by simp only;omega,?_,by simp only;omega⟩,by simp only;omega,?_⟩
  .simp only[B6,Pm];exact hp
  .simp only[ad,Cg,Br,Ci,Aq,Db,Ax,Bg];exact Z
 .have z:k=0:=by simp at h1;omega
  subst z;refine A3 ?_;refine Ez (d+1) [6] [d] sr ?_;refine Aj ?_;rw[<-hp]
  refine Aq9 (v':=v') sy ?_ ?_
  .simp[results98,Kl]
  .simp[Kl]
def Axj(x n:Nat)(ae:x<2^64)(hn:n<=8):ACO prog 98 [.nils,.int .u64 x,.i n] 1 5 (λF o=>(F=λd q=>.sl d q 1 (F6 (Kl x n)).length)/\o=F6 (Kl x n)):=by
 refine Kf func98 λw0 N0=>?_;have hw0:IntKind.i64.wrap ((n:Int)-1)=(n:Int)-1:=Cu om om;refine Y [0,1,2] [] sr (Fg 0 100 1 5 [0,1,2] [100] sr sr ?_);refine J (Y [0,1,7] [100] C1 (Ad (Gn (λp:Nat×List UInt8×Nat×Nat=>[(0,.sl 100 p.2.2.1 1 (F6 p.2.1).length),(7,.i ((p.1:Int)-1))]) (λp=>[(100,⟨p.2.2.1,1,5,F6 p.2.1⟩)]) (λp=>p.2.2.2) (λp=>p.1<=n/\p.2.1++Kl x p.1=Kl x n) (λp=>p.1) (n,[],_,_) ⟨A2 _,rfl⟩ (by simp only[Ci,Bg];exact Z) ?_)));rintro⟨k,p,v',nx⟩⟨hk,hp⟩;simp only at hk hp;have af:p.length<=8:=by have:=congrArg List.length hp;simp[J9]at this;omega
 have t:p.length+1<=maxLen:=by simp[maxLen];omega
 have w:p.length<=140737488355327:=om;refine J (Y [0,1,7,11] [100] sr ?_)
 refine Bk (λh1=>?_) λh1=>?_
 .have ad:0<k:=by simp at h1;omega
  obtain⟨j,rfl⟩:∃j,k=j+1:=⟨k-1,by omega⟩;have h:=Ajj x j om;obtain⟨c,z,ag⟩:∃c:Int,((j+1:Nat):Int)-1=c/\c=j:=⟨_,rfl,by omega⟩;obtain⟨f,aa,e⟩:∃f:Int,IntKind.i64.wrap (8*c)=f/\f=8*(j:Int):=⟨_,rfl,by rw[Cu om oM];omega⟩;rw[<-e]at h;have r:¬f<0:=om;obtain⟨m,g⟩:∃m:Int,(x:Int).fdiv (2^min f.toNat IntKind.u64.bits)=m:=⟨_,rfl⟩;have l:m=((x/256^j:Nat):Int):=by rw[<-g,h]
  obtain⟨bv,u,ab⟩:∃bv:Int,IntKind.u8.wrap m=bv/\V.int .u8 bv=Ze (UInt8.ofNat (x/256^j%256)):=by
   refine⟨_,rfl,?_⟩;rw[Aji om,l,IntKind.wrap_u8]
   congr 1
  have s:IntKind.i64.wrap (c-1)=(j:Int)-1:=by rw[Cu om oM];omega
  rw[z];refine J (Ad (A6 [0,1,7] [100] (by simp[aa,r,g,u,t,w]<;>rfl) (Cs [] (by simp[s]<;>rfl) ?_)))
  refine⟨(j,p++[UInt8.ofNat (x/256^j%256)],nx+2+7,nx+14),⟨by simp only;omega,?_⟩,by simp only;omega,?_⟩
  .simp only[B6,Pm];exact hp
  .simp only[ab,Cg,Br,Ci,Aq,Db,Ax,Bg];exact Z
 .have y:k=0:=by simp at h1;omega
  subst y;simp only[Kl,Do]at hp;refine A3 ?_;refine Y [6] [100] sr ?_;refine Aj (Hv 100 rfl rfl rfl (H7 p) sr ?_);subst hp;exact⟨by simp,rfl⟩
def Xq(l:List UInt8):Int:=if l.length<8 then Afw else Hl (l.drop (l.length-8))
def Bfh(l:List UInt8):AC prog 99 [.ro 1 (F6 l)] (λr=>r=.int .u64 (Xq l)):=by
 have f:=Axi (l.drop (l.length-8));have e:=Tt l;have n:(F6 l).drop (l.length-8)=F6 (l.drop (l.length-8)):=sm;refine K6 0 rfl λd=>?_;unfold maxLen at d;have hp:=Gg (l.drop (l.length-8));rw[<-n,<-e]at f;rw[<-n,<-e]at hp;unfold Xq;generalize F6 l=lv at f e d hp;refine Ai func99 λw0 N0=>?_;refine Y [0] [] sr (J (Y [0,5] [] sr ?_))
 refine A1 (λh1=>?_) λh1=>?_
 .have g:l.length<8:=by simp at h1;omega
  refine J (Cb (Ef At9 func40 rfl kr rfl rfl rfl rfl rfl sr ?_));refine Ak [2] [] sr (Aj (Aa sr ?_));rw[Ab g]
 have g:¬l.length<8:=sO h1
 rw[I g];obtain⟨c,k,m⟩:∃c:Int,IntKind.i64.wrap ((lv.length:Int)-8)=c/\c=((lv.length-8:Nat):Int):=⟨_,rfl,by rw[Cu om oM];omega⟩;have o:c.toNat=lv.length-8:=om;have j:lv.length-c.toNat=(lv.drop c.toNat).length:=sm;have s:0<=c/\c<=lv.length:=om;refine Au 5 (by simp[k,s]<;>rfl) ?_
 have h:AC prog 71 [.ro 1 ((lv.drop c.toNat).take (lv.length-c.toNat))] (λr=>r=.int .u64 (Hl (l.drop (l.length-8)))):=by
  rw[j,Bb,o,e];rw[e]at f;exact f
 refine Aw h func71 ?_;refine Ak [2] [] sr (Aj (Aa sr ?_));rfl
def Ajk:∀l:List UInt8,Rn (F6 l)=some l
 |[]=>rfl
 |b::l=>by
  have h1:((b.toNat:Int)).toNat=b.toNat:=sm;have h2:=b.toNat_lt;simp only[Br,Ze,Rn,(Ajk l),h1];rw[Ab om];simp
def Aub(n:Int):Int:=bits .xor .u64 (IntKind.u64.wrap (IntKind.u64.wrap n*2)) (IntKind.u64.wrap (n.fdiv (2^63)))
def Ajl(c:BinOp)(x y:Int):0<=bits c .u64 x y/\bits c .u64 x y<2^64:=by
 unfold bits;simp only[IntKind.wrap_u64];omega
def Vu(n:Int):Nat:=(Aub n).toNat
def Ade(n:Int):Vu n<2^64:=by have:=Ajl .xor (IntKind.u64.wrap (IntKind.u64.wrap n*2)) (IntKind.u64.wrap (n.fdiv (2^63)));unfold Vu Aub;omega
def A9z(n:Int):AE 210 [.i n] (.int .u64 (Vu n)):=by
 have c:((Vu n:Nat):Int)=Aub n:=by
  have:=Ajl .xor (IntKind.u64.wrap (IntKind.u64.wrap n*2)) (IntKind.u64.wrap (n.fdiv (2^63)));unfold Vu Aub;omega
 rw[c];refine Ai func210 λw0 N0=>?_;exact Y [0] [] sr (Y [2] [] sr (Bv sr rf))
def Oy:Nd->List UInt8
 |.mk t k n s ks=>Kz t.toNat++UInt8.ofNat k.toNat::(if k=1 then Kz (Vu n)else if k=2 then Kz s.length++s else Kz ks.length++(ks.map Oy).flatten)
def Wf:Nd->Prop
 |.mk t k _ s ks=>0<=t/\t<=9999999/\1<=k/\k<=3/\s.length<=2000/\ks.length<=1024/\∀x∈ks,Wf x
def Aqb(l:List (List UInt8))(k:Nat)(h:k<l.length):(l.take (k+1)).flatten=(l.take k).flatten++l[k]:=by
 rw[Av h,List.flatten_append];simp only[Pb,List.flatten_nil,Do]
def Afx(l:List (List UInt8))(k:Nat):(l.take k).flatten.length<=l.flatten.length:=by
 have:l.flatten=(l.take k).flatten++(l.drop k).flatten:=by rw[<-List.flatten_append,Ga]
 rw[this];simp
def Ajm:∀(m:Nat)(x:Nd)(es:List UInt8),SizeOf.sizeOf x<m->Wf x->es.length+(Oy x).length<=2^39->ACA prog 152 [x.v] 1 5 (F6 es) (F6 (Oy x)):=by
 intro m
 induction m with
 |zero=>intro x es h;omega
 |succ m ih=>
 intro x es hm ag c;have⟨t,kd,n,s,ks⟩:=x;have a5:∀y∈ks,∀ad:List UInt8,ad.length+(Oy y).length<=2^39->ACA prog 152 [y.v] 1 5 (F6 ad) (F6 (Oy y)):=λy hy ad hl=>ih y ad (by have:=Nd.kid_lt (t:=t) (k:=kd) (n:=n) (s:=s) hy;omega) (by rw[Wf]at ag;exact ag.2.2.2.2.2.2 y hy) hl
 rw[Wf]at ag;have⟨be,bi,bn,bm,hs,bg,_⟩:=ag;rw[Oy]at c|-;simp only[Aq,Ax]at c;have au:(ks.map Nd.v).length=ks.length:=sm;have ao:=λ(k:Nat)(h:k<ks.length)=>Axe h
 rw[Nd.v];generalize ks.map Nd.v=kv at au ao;refine Adw func152 rfl (by show(2:Nat)<=55;omega) λd v w0 N0 e=>?_;obtain⟨tn,a9⟩:∃tn:Nat,t=tn:=⟨t.toNat,by omega⟩;obtain⟨o,am⟩:∃o:Nat,kd=o:=⟨kd.toNat,by omega⟩;subst a9 am;simp only[C4]at c|-;have a4:IntKind.u64.wrap (tn:Int)=tn:=Tu om
 obtain⟨bk,a1,an⟩:∃bk:Int,IntKind.u8.wrap (o:Int)=bk/\V.int .u8 bk=Ze (UInt8.ofNat o):=by
  refine⟨_,rfl,?_⟩;rw[Aji om,IntKind.wrap_u8]
  congr 1
  omega
 have ae:=Mv es tn om om;have af:(F6 es++F6 (Kz tn)).all Ih=true:=by rw[F5,H7,H7];rfl
 generalize bf:Kz tn=v1 at ae af c;have aj:es.length+v1.length+1<=maxLen:=by simp[maxLen];omega
 have ak:es.length+v1.length<=140737488355327:=om;refine Ez (d+1) [0,3] [d,d+1+3] sr ?_
 refine Af2 ⟨[(0,.sl d (e+2+9) 1 (F6 (es++v1++[UInt8.ofNat o])).length),(3,.bp (d+1+3) e 5 0 0)],[(d,⟨e+2+9,1,5,F6 (es++v1++[UInt8.ofNat o])⟩),(d+1+3,⟨e,5,94,[.agg [.i tn,.i o,.i n,.str s,.ro 5 kv]]⟩)],e+2+11,55⟩ (T4 (d+1) [4] Ada ?_) ?_
 .refine Alu [(0,[]),(1,[]),(5,[]),(2,[15]),(3,[])] kr C1 ?_
  refine Km [4,6] kr λi l=>?_;simp only[Bu,Ck,or_false]at l
  rcases l with rfl|rfl
  .refine⟨_,_,rfl,T7 (d:=d) (v:=v) dc ae af func211 rfl kr rfl rfl rfl sr sr sr,?_⟩;refine Alu [(6,[15]),(7,[]),(8,[]),(9,[]),(10,[])] kr (by simp[a1,aj,ak]<;>rfl) ?_
   exact Gl [0,3] [d,d+1+3] kr sr (by simp[an];try omega)
  .refine⟨_,_,rfl,Nc sr,?_⟩;refine Fk [7,1] sr (by simp[a1]<;>rfl) ?_
   refine Km [4,8] kr λi l=>?_;simp only[Bu,Ck,or_false]at l
   rcases l with rfl|rfl
   .refine⟨_,_,rfl,T7 (d:=d) (v:=v) dc ae af func211 rfl kr rfl rfl rfl sr sr sr,?_⟩;refine Fk [8,3] sr (by simp[aj,ak]<;>rfl) ?_
    exact Gl [0,3] [d,d+1+3] kr sr (by simp[an];try omega)
   .refine⟨_,_,rfl,Nc sr,?_⟩;refine Km [4] kr λi l=>?_;simp only[Bu,Ck,or_false]at l;subst l;refine⟨_,_,rfl,T7 (d:=d) (v:=v) dc ae af func211 rfl kr rfl rfl rfl sr sr sr,?_⟩;refine Fk [9,2] sr (by simp[aj,ak]<;>rfl) ?_
    exact Gl [0,3] [d,d+1+3] kr sr (by simp[an];try omega)
 obtain⟨j,ai⟩:∃j,j=es++v1++[UInt8.ofNat o]:=⟨_,rfl⟩;rw[<-ai];have bd:j.length=es.length+v1.length+1:=by rw[ai];simp;omega
 have aq:∀z,F6 es++F6 (v1++UInt8.ofNat o::z)=F6 (j++z):=by intro z;simp[ai]
 rw[aq];refine J (Ez (d+1) [0,3,18] [d,d+1+3] sr ?_);refine Ad (Ez (d+1) [0,3,18,19] [d,d+1+3] sr ?_)
 refine Co (λh1=>?_) λh1=>?_
 .have am:((o:Nat):Int)=1:=by simp at h1;omega
  rw[Ab am]at c|-;have a8:=A9z n;have f:=Mv j (Vu n) (Ade n) om;have g:(F6 j++F6 (Kz (Vu n))).all Ih=true:=by rw[F5,H7,H7];rfl
  generalize a2:Kz (Vu n)=v2 at f g;refine J (Cb (Qz (d+1) 3 sr ?_));refine Aw a8 func210 ?_;refine Yf (d:=d) (v:=e+2+9) f g func211 rfl kr dc rfl rfl rfl sr sr sr ?_;refine Oi (d+1) [4] [d] sr ?_;refine Aj ?_
  refine Aq9 (v':=e+2+11+2+2+4) sy ?_ ?_
  .simp[results152]
  .simp
 .have av:¬((o:Nat):Int)=1:=by simp at h1;omega
  rw[I av]at c|-;refine Ez (d+1) [0,3,26] [d,d+1+3] sr ?_
  refine A1 (λh2=>?_) λh2=>?_
  .have ab:((o:Nat):Int)=2:=by simp at h2;omega
   rw[Ab ab]at c|-;simp only[Aq]at c;have ba:IntKind.u64.wrap (s.length:Int)=s.length:=Tu om;have f:=Mv j s.length om om;have g:(F6 j++F6 (Kz s.length)).all Ih=true:=by rw[F5,H7,H7];rfl
   generalize a2:Kz s.length=v2 at f g c;have a0:j.length+v2.length+s.length<=maxLen:=by simp[maxLen];omega
   have az:j.length+v2.length+s.length<=140737488355328:=om
   refine Af2 ⟨[(4,.sl d (e+2+11+2+2+2+8) 1 (F6 (j++v2++s)).length)],[(d,⟨e+2+11+2+2+2+8,1,5,F6 (j++v2++s)⟩)],e+2+11+2+2+2+10,55⟩ (T4 (d+1) [5] Ada ?_) ?_
   .refine Fk [0,2,6,1,2,3] sr (by simp[ba]<;>rfl) ?_
    refine Km [5,7] kr λi l=>?_;simp only[Bu,Ck,or_false]at l
    rcases l with rfl|rfl
    .refine⟨_,_,rfl,T7 (d:=d) (v:=e+2+9) dc f g func211 rfl kr rfl rfl rfl sr sr sr,?_⟩;refine Fk [7,3] sr (by simp[a0,az]<;>rfl) ?_
     exact Gl [4] [d] kr sr (by simp;try omega)
    .refine⟨_,_,rfl,Nc sr,?_⟩;refine Km [5] kr λi l=>?_;simp only[Bu,Ck,or_false]at l;subst l;refine⟨_,_,rfl,T7 (d:=d) (v:=e+2+9) dc f g func211 rfl kr rfl rfl rfl sr sr sr,?_⟩;refine Fk [8,2] sr (by simp[a0,az]<;>rfl) ?_
     exact Gl [4] [d] kr sr (by simp;try omega)
   refine Aj ?_;rw[<-B6];exact Aq9 (v':=e+2+11+2+2+2+8) sy (by simp[results152]) sm
  have ab:¬((o:Nat):Int)=2:=sO h2
  rw[I ab]at c|-;simp only[Aq]at c;have a6:IntKind.u64.wrap (kv.length:Int)=kv.length:=Tu om;have f:=Mv j ks.length om om;have g:(F6 j++F6 (Kz ks.length)).all Ih=true:=by rw[F5,H7,H7];rfl
  generalize a2:Kz ks.length=v2 at f g c;rw[<-au]at f;refine J (Cb (Qz (d+1) 5 (by simp[a6]<;>rfl) ?_));refine Yf (d:=d) (v:=e+2+9) f g func211 rfl kr dc rfl rfl rfl sr sr sr ?_;refine Oi (d+1) [0,3] [d,d+1+3] sr ?_;refine J (Ez (d+1) [0,44,45,46] [d] sr ?_);refine Ad ?_;obtain⟨cf,aa⟩:∃cf:Nat->List UInt8,∀k,cf k=((ks.map Oy).take k).flatten:=⟨_,λ_=>rfl⟩;have ay:cf 0=[]:=by rw[aa];rfl
  refine If (λp:Nat×Nat×Nat=>⟨[(0,.sl d p.2.1 1 (F6 (j++v2++cf p.1)).length),(44,.ro 5 kv),(45,.i kv.length),(46,.i p.1)],[(d,⟨p.2.1,1,5,F6 (j++v2++cf p.1)⟩)],p.2.2,55⟩) (λp=>p.1<=ks.length/\e<=p.2.2) (λp=>ks.length-p.1) (0,e+2+11+2+2+2+5,e+2+11+2+2+2+7+4) ⟨B5 _,by simp only;omega⟩ (by simp[ay];exact Z) ?_;rintro⟨k,v',nx⟩⟨hk,a3⟩;simp only at hk a3;refine Ez (d+1) [0,44,45,46,47] [d] sr ?_;refine J ?_
  refine Bk (λh3=>?_) λh3=>?_
  .have ah:k<ks.length:=by simp at h3;omega
   have ax:k<kv.length:=om;have ga:=ao k ah;have hw:=Hr (k:=k) om;have ar:k<(ks.map Oy).length:=sG ah
   have r:=Aqb (ks.map Oy) k ar;have w:=Afx (ks.map Oy) (k+1);rw[r]at w;rw[<-aa,<-aa]at r;rw[<-aa]at w;simp only[List.getElem_map,Aq]at w r;have u:=a5 ks[k] (As ah) (j++v2++cf k) (by simp only[Aq];omega);have al:(F6 (j++v2++cf k)++F6 (Oy ks[k])).all Ih=true:=by rw[F5,H7,H7];rfl
   generalize bj:Oy ks[k]=kb at u al r;rcases hkk:ks[k]with⟨kt,kk,bl,bo,a7⟩;rw[hkk]at ga u;rw[Nd.v]at ga u;generalize a7.map Nd.v=bq at ga u;generalize bc:cf k=bh at u al r;refine J (Ad (Ez (d+1) [0,6,44,45,46] [d,d+1+6] (by simp[ga,ax]<;>rfl) ?_));refine Cb (Qz (d+1) 2 sr ?_);refine Yf (d:=d) (v:=v') u al func152 rfl kr dc rfl rfl rfl sr sr sr ?_;refine Oi (d+1) [0,44,45,46] [d] sr ?_;refine U3 (d+1) [0,44,45,46] [d] (by simp[hw]<;>rfl) ?_;refine⟨(k+1,nx+1+4+2,nx+1+4+4+2),⟨ah,by simp only;omega⟩,by simp only;omega,?_⟩;simp only[r,Cg,B6,Aq,Db];exact Z
  .have bb:k=ks.length:=by simp at h3;omega
   have aw:cf k=(ks.map Oy).flatten:=by rw[aa,Ba (by simp;omega)]
   rw[<-aw];refine A3 ?_;refine Ez (d+1) [4] [d] sr ?_;refine Aj ?_;rw[<-B6];exact Aq9 (v':=v') sy (by simp[results152]) sm
variable {c:Nat}
def Nd.tx:Nd->List UInt8
 |.mk _ _ _ s _=>s
def c1(x:Nd):Int:=21+x.tx.length+21*x.kids.length
def Axk(l:List Int)(c:Nd->Int)(h:∀n,c (num 0 n)=21):Pg c (Xn l)=21*l.length:=by
 induction l with
 |nil=>simp[Xn,Pg]
 |cons n l ih=>
  simp only[Xn,Br,Pg,Ax]at ih|-;rw[h]
  push_cast
  omega
def Az5(t n lv r:Int)(d:0<=t/\t<=9999999)(c:1<=lv/\lv<=8)(h1:21<=r)(h2:r<=1048576):
  AC prog 151 [(num t n).v,.i lv,.i r] (λq=>∃k:Int,q=.tup [.i k,.bool true]/\0<=k/\k<=21):=by
 have:=R8 t 1 n [] [] lv r c1 d c h2 (.inl ⟨rfl,rfl,rfl⟩) sm sm (by simpa[Pg]using h1);simpa[Pg,num]using this
def Bfi(t:Int)(s:List UInt8)(lv r:Int)(d:0<=t/\t<=9999999)(c:1<=lv/\lv<=8)(hs:s.length<=2000)(h1:21+s.length<=r)(h2:r<=1048576):
  AC prog 151 [(Nd.mk t 2 0 s []).v,.i lv,.i r] (λq=>∃k:Int,q=.tup [.i k,.bool true]/\0<=k/\k<=21+s.length):=by
 have:=R8 t 2 0 s [] lv r c1 d c h2 (.inr (.inl ⟨rfl,rfl,rfl,hs⟩)) sm sm (by simpa[Pg]using h1);simpa[Pg]using this
def Bje(t:Int)(l:List Int)(lv r:Int)(m:0<=t/\t<=9999999)(h:1<=lv/\lv<=7)(o:l.length<=1024)(h1:21+21*l.length<=r)(h2:r<=1048576):
  AC prog 151 [(Nd.mk t 3 0 [] (Xn l)).v,.i lv,.i r] (λq=>∃k:Int,q=.tup [.i k,.bool true]/\0<=k/\k<=21+21*l.length):=by
 have e:∀n,c1 (num 0 n)=21:=λn=>by simp[c1,num,Nd.tx,Nd.kids]
 have c:=Axk l c1 e
 have d:∀x∈Xn l,∃n,x=num 0 n:=by
  intro x f;simp only[Xn,Bc]at f;obtain⟨n,_,rfl⟩:=f;exact⟨n,rfl⟩
 have:=R8 t 3 0 [] (Xn l) lv r c1 m ⟨h.1,by omega⟩ h2 (.inr (.inr ⟨rfl,rfl,rfl,by simpa[Xn]using o⟩))
  (λx f=>by obtain⟨n,rfl⟩:=d x f;rw[e];omega)
  (λx f q j g=>by
   obtain⟨n,rfl⟩:=d x f;rw[e]at j|-;exact Az5 0 n (lv+1) q om om j g) (by rw[c];simpa using h1)
 rw[c]at this;simpa using this
def Auc{e:Jv}(h:e.ch.length<=10)(ht:e.text.length<=1000):∀x∈Ja e,0<=c1 x/\∀r,c1 x<=r->r<=1048576->AC prog 151 [x.v,.i (1+1),.i r] (λq=>∃k:Int,q=.tup [.i k,.bool true]/\0<=k/\k<=c1 x):=by
 have f:∀t n,0<=t->t<=9999999->0<=c1 (num t n)/\∀r,c1 (num t n)<=r->r<=1048576->AC prog 151 [(num t n).v,.i (1+1),.i r] (λq=>∃k:Int,q=.tup [.i k,.bool true]/\0<=k/\k<=c1 (num t n)):=by
  intro t n g h1;have d:c1 (num t n)=21:=by simp[c1,num,Nd.tx,Nd.kids]
  rw[d];exact⟨by omega,λr a b=>Az5 t n (1+1) r ⟨g,h1⟩ om a b⟩
 intro x c;unfold Ja at c
 rcases Cc.1 c with c|c
 .simp only[Bu,Ck,or_false]at c
  rcases c with rfl|rfl
  .exact f _ _ om om
  .exact f _ _ om om
 .split at c
  .simp only[Vj,Bu,Ck,or_false]at c
   rcases c with rfl|rfl|rfl|rfl|rfl
   .exact f _ _ om om
   .have d:c1 (.mk 4 3 0 [] (Xn e.ch))=21+21*e.ch.length:=by simp[c1,Nd.tx,Nd.kids,Xn]
    rw[d];exact⟨by omega,λr a b=>Bje 4 e.ch (1+1) r om om om a b⟩
   .exact f _ _ om om
   .have d:c1 (.mk 6 2 0 e.text [])=21+e.text.length:=by simp[c1,Nd.tx,Nd.kids]
    rw[d];exact⟨by omega,λr a b=>Bfi 6 e.text (1+1) r om om om a b⟩
   .exact f _ _ om om
  .split at c
   .simp only[Bu,Ck,or_false]at c
    rcases c with rfl|rfl|rfl
    .exact f _ _ om om
    .exact f _ _ om om
    .exact f _ _ om om
   .cases c
def Ajn{e:Jv}(c:e.ch.length<=10)(ht:e.text.length<=1000):Pg c1 (Ja e)<=5000/\(Ja e).length<=1024:=by
 unfold Ja
 split
 .simp[Vj,Pg,c1,num,Nd.tx,Nd.kids,Xn];omega
 .split
  .simp[Pg,c1,num,Nd.tx,Nd.kids]
  .simp[Pg,c1,num,Nd.tx,Nd.kids]
def A90(e:Jv)(j:P1 e=0):AE 96 [(Nd.mk 50 3 0 [] (Ja e)).v] (.bool true):=by
 have⟨_,_,_,f,h⟩:=Yv j;have g:=Auc f h;have hs:=Ajn f h;have d:=R8 50 3 0 [] (Ja e) 1 1048576 c1 om om om (.inr (.inr ⟨rfl,rfl,rfl,hs.2⟩)) (λx c=>(g x c).1) (λx c=>(g x c).2) so;rw[Nd.v]at d|-;generalize(Ja e).map Nd.v=kv at d;refine Ai func96 λw0 N0=>?_;refine Y [1] [1] sr (Au 1 sr ?_);refine T2 rfl rfl rfl func151 rfl kr rfl sm d ?_;rintro r⟨k,rfl,_,_⟩;refine⟨_,rfl,?_⟩;exact Ak [4] [] sr (Y [2] [] sr (Bv sr rf))
def Az6{e:Jv}(f:e.ch.length<=10)(j:e.text.length<=1000):Wf (.mk 50 3 0 [] (Ja e)):=by
 have c:∀t n,0<=t->t<=9999999->Wf (num t n):=by
  intro t n g h1;unfold num;rw[Wf];simp[g,h1]
 rw[Wf];refine⟨by omega,by omega,by omega,by omega,by simp,((Ajn f j).2),λx d=>?_⟩;unfold Ja at d
 rcases Cc.1 d with h|h
 .simp at h
  rcases h with rfl|rfl
  .exact c _ _ om om
  .exact c _ _ om om
 .split at h
  .unfold Vj at h;simp at h
   rcases h with rfl|rfl|rfl|rfl|rfl
   .exact c _ _ om om
   .rw[Wf];refine⟨by omega,by omega,by omega,by omega,by simp,by simp[Xn];omega,λx d=>?_⟩;simp only[Xn,Bc]at d;obtain⟨n,_,rfl⟩:=d;exact c _ _ om om
   .exact c _ _ om om
   .rw[Wf];exact⟨by omega,by omega,by omega,by omega,by omega,by simp,by simp⟩
   .exact c _ _ om om
  .split at h
   .simp at h
    rcases h with rfl|rfl|rfl
    .exact c _ _ om om
    .exact c _ _ om om
    .exact c _ _ om om
   .simp at h
def Aqc(x:Nd)(c:Wf x):(Oy x).length<=21+x.tx.length+((x.kids.map Oy).flatten).length:=by
 have⟨t,k,n,s,ks⟩:=x;rw[Wf]at c;rw[Oy];have h1:=Xp 3 t.toNat om;have h2:=Ajh (Ade n);have h3:=Xp 3 s.length om;have h4:=Xp 3 ks.length om;simp only[Aq,Ax,Nd.tx,Nd.kids]
 split
 .omega
 .split
  .simp only[Aq];omega
  .simp only[Aq];omega
def Aud{l:List Nd}(h:∀x∈l,(Oy x).length<=c):((l.map Oy).flatten).length<=l.length*c:=by
 induction l with
 |nil=>simp
 |cons x l ih=>
  have h1:=h x sm;have h2:=ih (λy d=>h y Gi);simp only[Br,Pb,Aq,Ax,Ca];omega
def Bfj{e:Jv}(o:e.ch.length<=10)(s:e.text.length<=1000):(Oy (.mk 50 3 0 [] (Ja e))).length<=20000:=by
 have j:=Az6 o s;have h1:=Aqc _ j
 have f:∀t n,Wf (num t n)->(Oy (num t n)).length<=21:=by
  intro t n h;have:=Aqc _ h;simpa[num,Nd.tx,Nd.kids]using this
 have h2:∀x∈Ja e,(Oy x).length<=1300:=by
  intro x k;have d:Wf x:=by rw[Wf]at j;exact j.2.2.2.2.2.2 x k
  have hb:=Aqc x d
  have r:((x.kids.map Oy).flatten).length<=210/\x.tx.length<=1000:=by
   unfold Ja at k
   rcases Cc.1 k with h|h
   .simp at h;rcases h with rfl|rfl<;>simp[num,Nd.kids,Nd.tx]
   .split at h
    .unfold Vj at h;simp at h
     rcases h with rfl|rfl|rfl|rfl|rfl
     .simp[num,Nd.kids,Nd.tx]
     .refine⟨?_,by simp[Nd.tx]⟩
      have:=Aud (l:=Xn e.ch) (c:=21) (λy g=>by
       have m:Wf y:=by rw[Wf]at d;exact d.2.2.2.2.2.2 y g
       simp only[Xn,Bc]at g;obtain⟨n,_,rfl⟩:=g;exact f _ _ m)
      have u:(Xn e.ch).length=e.ch.length:=by simp[Xn]
      simp only[Nd.kids];omega
     .simp[num,Nd.kids,Nd.tx]
     .exact⟨by simp[Nd.kids],by simpa[Nd.tx]using s⟩
     .simp[num,Nd.kids,Nd.tx]
    .split at h
     .simp at h;rcases h with rfl|rfl|rfl<;>simp[num,Nd.kids,Nd.tx]
     .simp at h
  omega
 have h3:=Aud h2
 have h4:(Ja e).length<=7:=by
  unfold Ja
  split
  .simp[Vj]
  .split<;>simp
 simp only[Nd.tx,Nd.kids,Bg]at h1;omega
def Axl(e:Jv)(t:P1 e=0):AE 97 [(Nd.mk 50 3 0 [] (Ja e)).v] (.tup [.ro 1 (F6 (Oy (.mk 50 3 0 [] (Ja e)))),.i 0]):=by
 have⟨_,_,_,f,g⟩:=Yv t;have o:=Auc f g;have hs:=Ajn f g;have n:=Bfj f g;have m:=R8 50 3 0 [] (Ja e) 1 1048576 c1 om om om (.inr (.inr ⟨rfl,rfl,rfl,hs.2⟩)) (λx h=>(o x h).1) (λx h=>(o x h).2) so;have c:=Ajm _ (.mk 50 3 0 [] (Ja e)) [] (P4 _) (Az6 f g) so;generalize Oy (.mk 50 3 0 [] (Ja e))=bs at c n;rw[Nd.v]at m c|-;generalize(Ja e).map Nd.v=kv at m c;have hp:=Gg bs;have u:(F6 []++F6 bs).all Ih=true:=by rw[F5,H7,H7];rfl
 refine Ai func97 λw0 N0=>?_;refine Y [1] [1] sr (Au 1 sr ?_);refine T2 rfl rfl rfl func151 rfl kr rfl sm m ?_;rintro r⟨k,rfl,z,l⟩;refine⟨_,rfl,?_⟩;refine Ak [1,4,5] [1] sr (J (Y [1,4,12] [1] sr ?_));refine Ce ?_;have y:=sO l
 have j:0<=k/\k<=9223372036854775807/\k<=281474976710656:=om;refine J (Ii [3] Ada ?_);refine Alu [(0,[]),(2,[14]),(1,[])] kr C1 ?_
 refine Km [3] kr λi s=>?_;simp only[Bu,Ck,or_false]at s;subst s;refine⟨_,_,rfl,T7 (d:=14) dc c u func152 rfl kr rfl rfl rfl sr sr sr,?_⟩;refine Fk [4,2] sr sr ?_
 exact Gl [2,3] [14] kr sr (Bv C1 rfl)
variable {bs:List UInt8}{e:Int}
def pan(c:Int):List PanicEntry:=[{v:=.iface 235 (.int .i64 c),recovered:=false}]
def Us(c:Int):Q0 prog 190 [.i c] [] (λ_ _=>False) (λd=>d=pan c):=by
 refine Ed func190 λw0 N0 nx=>?_;exact Ik 2 sr (A01 rfl rfl sr rfl rfl)
def rd(bs:List UInt8)(c:Nat)(e:Int):V:=.agg [.ro 1 (F6 bs),.i c,.i e]
def Aqd(d v:Nat)(bs:List UInt8)(c n:Nat)(e:Int)(h:c+n<=bs.length)(hb:bs.length<=1048576):
  Q0 prog 192 [.bp d v 3 0 0,.i n] [(d,⟨v,3,238,[rd bs c e]⟩)] (λr q=>r=.ro 1 (F6 ((bs.drop c).take n))/\q=[(d,⟨v,3,238,[rd bs (c+n) e]⟩)]) (λ_=>False):=by
 have hl:=Tt bs;have w:F6 ((bs.drop c).take n)=((F6 bs).drop c).take n:=sm;rw[w];unfold rd;generalize F6 bs=m at hl;obtain⟨s1,j,ab⟩:∃s:Int,IntKind.i64.wrap ((m.length:Int)-c)=s/\s=(m.length:Int)-c:=⟨_,rfl,Cu om om⟩;obtain⟨g,u,f⟩:∃s:Int,IntKind.i64.wrap ((c:Int)+n)=s/\s=((c+n:Nat):Int):=⟨_,rfl,by rw[Cu om oM];omega⟩;obtain⟨l,z,aa⟩:∃s:Int,IntKind.i64.wrap (g-n)=s/\s=(c:Int):=⟨_,rfl,by rw[Cu om oM];omega⟩;have y:0<=l/\l<=g/\g<=m.length:=om;have t:l.toNat=c:=om;have x:g.toNat-c=n:=om;refine Ed func192 λw0 N0 nx=>?_;refine Y [0,1] [d] sr (J (I3 [0,4,6,3,4,2,9,3] [0,1,16] [d] sr (by simp[j]<;>rfl) ?_));refine Ce (Y [0,1] [d] (by simp[u]<;>rfl) ?_);refine I3 [0,3,4,3,8,1,10,3,3,1,7,1,9,1,13,3] [4] [d] sr (by simp[z,y]<;>rfl) ?_
 refine Aj (Ara sy ?_ (λk o hk=>B2 ?_ hk))
 .simp[results192,t,x]
 .simp[f]
def Ajo(d v:Nat)(bs:List UInt8)(c n:Nat)(e:Int)(h:bs.length<c+n)(o:c<=bs.length)(r:n<=1048576)(hb:bs.length<=1048576):
  Q0 prog 192 [.bp d v 3 0 0,.i n] [(d,⟨v,3,238,[rd bs c e]⟩)] (λ_ _=>False) (λm=>m=pan e):=by
 have u:=Tt bs;unfold rd;generalize F6 bs=j at u;obtain⟨s1,f,l⟩:∃s:Int,IntKind.i64.wrap ((j.length:Int)-c)=s/\s=(j.length:Int)-c:=⟨_,rfl,Cu om om⟩;refine Ed func192 λw0 N0 nx=>?_;refine Y [0,1] [d] sr (J (I3 [0,4,6,3,4,2,9,3] [0,1,16] [d] sr (by simp[f]<;>rfl) ?_));refine Ek ?_;exact Ik 4 sr (Ji (Us e) func190 rfl kr rfl rfl rfl sr (λk q t=>by simp[Eng.get]at t) (λm g=>g))
def rdV(bs:List UInt8)(e:Int):Nat->Nat->Nat->Nat->Except Int (Nat×Nat)
 |0,_,_,_=>.error 2
 |k+1,i,x,d=>match bs[d]? with
  |none=>.error e
  |some c=>if(i=9/\1<c.toNat)\/(0<i/\c.toNat=0)then .error 2 else
   if c.toNat<128 then .ok (x+c.toNat*128^i,d+1)else rdV bs e k (i+1) (x+c.toNat%128*128^i) (d+1)
def Az7(x y i:Nat)(m:x<128^i)(hi:i<=9)(hy:y<128)(o:i=9->y<=1):
  bits .or .u64 (x:Int) (IntKind.u64.wrap ((y:Int)*2^min (7*(i:Int)).toNat IntKind.u64.bits))=((x+y*128^i:Nat):Int)/\x+y*128^i<128^(i+1)/\x+y*128^i<2^64:=by
 have l:(7*(i:Int)).toNat=7*i:=om;have g:min (7*i) 64=7*i:=om;have d:(2:Nat)^(7*i)=128^i:=by rw[Nat.pow_mul]
 have k:(2:Int)^(7*i)=((128^i:Nat):Int):=by rw[<-d];simp
 have f:128^i<=2^63:=by rw[<-d];exact Dv om om
 have e:x+y*128^i<128^(i+1):=by
  rw[Cd];have:y*128^i<=127*128^i:=By _ om;omega
 have c:x+y*128^i<2^64:=by
  by_cases h:i=9
  .subst h;have:=o rfl;have h1:y*128^9<=1*128^9:=By _ this;omega
  .have:128^(i+1)<=128^9:=Dv om om;omega
 refine⟨?_,e,c⟩
 have j:IntKind.u64.wrap ((y:Int)*2^min (7*(i:Int)).toNat IntKind.u64.bits)=((y*128^i:Nat):Int):=by
  rw[l];show IntKind.u64.wrap ((y:Int)*2^min (7*i) 64)=_
  rw[g,k];have:=Tu (n:=y*128^i) om;rw[<-this]
  congr 1
 rw[j,(Adb x (y*128^i) ⟨by omega,by omega⟩).1]
 congr 1
 rw[Xz,Bf y,<-d,<-Hh (by rw[d];exact m)];omega
def Bjf(c:Nat)(h:c<256):bits .and .u8 (c:Int) 127=((c%128:Nat):Int):=by
 have:=(Ans c 127 ⟨h,by decide⟩).2;rw[show(127:Int)=((127:Nat):Int)from rfl,this]
 congr 1
 exact Ky c 7
def Ajp(d v:Nat)(bs:List UInt8)(j:Nat)(e:Int)(aa:j<=bs.length)(hb:bs.length<=1048576):
  Q0 prog 191 [.bp d v 3 0 0] [(d,⟨v,3,238,[rd bs j e]⟩)] (λr q=>∃x a,rdV bs e 10 0 0 j=.ok (x,a)/\r=.int .u64 x/\q=[(d,⟨v,3,238,[rd bs a e]⟩)]/\a<=bs.length/\x<2^64) (λch=>∃er,rdV bs e 10 0 0 j=.error er/\ch=pan er):=by
 refine Ed func191 λw0 N0 z=>?_;refine Y [0] [d] sr (Y [0,3] [d] sr (Y [0,3,4] [d] sr (Ad ?_)));refine If (λp:Nat×Nat×Nat×Nat=>⟨[(0,.bp d v 3 0 0),(3,.int .u64 p.2.1),(4,.i p.1)],[(d,⟨v,3,238,[rd bs p.2.2.1 e]⟩)],p.2.2.2,38⟩) (λp=>p.1<=9/\p.2.1<128^p.1/\p.2.2.1<=bs.length/\z<=p.2.2.2/\rdV bs e (10-p.1) p.1 p.2.1 p.2.2.1=rdV bs e 10 0 0 j) (λp=>10-p.1) (0,0,j,z+1+1+1) ⟨by simp,by simp,aa,by simp only;omega,rfl⟩ Z ?_;rintro⟨i,x,f,nx⟩⟨hi,hx,ad,ak,h⟩;simp only at hi hx ad ak h;obtain⟨m,hm⟩:∃m,10-i=m+1:=⟨9-i,by omega⟩;rw[hm,rdV]at h;refine J (Ad (Au 1 sr ?_))
 by_cases ah:f<bs.length
 .have ar:bs[f]?=some bs[f]:=Ah ah;rw[ar]at h;simp only at h;have af:(bs.drop f).take 1=[bs[f]]:=by rw[Bo ah];rfl
  have n:=Aqd d v bs f 1 e om hb;rw[af]at n;generalize bs[f]=c at h n;have an:c.toNat<256:=c.toNat_lt;refine Ke n func192 rfl kr (by simp[rd,Eng.get]) rfl dc rfl rfl rfl sr (λk o w=>B2 gt w) sr (Ak [0,3,4,5] [d] (by simp[Ze]<;>rfl) ?_);refine J (Y [0,3,4,5,25] [d] sr ?_)
  refine A1 (λh1=>?_) λh1=>?_
  .have aj:(i=9/\1<c.toNat)\/(0<i/\c.toNat=0):=by
    simp only[I1,Be,decide_eq_true_eq]at h1;omega
   rw[Ab aj]at h;refine Cb (Ji (Us 2) func190 rfl kr rfl rfl rfl sr (λk o w=>by simp[Eng.get]at w) (λch t=>?_));exact⟨2,h.symm,t⟩
  .have u:¬((i=9/\1<c.toNat)\/(0<i/\c.toNat=0)):=by
    simp only[E8,Bool.and_eq_false_iff,decide_eq_false_iff_not]at h1;omega
   rw[I u]at h;have hand:=Bjf c.toNat an;have ai:IntKind.u64.wrap ((c.toNat%128:Nat):Int)=((c.toNat%128:Nat):Int):=Tu om;have⟨l,au,y⟩:=Az7 x (c.toNat%128) i hx hi om (λh9=>by omega);obtain⟨av,ae⟩:∃av:Int,bits .and .u8 (c.toNat:Int) 127=av:=⟨_,rfl⟩;rw[ae]at hand;rw[<-hand]at ai l;obtain⟨si,ao,ag⟩:∃si:Int,IntKind.i64.wrap (7*(i:Int))=si/\si=7*(i:Int):=⟨_,rfl,Cu om om⟩;rw[<-ag]at l;have aq:¬si<0:=om;obtain⟨ov,ab⟩:∃ov:Int,bits .or .u64 (x:Int) (IntKind.u64.wrap (av*2^min si.toNat IntKind.u64.bits))=ov:=⟨_,rfl⟩;rw[ab]at l;have al:=Hr (k:=i) om;refine Y [0,3,4,5] [d] (by simp[ae,ai,ao,aq,ab]<;>rfl) (Y [0,3,4,36] [d] sr ?_)
   refine A1 (λh2=>?_) λh2=>?_
   .have g:c.toNat<128:=by simp at h2;omega
    rw[Ab g]at h;rw[Bl g]at l y;refine Y [2] [d] sr ?_;refine Aj ⟨by simp only;omega,.int .u64 ov,[(d,⟨v,3,238,[rd bs (f+1) e]⟩)],by simp[results191],λk o w=>B2 gt w,_,_,h.symm,by rw[l],rfl,by omega,y⟩
   .have g:¬c.toNat<128:=by simp at h2;omega
    rw[I g]at h;have aw:i≠9:=λh9=>by omega
    refine A6 [0,3,4] [d] (by simp[al]<;>rfl) ?_
    refine⟨(i+1,x+c.toNat%128*128^i,f+1,nx+33),⟨by simp only;omega,au,by simp only;omega,by simp only;omega,?_⟩,by simp only;omega,?_⟩
    .simp only;rw[show 10-(i+1)=m by omega];exact h
    .have am:((i+1:Nat):Int)=(i:Int)+1:=om;simp only[l,am];exact Z
 .have s:bs[f]?=none:=Eg om;rw[s]at h;have n:=Ajo d v bs f 1 e om ad om hb;refine Ji n func192 rfl kr rfl rfl rfl sr (λk o w=>B2 gt w) λch t=>?_;exact⟨e,h.symm,t⟩
def Yw(d v:Nat)(bs:List UInt8)(c x a:Nat)(e:Int)(f:c<=bs.length)(g:bs.length<=1048576)(h:rdV bs e 10 0 0 c=.ok (x,a)):
  Q0 prog 191 [.bp d v 3 0 0] [(d,⟨v,3,238,[rd bs c e]⟩)] (λr q=>r=.int .u64 x/\q=[(d,⟨v,3,238,[rd bs a e]⟩)]) (λ_=>False):=
 (Ajp d v bs c e f g).mono (λr q⟨x',a',h1,h2,h3,_,_⟩=>by rw[h]at h1;injection h1 with h1;injection h1 with h4 h5;subst h4 h5;exact⟨h2,h3⟩) (λch⟨er,h1,_⟩=>by rw[h]at h1;cases h1)
def Aau(d v:Nat)(bs:List UInt8)(c:Nat)(e g:Int)(f:c<=bs.length)(k:bs.length<=1048576)(h:rdV bs e 10 0 0 c=.error g):
  Q0 prog 191 [.bp d v 3 0 0] [(d,⟨v,3,238,[rd bs c e]⟩)] (λ_ _=>False) (λj=>j=pan g):=
 (Ajp d v bs c e f k).mono (λr q⟨x',a',h1,_⟩=>by rw[h]at h1;cases h1) (λj⟨er',h1,h2⟩=>by rw[h]at h1;cases h1;exact h2)
def P3:∀ {k i x d y a:Nat},i+k=10->x<128^i->d<=bs.length->rdV bs e k i x d=.ok (y,a)->y<2^64/\a<=bs.length/\d<a
 |0,i,x,d,y,a,_,_,_,h=>by simp[rdV]at h
 |k+1,i,x,d,y,a,hk,o,m,h=>by
  rw[rdV]at h
  split at h
  .cases h
  .rename_i c s;have n:=(Al.1 s).1
   split at h
   .cases h
   .rename_i hg;have r:=c.toNat_lt;have⟨_,h2,l⟩:=Az7 x (c.toNat%128) i o om om (λh9=>by omega)
    split at h
    .rename_i g;rw[Bl g]at l;injection h with h;injection h with f j;subst f j;exact⟨l,by omega,by omega⟩
    .have⟨f,j,h6⟩:=P3 om h2 om h;exact⟨f,j,by omega⟩
def rdC(bs:List UInt8)(e:Int)(c d:Nat):Except Int (Nat×Nat):=
 match rdV bs e 10 0 0 d with
 |.error f=>.error f
 |.ok (x,a)=>if c<x then .error 5 else .ok (x,a)
def Aue(d v:Nat)(bs:List UInt8)(f x a c:Nat)(e:Int)(g:f<=bs.length)(t:bs.length<=1048576)(hm:c<=2000)(h:rdC bs e c f=.ok (x,a)):
  Q0 prog 194 [.bp d v 3 0 0,.i c] [(d,⟨v,3,238,[rd bs f e]⟩)] (λr q=>r=.i x/\q=[(d,⟨v,3,238,[rd bs a e]⟩)]) (λ_=>False):=by
 unfold rdC at h
 split at h
 .cases h
 rename_i y n m
 split at h
 .cases h
 rename_i u;injection h with h;injection h with h1 h2;subst h1 h2;have s:=Yw d v bs f y n e g t m;have Ec:IntKind.u64.wrap (c:Int)=c:=Tu om;have Sk:IntKind.i64.wrap (y:Int)=y:=Cu om om;have l:¬((c:Int)<y):=om;refine Ed func194 λw0 N0 nx=>?_;refine Y [0,1] [d] sr (Au 1 sr ?_);refine Ke s func191 rfl kr (by simp[rd,Eng.get]) rfl dc rfl rfl rfl sr (λk o j=>B2 gt j) sr (Ak [1,5] [d] sr ?_);refine J (Y [5,11] [d] (by simp[Ec]<;>rfl) ?_);refine Ce (Y [4] [d] C1 ?_)
 refine Aj (Ara sy ?_ (λk o j=>B2 ?_ j))
 .simp[results194]
 .simp
def Ant(d v:Nat)(bs:List UInt8)(f c:Nat)(e r:Int)(g:f<=bs.length)(s:bs.length<=1048576)(hm:c<=2000)(h:rdC bs e c f=.error r):
  Q0 prog 194 [.bp d v 3 0 0,.i c] [(d,⟨v,3,238,[rd bs f e]⟩)] (λ_ _=>False) (λn=>n=pan r):=by
 unfold rdC at h;have Ec:IntKind.u64.wrap (c:Int)=c:=Tu om;refine Ed func194 λw0 N0 nx=>?_;refine Y [0,1] [d] sr (Au 1 sr ?_)
 split at h
 .rename_i u m;cases h;exact Ji (Aau d v bs f e _ g s m) func191 rfl kr rfl rfl rfl sr (λk o l=>B2 gt l) λn j=>j
 .rename_i y a m;split at h
  case isFalse=>cases h
  rename_i t;cases h;refine Ke (Yw d v bs f y a e g s m) func191 rfl kr (by simp[rd,Eng.get]) rfl dc rfl rfl rfl sr (λk o l=>B2 gt l) sr (Ak [1,5] [d] sr ?_);refine J (Y [5,11] [d] (by simp[Ec]<;>rfl) ?_);refine Ek ?_;exact Cb (Ji (Us 5) func190 rfl kr rfl rfl rfl sr (λk o l=>by simp[Eng.get]at l) (λn j=>j))
variable {d:Nat}
def Axm(x:Nat):Int:=bits .xor .i64 (IntKind.i64.wrap ((x:Int).fdiv (2^min 1 IntKind.u64.bits))) (IntKind.i64.wrap (-(IntKind.i64.wrap (bits .and .u64 (x:Int) 1))))
def A33(x:Nat):AE 193 [.int .u64 x] (.i (Axm x)):=by
 refine Ai func193 λw0 N0=>?_;exact Y [0] [] sr (Y [2] [] sr (Bv sr (by simp[Axm])))
def rdL(f:Nat->Except Int (Nd×Nat)):Nat->Nat->Except Int (List Nd×Nat)
 |0,a=>.ok ([],a)
 |n+1,a=>match f a with
  |.error c=>.error c
  |.ok (x,e)=>match rdL f n e with
   |.error c=>.error c
   |.ok (l,d)=>.ok (x::l,d)
def Zu(bs:List UInt8)(e:Int):Nat->Nat->Except Int (Nd×Nat)
 |0,_=>.error 5
 |lv+1,h=>match rdV bs e 10 0 0 h with
  |.error d=>.error d
  |.ok (c,g)=>if 9999999<c then .error 3 else match bs[g]? with
   |none=>.error e
   |some k=>if k.toNat=1 then(match rdV bs e 10 0 0 (g+1)with
     |.error d=>.error d
     |.ok (x,f)=>.ok (.mk c 1 (Axm x) [] [],f))
    else if k.toNat=2 then(match rdC bs e 2000 (g+1)with
     |.error d=>.error d
     |.ok (n,f)=>if f+n<=bs.length then .ok (.mk c 2 0 ((bs.drop f).take n) [],f+n)else .error e)
    else if k.toNat=3 then(match rdC bs e 1024 (g+1)with
     |.error d=>.error d
     |.ok (n,f)=>match rdL (Zu bs e lv) n f with
      |.error d=>.error d
      |.ok (l,j)=>.ok (.mk c 3 0 [] l,j))
    else .error 2
def Ut{y a:Nat}(f:d<=bs.length)(h:rdC bs e c d=.ok (y,a)):y<=c/\a<=bs.length/\d<a:=by
 unfold rdC at h
 split at h
 .cases h
 .rename_i x a' j
  split at h
  .cases h
  .injection h with h;injection h with h1 h2;subst h1 h2;have⟨_,k,g⟩:=P3 (i:=0) om sm f j;exact⟨by omega,k,g⟩
def Anu{f:Nat->Except Int (Nd×Nat)}(e:∀c x a,c<=bs.length->f c=.ok (x,a)->a<=bs.length):∀ {n c:Nat}{l:List Nd}{a:Nat},c<=bs.length->rdL f n c=.ok (l,a)->a<=bs.length/\l.length=n
 |0,c,l,a,d,h=>by simp only[rdL,Except.ok.injEq,Bw]at h;obtain⟨rfl,rfl⟩:=h;exact⟨d,rfl⟩
 |n+1,c,l,a,d,h=>by
  rw[rdL]at h
  split at h
  .cases h
  .rename_i x a1 j
   split at h
   .cases h
   .rename_i l' a2 m;injection h with h;injection h with h1 h2;subst h1 h2;have⟨k,g⟩:=Anu e (e _ _ _ d j) m;exact⟨k,by simp[g]⟩
def Aex:∀ {lv c a:Nat}{x:Nd},c<=bs.length->Zu bs e lv c=.ok (x,a)->a<=bs.length
 |0,c,a,x,d,h=>by simp[Zu]at h
 |lv+1,c,a,x,d,h=>by
  rw[Zu]at h
  split at h
  .cases h
  rename_i m z t;have⟨_,j,_⟩:=P3 (i:=0) om sm d t
  split at h
  .cases h
  split at h
  .cases h
  rename_i k u;have o:=(Al.1 u).1
  split at h
  .split at h
   .cases h
   .rename_i y r g;have⟨_,f,_⟩:=P3 (i:=0) om sm om g;injection h with h;injection h with h1 h2;subst h2;exact f
  .split at h
   .split at h
    .cases h
    .split at h
     .injection h with h;injection h with h1 h2;subst h2;assumption
     .cases h
   .split at h
    .split at h
     .cases h
     .rename_i n r w;have⟨_,f,_⟩:=Ut om w
      split at h
      .cases h
      .rename_i l a3 hl;injection h with h;injection h with h1 h2;subst h2;exact(Anu (λc x a d s=>Aex d s) f hl).1
    .cases h
def Bfk(c:List Nd):Except Int (List Nd×Nat)->Except Int (List Nd×Nat)
 |.error d=>.error d
 |.ok (l,a)=>.ok (c++l,a)
def Qn(l:List Nd):(l.map Nd.v).all V.pureE=true:=Xm l
def A92(bs:List UInt8)(e:Int)(hb:bs.length<=1048576):∀(lv d v t:Nat),lv<=8->t<=bs.length->
  Q0 prog 128 [.bp d v 3 0 0,.i (9-lv:Int)] [(d,⟨v,3,238,[rd bs t e]⟩)] (λr q=>∃x a,Zu bs e lv t=.ok (x,a)/\r=x.v/\q=[(d,⟨v,3,238,[rd bs a e]⟩)]) (λy=>∃s,Zu bs e lv t=.error s/\y=pan s):=by
 intro lv
 induction lv with
 |zero=>
  intro d v t _ _;refine Ed func128 λw0 N0 g=>?_;refine Ez (d+1) [0,1,4] [d,d+1+4] sr (J (Ez (d+1) [0,1,4,8] [d,d+1+4] sr ?_));refine Ek ?_;exact Cb (Ji (Us 5) func190 rfl kr rfl rfl rfl sr (λk o c=>by simp[Eng.get]at c) (λy f=>⟨5,rfl,f⟩))
 |succ lv ih=>
 intro d v t bv au;rw[Zu];obtain⟨ak,a0⟩:∃l:Int,(9-((lv+1:Nat):Int))=l:=⟨_,rfl⟩;rw[a0];have bt:¬(8<ak):=om;refine Ed func128 λw0 N0 g=>?_;refine Ez (d+1) [0,1,4] [d,d+1+4] sr (J (Ez (d+1) [0,1,4,8] [d,d+1+4] sr ?_));refine Ce (J (Cb (Qz (d+1) 1 sr ?_)));cases hv:rdV bs e 10 0 0 t with
 |error s=>exact Ji (Aau d v bs t e s au hb hv) func191 rfl kr rfl rfl rfl sr (λk o c=>B2 gt c) (λy f=>⟨s,rfl,f⟩)
 |ok p=>
 have⟨h,u⟩:=p;have⟨bo,bj,_⟩:=P3 (i:=0) om sm au hv;refine Ke (Yw d v bs t h u e au hb hv) func191 rfl kr (by simp[rd,Eng.get]) rfl dc rfl rfl rfl sr (λk o c=>B2 gt c) sr ?_;refine Oi (d+1) [0,1,4,5] [d,d+1+4] sr ?_;refine J (Ez (d+1) [0,1,4,5,13] [d,d+1+4] sr ?_);simp only
 refine A1 (λh2=>?_) λh2=>?_
 .have a4:9999999<h:=by simp at h2;omega
  rw[Ab a4];refine Cb ?_;exact Ji (Us 3) func190 rfl kr rfl rfl rfl sr (λk o c=>by simp[Eng.get]at c) λy f=>⟨3,rfl,f⟩
 have a9:¬9999999<h:=sO h2
 rw[I a9];have bh:IntKind.i64.wrap (h:Int)=h:=Cu om om;refine J (Cb (Qz (d+1) 3 C1 ?_));by_cases ba:u<bs.length
 case neg=>
  have ao:bs[u]?=none:=Eg om;rw[ao];exact Ji (Ajo d v bs u 1 e om bj om hb) func192 rfl kr rfl rfl rfl sr (λk o c=>B2 gt c) λy f=>⟨e,rfl,f⟩
 have bl:bs[u]?=some bs[u]:=Ah ba;rw[bl];have a8:(bs.drop u).take 1=[bs[u]]:=by rw[Bo ba];rfl
 have az:=Aqd d v bs u 1 e om hb;rw[a8]at az;generalize bs[u]=k at az;have bu:k.toNat<256:=k.toNat_lt;have bn:IntKind.i64.wrap (k.toNat:Int)=k.toNat:=Cu om om;refine Ke az func192 rfl kr (by simp[rd,Eng.get]) rfl dc rfl rfl rfl sr (λk o c=>B2 gt c) sr ?_;refine Oi (d+1) [0,1,4,6] [d,d+1+4,d+1+6] (by simp[Ze,bn]<;>rfl) ?_;refine J (Ez (d+1) [0,1,4,6,24] [d,d+1+4,d+1+6] sr ?_);refine Ad (Ez (d+1) [0,1,4,6,24,26] [d,d+1+4,d+1+6] sr ?_);simp only
 refine Co (λh3=>?_) λh3=>?_
 .have al:k.toNat=1:=by simp at h3;omega
  rw[Ab al];refine Cb (Qz (d+1) 1 sr ?_);cases hv2:rdV bs e 10 0 0 (u+1)with
  |error s=>exact Ji (Aau d v bs (u+1) e s om hb hv2) func191 rfl kr rfl rfl rfl sr (λk o c=>B2 gt c) (λy f=>⟨s,rfl,f⟩)
  |ok p=>
  have⟨x,w⟩:=p;refine Ke (Yw d v bs (u+1) x w e om hb hv2) func191 rfl kr (by simp[rd,Eng.get]) rfl dc rfl rfl rfl sr (λk o c=>B2 gt c) sr ?_;refine Aw (A33 x) func193 ?_;refine Oi (d+1) [4,6] [d,d+1+4,d+1+6] sr ?_;refine N3 (d+1+6) 4 (d+1+100) 5 94 [4,6] [d,d+1+4,d+1+6,d+1+100] sr ?_;refine Bq (d+1+100) [4,6] [d,d+1+4,d+1+6] sr ?_;refine Ez (d+1) [4] [d,d+1+4] sr ?_;refine Aj ⟨by simp only;omega,(Nd.mk h 1 (Axm x) [] []).v,[(d,⟨v,3,238,[rd bs w e]⟩)],by simp[results128,Nd.v,al],λk o c=>B2 (by simp[Eng.get,rd]) c,_,_,rfl,rfl,rfl⟩
 .have al:¬k.toNat=1:=by simp at h3;omega
  rw[I al];refine Ez (d+1) [0,1,4,6,24,32] [d,d+1+4,d+1+6] sr ?_
  refine Co (λh4=>?_) λh4=>?_
  .have am:k.toNat=2:=by simp at h4;omega
   rw[Ab am];refine Cb (Qz (d+1) 2 sr ?_);cases hv2:rdC bs e 2000 (u+1)with
   |error s=>exact Ji (Ant d v bs (u+1) 2000 e s om hb om hv2) func194 rfl kr rfl rfl rfl sr (λk o c=>B2 gt c) (λy f=>⟨s,rfl,f⟩)
   |ok p=>
   have⟨n,w⟩:=p;have⟨hn,ay,_⟩:=Ut om hv2;refine Ke (Aue d v bs (u+1) n w 2000 e om hb om hv2) func194 rfl kr (by simp[rd,Eng.get]) rfl dc rfl rfl rfl sr (λk o c=>B2 gt c) sr ?_;simp only;by_cases ab:w+n<=bs.length
   case neg=>
    rw[I ab];exact Ji (Ajo d v bs w n e om ay om hb) func192 rfl kr rfl rfl rfl sr (λk o c=>B2 gt c) λy f=>⟨e,rfl,f⟩
   rw[Ab ab];have ah:=Aqd d v bs w n e ab hb;have ar:=Ajk ((bs.drop w).take n);have bc:=Gg ((bs.drop w).take n);generalize(bs.drop w).take n=sb at ah ar bc;generalize F6 sb=bw at ah ar bc;refine Ke ah func192 rfl kr (by simp[rd,Eng.get]) rfl dc rfl rfl rfl sr (λk o c=>B2 gt c) sr ?_;refine Oi (d+1) [4,6] [d,d+1+4,d+1+6] (by simp[ar]<;>rfl) ?_;refine N3 (d+1+6) 4 (d+1+100) 5 94 [4,6] [d,d+1+4,d+1+6,d+1+100] sr ?_;refine Bq (d+1+100) [4,6] [d,d+1+4,d+1+6] sr ?_;refine Ez (d+1) [4] [d,d+1+4] sr ?_;refine Aj ⟨by simp only;omega,(Nd.mk h 2 0 sb []).v,[(d,⟨v,3,238,[rd bs (w+n) e]⟩)],by simp[results128,Nd.v,am],λk o c=>B2 (by simp[Eng.get,rd]) c,_,_,rfl,rfl,rfl⟩
  .have am:¬k.toNat=2:=by simp at h4;omega
   rw[I am];refine Ez (d+1) [0,1,4,6,40] [d,d+1+4,d+1+6] sr ?_;refine Co (λh5=>?_) λh5=>?_
   case refine_2=>
    have aj:¬k.toNat=3:=sO h5
    rw[I aj];refine Cb ?_;exact Ji (Us 2) func190 rfl kr rfl rfl rfl sr (λk o c=>by simp[Eng.get]at c) λy f=>⟨2,rfl,f⟩
   have aj:k.toNat=3:=sO h5
   rw[Ab aj];refine J (Cb (Qz (d+1) 1 sr ?_));cases hv2:rdC bs e 1024 (u+1)with
   |error s=>exact Ji (Ant d v bs (u+1) 1024 e s om hb om hv2) func194 rfl kr rfl rfl rfl sr (λk o c=>B2 gt c) (λy f=>⟨s,rfl,f⟩)
   |ok p=>
   have⟨n,w⟩:=p;have⟨hn,ay,_⟩:=Ut om hv2;refine Ke (Aue d v bs (u+1) n w 1024 e om hb om hv2) func194 rfl kr (by simp[rd,Eng.get]) rfl dc rfl rfl rfl sr (λk o c=>B2 gt c) sr ?_;refine Oi (d+1) [0,1,4,6,43,44] [d,d+1+4,d+1+6] sr ?_;refine N3 (d+1+6) 4 (d+1+100) 5 94 [0,1,4,6,43,44] [d,d+1+4,d+1+6,d+1+100] sr ?_;refine Ad ?_
   refine If (λp:Nat×List Nd×Nat×Nat×Nat=>⟨[(0,.bp d v 3 0 0),(1,.i ak),(4,.bp (d+1+4) g 5 0 0),(6,.bp (d+1+6) (g+1+2+3+2+8) 5 0 0),(43,.i n),(44,.i p.1)],
    [(d,⟨v,3,238,[rd bs p.2.2.1 e]⟩),(d+1+4,⟨g,5,94,[.agg [.i 0,.i 0,.i 0,.str [],.nils]]⟩),(d+1+6,⟨g+1+2+3+2+8,5,94,[.agg [.i h,.i k.toNat,.i 0,.str [],.sl (d+1+100) p.2.2.2.1 5 (p.2.1.map Nd.v).length]]⟩),(d+1+100,⟨p.2.2.2.1,5,94,p.2.1.map Nd.v⟩)],p.2.2.2.2,57⟩)
    (λp=>p.1<=n/\p.2.1.length=p.1/\p.2.2.1<=bs.length/\g<=p.2.2.2.2/\Bfk p.2.1 (rdL (Zu bs e lv) (n-p.1) p.2.2.1)=rdL (Zu bs e lv) n w) (λp=>n-p.1) (0,[],w,_,_) ⟨B5 _,rfl,ay,?_,?_⟩ (by simp;exact Z) ?_
   .simp only;omega
   .simp only[Mz];cases rdL (Zu bs e lv) n w with
    |error s=>rfl
    |ok p=>rfl
   rintro⟨i,z,af,vr,nx⟩⟨hi,ae,ai,bd,hR⟩;simp only at hi ae ai bd hR;have aa:=Qn z;have ad:(z.map Nd.v).length=i:=sG ae
   generalize ax:z.map Nd.v=av at aa ad;refine Ez (d+1) [0,1,4,6,43,44,45] [d,d+1+4,d+1+6,d+1+100] sr ?_;refine J ?_
   refine Bk (λh6=>?_) λh6=>?_
   .have bb:i<n:=by simp at h6;omega
    obtain⟨m,hm⟩:∃m,n-i=m+1:=⟨n-i-1,by omega⟩;rw[hm,rdL]at hR;have a6:IntKind.i64.wrap (ak+1)=9-(lv:Int):=by rw[Cu om oM];omega
    have bg:=Hr (k:=i) om;have ag:=ih d v af om ai;have a5:i+1<=maxLen:=by simp[maxLen];omega
    have a7:(i+1)*64<=140737488355328:=om;cases hx:Zu bs e lv af with
    |error s=>
     rw[hx]at hR
     have hp:Q0 prog 128 [.bp d v 3 0 0,.i (9-lv:Int)] [(d,⟨v,3,238,[rd bs af e]⟩)] (λ_ _=>False) (λy=>y=pan s):=
      ag.mono (λr q⟨x',a',h1,_⟩=>by rw[hx]at h1;cases h1) (λy⟨er',h1,h2⟩=>by rw[hx]at h1;cases h1;exact h2)
     have an:rdL (Zu bs e lv) n w=.error s:=hR.symm;refine J (Ad (T4 (d+1) [5] Ada ?_));refine Fk [0,1,2,3] sr (by simp[a6]<;>rfl) ?_
     refine A47 [1,5] kr λj hj=>?_;simp only[Bu,Ck,or_false]at hj
     rcases hj with rfl|rfl
     .refine .inl ⟨_,_,rfl,Nc sr,?_⟩;refine Bhh (i:=5) kr rfl ?_;exact Alz hp func128 rfl kr rfl rfl rfl sr (λk o c=>B2 gt c) (objs:=[]) (λk q c=>by simp[Eng.get]at c) (λy f=>⟨s,by simp only[an],f⟩)
     .refine .inr ⟨_,rfl,?_⟩;exact Alz hp func128 rfl kr rfl rfl rfl sr (λk o c=>B2 gt c) (objs:=[]) (λk q c=>by simp[Eng.get]at c) (λy f=>⟨s,by simp only[an],f⟩)
    |ok p=>
    have⟨x,a3⟩:=p;rw[hx]at hR;simp only at hR;have bm:=Aex ai hx
    have hp:Q0 prog 128 [.bp d v 3 0 0,.i (9-lv:Int)] [(d,⟨v,3,238,[rd bs af e]⟩)] (λr q=>r=x.v/\q=[(d,⟨v,3,238,[rd bs a3 e]⟩)]) (λ_=>False):=
     ag.mono (λr q⟨x',a',h1,h2,h3⟩=>by rw[hx]at h1;injection h1 with h1;injection h1 with h4 h5;subst h4 h5;exact⟨h2,h3⟩) (λy⟨er',h1,_⟩=>by rw[hx]at h1;cases h1)
    have bx:=x.v_pure
    have bf:Bfk (z++[x]) (rdL (Zu bs e lv) m a3)=rdL (Zu bs e lv) n w:=by
     rw[<-hR];cases rdL (Zu bs e lv) m a3 with
     |error s=>rfl
     |ok p=>simp[Bfk]
    rcases hxx:x with⟨xt,xk,xn,xs,aq⟩;have aw:x.v=.agg [.i xt,.i xk,.i xn,.str xs,.ro 5 (aq.map Nd.v)]:=by rw[hxx,Nd.v]
    rw[aw]at hp;have be:=Qn aq;generalize bq:aq.map Nd.v=bk at hp be aw
    refine Af2 ⟨[(0,.bp d v 3 0 0),(1,.i ak),(4,.bp (d+1+4) g 5 0 0),(6,.bp (d+1+6) (g+1+2+3+2+8) 5 0 0),(43,.i n),(44,.i i)],
     [(d,⟨v,3,238,[rd bs a3 e]⟩),(d+1+4,⟨g,5,94,[.agg [.i 0,.i 0,.i 0,.str [],.nils]]⟩),(d+1+6,⟨g+1+2+3+2+8,5,94,[.agg [.i h,.i k.toNat,.i 0,.str [],.sl (d+1+100) (nx+1+7) 5 (av.length+1)]]⟩),(d+1+100,⟨nx+1+7,5,94,av++[.agg [.i xt,.i xk,.i xn,.str xs,.ro 5 bk]]⟩)],nx+1+10,57⟩ (Ad (T4 (d+1) [5] Ada ?_)) ?_
    .refine Fk [0,1,2,3] sr (by simp[a6]<;>rfl) ?_
     refine Km [1,5] kr λj hj=>?_;simp only[Bu,Ck,or_false]at hj
     rcases hj with rfl|rfl
     .refine⟨_,_,rfl,Nc sr,?_⟩;refine Km [5] kr λj hj=>?_;simp only[Bu,Ck,or_false]at hj;subst hj;refine⟨_,_,rfl,Ahi dc hp (by simp[rd,Eng.get]) sm func128 rfl kr rfl rfl rfl sr (λk o c=>B2 gt c) sr,?_⟩;refine Fk [6,4] sr (by simp[ad,a5,a7]<;>rfl) ?_
      exact Gl [0,1,4,6,43,44] [d,d+1+4,d+1+6,d+1+100] kr sr (by show _ =_;simp[ad])
     .refine⟨_,_,rfl,Ahi dc hp (by simp[rd,Eng.get]) sm func128 rfl kr rfl rfl rfl sr (λk o c=>B2 gt c) sr,?_⟩;refine Alu [(1,[52]),(6,[]),(7,[]),(8,[]),(9,[])] kr (by simp[ad,a5,a7]<;>rfl) ?_
      exact Gl [0,1,4,6,43,44] [d,d+1+4,d+1+6,d+1+100] kr sr (by show _ =_;simp[ad])
    refine U3 (d+1) [0,1,4,6,43,44] [d,d+1+4,d+1+6,d+1+100] (by simp[bg]<;>rfl) ?_
    refine⟨(i+1,z++[x],a3,nx+1+7,nx+1+10+2),⟨by simp only;omega,by simp[ae],bm,by simp only;omega,?_⟩,by simp only;omega,?_⟩
    .simp only;rw[show n-(i+1)=m by omega];exact bf
    .have bi:((i+1:Nat):Int)=(i:Int)+1:=om;have br:av.length+1=((z++[x]).map Nd.v).length:=by simp[<-ax]
     simp only[bi,Cg,ax,Br,Ci,aw,Aq,Ax,Bg];exact Z
   .have bb:i=n:=by simp at h6;omega
    subst bb;rw[F4,rdL]at hR;simp only[Bfk,Do]at hR;refine A3 ?_;refine Bq (d+1+100) [4,6] [d,d+1+4,d+1+6] (by simp[aa]<;>rfl) ?_;refine Ez (d+1) [4] [d,d+1+4] sr ?_;refine Aj ⟨by simp only;omega,(Nd.mk h 3 0 [] z).v,[(d,⟨v,3,238,[rd bs af e]⟩)],by simp[results128,Nd.v,aj,ax],λk o c=>B2 (by simp[Eng.get,rd]) c,_,_,by simp only[<-hR],rfl,rfl⟩
variable {P:Program}{args:List V}{f:FuncId}
abbrev Bjg:List V:=[.bp 2 0 5 0 0,.bp 3 1 1 0 0,.bp 4 2 1 0 0]
abbrev Ajr(x y z:V):List (Nat×Ob):=[(2,⟨0,5,94,[x]⟩),(3,⟨1,1,3,[y]⟩),(4,⟨2,1,56,[z]⟩)]
def Bfl(x y z:V):ACD prog 127 Bjg (Ajr x y z) .returning .returning (λc=>c=Ajr x y z):=by
 refine Afc (u:=.returning) (v:=.nili) func127 rfl (by show(3:Nat)<=13;omega) rfl rfl rfl (by show(6:Nat)<13;omega) (λw N=>.nili) (λw0 N0 nx=>?_) rfl;refine Ak [0,1,2,3,4] [2,3,4] sr (Y [0,1,2,3,10] [2,3,4] sr ?_);refine Ce ?_;exact⟨by simp only;omega,Ajr x y z,λk o d=>by simpa using d,rfl⟩
def Bfm(x:List V)(y z:Int)(c:Int)(e:x.length=5):ACD prog 127 Bjg (Ajr (.agg x) (.int .i64 y) (.int .i64 z)) (.panicking (pan c)) (.panicking [{v:=.iface 235 (.int .i64 c),recovered:=true}])
  (λd=>d=Ajr (.agg [.int .i64 0,.int .i64 0,.int .i64 0,.str [],.nils]) (.int .i64 0) (.int .i64 c)):=by
 have f:x.drop 5=[]:=Hs om;refine Afc (u:=.panicking (pan c)) (v:=.ifc 235 (.int .i64 c)) func127 rfl (by show(3:Nat)<=13;omega) rfl rfl rfl (by show(6:Nat)<13;omega) (λw N=>.ifc _ _ _ rfl (.int _ _)) (λw0 N0 nx=>?_) rfl;refine Ak [0,1,2,3,4] [2,3,4] sr (Y [0,1,2,3,10] [2,3,4] sr ?_);refine Ek ?_;refine A6 [0,1,2] [2,3,4] C1 ?_;exact⟨by simp only;omega,_,λk o g=>by simpa[e,f]using g,rfl⟩
def Bfn(bs:List UInt8):V:=match Zu bs 4 8 0 with
 |.ok (x,a)=>.tup [x.v,.i a,.i 0]
 |.error c=>.tup [(Nd.mk 0 0 0 [] []).v,.i 0,.i c]
def AC.relaxP{v':V}(h:AC P f args (λr=>Bh r v')):AC P f args (λr=>r=v'):=
 λw N xs h1 h2 c=>(h w N xs h1 h2 c).mono λ_ _⟨x,_,he,hR,hp,hb⟩=>⟨x,v',he,rfl,hR.1 _ _ _ hp,hb⟩
def Bmm{x y z f h g:V}:∀k,Eng.get (Ajr x y z) k=none->Eng.get (Ajr f h g) k=none:=by
 intro k c
 by_cases h2:2=k
 .subst h2;simp[Eng.get]at c
 by_cases e:3=k
 .subst e;simp[Eng.get]at c
 by_cases d:4=k
 .subst d;simp[Eng.get]at c
 simp[Eng.get,h2,e,d]
def A34(bs:List UInt8)(hb:bs.length<=1048576):AE 73 [.ro 1 (F6 bs)] (Bfn bs):=by
 have hl:=Tt bs;have c:=A92 bs 4 hb 8 5 7 0 om (B5 _);have aa:¬(1048576<(F6 bs).length):=om;refine AC.relaxP ?_
 refine Aq8 (S1:=⟨[(0,.ro 1 (F6 bs)),(2,.bp 2 0 5 0 0),(3,.bp 3 1 1 0 0),(4,.bp 4 2 1 0 0)],Ajr (.agg [.i 0,.i 0,.i 0,.str [],.nils]) (.i 0) (.i 0),3,19⟩) (cvs:=Bjg) func73 rfl (by show(1:Nat)<=19;omega) func127 rfl kr rfl rfl rfl rfl rfl rfl (λw0 N0=>?_) sr rfl (by show(6:Nat)<19;omega) (λw0 N0=>?_) rfl
 .exact A6 [0,2,3,4] [2,3,4] sr ⟨rfl,rfl⟩
 refine Y [0,2,3,4,5] [2,3,4,5] sr (J (A5 [11] sr ?_));refine Ce (J (Cb ?_));unfold Bfn;cases hx:Zu bs 4 8 0 with
 |error u=>
  have hp:Q0 prog 128 [.bp 5 7 3 0 0,.i 1] [(5,⟨7,3,238,[rd bs 0 4]⟩)] (λ_ _=>False) (λt=>t=pan u):=
   c.mono (λr q⟨x',a',h1,_⟩=>by rw[hx]at h1;cases h1) (λt⟨er',h1,h2⟩=>by rw[hx]at h1;cases h1;exact h2)
  refine Ji hp func128 rfl kr rfl rfl rfl sr (λk o d=>B2 (by simp[Eng.get,rd]) d) λt w=>?_;subst w
  refine⟨.panicking (pan u),_,Ajr (.agg [.i 0,.i 0,.i 0,.str [],.nils]) (.i 0) (.i 0),_,rfl,λk o d=>by simpa[Lr]using d,Bfm [.i 0,.i 0,.i 0,.str [],.nils] 0 0 u rfl,rfl,λl nx h=>⟨λk d=>?_,?_⟩⟩
  .subst h;exact Bmm k d
  .subst h;refine⟨_,by simp[results73]<;>rfl,?_⟩;simp only[Nd.v,Ci];exact Bh.tup (.cons (Bh.agg (.cons (.refl _) (.cons (.refl _) (.cons (.refl _) (.cons (.refl _) (.cons (.nils 5) .nil)))))) (.refl _))
 |ok p=>
  have⟨x,a⟩:=p
  have hp:Q0 prog 128 [.bp 5 7 3 0 0,.i 1] [(5,⟨7,3,238,[rd bs 0 4]⟩)] (λr q=>r=x.v/\q=[(5,⟨7,3,238,[rd bs a 4]⟩)]) (λ_=>False):=
   c.mono (λr q⟨x',a',h1,h2,h3⟩=>by rw[hx]at h1;injection h1 with h1;injection h1 with h4 h5;subst h4 h5;exact⟨h2,h3⟩) (λt⟨er',h1,_⟩=>by rw[hx]at h1;cases h1)
  rcases hxx:x with⟨xt,s,n,xs,e⟩;have f:x.v=.agg [.i xt,.i s,.i n,.str xs,.ro 5 (e.map Nd.v)]:=by rw[hxx,Nd.v]
  rw[f]at hp;have g:=Qn e;generalize z:e.map Nd.v=m at hp g f;refine Ke hp func128 rfl kr (by simp[rd,Eng.get]) sM (by show(0:Nat)<2;omega) rfl rfl rfl sr (λk o d=>B2 (by simp[Eng.get,rd]) d) sr ?_;refine Ak [2,3,4,5] [2,3,4,5] sr ?_
  refine Af2 ⟨[(2,.bp 2 0 5 0 0),(3,.bp 3 1 1 0 0),(4,.bp 4 2 1 0 0)],Ajr (.agg [.i xt,.i s,.i n,.str xs,.ro 5 m]) (.i a) (.i 0),20,19⟩ (Ii [] Ada ?_) ?_
  .refine Fk [1,1,0,1] sr C1 ?_
   refine Km [2,3] kr λj y=>?_;simp only[Bu,Ck,or_false]at y
   rcases y with rfl|rfl
   .refine⟨_,_,rfl,Nc sr,?_⟩;refine Fk [3,3] sr sr ?_
    exact Gl [2,3,4] [2,3,4] kr sr rfl
   .refine⟨_,_,rfl,Nc sr,?_⟩;refine Fk [2,1,4,2] sr sr ?_
    exact Gl [2,3,4] [2,3,4] kr sr rfl
  refine Aj ⟨.returning,_,Ajr (.agg [.i xt,.i s,.i n,.str xs,.ro 5 m]) (.i a) (.i 0),_,rfl,λk o d=>by simpa using d,Bfl _ _ _,rfl,λl nx h=>⟨λk d=>?_,?_⟩⟩
  .subst h;exact d
  .subst h;refine⟨_,by simp[results73]<;>rfl,?_⟩;show Bh _ (.tup [(Nd.mk xt s n xs e).v,.i a,.i 0])
   rw[<-hxx,f];exact .refl _
open Go.RowKit Go.Extern.Stop Go.Stop Go.Extern
def Bjh(t:Value)(w:World):Calls prog 42 #[.nilIface,t] w λe w'=>e=.returned (.bool false)/\w'=w:=by
 go_enter func42,ntmps42
 go_wp2
 go_ret
 exact⟨rfl,rfl⟩
def A35(t:Addr)(w:World):(ReflectliteValue.unpack (.iface 131 (.pointer (some t)))).run prog w
  =.ok (.agg #[.pointer (some ⟨4,131,none⟩),.pointer (some ⟨w.heap.size,0,none⟩),.int .u64 150]) (w.alloc (.cells #[.pointer (some t)] 131)):=by kernel_rfl
def Bji(a:Addr)(w:World):(ReflectliteValue.methodAny (ReflectliteValue.valueError "reflectlite.Value.Type" 0) (λt _ _ _=>ReflectliteType.toType t) #[.agg #[.pointer (some ⟨4,131,none⟩),.pointer (some a),.int .u64 150]]).run prog w
  =.ok (.iface 241 (.agg #[.pointer (some ⟨4,131,none⟩)])) w:=by kernel_rfl
def Axn(h:Value)(w:World):(Go.method 621 241 (.agg #[h]) "Kind").run prog w=.ok (386,h) w:=by kernel_rfl
def Bjj(w:World):((ReflectliteType.abiMethod λt=>(λa:Nat=>Value.int IntKind.u8 (a:Int))<$>Rtype.kind t) #[.pointer (some ⟨4,131,none⟩)]).run prog w=.ok (.int .u8 22) w:=by kernel_rfl
def Bjk(w:World):((ReflectliteType.abiMethod λt=>(λa:Nat=>Value.int IntKind.u8 (a:Int))<$>Rtype.kind t) #[.pointer (some ⟨4,129,none⟩)]).run prog w=.ok (.int .u8 25) w:=by kernel_rfl
def rlm(z:Sem Value)(f:TypeId->Addr->Nat->Nat->Sem Value)(v:Value):
  ReflectliteValue.method z f #[v]=(do match <-ReflectliteValue.parts v with|none=>z|some (t,a,fl)=>f t a fl (fl%32)):=rfl
def Az8(a:Addr)(w:World):(ReflectliteValue.parts (.agg #[.pointer (some ⟨4,131,none⟩),.pointer (some a),.int .u64 150])).run prog w=.ok (some (131,a,150)) w:=by kernel_rfl
def Bfo(a p:Addr)(W:World)(c:W.cell? a=some (.pointer (some p))):
  (ReflectliteValue.method (ReflectliteValue.valueError "reflectlite.Value.IsNil" 0) ReflectliteValue.isNil #[.agg #[.pointer (some ⟨4,131,none⟩),.pointer (some a),.int .u64 150]]).run prog W=.ok (.bool false) W:=by
 rw[rlm];simp only[Sem.run_bind,Az8,Result.andThen];simp[ReflectliteValue.isNil,loadVar,isAgg,underlying,underlying131,c,Result.andThen]
def Axo(h:Value)(w:World):(Go.method 621 241 (.agg #[h]) "Elem").run prog w=.ok (396,.agg #[h]) w:=by kernel_rfl
def Aey(h:Value)(w:World):(Go.method 621 241 (.agg #[h]) "Implements").run prog w=.ok (397,.agg #[h]) w:=by kernel_rfl
def Aav(h:Value)(w:World):(Go.method 621 241 (.agg #[h]) "AssignableTo").run prog w=.ok (394,.agg #[h]) w:=by kernel_rfl
def Bjl(w:World):(ReflectliteType.method ReflectliteType.elem #[.agg #[.pointer (some ⟨4,131,none⟩)]]).run prog w=.ok (.iface 241 (.agg #[.pointer (some ⟨4,129,none⟩)])) w:=by kernel_rfl
def Aqe(w:World):(ReflectliteType.relation "Implements" ReflectliteType.implements_ #[.agg #[.pointer (some ⟨4,129,none⟩)],.iface 241 (.agg #[.pointer (some ⟨4,125,none⟩)])]).run prog w=.ok (.bool true) w:=by kernel_rfl
def A93(v:Value)(w:World):(ReflectliteType.typeOf #[.iface 129 v]).run prog w=.ok (.iface 241 (.agg #[.pointer (some ⟨4,129,none⟩)])) w:=by kernel_rfl
def Aqf(w:World):(ReflectliteType.relation "AssignableTo" ReflectliteType.assignableTo #[.agg #[.pointer (some ⟨4,129,none⟩)],.iface 241 (.agg #[.pointer (some ⟨4,129,none⟩)])]).run prog w=.ok (.bool true) w:=by kernel_rfl
def A36(k:Value)(w:World):(ReflectliteValue.unpack (.iface 129 (.agg #[k]))).run prog w
  =.ok (.agg #[.pointer (some ⟨4,129,none⟩),.pointer (some ⟨w.heap.size,0,none⟩),.int .u64 153]) (w.alloc (.cells #[k] 129)):=by kernel_rfl
def A94(w:World):(Rtype.elem? 131).run prog w=.ok (some 129) w:=by kernel_rfl
def Bmn(p:Addr)(w:World):(ReflectliteValue.mk 129 p ReflectliteValue.flagAddr).run prog w=.ok (.agg #[.pointer (some ⟨4,129,none⟩),.pointer (some p),.int .u64 409]) w:=by kernel_rfl
def Bfp(a p:Addr)(W:World)(c:W.cell? a=some (.pointer (some p))):
  (ReflectliteValue.method (ReflectliteValue.valueError "reflectlite.Value.Elem" 0) ReflectliteValue.elem #[.agg #[.pointer (some ⟨4,131,none⟩),.pointer (some a),.int .u64 150]]).run prog W
   =.ok (.agg #[.pointer (some ⟨4,129,none⟩),.pointer (some p),.int .u64 409]) W:=by
 rw[rlm];simp only[Sem.run_bind,Az8,Result.andThen];simp[ReflectliteValue.elem,loadVar,isAgg,underlying,underlying131,c,Result.andThen,A94,Bmn]
def rls(v x:Value):ReflectliteValue.set #[v,x]=(do
  let(some (dst,a,fl),some (src,b,_)):=(<-ReflectliteValue.parts v,<-ReflectliteValue.parts x)
   |unsupported (.noEntry "extern/(internal/reflectlite.Value).Set.zeroValue")
  if fl/ReflectliteValue.flagAddr%2==0 then unsupported (.noEntry "extern/(internal/reflectlite.Value).Set.unaddressable")
  let val <-loadVar src b
  if <-Rtype.directlyAssignable dst src then storeVar dst a val
  else if <-Rtype.implements dst src then
   if(<-Rtype.kind src)==20 then
    match val with
    |.nilIface=>unsupported (.noEntry "extern/reflectlite: a nil value of one interface type handed on as a value of another")
    |_=>storeVar dst a val
   else storeVar dst a (.iface src val)
  else panicString ("reflectlite.Set: value of type " ++(<-Rtype.spelt src)++ " is not assignable to type " ++(<-Rtype.spelt dst))
  pure (.tuple #[])):=rfl
def A95(a:Addr)(w:World):(ReflectliteValue.parts (.agg #[.pointer (some ⟨4,129,none⟩),.pointer (some a),.int .u64 409])).run prog w=.ok (some (129,a,409)) w:=by kernel_rfl
def Bfq(a:Addr)(w:World):(ReflectliteValue.parts (.agg #[.pointer (some ⟨4,129,none⟩),.pointer (some a),.int .u64 153])).run prog w=.ok (some (129,a,153)) w:=by kernel_rfl
def A96(w:World):(Rtype.directlyAssignable 129 129).run prog w=.ok true w:=by kernel_rfl
def Bjm(w:World):(sizeOf 129).run prog w=.ok 1 w:=by kernel_rfl
def Bjn(b:Addr)(e:Value)(W:World)(c:W.cell? b=some e):(loadVar 129 b).run prog W=.ok (.agg #[e]) W:=by
 simp[loadVar,isAgg,underlying,underlying129,Result.andThen,loadCells,loadCellsFrom,Addr.add,c]
def Az9(c:Addr)(k:Int)(d:Value)(W:World)(f:W.cell? c=some d)(e:W.frozen? c=false):(storeVar 129 c (.agg #[.int .i64 k])).run prog W=.ok () (W.setCell c (.int .i64 k)):=by
 simp only[storeVar,Value.cells,Sem.run_bind,Bjm,Result.andThen];simp[storeCells,Addr.add];rw[run_store prog W c _ _ (by rfl)];simp[f,e]
def Blj(c b:Addr)(k:Int)(d:Value)(W:World)(g:W.cell? b=some (.int .i64 k))(f:W.cell? c=some d)(e:W.frozen? c=false):
  (ReflectliteValue.set #[.agg #[.pointer (some ⟨4,129,none⟩),.pointer (some c),.int .u64 409],.agg #[.pointer (some ⟨4,129,none⟩),.pointer (some b),.int .u64 153]]).run prog W
   =.ok (.tuple #[]) (W.setCell c (.int .i64 k)):=by
 rw[rls];simp only[Sem.run_bind,A95,Bfq,Result.andThen];simp[ReflectliteValue.flagAddr,Bjn b (.int .i64 k) W g,Result.andThen,A96,Az9 c k d W f e]
def Bjo(k:Int)(t:Addr)(e:Value)(w:World)(j:w.cell? ⟨0,0,none⟩=some (.iface 241 (.agg #[.pointer (some ⟨4,125,none⟩)])))(c:w.cell? t=some e)(f:w.frozen? t=false):
  Calls prog 42 #[.iface 129 (.agg #[.int .i64 k]),.iface 131 (.pointer (some t))] w λev w'=>ev=.returned (.bool true)/\w'=((((w.alloc (.cells #[.pointer (some t)] 131)).alloc (.cells #[.pointer (some ⟨4,131,none⟩),.pointer (some ⟨w.heap.size,0,none⟩),.int .u64 150] 171)).alloc (.cells #[.pointer (some ⟨4,131,none⟩),.pointer (some ⟨w.heap.size,0,none⟩),.int .u64 150] 171)).alloc (.cells #[.int .i64 k] 129)).setCell t (.int .i64 k):=by
 have h6:= @run_callFunc_extern prog 74 _ (λargs=>ReflectliteValue.unpack (args.getD 0 (.tuple #[]))) func74 kr kr kr kr;have h7:= @run_callFunc_extern prog 75 _ (ReflectliteValue.methodAny (ReflectliteValue.valueError "reflectlite.Value.Type" 0) (λt _ _ _=>ReflectliteType.toType t)) func75 kr kr kr kr;have h8:= @run_callFunc_extern prog 76 _ (ReflectliteValue.method (ReflectliteValue.valueError "reflectlite.Value.IsNil" 0) ReflectliteValue.isNil) func76 kr kr kr kr;have y:= @run_callFunc_extern prog 386 _ (ReflectliteType.abiMethod λt=>do pure (.int .u8 (<-Rtype.kind t))) func386 kr kr kr kr;have s:= @run_callFunc_extern prog 396 _ (ReflectliteType.method ReflectliteType.elem) func396 kr kr kr kr;have m:= @run_callFunc_extern prog 397 _ (ReflectliteType.relation "Implements" ReflectliteType.implements_) func397 kr kr kr kr;have ae:= @run_callFunc_extern prog 129 _ ReflectliteType.typeOf func129 kr kr kr kr;have ab:= @run_callFunc_extern prog 394 _ (ReflectliteType.relation "AssignableTo" ReflectliteType.assignableTo) func394 kr kr kr kr;have x:= @run_callFunc_extern prog 130 _ (ReflectliteValue.method (ReflectliteValue.valueError "reflectlite.Value.Elem" 0) ReflectliteValue.elem) func130 kr kr kr kr;have o:= @run_callFunc_extern prog 131 _ ReflectliteValue.set func131 kr kr kr kr;have tO:=A93;have mA:=Aav;have aa:=Aqf;have n:=A36;have f6:=A35;have f7:=Bji;have mK:=Axn;have mE:=Axo;have mI:=Aey;have ad:=Bjj;have z:=Bjk;have u:=Bjl;have r:=Aqe;have n8:=Bfo ⟨w.heap.size,0,none⟩ t ((w.alloc (.cells #[.pointer (some t)] 131)).alloc (.cells #[.pointer (some ⟨4,131,none⟩),.pointer (some ⟨w.heap.size,0,none⟩),.int .u64 150] 171)) sm
 have g:0<w.heap.size:=by
  rcases Eu w.heap.size with h0|h
  .simp[World.cell?,h0]at j
  .exact h
 have l:((w.alloc (.cells #[.pointer (some t)] 131)).alloc (.cells #[.pointer (some ⟨4,131,none⟩),.pointer (some ⟨w.heap.size,0,none⟩),.int .u64 150] 171)).cell? ⟨0,0,none⟩=some (.iface 241 (.agg #[.pointer (some ⟨4,125,none⟩)])):=by
  rw[World.cell?_alloc_lt _ _ ⟨0,0,none⟩ sm,World.cell?_alloc_lt _ _ ⟨0,0,none⟩ g];exact j
 have d:t.block<w.heap.size:=by
  rcases Cz t.block w.heap.size with h|h
  .exact h
  .simp[World.cell?,Dp h]at c
 have el:=Bfp ⟨w.heap.size,0,none⟩ t (((w.alloc (.cells #[.pointer (some t)] 131)).alloc (.cells #[.pointer (some ⟨4,131,none⟩),.pointer (some ⟨w.heap.size,0,none⟩),.int .u64 150] 171)).alloc (.cells #[.pointer (some ⟨4,131,none⟩),.pointer (some ⟨w.heap.size,0,none⟩),.int .u64 150] 171)) (by rw[World.cell?_alloc_lt _ _ ⟨w.heap.size,0,none⟩ (by simp;try omega)];simp)
 have st:=Blj t ⟨w.heap.size+1+1+1,0,none⟩ k e ((((w.alloc (.cells #[.pointer (some t)] 131)).alloc (.cells #[.pointer (some ⟨4,131,none⟩),.pointer (some ⟨w.heap.size,0,none⟩),.int .u64 150] 171)).alloc (.cells #[.pointer (some ⟨4,131,none⟩),.pointer (some ⟨w.heap.size,0,none⟩),.int .u64 150] 171)).alloc (.cells #[.int .i64 k] 129))
  (by rw[World.cell?_alloc_at _ _ _ _ (by simp)];rfl)
  (by rw[World.cell?_alloc_lt _ _ t so,World.cell?_alloc_lt _ _ t so,World.cell?_alloc_lt _ _ t so,World.cell?_alloc_lt _ _ t d];exact c)
  (by rw[World.frozen?_alloc_old _ _ t so,World.frozen?_alloc_old _ _ t so,World.frozen?_alloc_old _ _ t so,World.frozen?_alloc_old _ _ t (Nat.ne_of_lt d)];exact f)
 go_enter func42,ntmps42
 go_wp2
 refine wp_loop_rounds 1 ?_;rw[rounds_succ]
 go_wp2
 go_ret
 exact⟨rfl,rfl⟩
theorem two{xs:List Value}(h:xs.length=2):∃a b,xs=[a,b]:=by
 match xs,h with
 |[a,b],_=>exact⟨a,b,rfl⟩
theorem Axp(t:V):U5 gv prog 42 [.nili,t] [] (fun r q=>r=.bool false/\q=[]):=by
 intro B N μ nx xs hG g j c;obtain⟨l,n,rfl⟩:=two g;have⟨_,h⟩:=c.env 0 .nili Gi
 have h1:l=.nilIface:=by
  simp at h;cases h with
  |pur h=>cases h;rfl
 rw [h1];refine(Bjh n B.w).mono ?_;rintro e w'⟨rfl,rfl⟩;refine⟨_,_,[],nx,μ,rfl,⟨rfl,rfl⟩,A2 _,⟨j.symm▸rfl,rfl,c.below,c.n0,c.fresh,fun d o k=>by simp [Eng.get]at k,fun d o _ _ _ _ _ k=>by simp [Eng.get]at k,fun t v f=>?_⟩⟩;simp only [Eng.get]at f
 split at f
 ·rename_i m;subst m;cases f;exact⟨by show(0:Nat)<1;omega,.pur (.bool _)⟩
 ·cases f
theorem Axq(d v:Nat)(j k:Int):U5 gv prog 42 [.ifc 129 (.agg [.int .i64 k]),.ifc 131 (.bp d v 1 0 0)] [(d,⟨v,1,129,[.agg [.int .i64 j]]⟩)] (fun r q=>r=.bool true/\q=[(d,⟨v,1,129,[.agg [.int .i64 k]]⟩)]):=by
 intro B N μ nx xs hG ai am f;obtain⟨x0,x1,rfl⟩:=two ai;have⟨_,h0⟩:=f.env 0 (.ifc 129 (.agg [.int .i64 k])) Gi;have⟨_,h1⟩:=f.env 1 (.ifc 131 (.bp d v 1 0 0)) Gi;simp at h0 h1
 have e0:x0=.iface 129 (.agg #[.int .i64 k]):=by
  cases h0 with
  |pur h0=>cases h0 with
   |ifc _ y _ _ hy=>cases hy with
    |agg ys cs hl hc hh=>
     match ys,hl with
     |[y0],_=>
      have:=hh 0 y0 _ rfl rfl;cases this
      rfl
  |ifc _ y _ hc _=>simp [V.isCell]at hc
 obtain⟨g,m,hm,e1⟩:∃g m,μ d v=some (some (g,m))/\x1=.iface 131 (.pointer (some ⟨g,0,none⟩)):=by
  cases h1 with
  |pur h1=>cases h1 with
   |ifc _ y _ hf hy=>cases hy
  |ifc _ y _ hc hy=>cases hy with
   |pur hy=>cases hy
   |bp _ _ _ _ _ g m hm=>exact⟨g,m,hm,by simp⟩
 have⟨l,hl,an⟩:=f.objs d ⟨v,1,129,[.agg [.int .i64 j]]⟩ gt;rw [hm]at hl;cases hl;have⟨o1,o2,o3,o4,aq,o5,o6,o7⟩:=an;have⟨ad,ae,_⟩:=o7 0 (.agg [.int .i64 j]) 0 (.int .i64 j) rfl rfl
 have h:B.w.cell? ⟨g,0,none⟩=some ad:=by
  simp only [My,Dn]at ae;simp [World.cell?,o5,ae]
 have af:B.w.frozen? ⟨g,0,none⟩=false:=by simp [World.frozen?,o5]
 rw [e0,e1];refine(Bjo k ⟨g,0,none⟩ ad B.w hG.here.2 h af).mono ?_;rintro e w'⟨rfl,ag⟩;generalize hW:(((B.w.alloc (.cells #[.pointer (some ⟨g,0,none⟩)] 131)).alloc (.cells #[.pointer (some ⟨4,131,none⟩),.pointer (some ⟨B.w.heap.size,0,none⟩),.int .u64 150] 171)).alloc (.cells #[.pointer (some ⟨4,131,none⟩),.pointer (some ⟨B.w.heap.size,0,none⟩),.int .u64 150] 171)).alloc (.cells #[.int .i64 k] 129)=W at ag
 have z:Below B.w.heap.size B.w W:=by
  subst hW;exact((((Below.refl _ _).alloc (A2 _) _).alloc sm _).alloc so _).alloc so _
 have ah:=f.block_lt (d:=d) (o:=⟨v,1,129,[.agg [.int .i64 j]]⟩) gt hm
 have ab:W.cell? ⟨g,0,none⟩=some ad:=by
  unfold World.cell? at h|-;rw [z.block g ah];exact h
 have ak:W.frozen? ⟨g,0,none⟩=false:=by
  unfold World.frozen? at af|-;rw [z.block g ah];exact af
 have⟨w2,aj,ao⟩:=Alh (P:=prog) (f.later z) (t:=129) (d:=d) (v:=v) (k:=0) (off:=0) (n:=1) (x:=.pointer (some ⟨g,0,none⟩)) (y:=.agg #[.int .i64 k]) (u:=.agg [.int .i64 k]) (e:=.agg [.int .i64 j]) (o:=⟨v,1,129,[.agg [.int .i64 j]]⟩)
  (by have:=Enc.bp (w:=W) (N:=Fp N μ ⟨Nb 0 [.ifc 129 (.agg [.int .i64 k]),.ifc 131 (.bp d v 1 0 0)],[(d,⟨v,1,129,[.agg [.int .i64 j]]⟩)],nx,2⟩) d v 1 0 0 g m hm;simpa using this) (.pur (.agg [.int .i64 k] [.int .i64 k] rfl (fun c hc=>by simp at hc;subst hc;rfl) (fun i x c h1 h2=>by
   match i,h1,h2 with
   |0,h1,h2=>simp at h1 h2;subst h1 h2;exact .int _ _
   |i+1,h1,h2=>simp at h1))) sm gt rfl rfl rfl om rfl Gi
 have Sk:w2=w':=by
  have h5:=Az9 ⟨g,0,none⟩ k ad W ab ak;simp [Instr.storeAt,Instr.sureAddr,h5]at aj;rw [ag,<-aj]
 subst Sk
 have aa:∀d1 o1,Eng.get [(d,(⟨v,1,129,[.agg [.int .i64 k]]⟩:Ob))] d1=some o1->Eng.get ((d,(⟨v,1,129,[.agg [.int .i64 k]]⟩:Ob)):: [(d,⟨v,1,129,[.agg [.int .i64 j]]⟩)]) d1=some o1:=by
  intro d1 o1 h1;simp only [Eng.get]at h1|-
  split at h1
  ·rename_i e;simp [e];injection h1
  ·cases h1
 have s:RelM (fun _=>False) B N μ {(⟨Nb 0 [.ifc 129 (.agg [.int .i64 k]),.ifc 131 (.bp d v 1 0 0)],[(d,⟨v,1,129,[.agg [.int .i64 j]]⟩)],nx,2⟩:AS)with objs:=(d,⟨v,1,129,[.agg [.int .i64 k]]⟩):: [(d,⟨v,1,129,[.agg [.int .i64 j]]⟩)]} ⟨[.iface 129 (.agg #[.int .i64 k]),.iface 131 (.pointer (some ⟨g,0,none⟩))].toArray,[]⟩ w2:=by
  rw [<-e0,<-e1];simpa [V.setPart,List.set]using ao
 refine⟨_,_,[(d,⟨v,1,129,[.agg [.int .i64 k]]⟩)],nx,μ,rfl,⟨rfl,rfl⟩,A2 _,⟨am.symm▸rfl,rfl,s.below,s.n0,s.fresh,fun d1 o1 hd=>?_,fun d1 o1 d2 o2 g1 c1 c2 h1 h2=>s.inj d1 o1 d2 o2 g1 c1 c2 (aa _ _ h1) (aa _ _ h2),fun t v hv=>?_⟩⟩
 ·have⟨l,h5,h6⟩:=s.objs d1 o1 (aa _ _ hd);refine⟨l,h5,h6.keep (Ex.refl _ _) (fun b _ hb=>?_) (fun _ _ _ hh=>hh) (fun _ _ _=>rfl)⟩
  rcases hb with hb|⟨d2,o2,c2,h7,h8⟩
  ·exact .inl hb
  ·exact .inr ⟨d2,o2,c2,aa _ _ h7,h8⟩
 ·simp only [Eng.get]at hv
  split at hv
  ·rename_i ht;subst ht;cases hv;exact⟨by show(0:Nat)<1;omega,.pur (.bool _)⟩
  ·cases hv
def Uu(l:List UInt8)(c:Nat)(n:Int):Except Int (Nd×Nat×Nat):=
 if 300<=n then .error 5 else
 if l.length<4 then .error 4 else
 if 2000<Hl (l.take 4)then .error 5 else
 if l.length<4+Hl (l.take 4)+8 then .error 4 else
 if(Hl ((l.drop (4+Hl (l.take 4))).take 8):Int)≠chn c (l.take (4+Hl (l.take 4)))then .error 12 else
 match Zu ((l.drop 4).take (Hl (l.take 4))) 4 8 0 with
 |.ok (x,a)=>if a=Hl (l.take 4)then .ok (x,4+Hl (l.take 4)+8,(chn c (l.take (4+Hl (l.take 4)))).toNat)else .error 2
 |.error _=>.error 2
def Auf:Except Int (Nd×Nat×Nat)->V
 |.ok (x,a,s)=>.tup [x.v,.i a,.int .u64 s,.nili]
 |.error e=>.tup [(Nd.mk 0 0 0 [] []).v,.i 0,.int .u64 0,.ifc 129 (.agg [.i e])]
def Rl(p:Nat)(l:List UInt8):0<=chn p l/\chn p l<2^64:=by
 have d:∀(l:List UInt8)(h:Int),0<=h/\h<2^64->0<=dig h l/\dig h l<2^64:=by
  intro l
  induction l with
  |nil=>intro h e;exact e
  |cons c l ih=>intro h _;exact ih _ (Axg h c)
 exact d _ _ (d _ _ (by unfold Afw;omega))
def Aaw(e:Int):Bh (.tup [.agg [.i 0,.i 0,.i 0,.str [],.nils],.i 0,.int .u64 0,.ifc 129 (.agg [.i e])]) (Auf (.error e)):=by
 unfold Auf;simp only[Nd.v,Ci];exact Bh.tup (.cons (Bh.agg (.cons (.refl _) (.cons (.refl _) (.cons (.refl _) (.cons (.refl _) (.cons (.nils 5) .nil)))))) (.refl _))
def Agp{d:Int}(f:e≠0):∀ {k i x c:Nat},rdV bs e k i x c=.error d->d≠0
 |0,_,_,_,h=>by simp only[rdV,Except.error.injEq]at h;omega
 |k+1,i,x,c,h=>by
  rw[rdV]at h
  split at h
  .injection h with h;omega
  .split at h
   .injection h with h;omega
   .split at h
    .cases h
    .exact Agp f h
def A0a{f:Int}(g:e≠0)(h:rdC bs e c d=.error f):f≠0:=by
 unfold rdC at h
 split at h
 .rename_i j;cases h;exact Agp g j
 .split at h
  .injection h with h;omega
  .cases h
def A0b{f:Nat->Except Int (Nd×Nat)}(e:∀a c,f a=.error c->c≠0){c:Int}:∀ {n a:Nat},rdL f n a=.error c->c≠0
 |0,a,h=>by simp[rdL]at h
 |n+1,a,h=>by
  rw[rdL]at h
  split at h
  .rename_i d;cases h;exact e _ _ d
  .split at h
   .rename_i d;cases h;exact A0b e d
   .cases h
def A0c(d:e≠0):∀ {lv:Nat}(a:Nat)(f:Int),Zu bs e lv a=.error f->f≠0
 |0,a,f,h=>by simp only[Zu,Except.error.injEq]at h;omega
 |lv+1,a,f,h=>by
  rw[Zu]at h
  split at h
  .rename_i c;cases h;exact Agp d c
  split at h
  .injection h with h;omega
  split at h
  .injection h with h;omega
  split at h
  .split at h
   .rename_i c;cases h;exact Agp d c
   .cases h
  split at h
  .split at h
   .rename_i c;cases h;exact A0a d c
   .split at h
    .cases h
    .injection h with h;omega
  split at h
  .split at h
   .rename_i c;cases h;exact A0a d c
   .split at h
    .rename_i c;cases h;exact A0b (A0c d) c
    .cases h
  .injection h with h;omega
def A97(l:List UInt8)(c:Nat)(n:Int)(hs:c<2^64):AE 41 [.ro 1 (F6 l),.int .u64 c,.i n] (Auf (Uu l c n)):=by
 refine AC.relaxP ?_;have hl:=Tt l;have hp:=Gg l;have ag:=Axi (l.take 4);have aa:=Axi ((l.drop (4+Hl (l.take 4))).take 8);have hc:=Aua c hs (l.take (4+Hl (l.take 4)));have hd:=λh=>A34 ((l.drop 4).take (Hl (l.take 4))) h
 have e1:F6 (l.take 4)=(F6 l).take 4:=sm;have e2:F6 ((l.drop (4+Hl (l.take 4))).take 8)=((F6 l).drop (4+Hl (l.take 4))).take 8:=sm;have e3:F6 (l.take (4+Hl (l.take 4)))=(F6 l).take (4+Hl (l.take 4)):=sm;have e4:F6 ((l.drop 4).take (Hl (l.take 4)))=((F6 l).drop 4).take (Hl (l.take 4)):=sm;rw[e1]at ag;rw[e2]at aa;rw[e3]at hc;simp only[e4]at hd;clear e1 e2 e3 e4;unfold Uu;generalize hS:Hl (l.take 4)=sz at*;generalize hC:chn c (l.take (4+sz))=ch at*;have aq:0<=ch/\ch<2^64:=by rw[<-hC];exact Rl _ _
 generalize hK:Hl ((l.drop (4+sz)).take 8)=ck,au:F6 l=lv at*;refine Ai func41 λw0 N0=>?_;refine Y [0,1,2,6] [6] sr (J (Y [0,1,6,17] [6] sr ?_))
 refine A1 (λh1=>?_) λh1=>?_
 .have j:300<=n:=by simp at h1;exact h1
  rw[Ab j];exact Y [6,7,8,9] [6] sr (Aj (Aa sr (Aaw _)))
 have j:¬300<=n:=sO h1
 rw[I j];refine J (Y [0,1,6,23] [6] sr ?_)
 refine A1 (λh2=>?_) λh2=>?_
 .have w:l.length<4:=by simp at h2;omega
  rw[Ab w];exact Y [6,7,8,9] [6] sr (Aj (Aa sr (Aaw _)))
 have w:¬l.length<4:=sO h2
 rw[I w];have aj:(4:Int)<=lv.length:=om;refine Au 2 (by simp[aj]<;>rfl) ?_;refine Aw ag func71 ?_ (hp:=by simp[hp]);refine Ak [0,1,6,10] [6] sr ?_;refine J (A5 [31] sr ?_)
 refine A1 (λh3=>?_) λh3=>?_
 .have o:2000<sz:=by simp at h3;omega
  rw[Ab o];refine Y [6,7,8,9] [6] sr ?_;exact Aj (Aa sr (Aaw _))
 have o:¬2000<sz:=sO h3
 rw[I o];have Ec:IntKind.i64.wrap (sz:Int)=sz:=Cu om om;obtain⟨en,al,an⟩:∃en:Int,IntKind.i64.wrap (4+(sz:Int))=en/\en=((4+sz:Nat):Int):=⟨_,rfl,by rw[Cu om oM];omega⟩;obtain⟨k,z,ad⟩:∃k:Int,IntKind.i64.wrap (en+8)=k/\k=((4+sz+8:Nat):Int):=⟨_,rfl,by rw[Cu om oM];omega⟩;have f:en.toNat=4+sz:=om;have ae:k.toNat=4+sz+8:=om;refine Y [0,1,6,10,11] [6] (by simp[Ec,al]<;>rfl) (J (A5 [42] (by simp[z]<;>rfl) ?_))
 refine A1 (λh4=>?_) λh4=>?_
 .have t:l.length<4+sz+8:=by simp at h4;omega
  rw[Ab t];refine Y [6,7,8,9] [6] sr ?_;exact Aj (Aa sr (Aaw _))
 have t:¬l.length<4+sz+8:=sO h4
 rw[I t];have m:0<=en/\en<=lv.length:=om;have ak:en<=k/\k<=lv.length:=om;have am:(4:Int)<=en:=om;have ai:AE 72 [.int .u64 c,.ro 1 (lv.take en.toNat)] (.int .u64 ch):=by rw[f];exact hc
 have af:AE 71 [.ro 1 ((lv.drop en.toNat).take (k.toNat-en.toNat))] (.int .u64 ck):=by rw[f,ae,show 4+sz+8-(4+sz)=8 by omega];exact aa
 have g:AE 73 [.ro 1 ((lv.drop 4).take (en.toNat-4))] (Bfn ((l.drop 4).take sz)):=by rw[f,show 4+sz-4=sz by omega];exact hd so
 refine Au 4 (by simp[m]<;>rfl) ?_;refine Aw ai func72 ?_ (hp:=by simp[hp]);refine Ak [0,6,10,11,12] [6] sr ?_;refine J (Au 5 (by simp[z,m,ak]<;>rfl) ?_);refine Aw af func71 ?_ (hp:=by simp[hp]);refine Ak [0,6,10,11,12,58] [6] sr ?_
 refine A1 (λh5=>?_) λh5=>?_
 .have u:(ck:Int)≠ch:=sG h5
  rw[Ab u];refine Y [6,7,8,9] [6] sr ?_;exact Aj (Aa sr (Aaw _))
 have u:¬(ck:Int)≠ch:=sG h5
 rw[I u];refine Au 3 (by simp[m,am]<;>rfl) ?_;unfold Bfn at g;cases hx:Zu ((l.drop 4).take sz) 4 8 0 with
 |error er=>
  have e:AE 73 [.ro 1 ((lv.drop 4).take (en.toNat-4))] (.tup [.agg [.i 0,.i 0,.i 0,.str [],.ro 5 []],.i 0,.i er]):=by
   rw[hx]at g;simpa only[Nd.v,Ci]using g
  refine Aw e func73 ?_ (hp:=by simp[hp]);refine Ak [6,10,11,12,13,14,15] [6,13] sr ?_;have ah:=A0c om _ _ hx;refine J (Y [6,11,12,13,77] [6,13] (by simp[Ec,ah]<;>rfl) ?_);refine Ek ?_;refine Y [6,7,8,9] [6] sr ?_;exact Aj (Aa sr (Aaw _))
 |ok p=>
  have⟨x,a⟩:=p
  have e:AE 73 [.ro 1 ((lv.drop 4).take (en.toNat-4))] (.tup [x.v,.i a,.i 0]):=by
   rw[hx]at g;exact g
  have ab:∀d:List Nd,(d.map Nd.v).all V.pureE=true:=Qn;rcases hxx:x with⟨xt,xk,xn,xs,d⟩;have s:x.v=.agg [.i xt,.i xk,.i xn,.str xs,.ro 5 (d.map Nd.v)]:=by rw[hxx,Nd.v]
  rw[s]at e;have ab:=Qn d;generalize ao:d.map Nd.v=ar at e ab s;refine Aw e func73 ?_ (hp:=by simp[hp]);refine Ak [6,10,11,12,13,14,15] [6,13] sr ?_;refine J (Y [6,11,12,13,77] [6,13] (by simp[Ec]<;>rfl) ?_)
  refine A1 (λh6=>?_) λh6=>?_
  .have y:¬a=sz:=by simp at h6;omega
   refine Y [6,7,8,9] [6] sr ?_;refine Aj (Aa sr ?_);simp only[I y];exact Aaw _
  have y:a=sz:=sO h6
  refine Y [6,7,8,9] [6] (by simp[z]<;>rfl) ?_;refine Aj (Aa sr ?_);simp only[Ab y];unfold Auf;simp only[<-hxx,s,ad];rw[show((ch.toNat:Nat):Int)=ch by omega];exact .refl _
variable {s:Nat}
def rdJ(l:List UInt8):Nat->Nat->Nat->List Nd->List Nd×Nat×Int
 |0,c,_,d=>(d,c,5)
 |f+1,c,s,d=>if l.length<=c then(d,c,0)else match Uu (l.drop c) s d.length with
  |.error e=>(d,c,e)
  |.ok (x,k,s')=>rdJ l f (c+k) s' (d++[x])
def Iz(l:List UInt8):List Nd×Nat×Int:=rdJ l 301 0 14695981039346656037 []
def jV(r:List Nd×Nat×Int):V:=.tup [.ro 5 (r.1.map Nd.v),.i r.2.1,.i r.2.2]
def Aqg{n:Int}{x:Nd}(h:Uu l c n=.ok (x,k,s)):n<300/\12<=k/\k<=l.length/\k<=2012/\s<2^64:=by
 unfold Uu at h
 split at h
 .cases h
 split at h
 .cases h
 split at h
 .cases h
 split at h
 .cases h
 split at h
 .cases h
 split at h
 .split at h
  .injection h with h;injection h with h1 h2;injection h2 with h2 h3;have:=Rl c (l.take (4+Hl (l.take 4)));omega
  .cases h
 .cases h
def Aug(l:List UInt8)(aw:l.length<=2^40):Jp gv prog 22 [.ro 1 (F6 l)] (λr=>r=jV (Iz l)):=by
 have hp:=Gg l;have hl:=Tt l;have ab:∀k,F6 (l.drop k)=(F6 l).drop k:=by intro k;simp
 have t:∀(k s:Nat)(n:Int),s<2^64->AC prog 41 [.ro 1 ((F6 l).drop k),.int .u64 s,.i n] (λr=>r=Auf (Uu (l.drop k) s n)):=by
  intro k s n hs;rw[<-ab];exact A97 _ _ _ hs
 clear ab;generalize a0:F6 l=lv at hp hl t;refine Bp func22 λw0 N0 hG=>?_;refine Y [0] [] sr (Y [0,5] [] sr (J (Cb (Ef At9 func40 rfl kr rfl rfl rfl rfl rfl sr ?_))));refine Ak [0,5,6,7] [] sr (Fg 5 100 5 94 [0,5,6,7] [100] sr sr ?_);refine J (Ad ?_)
 refine Gn (λp:Nat×Nat×List Nd×Nat×Nat=>[(5,.sl 100 p.2.2.2.1 5 (p.2.2.1.map Nd.v).length),(6,.i p.1),(7,.int .u64 p.2.1)]) (λp=>[(100,⟨p.2.2.2.1,5,94,p.2.2.1.map Nd.v⟩)]) (λp=>p.2.2.2.2)
  (λp=>p.2.2.1.length<=300/\p.1<=l.length/\p.2.1<2^64/\rdJ l (301-p.2.2.1.length) p.1 p.2.1 p.2.2.1=Iz l) (λp=>301-p.2.2.1.length) (0,14695981039346656037,[],_,_) ⟨by simp,by simp,by simp,rfl⟩ (by simp[Afw];exact Z) ?_
 rintro⟨d,h,e,vr,nx⟩⟨af,ag,j,g⟩;simp only at af ag j g;have f:=Qn e;have ae:(e.map Nd.v).length=e.length:=sm;obtain⟨m,hm⟩:∃m,301-e.length=m+1:=⟨300-e.length,by omega⟩;rw[hm,rdJ]at g;simp only;generalize aa:e.map Nd.v=av at f ae;have an:av.length+1<=maxLen:=by simp[maxLen];omega
 have aq:(av.length+1)*64<=140737488355328:=om;refine J (Y [0,5,6,7,17] [100] sr ?_)
 refine Bk (λh1=>?_) λh1=>?_
 .have u:¬l.length<=d:=by simp at h1;omega
  rw[I u]at g;have ao:(d:Int)<=lv.length:=om;have al:lv.length-d=(lv.drop d).length:=sm
  have c:AC prog 41 [.ro 1 ((lv.drop d).take (lv.length-d)),.int .u64 h,.i av.length] (λr=>r=Auf (Uu (l.drop d) h e.length)):=by
   rw[al,Bb,ae];exact t d h _ j
  refine Ad (Au 6 (by simp[ao]<;>rfl) ?_);cases hx:Uu (l.drop d) h e.length with
  |error er=>
   rw[hx]at g c;simp only at g;simp only[Auf,Nd.v,Ci]at c;refine Ge [0,5,6,8,9,10,11] [8,100] c func41 ?_;refine Y [0,5,6,8,9,10,11,12] [8,12,100] sr (J (Au 2 sr ?_));refine Np hG (Axq 12 (nx+21) 0 er) func42 rfl kr rfl rfl rfl sr (λk o hk=>B2 gt hk) λr ad y hr ai=>?_;obtain⟨rfl,rfl⟩:=hr;refine⟨λk hk=>by simp_all[Eng.get],_,by simp<;>rfl,?_⟩;refine Ak [5,6,12,32] [12,100] sr ?_;refine Ek ?_;refine Bq 100 [5,6,12] [12] C1 ?_;refine I3 [0,3,4,2,3,1,6,1] [2,3,4] [] sr sr ?_;refine Aj (Aa sr ?_);rw[<-g,jV];simp[aa]
  |ok p=>
   have⟨x,k,s'⟩:=p;have⟨ax,az,ah,a1,ak⟩:=Aqg hx;rw[hx]at g c;simp only at g;simp only[D6]at ah;rcases hxx:x with⟨xt,xk,xn,xs,w⟩;have z:x.v=.agg [.i xt,.i xk,.i xn,.str xs,.ro 5 (w.map Nd.v)]:=by rw[hxx,Nd.v]
   simp only[Auf,z]at c;have aj:=Qn w;generalize au:w.map Nd.v=ay at c aj z;have ar:IntKind.i64.wrap ((d:Int)+k)=(d:Int)+k:=Cu om om;refine Ge [0,5,6,8,9,10,11] [8,100] c func41 ?_;refine Y [0,5,6,8,9,10,11,12] [8,12,100] sr (J (Au 2 sr ?_));refine Np hG (Axp _) func42 rfl kr rfl rfl rfl sr (λk o hk=>by simp[Eng.get]at hk) λr ad y hr ai=>?_;obtain⟨rfl,rfl⟩:=hr;refine⟨λk hk=>by simp_all[Eng.get],_,by simp<;>rfl,?_⟩;refine Ak [0,5,6,8,9,10,32] [8,100] sr ?_;refine Ce (Y [0,5,6,9,10] [100] (by simp[an,aq]<;>rfl) (Y [0,5,6,10] [100] (by simp[ar]<;>rfl) (A6 [0,5,6,7] [100] sr ?_)))
   refine⟨(d+k,s',e++[x],y+3+3,y+3+5+4+2),⟨by simp;omega,by simp only;omega,ak,?_⟩,by simp;omega,?_⟩
   .simp only[Aq,Ax,Bg];rw[show 301-(e.length+(0+1))=m by omega];exact g
   .have am:((d+k:Nat):Int)=(d:Int)+k:=om;simp only[am,Cg,aa,Br,Ci,z,Aq,Ax,Bg];exact Z
 .have u:l.length<=d:=by simp at h1;omega
  rw[Ab u]at g;refine A3 ?_;refine Bq 100 [5,6] [] C1 (Y [2,3,4] [] sr ?_);refine Aj (Aa sr ?_);rw[<-g,jV];simp[aa]
def Anv(l:List UInt8)(hl:l.length<=2^40):ACO prog 15 [.ro 1 (F6 l)] 1 5 (λF e=>(F=λd q=>.sl d q 1 (F6 l).length)/\e=F6 l):=by
 have g:=H7 l;have hp:=Gg l;have h:=Tt l;generalize F6 l=lv at g hp h;have f:lv.length<=maxLen:=by simp[maxLen];omega
 have c:lv.length<=140737488355328:=om;refine Kf func15 λw0 N0=>?_;refine Y [0] [] sr (J (Au 1 sr ?_));refine N4 rfl rfl sr rfl kr (λb k=>⟨_,by simp<;>rfl,?_⟩);refine Ak [0,4] [] sr ?_
 refine A1 (λh1=>?_) λh1=>?_
 .have j:=Fy (k h1);subst j;refine Y [2] [] sr (Fg 2 5 1 5 [2] [5] sr sr ?_);exact Aj (Hv 5 rfl rfl rfl g sr ⟨rfl,rfl⟩)
 exact Y [2] [5] (by simp[f,c]<;>rfl) (Aj (Hv 5 rfl rfl rfl g sr ⟨rfl,rfl⟩))
def Ajs(l:List UInt8):0<=Xq l/\Xq l<2^64:=by
 unfold Xq
 split
 .unfold Afw;omega
 .have:=Az4 (l.drop (l.length-8));omega
def Lw(c:List UInt8):List UInt8:=Kl c.length 4++c
def Tv(a c:List UInt8):Nat:=(chn (Xq a).toNat (Lw c)).toNat
def Aax(a c:List UInt8):List UInt8:=a++Lw c++Kl (Tv a c) 8
def Aez(a c:List UInt8):List UInt8×Int:=
 if(Iz a).2.2≠0 then([],(Iz a).2.2)else
 if 2000<c.length\/300<=(Iz a).1.length then([],5)else(Aax a c,0)
def bcV(r:List UInt8×Int):V:=.tup [.ro 1 (F6 r.1),.i r.2]
def A98(c:Int):Bh (.tup [.nils,.i c]) (bcV ([],c)):=by
 unfold bcV;exact Bh.tup (.cons (.nils 1) (.refl _))
def Axr(a:List UInt8)(e:Jv)(hE:P1 e=0)(hl:a.length<=2^39):Jp gv prog 53 [.ro 1 (F6 a),(Nd.mk 50 3 0 [] (Ja e)).v] (λr=>r=bcV (Aez a (Oy (.mk 50 3 0 [] (Ja e))))):=by
 refine Jp.relaxP ?_;have f:=Aug a om;have o:=A90 e hE;have j:=Axl e hE;have g:=Qn (Ja e);rw[Nd.v]at o j|-;have k:=Gg a;have a0:=H7 a;have au:=Tt a;have aa:((Iz a).1.map Nd.v).length=(Iz a).1.length:=sm;have af:=Qn (Iz a).1;unfold jV at f;unfold Aez;generalize aw:(Iz a).1.map Nd.v=nv at f aa af;generalize(Iz a).1.length=nn at aa|-;generalize(Iz a).2.1=at_ at f;generalize(Iz a).2.2=cd at f|-;generalize(Ja e).map Nd.v=kv at o j g|-;generalize Oy (.mk 50 3 0 [] (Ja e))=c at j|-;have ax:=Gg c;have a3:=H7 c;have az:=Tt c;refine Bp func53 λw0 N0 hG=>?_;generalize u:F6 a=av,am:F6 c=ev at*;refine Y [0,3] [3] C1 (Au 1 sr ?_);refine Jk [0,3,6,8] [3] hG f func22 ?_;refine J (Y [0,3,6,8,19] [3] sr ?_)
 refine A1 (λh1=>?_) λh1=>?_
 .have s:cd≠0:=sG h1
  rw[Ab s];refine Y [4,5] [] sr ?_;exact Aj (Aa sr (A98 _))
 have s:¬cd≠0:=sG h1
 rw[I s];refine J (Au 1 sr ?_);refine Ef o func96 rfl kr rfl rfl rfl rfl sM sr ?_;refine Ak [0,3,6,23] [3] sr ?_;refine Ce (J (Cb (C3 1 sr ?_)));refine Ef j func97 rfl kr rfl rfl rfl rfl sM sr ?_;refine Ak [0,6,8,9] [] sr ?_;refine J (Y [0,6,8,9,30] [] sr ?_);refine Ce (J (Y [0,9,39] [] sr ?_))
 refine A1 (λh4=>?_) λh4=>?_
 .have t:2000<c.length\/300<=nn:=by simp at h4;omega
  rw[Ab t];refine Y [4,5] [] sr ?_;exact Aj (Aa sr (A98 _))
 have t:¬(2000<c.length\/300<=nn):=sO h4
 rw[I t];have Ec:IntKind.u64.wrap (ev.length:Int)=ev.length:=Tu om;have m:=Axj ev.length 4 om om;have ah:(F6 (Kl ev.length 4)).length=4:=by rw[Tt,J9]
 have h:F6 (Lw c)=F6 (Kl ev.length 4)++ev:=by rw[<-am,Tt];simp[Lw]
 generalize F6 (Kl ev.length 4)=pv at m ah h;have aj:pv.length+ev.length<=maxLen:=by simp[maxLen];omega
 have an:pv.length+ev.length<=140737488355328:=om;refine Au 3 (by simp[Ec]<;>rfl) ?_;refine K5 43 m func98 rfl kr rfl rfl rfl sr sr sr ?_;refine Ak [0,10] [43] (by simp[aj,an]<;>rfl) ?_;rw[<-h];have ao:(F6 (Lw c)).length=pv.length+ev.length:=by rw[h];simp
 have y:=Anv a om;rw[u]at y;have ay:=H7 (Lw c);have ab:=Gg (Lw c);have z:=Aua (Xq a).toNat (by have:=Ajs a;omega) (Lw c);have n:=Bfh a;rw[u]at n;have a2:=Ajs a;rw[show(((Xq a).toNat:Nat):Int)=Xq a by omega]at z;have a1:=Rl (Xq a).toNat (Lw c)
 have w:=Bfg (a++Lw c) (Tv a c) 8 (by unfold Tv;omega) om (by
  have:(Lw c).length=pv.length+ev.length:=by rw[<-ao,Tt]
  simp only[Aq];omega)
 have ak:((Tv a c:Nat):Int)=chn (Xq a).toNat (Lw c):=by unfold Tv;omega
 rw[ak]at w;have l:F6 (Aax a c)=F6 (a++Lw c)++F6 (Kl (Tv a c) 8):=by simp[Aax]
 have al:F6 (a++Lw c)=av++F6 (Lw c):=by simp[<-u]
 have ag:=Gg (Kl (Tv a c) 8);have ae:(F6 (a++Lw c)++F6 (Kl (Tv a c) 8)).all Ih=true:=by rw[<-l];exact H7 _
 have ad:=Gg (Aax a c);have ai:bcV (Aax a c,0)=.tup [.ro 1 (F6 (Aax a c)),.i 0]:=rfl;rw[ai];rw[l]at ad|-;rw[al]at w ae ad|-;have x:(pv++ev).length=pv.length+ev.length:=sm;rw[<-h]at x;generalize chn (Xq a).toNat (Lw c)=cs,F6 (Kl (Tv a c) 8)=sv,F6 (Lw c)=rv at*;have aq:av.length+rv.length<=maxLen:=by simp[maxLen];omega
 have ar:av.length+rv.length<=140737488355328:=om;rw[<-x];refine Au 1 sr ?_;refine K5 47 y func15 rfl kr rfl rfl rfl sr sR sr ?_;refine Ak [0,10,11] [43,47] (by simp[aq,ar]<;>rfl) ?_;refine Au 2 sr ?_;refine Aw n func99 ?_;refine C3 1 sr ?_;refine Aab z func72 rfl kr rfl rfl rfl sr (by simp[ab]<;>rfl) rfl sr ?_;refine Yf (d:=47) w ae func98 rfl kr (by show(5:Nat)<8;omega) rfl rfl rfl sr sr sr ?_;refine Ak [4,5] [47] sr ?_;exact Aj (Aa (by simp[results53,k,ab,ag]<;>rfl) (by simp only[B6];exact .refl _))
def wrR(a:List UInt8)(e:Jv):List UInt8×Int:=if P1 e≠0 then([],P1 e)else Aez a (Oy (.mk 50 3 0 [] (Ja e)))
def A37(a:List UInt8)(e:Jv)(n:a.length<=2^39):Jp gv prog 26 [.ro 1 (F6 a),e.v] (λr=>r=bcV (wrR a e)):=by
 refine Jp.relaxP ?_;have l:=Gg a;have g:=Anp e.ch;have c:=Anq e;unfold Axf Ajg at c;unfold Jv.v at*;unfold wrR;have f:P1 e=0->_ :=λd=>Axr a e d n
 generalize Pz e.ch=cv,F6 a=av at*
 by_cases d:P1 e=0
 .rw[I (sG d)];have h:=f d;rw[Ab d,d,Nd.v]at c;rw[Nd.v]at h;have k:=Qn (Ja e);generalize(Ja e).map Nd.v=kv at*;have j:=Gg (Aez a (Oy (.mk 50 3 0 [] (Ja e)))).1;unfold bcV at h|-;generalize F6 (Aez a (Oy (.mk 50 3 0 [] (Ja e)))).1=rv,(Aez a (Oy (.mk 50 3 0 [] (Ja e)))).2=rc at*;refine Bp func26 λw0 N0 m=>?_;refine Y [0,3] [3] sr (Au 1 sr ?_);refine Ef c func44 rfl kr rfl rfl rfl rfl sM sr (Ak [0,6,7] [6] sr ?_);refine J (Y [0,6,7,14] [6] sr ?_);refine Ce (J (Cb (C3 2 sr ?_)));refine Jk [4,5] [] m h func53 ?_;exact Aj (Aa C1 (.refl _))
 .rw[Ab (sG d)];rw[I d,zNd,Nd.v,Ci]at c;generalize P1 e=ec at*;refine Bp func26 λw0 N0 m=>?_;refine Y [0,3] [3] sr (Au 1 sr ?_);refine Ef c func44 rfl kr rfl rfl rfl rfl sM sr ?_;refine Ak [0,6,7] [6] sr ?_;refine J (Y [0,6,7,14] [6] sr ?_);refine Ek ?_;refine Y [4,5] [] sr ?_;exact Aj (Aa sr (A98 _))
def Aqh{c:UInt8}(h:bs.drop d=c::l):bs[d]?=some c/\bs.drop (d+1)=l:=by
 constructor
 .have:(bs.drop d)[0]?=some c:=by rw[h];rfl
  simpa using this
 .rw[<-Sb,h];rfl
def Adf{r:List UInt8}(h:bs.drop c=l++r):bs.drop (c+l.length)=r:=by
 rw[<-Sb,h];simp
def A0d:∀(k i x at_ y:Nat)(rest:List UInt8),i+k=10->y*128^i<2^64->(0<i->y≠0)->bs.drop at_=Kz y++rest->
  rdV bs e k i x at_=.ok (x+y*128^i,at_+(Kz y).length)
 |0,i,x,at_,y,rest,hk,hy,hn,hd=>by
  have hi:i=10:=om;subst hi;have:=hn om;have:1<=y:=om;have:1*128^10<=y*128^10:=By _ this;omega
 |k+1,i,x,at_,y,rest,hk,hy,hn,hd=>by
  have h9:i=9->y<=1:=by
   rintro rfl
   rcases Cz y 2 with h|h
   .omega
   .have:2*128^9<=y*128^9:=By _ h;omega
  rw[rdV]
  by_cases h:y<128
  .rw[Adc h]at hd|-;have⟨h1,h2⟩:=Aqh hd;have hc:(UInt8.ofNat y).toNat=y:=by simp;omega
   rw[h1];simp only[hc];rw[I (by rintro(⟨h3,h4⟩|⟨h3,h4⟩);have:=h9 h3;omega;exact hn h3 h4),Ab h];rfl
  .rw[Ago oM]at hd|-;have⟨h1,h2⟩:=Aqh hd;have hc:(UInt8.ofNat (y%128+128)).toNat=y%128+128:=by simp;omega
   rw[h1];simp only[hc];rw[I (by rintro(⟨h3,h4⟩|⟨h3,h4⟩);have:=h9 h3;omega;omega),I oM]
   have hsplit:y*128^i=y%128*128^i+y/128*128^(i+1):=by
    rw[Cd,<-B7,Sc,<-Ca]
    congr 1
    omega
   rw[A0d k (i+1) _ (at_+1) (y/128) rest om om om h2];simp only[Ax]
   congr 2
   .rw[show(y%128+128)%128=y%128 by omega];omega
   .omega
def Adg{at_ y:Nat}{rest:List UInt8}(hy:y<2^64)(h:bs.drop at_=Kz y++rest):rdV bs e 10 0 0 at_=.ok (y,at_+(Kz y).length):=by
 have:=A0d (e:=e) 10 0 0 at_ y rest rfl (sG hy) om h;simpa using this
def Xr(x:Nat):∀(n v:Nat),(Kl x n).foldl (λv c=>(v*256+c.toNat)%2^64) v%2^64=(v*256^n+x%256^n)%2^64
 |0,v=>by simp[Kl,Tf]
 |n+1,v=>by
  simp only[Kl,Ni];rw[Xr x n];have e:(UInt8.ofNat (x/256^n%256)).toNat=x/256^n%256:=sm;have d:∀M m p q:Nat,(m%M*p+q)%M=(m*p+q)%M:=by intro M m p q;simp[Nat.add_mod,Nat.mul_mod]
  rw[e,d,Nat.mod_pow_succ (b:=256)]
  congr 1
  rw[Cd,Ca];have:v*256*256^n=v*(256^n*256):=by rw[B7,Bf 256]
  have:256^n*(x/256^n%256)=x/256^n%256*256^n:=Bf _ _;omega
def Anw(x n:Nat)(c:x<256^n)(h:x<2^64):Hl (Kl x n)=x:=by
 have h1:=Xr x n 0;have h2:=Az4 (Kl x n);unfold Hl at h2|-;rw[Bl h2,Bl c,My,Dn,Bl h]at h1;exact h1
variable {s' sz:Nat}
def A99{n:Int}(h:Uu l s n=.error e):e≠0:=by
 unfold Uu at h
 repeat' split at h
 all_goals first|(injection h with h;omega)|cases h
def Vk{n:Int}{x:Nd}(h:Uu l s n=.ok (x,k,s')):
  n<300/\4<=l.length/\Hl (l.take 4)<=2000/\k=4+Hl (l.take 4)+8/\k<=l.length/\s'=Hl ((l.drop (4+Hl (l.take 4))).take 8)/\(s':Int)=chn s (l.take (4+Hl (l.take 4)))/\
   Zu ((l.drop 4).take (Hl (l.take 4))) 4 8 0=.ok (x,Hl (l.take 4)):=by
 unfold Uu at h
 split at h
 .cases h
 split at h
 .cases h
 split at h
 .cases h
 split at h
 .cases h
 split at h
 .cases h
 split at h
 .rename_i x' a d
  split at h
  .rename_i c;injection h with h;injection h with h1 h2;injection h2 with h2 h3;subst h1 c;rename_i h4 h5 h6 h7 h8;have:=Rl s (l.take (4+Hl (l.take 4)));refine⟨by omega,by omega,by omega,by omega,by omega,by omega,by omega,d⟩
  .cases h
 .cases h
def Ajt{n:Int}{x:Nd}(h1:n<300)(h2:Hl (l.take 4)=sz)(h3:sz<=2000)(h4:4+sz+8<=l.length)(d:(Hl ((l.drop (4+sz)).take 8):Int)=chn s (l.take (4+sz)))
  (c:Zu ((l.drop 4).take sz) 4 8 0=.ok (x,sz)):Uu l s n=.ok (x,4+sz+8,(chn s (l.take (4+sz))).toNat):=by
 unfold Uu;rw[I om,I om,h2,I om,I om,I (sG d),c];simp only[if_true]
def A38{m:List UInt8}{n:Int}{x:Nd}(h:Uu l s n=.ok (x,k,s')):Uu (l++m) s n=.ok (x,k,s'):=by
 have⟨h1,h2,o,e,h5,j,d,r⟩:=Vk h;have g:(l++m).take 4=l.take 4:=Cx om;have c:(l++m).take (4+Hl (l.take 4))=l.take (4+Hl (l.take 4)):=Cx om
 have t:((l++m).drop (4+Hl (l.take 4))).take 8=(l.drop (4+Hl (l.take 4))).take 8:=by
  rw[Gt om,Cx (by simp;omega)]
 have f:((l++m).drop 4).take (Hl (l.take 4))=(l.drop 4).take (Hl (l.take 4)):=by
  rw[Gt om,Cx (by simp;omega)]
 have:=Ajt (l:=l++m) (s:=s) (n:=n) (x:=x) (sz:=Hl (l.take 4)) h1 (by rw[g]) o so (by rw[c,t,<-d,j]) (by rw[f];exact r);rw[this,c,<-d,e];simp
inductive Run(l:List UInt8):Nat->Nat->List Nd->Prop
 |start:Run l 0 14695981039346656037 []
 |step {at_ s:Nat} {ns:List Nd} {x:Nd} {k s':Nat} (h:Run l at_ s ns) (hx:Uu (l.drop at_) s ns.length=.ok (x,k,s')):Run l (at_+k) s' (ns++[x])
def Run.le{d:List Nd}(h:Run l c s d):c<=l.length/\d.length<=300:=by
 induction h with
 |start=>simp
 |step h e ih=>
  have:=Aqg e;simp only[D6]at this;simp only[Aq,Ax,Bg];omega
def Run.more(m:List UInt8){d:List Nd}(h:Run l c s d):Run (l++m) c s d:=by
 induction h with
 |start=>exact .start
 |step h e ih=>exact .step ih (by rw[Gt h.le.1];exact A38 e)
def Run.dig{g:List Nd}(h:Run l d s g):(s:Int)=Xq (l.take d):=by
 cases h with
 |start=>simp[Xq,Afw]
 | @step c s0 f x k s' h j=>
  have⟨h1,h2,h3,h4,m,n,h7,h8⟩:=Vk j;have o:=h.le.1;simp only[D6]at m h2;unfold Xq;have e:(l.take (c+k)).length=c+k:=by simp;omega
  rw[e,I om,n]
  congr 2
  rw[Xx,Sb]
  congr 1
  .omega
  .congr 1;omega
def Run.rdJ{e:List Nd}(h:Run l d s e):Iz l=rdJ l (301-e.length) d s e:=by
 induction h with
 |start=>rfl
 | @step g s0 c x k s' h f ih=>
  rw[ih];have j:=Aqg f;simp only[D6]at j;rw[show 301-c.length=(301-(c++[x]).length)+1 by simp only[Aq,Ax,Bg];omega];rw[YtnoignhlamifmaaGreatDoor.rdJ,I om,f]
def A0e:∀(f c s:Nat)(g:List Nd),Run l c s g->(rdJ l f c s g).2.2=0->∃s',Run l l.length s' (rdJ l f c s g).1
 |0,c,s,g,h,d=>by simp[rdJ]at d
 |f+1,c,s,g,h,d=>by
  rw[rdJ]at d|-
  split at d
  .rename_i h1;rw[Ab h1];have:c=l.length:=by have:=h.le.1;omega
   subst this;exact⟨s,h⟩
  .rename_i h1;rw[I h1]
   split at d
   .rename_i e j;exact absurd d (A99 j)
   .rename_i x k s' j;exact A0e f _ _ _ (.step h j) d
def Baa(a c:List UInt8):(Aax a c).length=a.length+(12+c.length):=by
 simp only[Aax,Lw,Aq,J9];omega
def Bab{a c:List UInt8}{x:Nd}(u:Zu c 4 8 0=.ok (x,c.length))(e:(Aez a c).2=0):(∃s,Run (Aez a c).1 (Aez a c).1.length s ((Iz a).1++[x]))/\(Aez a c).1=Aax a c/\c.length<=2000:=by
 unfold Aez at e|-
 split at e
 .rename_i h;simp only at e;exact absurd e h
 rename_i h1;rw[I h1]
 split at e
 .simp at e
 rename_i h2;rw[I h2];have r:=sG h1
 refine⟨?_,rfl,by omega⟩;have⟨s,m⟩:=A0e 301 0 14695981039346656037 [] .start r;change Run a a.length s (Iz a).1 at m;have hs:=m.dig;rw[Bb]at hs;have k:(Xq a).toNat=s:=om;have j:(Aax a c).drop a.length=Lw c++Kl (Tv a c) 8:=by simp[Aax,B6]
 have o:Run (Aax a c) a.length s (Iz a).1:=by
  have:=m.more (Lw c++Kl (Tv a c) 8);simpa[Aax,B6]using this
 have d:(Lw c).length=4+c.length:=by simp[Lw,J9]
 have z:Hl ((Lw c++Kl (Tv a c) 8).take 4)=c.length:=by
  rw[Cx om,Lw,Cx (by rw[J9];omega),Ba (by rw[J9];omega)];exact Anw _ _ om om
 have g:Tv a c<2^64:=by unfold Tv;have:=Rl (Xq a).toNat (Lw c);omega
 have t:(Lw c++Kl (Tv a c) 8).take (4+c.length)=Lw c:=by rw[<-d];simp
 have w:((Lw c++Kl (Tv a c) 8).drop (4+c.length)).take 8=Kl (Tv a c) 8:=by
  rw[<-d,X0];exact Ba (by rw[J9];omega)
 have g4:((Lw c++Kl (Tv a c) 8).drop 4).take c.length=c:=by
  rw[Lw,B6,Gt (by rw[J9];omega),Hs (by rw[J9];omega),D8];simp
 have f:=Ajt (l:=Lw c++Kl (Tv a c) 8) (s:=s) (n:=(Iz a).1.length) (x:=x) (sz:=c.length) om z om (by simp only[Aq,d,J9];omega)
  (by rw[t,w,Anw _ _ om g];unfold Tv;rw[k];have:=Rl s (Lw c);omega) (by rw[g4];exact u)
 have:=Run.step o (by rw[j];exact f);have y:(Aax a c).length=a.length+(4+c.length+8):=by rw[Baa];omega
 rw[<-y]at this;exact⟨_,this⟩
def Auh{e:Jv}(h:P1 e=0):e.ch.length<=10/\e.text.length<=1000:=by
 unfold P1 at h
 split at h
 .omega
 split at h
 .omega
 split at h
 .omega
 .rename_i c;simp at c;omega
def rdK(l:List UInt8):Nat->Nat->Nat->List Nd->List Nd×Nat×Nat×Int
 |0,c,s,d=>(d,c,s,5)
 |f+1,c,s,d=>if l.length<=c then(d,c,s,0)else match Uu (l.drop c) s d.length with
  |.error e=>(d,c,s,e)
  |.ok (x,k,s')=>rdK l f (c+k) s' (d++[x])
def A39(l:List UInt8):List Nd×Nat×Nat×Int:=rdK l 301 0 14695981039346656037 []
def A0f(l:List UInt8):∀(f c s:Nat)(d:List Nd),rdJ l f c s d=((rdK l f c s d).1,(rdK l f c s d).2.1,(rdK l f c s d).2.2.2)
 |0,c,s,d=>rfl
 |f+1,c,s,d=>by
  rw[rdJ,rdK]
  by_cases h:l.length<=c
  .rw[Ab h,Ab h]
  .rw[I h,I h];cases hx:Uu (l.drop c) s d.length with
   |error e=>rfl
   |ok p=>exact A0f l f _ _ _
def Aui(l:List UInt8):Iz l=((A39 l).1,(A39 l).2.1,(A39 l).2.2.2):=A0f l _ _ _ _
def A0g:∀(f c s:Nat)(d:List Nd),Run l c s d->Run l (rdK l f c s d).2.1 (rdK l f c s d).2.2.1 (rdK l f c s d).1
 |0,c,s,d,h=>h
 |f+1,c,s,d,h=>by
  rw[rdK]
  split
  .exact h
  .split
   .exact h
   .rename_i x k s' e;exact A0g f _ _ _ (.step h e)
def Auj(l:List UInt8):Run l (A39 l).2.1 (A39 l).2.2.1 (A39 l).1:=A0g _ _ _ _ .start
open Classical in
noncomputable def eqN(a b:Nd):Bool:=decide (a=b)
open Classical in
noncomputable def Auk(a b:List Nd):Bool:=decide (a=b)
def Bfr{a b:Nd}:eqN a b=true↔a=b:=by simp[eqN]
def Bac{a b:List Nd}:Auk a b=true↔a=b:=by simp[Auk]
def Aju{a b:List Nd}:Auk a b=false↔a≠b:=by simp[Auk]
def A4a{a b:Nd}:eqN a b=false↔a≠b:=by simp[eqN]
def Bjq{la lb:List Nd}(c:la.length=lb.length)(h:∀(j:Nat)(h1:j<la.length)(h2:j<lb.length),la[j]=lb[j]):la=lb:=P7 c h
def Bjr(la lb:List Nd)(hh:∀x∈la,∀y,AE 45 [x.v,y.v] (.bool (eqN x y))):
  AE 82 [.ro 5 (la.map Nd.v),.ro 5 (lb.map Nd.v),.fn 45] (.bool (Auk la lb)):=by
 have l:=λ(k:Nat)(h:k<la.length)=>Axe h
 have m:=λ(k:Nat)(h:k<lb.length)=>Axe h
 have aa:(la.map Nd.v).length=la.length:=sm;have ad:(lb.map Nd.v).length=lb.length:=sm;generalize la.map Nd.v=av at l aa;generalize lb.map Nd.v=bv at m ad;refine K6 0 rfl λt=>?_;unfold maxLen at t;refine Ai func82 λw0 N0=>?_;refine Y [0,1,2] [] sr (J (A5 [14] sr ?_))
 refine A1 (λh1=>?_) λh1=>?_
 .refine Y [6] [] sr (Aj (Aa sr ?_))
  congr 1
  symm
  rw[Aju];rintro rfl;simp at h1;omega
 have ab:la.length=lb.length:=sO h1
 refine J (Y [1,2,15,16,17] [] sr (Ad (Ho 17 (λk=>∀(j:Nat)(h1:j<la.length)(h2:j<lb.length),j<k->la[j]=lb[j]) la.length (by intro j _ _ h;omega) ?_)));intro k nx hk hI;refine Y [1,2,15,16,17,18] [] sr (J ?_)
 refine Bk (λh2=>?_) λh2=>?_
 .have f:k<la.length:=by simp at h2;omega
  have o:k<lb.length:=om;have s:k<av.length:=om;have c:k<bv.length:=om;have z:=l k f;have w:=m k o;have d:=hh la[k] (As f) lb[k];rcases hka:la[k]with⟨t1,k1,n1,s1,n⟩;rcases hkb:lb[k]with⟨t2,k2,n2,s2,g⟩;rw[hka]at z d;rw[hkb]at w d;obtain⟨q,u⟩:∃q,eqN (Nd.mk t1 k1 n1 s1 n) (Nd.mk t2 k2 n2 s2 g)=q:=⟨_,rfl⟩;rw[u]at d;rw[Nd.v]at z;rw[Nd.v]at w;rw[Nd.v,Nd.v]at d;generalize n.map Nd.v=ah at z d;generalize g.map Nd.v=ai at w d;have hw:=Hr (k:=k) om;refine J (Ad (Y [1,2,7,8,15,16,17] [8] (by simp[z,s]<;>rfl) (Y [1,2,8,9,15,16,17] [8,9] (by simp[w,c]<;>rfl) (Au 3 sr ?_))));refine Aw d func45 ?_ (ha:=rfl) (hp:=rfl);refine Ak [1,2,15,16,17,30] [] sr ?_
  refine A1 (λh3=>?_) λh3=>?_
  .refine Y [6] [] sr ?_;refine Aj (Aa sr ?_);have af:q=false:=sG h3
   rw[af,A4a,<-hka,<-hkb]at u
   congr 1
   symm
   rw[Aju];rintro rfl;exact u rfl
  refine A6 [1,2,15,16,17] [] (by simp[hw]<;>rfl) ?_;refine⟨f,λj h4 h5 h6=>?_,_,Z⟩
  by_cases e:j=k
  .subst e;have ae:q=true:=sG h3
   rw[ae,Bfr,<-hka,<-hkb]at u;exact u
  .exact hI j h4 h5 om
 .refine A3 ?_;refine Y [6] [] sr ?_;refine Aj (Aa sr ?_)
  congr 1
  symm
  rw[Bac];have ag:k=la.length:=sO h2
  exact Bjq ab λj h4 h5=>hI j h4 h5 om
def A4b(b:Nd)(a:Nd):AE 45 [a.v,b.v] (.bool (eqN a b)):=by
 suffices h:∀(m:Nat)(a b:Nd),SizeOf.sizeOf a<m->AE 45 [a.v,b.v] (.bool (eqN a b))from h _ a b (P4 _)
 intro m
 induction m with
 |zero=>intro a b h;omega
 |succ m ih=>
 intro a b hm;have⟨o,u,j,l,d⟩:=a;have⟨w,k2,n2,z,c⟩:=b;have g:=Bjr d c (λx hx y=>ih x y (by have:=Nd.kid_lt (t:=o) (k:=u) (n:=j) (s:=l) hx;omega));have e:=Xm d;have f:=Xm c
 have hE:eqN (Nd.mk o u j l d) (Nd.mk w k2 n2 z c)=(decide (o=w)&&decide (u=k2)&&decide (j=n2)&&decide (l=z)&&Auk d c):=by
  rw[Nl];simp[eqN,Auk,and_assoc]
 rw[hE];rw[Nd.v,Nd.v];generalize d.map Nd.v=aa at g e;generalize c.map Nd.v=ab at g f;generalize Auk d c=q at g;refine Ai func45 λw0 N0=>?_;refine Y [2,3] [2,3] sr (Au 31 sr ?_);refine Ff (λhg=>g) func82 rfl kr sr rfl rfl sr sM sr (Ak [4] [] sr ?_);refine Bv sr ?_;simp
def Nd.nn:Nd->Int
 |.mk _ _ n _ _=>n
def Nd.ss:Nd->List UInt8
 |.mk _ _ _ s _=>s
def evA(t:Int)(d c1 c e f:Nd):Jv:=⟨2,t,d.nn,c1.kids.map Nd.nn,c.nn,e.ss,decide (f.nn=1),0,0,0,0⟩
def evI(t:Int)(d c1 c:Nd):Jv:=⟨5,t,0,[],0,[],false,d.nn,t,c1.nn,c.nn⟩
def evT(k t:Int):Jv:=⟨k,t,0,[],0,[],false,0,0,0,0⟩
def gP(x:Nd):Jv:=match x.kids with
 |a::b::l=>
  if a.nn=2 then(match l with
   |[d,c1,c,e,f]=>if c1.kids.length<=10 then evA b.nn d c1 c e f else evT a.nn b.nn
   |_=>evT a.nn b.nn)
  else if a.nn=5 then(match l with
   |[d,c1,c]=>evI b.nn d c1 c
   |_=>evT a.nn b.nn)
  else evT a.nn b.nn
 |_=>zE
def gR(x:Nd):Jv:=match x.kids with
 |a::b::l=>
  if a.nn=2 then(match l with
   |[d,c1,c,e,f]=>evA b.nn d c1 c e f
   |_=>evT a.nn b.nn)
  else if a.nn=5 then(match l with
   |[d,c1,c]=>evI b.nn d c1 c
   |_=>evT a.nn b.nn)
  else evT a.nn b.nn
 |_=>zE
def Bfs{l:List Nd}(h:l.length=5):∃a b c d e,l=[a,b,c,d,e]:=by
 match l,h with
 |[a,b,c,d,e],_=>exact⟨a,b,c,d,e,rfl⟩
def Bad{l:List Nd}(h:l.length=3):∃a b c,l=[a,b,c]:=by
 match l,h with
 |[a,b,c],_=>exact⟨a,b,c,rfl⟩
def Bft{x a b:Nd}{l:List Nd}(d:x.kids=a::b::l)(h2:a.nn=2)(c:l.length≠5):gP x=evT a.nn b.nn/\gR x=evT a.nn b.nn:=by
 unfold gP gR;rw[d];simp only[h2,if_true]
 constructor
 .split
  .exact absurd rfl c
  .rfl
 .split
  .exact absurd rfl c
  .rfl
def Bae{x a b:Nd}{l:List Nd}(e:x.kids=a::b::l)(h2:a.nn≠2)(c:a.nn=5->l.length≠3):gP x=evT a.nn b.nn/\gR x=evT a.nn b.nn:=by
 unfold gP gR;rw[e];simp only[h2,if_false]
 by_cases d:a.nn=5
 .have c:=c d;simp only[d,if_true]
  constructor
  .split
   .exact absurd rfl c
   .rfl
  .split
   .exact absurd rfl c
   .rfl
 .simp only[d,if_false,and_self]
def Uv(k t a b c:Int)(d:Int)(e f:Int)(s:List UInt8)(o:Bool):Bh (.agg [.i k,.i t,.i a,.nils,.i b,.str s,.bool o,.i c,.i d,.i e,.i f]) (Jv.v ⟨k,t,a,[],b,s,o,c,d,e,f⟩):=
 Bh.agg (.cons (Bh.refl _) (.cons (Bh.refl _) (.cons (Bh.refl _) (.cons (Bh.nils 1) (RelaxL.refl _)))))
set_option maxRecDepth 100000 in
def Anx(t k n:Int)(s:List UInt8)(w u d:Int)(z:List UInt8)(av:List V)(y kb m:Int)(sb:List UInt8)(x:List V)(lv:List V)
  (g:¬d=2\/lv.length≠5)(hg:d=5->lv.length≠3):AE 43 [.agg [.i t,.i k,.i n,.str s,.ro 5 (.agg [.i w,.i u,.i d,.str z,.ro 5 av]:: .agg [.i y,.i kb,.i m,.str sb,.ro 5 x]::lv)]] ((evT d m).v):=by
 refine AC.relax ?_ (Uv d m 0 0 0 0 0 0 [] false)
 have e:decide (d=2)=false\/(decide ((lv.length:Int)=5))=false:=by
  rcases g with g|g
  .exact .inl (sG g)
  .exact .inr so
 have c:(decide (d=5)&&decide ((lv.length:Int)=3))=false:=by
  by_cases o:d=5
  .have:=hg o;simp[o];omega
  .simp[o]
 rcases e with e|e
 .refine Ai func43 (λw0 N0=>?_);refine Y [1,2] [1,2] sr (Y [1,2,3] [1,2,3] sr (J (A5 [10] sr ?_)));refine Ce ?_;have h:(0:Int)<(lv.length:Int)+1+1:=om;have j:(1:Int)<(lv.length:Int)+1+1:=om;have l:(2:Int)<=(lv.length:Int)+1+1:=om;refine Y [1,2,3] [1,2,3] C1 (A5 [] C1 (Y [2,3,4] [2,3] C1 (J (Ad (Au 9 C1 ?_)))));refine Kq 6 sr (Ak [2,3,4,27] [2,3] sr ?_);refine Nf ?_;refine Y [2,3,4,82] [2,3] C1 (Ce ?_);exact Y [2] [2] sr (Bv sr rf)
 .refine Ai func43 (λw0 N0=>?_);refine Y [1,2] [1,2] sr (Y [1,2,3] [1,2,3] sr (J (A5 [10] sr ?_)));refine Ce ?_;have h:(0:Int)<(lv.length:Int)+1+1:=om;have j:(1:Int)<(lv.length:Int)+1+1:=om;have l:(2:Int)<=(lv.length:Int)+1+1:=om;refine Y [1,2,3] [1,2,3] C1 (A5 [] C1 (Y [2,3,4] [2,3] C1 (J (Ad (Au 9 C1 ?_)))));refine Kq 6 sr (Ak [2,3,4,27] [2,3] sr ?_);refine Nf ?_;refine Y [2,3,4,82] [2,3] C1 (Ce ?_);exact Y [2] [2] sr (Bv sr rf)
def Anz(t k n:Int)(s:List UInt8)(lv:List V)(h:lv.length<2):AE 43 [.agg [.i t,.i k,.i n,.str s,.ro 5 lv]] zE.v:=by
  refine AC.relax ?_ (Uv 0 0 0 0 0 0 0 0 [] false);have h2:(lv.length:Int)<2:=om;refine Ai func43 λw0 N0=>?_;refine Y [1,2] [1,2] sr (Y [1,2,3] [1,2,3] sr (J (A5 [10] sr ?_)));refine Ek ?_;exact Y [2] [2] sr (Aj (Aa sr rf))
set_option maxRecDepth 100000 in
def A4c(t k n:Int)(s:List UInt8)(t0 u c:Int)(h:List UInt8)(v0:List V)(t1 k1 e:Int)(l:List UInt8)(w:List V)(t2 k2 n2:Int)(z:List UInt8)(v2:List V)(t3 k3 m:Int)(s3:List UInt8)(d:List V)(t4 y x:Int)(s4:List UInt8)(v4:List V)(t5 k5 j:Int)(s5:List UInt8)(o:List V)(t6 k6 n6:Int)(s6:List UInt8)(v6:List V)(h2:c=2)(hv:10<d.length):AE 43 [.agg [.i t,.i k,.i n,.str s,.ro 5 [.agg [.i t0,.i u,.i c,.str h,.ro 5 v0],.agg [.i t1,.i k1,.i e,.str l,.ro 5 w],.agg [.i t2,.i k2,.i n2,.str z,.ro 5 v2],.agg [.i t3,.i k3,.i m,.str s3,.ro 5 d],.agg [.i t4,.i y,.i x,.str s4,.ro 5 v4],.agg [.i t5,.i k5,.i j,.str s5,.ro 5 o],.agg [.i t6,.i k6,.i n6,.str s6,.ro 5 v6]]]] ((evT c e).v):=by
  refine AC.relax ?_ (Uv c e 0 0 0 0 0 0 [] false);subst h2;have f:¬(d.length:Int)<=10:=om;refine Ai func43 (λw0 N0=>?_);refine Y [1,2] [1,2] sr (Y [1,2,3] [1,2,3] sr (J (A5 [10] sr ?_)));refine Ce (Y [1,2,3] [1,2,3] sr (A5 [] sr (Y [2,3,4] [2,3] sr (J (Ad (A5 [27] C1 ?_))))));refine Nf ?_;refine Y [2,3,4,82] [2,3] sr (Ce ?_);exact Y [2] [2] sr (Bv sr rf)
set_option maxRecDepth 100000 in
def A4d(t k n:Int)(s:List UInt8)(t0 o h:Int)(j:List UInt8)(v0:List V)(y k1 c:Int)(l:List UInt8)(u:List V)(t2 k2 f:Int)(x:List UInt8)(z:List V)(t3 k3 d:Int)(s3:List UInt8)(m:List V)(t4 w e:Int)(s4:List UInt8)(v4:List V)(h5:h=5):AE 43 [.agg [.i t,.i k,.i n,.str s,.ro 5 [.agg [.i t0,.i o,.i h,.str j,.ro 5 v0],.agg [.i y,.i k1,.i c,.str l,.ro 5 u],.agg [.i t2,.i k2,.i f,.str x,.ro 5 z],.agg [.i t3,.i k3,.i d,.str s3,.ro 5 m],.agg [.i t4,.i w,.i e,.str s4,.ro 5 v4]]]] (Jv.v ⟨5,c,0,[],0,[],false,f,c,d,e⟩):=by
  refine AC.relax ?_ (Uv 5 c 0 0 f c d e [] false);subst h5;refine Ai func43 (λw0 N0=>?_);refine Y [1,2] [1,2] sr (Y [1,2,3] [1,2,3] sr (J (A5 [10] sr ?_)));refine Ce (Y [1,2,3] [1,2,3] sr (A5 [] sr (Y [2,3,4] [2,3] sr (J (Ad (Au 9 sr ?_))))));refine Kq 6 sr (Ak [2,3,4,27] [2,3] sr ?_);refine Nf ?_;refine Y [2,3,4,82] [2,3] sr (Ek ?_);exact Ahm [0,3,4,1,6,3,10,3,3,1,5,1,9,1,13,4] [2,3] [2,3] sr sr (Y [2] [2] sr (Bv sr rf))
set_option maxRecDepth 100000 in
def A4e(t k n:Int)(s:List UInt8)(t0 k0 n0:Int)(s0:List UInt8)(v0:List V)(t1 k1 n1:Int)(s1:List UInt8)(v1:List V)(t2 k2 n2:Int)(s2:List UInt8)(v2:List V)(t3 k3 n3:Int)(s3:List UInt8)(c:List V)(t4 k4 n4:Int)(s4:List UInt8)(v4:List V)(t5 k5 n5:Int)(s5:List UInt8)(v5:List V)(t6 k6 n6:Int)(s6:List UInt8)(v6:List V)(ks:List Nd)(g:c=ks.map Nd.v)(h2:n0=2)(hv:c.length<=10):AE 43 [.agg [.i t,.i k,.i n,.str s,.ro 5 [.agg [.i t0,.i k0,.i n0,.str s0,.ro 5 v0],.agg [.i t1,.i k1,.i n1,.str s1,.ro 5 v1],.agg [.i t2,.i k2,.i n2,.str s2,.ro 5 v2],.agg [.i t3,.i k3,.i n3,.str s3,.ro 5 c],.agg [.i t4,.i k4,.i n4,.str s4,.ro 5 v4],.agg [.i t5,.i k5,.i n5,.str s5,.ro 5 v5],.agg [.i t6,.i k6,.i n6,.str s6,.ro 5 v6]]]] (Jv.v ⟨2,n1,n2,ks.map Nd.nn,n4,s5,decide (n6=1),0,0,0,0⟩):=by
  subst h2;have ag:(c.length:Int)<=10:=om;have ai:c.length=ks.length:=by rw[g];simp
  have ab:∀(j:Nat)(h:j<ks.length),Gz c j=some ks[j].v:=λj h=>by rw[g];exact Axe h
  have af:(Pz (ks.map Nd.nn)).length=ks.length:=by simp[Pz]
  have y:∀(j:Nat)(h:j<ks.length),(Pz (ks.map Nd.nn))[j]?=some (.i ks[j].nn):=λj h=>by simp[Pz,h]
  have w:=Anp (ks.map Nd.nn);clear g;simp only[Jv.v];generalize Pz (ks.map Nd.nn)=o at af y w|-;refine Ai func43 (λw0 N0=>?_);refine Y [1,2] [1,2] sr (Y [1,2,3] [1,2,3] sr (J (A5 [10] sr ?_)));refine Ce (Y [1,2,3] [1,2,3] sr (A5 [] sr (Y [2,3,4] [2,3] sr (J (Ad (A5 [27] C1 ?_))))));refine Ek ?_;refine I3 [0,3,4,3,8,3,12,3,3,1,7,1,11,1,15,5] [2,3,4] [2,3] sr sr (Y [2,3,66,67,68] [2,3] sr ?_);refine N3 3 3 100 1 3 [2,3,66,67,68] [2,3,100] sr ?_;refine Ad ?_
  refine If (λx:Nat×Nat×Nat=>⟨[(2,.bp 2 1 11 0 0),(3,.bp 3 2 11 0 0),(66,.ro 5 c),(67,.i c.length),(68,.i x.1)],
    [(2,⟨1,11,79,[.agg [.i 0,.i 0,.i 0,.nils,.i 0,.str [],.bool false,.i 0,.i 0,.i 0,.i 0]]⟩),(3,⟨2,11,79,[.agg [.i 2,.i n1,.i n2,.sl 100 x.2.1 1 x.1,.i n4,.str s5,.bool (decide (n6=1)),.i 0,.i 0,.i 0,.i 0]]⟩),(100,⟨x.2.1,1,3,o.take x.1⟩)],x.2.2,108⟩)
    (λx=>x.1<=ks.length) (λx=>ks.length-x.1) (0,68,_) (B5 _) Z ?_
  rintro⟨j,q,nx⟩hj;simp only at hj;have u:(o.take j).length=j:=by rw[C8];omega
  generalize e:o.take j=row at u|-;refine Y [2,3,66,67,68,69] [2,3,100] sr (J ?_)
  refine Bk (λh3=>?_) (λh3=>?_)
  .have l:j<ks.length:=by simp at h3;omega
   have aa:j<c.length:=om;have d:j<o.length:=om;have ga:=ab j l;have hw:=Hr (k:=j) om
   have m:o.take (j+1)=row++[.i ks[j].nn]:=by
    rw[Av d,e]
    congr 2
    have:=y j l;rw[Ah d]at this;injection this
   have ad:j+1<=maxLen:=by unfold maxLen;omega
   have ae:(j+1)*8<=140737488355328:=om;rcases hkj:ks[j]with⟨tj,kj,nj,sj,ah⟩;rw[hkj]at ga m;simp only[Nd.nn]at m;rw[Nd.v]at ga;generalize ah.map Nd.v=aj at ga;refine J (Ad (Y [2,3,6,66,67,68] [2,3,6,100] (by simp[ga,aa]<;>rfl) (A6 [2,3,66,67,68] [2,3,100] (by simp[u,ad,ae]<;>rfl) (Cs [] (by simp[hw]<;>rfl) ?_))));exact⟨(j+1,_,_),l,by simp only;omega,by simp only[m];exact Z⟩
  .refine A3 ?_;have z:j=o.length:=sO h3
   have f:row=o:=by rw[<-e,z,Bb]
   subst f z;refine Y [2] [2,100] sr ?_;exact Bv C1 rfl
def Baf(x:Nd):AE 43 [x.v] ((gP x).v):=by
 have⟨t,k,n,s,ks⟩:=x
 match hks:ks with
 |[]=>subst hks;rw[Nd.v];exact Anz t k n s _ sm
 |[a]=>subst hks;rw[Nd.v];exact Anz t k n s _ sm
 |a::b::l=>
  have⟨o,g,d,e,l0⟩:=a;have⟨j,m,c,f,l1⟩:=b
  by_cases h2:d=2
  .by_cases w:l.length=5
   .obtain⟨c0,c1,c2,c3,c4,rfl⟩:=Bfs w;have⟨t2,k2,y,s2,l2⟩:=c0;have⟨t3,k3,z,s3,l3⟩:=c1;have⟨t4,k4,u,s4,l4⟩:=c2;have⟨t5,k5,n5,s5,l5⟩:=c3;have⟨t6,k6,n6,s6,l6⟩:=c4
    by_cases aa:l3.length<=10
    .have hg:gP (Nd.mk t k n s [Nd.mk o g d e l0,Nd.mk j m c f l1,Nd.mk t2 k2 y s2 l2,Nd.mk t3 k3 z s3 l3,Nd.mk t4 k4 u s4 l4,Nd.mk t5 k5 n5 s5 l5,Nd.mk t6 k6 n6 s6 l6])=⟨2,c,y,l3.map Nd.nn,u,s5,decide (n6=1),0,0,0,0⟩:=by
      simp only[gP,Nd.kids,Nd.nn,Nd.ss,h2,if_true,aa,evA];rfl
     rw[hg];simp only[Nd.v,Br,Ci];exact A4e t k n s o g d e _ j m c f _ t2 k2 y s2 _ t3 k3 z s3 _ t4 k4 u s4 _ t5 k5 n5 s5 _ t6 k6 n6 s6 _ l3 rfl h2 (sG aa)
    .have hg:gP (Nd.mk t k n s [Nd.mk o g d e l0,Nd.mk j m c f l1,Nd.mk t2 k2 y s2 l2,Nd.mk t3 k3 z s3 l3,Nd.mk t4 k4 u s4 l4,Nd.mk t5 k5 n5 s5 l5,Nd.mk t6 k6 n6 s6 l6])=evT d c:=by
      simp only[gP,Nd.kids,Nd.nn,h2,if_true,aa,if_false]
     rw[hg];simp only[Nd.v,Br,Ci];exact A4c t k n s o g d e _ j m c f _ t2 k2 y s2 _ t3 k3 z s3 _ t4 k4 u s4 _ t5 k5 n5 s5 _ t6 k6 n6 s6 _ h2 so
   .rw[(Bft (x:=Nd.mk t k n s (Nd.mk o g d e l0::Nd.mk j m c f l1::l)) rfl h2 w).1];simp only[Nd.v,Br];exact Anx t k n s o g d e _ j m c f _ _ (.inr (sG w)) (λh=>by omega)
  .by_cases w:d=5/\l.length=3
   .obtain⟨w,h3⟩:=w;obtain⟨c0,c1,c2,rfl⟩:=Bad h3;obtain⟨t2,k2,y,s2,l2⟩:=c0;obtain⟨t3,k3,z,s3,l3⟩:=c1;obtain⟨t4,k4,u,s4,l4⟩:=c2
    have hg:gP (Nd.mk t k n s [Nd.mk o g d e l0,Nd.mk j m c f l1,Nd.mk t2 k2 y s2 l2,Nd.mk t3 k3 z s3 l3,Nd.mk t4 k4 u s4 l4])=⟨5,c,0,[],0,[],false,y,c,z,u⟩:=by
     simp only[gP,Nd.kids,Nd.nn,w,if_true,evI];rfl
    rw[hg];simp only[Nd.v,Br,Ci];exact A4d t k n s o g d e _ j m c f _ t2 k2 y s2 _ t3 k3 z s3 _ t4 k4 u s4 _ w
   .have ab:d=5->l.length≠3:=λh hl=>w ⟨h,hl⟩
    rw[(Bae (x:=Nd.mk t k n s (Nd.mk o g d e l0::Nd.mk j m c f l1::l)) rfl h2 ab).1];simp only[Nd.v,Br];exact Anx t k n s o g d e _ j m c f _ _ (.inl h2) (λh=>by simpa using ab h)
noncomputable def Alb(g:Jv)(x:Nd):Bool:= !decide (P1 g=0)|| !eqN (Ajg g) x
noncomputable def Bjs(g:Jv)(x:Nd):V:=if Alb g x=true then .tup [zE.v,.i 2]else .tup [g.v,.i 0]
def Bag:Bh (.tup [.agg [.i 0,.i 0,.i 0,.nils,.i 0,.str [],.bool false,.i 0,.i 0,.i 0,.i 0],.i 2]) (.tup [zE.v,.i 2]):=
 Bh.tup (.cons (Uv 0 0 0 0 0 0 0 0 [] false) (.cons (Bh.refl _) .nil))
set_option maxRecDepth 100000 in
def Aul(x:Nd):AC prog 23 [x.v] (λr=>r=Bjs (gP x) x):=by
 have h:=Baf x;have d:=Anq (gP x);have e:=A4b x (Ajg (gP x));have hp:=Anp (gP x).ch;unfold Bjs;have f:Alb (gP x) x=(!decide (P1 (gP x)=0)|| !eqN (Ajg (gP x)) x):=rfl;generalize gP x=g at h d e hp f;rw[Axf]at d;have⟨t,k,n,s,ks⟩:=x;generalize hq:eqN (Ajg g) (Nd.mk t k n s ks)=q at e f;rcases hm:Ajg g with⟨t',k',n',s',o⟩;rw[hm]at d e;have j:=Xm ks;have l:=Xm o;simp only[Nd.v,Jv.v]at h d e|-;generalize ks.map Nd.v=kv at h e j;generalize o.map Nd.v=w at d e l;generalize Pz g.ch=cv at h d hp;generalize P1 g=u at d f
 by_cases m:Alb g (Nd.mk t k n s ks)=true
 .rw[Ab m];refine AC.relax ?_ Bag;rw[m]at f;refine Ai func23 (λw0 N0=>?_);refine Y [1,2] [1,2] sr (Au 1 sr ?_);refine Ef h func43 rfl kr rfl rfl rfl rfl sM sr (Ak [1,2,4] [1,2,4] sr ?_);refine Au 1 sr ?_;refine Ef d func44 rfl kr rfl rfl rfl rfl sM sr (Ak [1,2,4,5,6] [1,2,4,5] sr ?_);refine J (Au 5 sr ?_);refine Ff (c:=decide (u=0)) (λy=>e) func45 rfl kr sm rfl rfl sr sM sr ?_;refine Ak [2,4,21] [2,4] sr ?_;refine Ek ?_;exact Y [2,3] [2] sr (Aj (Aa sr rf))
 .rw[I m];rw[Bool.not_eq_true]at m;rw[m]at f;refine Ai func23 (λw0 N0=>?_);refine Y [1,2] [1,2] sr (Au 1 sr ?_);refine Ef h func43 rfl kr rfl rfl rfl rfl sM sr ?_;refine Ak [1,2,4] [1,2,4] sr ?_;refine Au 1 sr ?_;refine Ef d func44 rfl kr rfl rfl rfl rfl sM sr ?_;refine Ak [1,2,4,5,6] [1,2,4,5] sr ?_;refine J (Au 5 sr ?_);refine Ff (c:=decide (u=0)) (λy=>e) func45 rfl kr sm rfl rfl sr sM sr ?_;refine Ak [2,4,21] [2,4] sr ?_;refine Ce ?_;exact Y [2,3] [2] sr (Aj (Aa sr rf))
def Aum(a:BitVec 64):(a^^^BitVec.allOnes 64).toNat=2^64-1-a.toNat:=by
 rw[BitVec.xor_allOnes,BitVec.toNat_not]
def I64(n:Int):Prop:= -9223372036854775808<=n/\n<9223372036854775808
def zig(n:Int):Nat:=if n<0 then(2*(-(n+1))+1).toNat else(2*n).toNat
def An0{n:Int}(h:I64 n):Vu n=zig n:=by
 unfold I64 at h;unfold Vu Aub zig
 by_cases c:n<0
 .rw[Ab c]
  have h1:IntKind.u64.wrap (n.fdiv (2^63))=18446744073709551615:=by
   have:n.fdiv (2^63)= -1:=by rw[B4 _ dC];omega
   rw[this,IntKind.wrap_u64];rfl
  have h2:IntKind.u64.wrap (IntKind.u64.wrap n*2)=2*n+18446744073709551616:=by
   rw[IntKind.wrap_u64,IntKind.wrap_u64];omega
  rw[h1,h2];show(IntKind.u64.wrap ((BitVec.ofInt 64 (2*n+18446744073709551616)^^^BitVec.allOnes 64).toNat:Int)).toNat=_
  rw[Aum,Nw,IntKind.wrap_u64];omega
 .rw[I c]
  have h1:IntKind.u64.wrap (n.fdiv (2^63))=0:=by
   have:n.fdiv (2^63)=0:=by rw[B4 _ dC];omega
   rw[this,IntKind.wrap_u64];rfl
  have h2:IntKind.u64.wrap (IntKind.u64.wrap n*2)=2*n:=by
   rw[IntKind.wrap_u64,IntKind.wrap_u64];omega
  rw[h1,h2];show(IntKind.u64.wrap ((BitVec.ofInt 64 (2*n)^^^BitVec.ofInt 64 0).toNat:Int)).toNat=_
  have:BitVec.ofInt 64 0=0#64:=rfl;rw[this,BitVec.xor_zero,Nw,IntKind.wrap_u64];omega
def zag(x:Nat):Int:=if x%2=1 then -((x/2:Nat):Int)-1 else((x/2:Nat):Int)
def Ajv{x:Nat}(h:x<2^64):Axm x=zag x:=by
 unfold Axm zag
 have h1:IntKind.i64.wrap ((x:Int).fdiv (2^min 1 IntKind.u64.bits))=((x/2:Nat):Int):=by
  show IntKind.i64.wrap ((x:Int).fdiv 2)=_
  rw[B4 _ dc,Cu om oM];omega
 have h2:bits .and .u64 (x:Int) 1=((x%2:Nat):Int):=by
  have:=(Adb x 1 ⟨h,by decide⟩).2.1;rw[show(1:Int)=((1:Nat):Int)from rfl,this]
  congr 1
  exact Ky x 1
 rw[h1,h2,Cu (x:=((x%2:Nat):Int)) om oM]
 by_cases d:x%2=1
 .rw[Ab d,d];have c:IntKind.i64.wrap (-((1:Nat):Int))= -1:=by rw[Cu om oM];rfl
  rw[c];show IntKind.i64.wrap ((BitVec.ofInt 64 ((x/2:Nat):Int)^^^BitVec.allOnes 64).toNat:Int)=_
  rw[Aum,Nw,IntKind.wrap_i64];omega
 .rw[I d];have e:x%2=0:=om;rw[e];have c:IntKind.i64.wrap (-((0:Nat):Int))=0:=by rw[Cu om oM];rfl
  rw[c];show IntKind.i64.wrap ((BitVec.ofInt 64 ((x/2:Nat):Int)^^^BitVec.ofInt 64 0).toNat:Int)=_
  have:BitVec.ofInt 64 0=0#64:=rfl;rw[this,BitVec.xor_zero,Nw,IntKind.wrap_i64];omega
def A4f{x:Nat}(h:x<2^64):I64 (zag x):=by unfold zag I64;split<;>omega
def Bfu(x:Nat):zig (zag x)=x:=by
 unfold zig zag
 by_cases h:x%2=1
 .simp only[Ab h];split<;>omega
 .simp only[I h];split<;>omega
def Fit:Nat->Nd->Prop
 |0,_=>False
 |m+1,.mk t k n s ks=>0<=t/\t<=9999999/\I64 n/\((k=1/\s=[]/\ks=[])\/(k=2/\n=0/\ks=[]/\s.length<=2000)\/(k=3/\n=0/\s=[]/\ks.length<=1024))/\∀x∈ks,Fit m x
variable {g m:Nat}
def Aqi(t k n:Int)(s:List UInt8)(l:List Nd):(Nd.mk t k n s l).kids=l:=rfl
def Bmo:zE.v=.agg [.i 0,.i 0,.i 0,.ro 1 [],.i 0,.str [],.bool false,.i 0,.i 0,.i 0,.i 0]:=rfl
def An1:∀ {k i x d y a:Nat},i+k=10->rdV bs e k i x d=.ok (y,a)->∃z,y=x+z*128^i/\(0<i->z≠0)/\a=d+(Kz z).length
 |0,i,x,d,y,a,l,h=>by simp[rdV]at h
 |k+1,i,x,d,y,a,l,h=>by
  rw[rdV]at h
  split at h
  .cases h
  rename_i c hc
  split at h
  .cases h
  rename_i o
  split at h
  .rename_i f;injection h with h;injection h with h1 h2;refine⟨c.toNat,h1.symm,λn g=>o (.inr ⟨n,g⟩),?_⟩;rw[Adc f,<-h2];rfl
  .rename_i j;have⟨z,h1,h2,m⟩:=An1 om h;have hz:=h2 om
   refine⟨c.toNat%128+128*z,?_,λ_=>by omega,?_⟩
   .rw[h1,Cd,Ca,Bf 128 z,B7 z 128,Bf 128 (128^i),Hm]
   .rw[Ago om,show(c.toNat%128+128*z)/128=z by omega,m,Ax];omega
def Aay{y a:Nat}(h:rdV bs e 10 0 0 c=.ok (y,a)):a=c+(Kz y).length:=by
 have⟨z,h1,_,d⟩:=An1 om h;have:=sG h1
 rw[this];exact d
def An2{y a:Nat}(h:rdC bs e c d=.ok (y,a)):a=d+(Kz y).length:=by
 unfold rdC at h
 split at h
 .cases h
 .rename_i x a' f
  split at h
  .cases h
  .injection h with h;injection h with h1 h2;subst h1 h2;exact Aay f
def An3{f:Nat->Except Int (Nd×Nat)}(g:∀c x a,c<=bs.length->f c=.ok (x,a)->a<=bs.length/\Fit m x/\a=c+(Oy x).length):∀ {n c:Nat}{l:List Nd}{a:Nat},c<=bs.length->rdL f n c=.ok (l,a)->
  (∀x∈l,Fit m x)/\a=c+((l.map Oy).flatten).length/\l.length=n
 |0,c,l,a,_,h=>by simp only[rdL,Except.ok.injEq,Bw]at h;obtain⟨rfl,rfl⟩:=h;simp
 |n+1,c,l,a,e,h=>by
  rw[rdL]at h
  split at h
  .cases h
  .rename_i x a1 k
   split at h
   .cases h
   .rename_i l' a2 t;injection h with h;injection h with h1 h2;subst h1 h2;have⟨s,j,g3⟩:=g _ _ _ e k;have⟨r,h4,o⟩:=An3 g s t
    refine⟨λy d=>?_,?_,by simp[o]⟩
    .rcases Bu.1 d with rfl|d
     .exact j
     .exact r y d
    .simp only[Br,Pb,Aq];omega
def An4:∀ {lv c a:Nat}{x:Nd},c<=bs.length->Zu bs e lv c=.ok (x,a)->Fit lv x/\a=c+(Oy x).length
 |0,c,a,x,_,h=>by simp[Zu]at h
 |lv+1,c,a,x,d,h=>by
  rw[Zu]at h
  split at h
  .cases h
  rename_i ad a1 hv;have c1:=Aay hv;have⟨_,aa,_⟩:=P3 (i:=0) om sm d hv
  split at h
  .cases h
  rename_i w
  split at h
  .cases h
  rename_i k hk;have ae:=(Al.1 hk).1;have z:I64 0:=by unfold I64;omega
  split at h
  .split at h
   .cases h
   .rename_i y t j;have⟨f,_,_⟩:=P3 (i:=0) om sm om j;have u:=Aay j;injection h with h;injection h with h1 h2;subst h1 h2;have o:=A4f f;rw[<-Ajv f]at o
    refine⟨?_,?_⟩
    .rw[Fit];exact⟨by omega,by omega,o,.inl ⟨rfl,rfl,rfl⟩,by simp⟩
    .rw[Oy,Ab rfl,An0 o,Ajv f,Bfu];simp only[Aq,Ax,C4];omega
  .split at h
   .split at h
    .cases h
    .rename_i n t g;have⟨hn,_,_⟩:=Ut om g;have u:=An2 g
     split at h
     .rename_i ab;injection h with h;injection h with h1 h2;subst h1 h2;have s:((bs.drop t).take n).length=n:=by simp;omega
      refine⟨?_,?_⟩
      .rw[Fit];exact⟨by omega,by omega,z,.inr (.inl ⟨rfl,rfl,rfl,by omega⟩),by simp⟩
      .rw[Oy,I om,Ab rfl];simp only[Aq,Ax,C4,s];omega
     .cases h
   .split at h
    .split at h
     .cases h
     .rename_i n t g;have⟨hn,r,_⟩:=Ut om g;have u:=An2 g
      split at h
      .cases h
      .rename_i l a3 hl;injection h with h;injection h with h1 h2;subst h1 h2;have⟨g1,g2,g3⟩:=An3 (m:=lv) (λc x a d hx=>⟨Aex d hx,An4 d hx⟩) r hl
       refine⟨?_,?_⟩
       .rw[Fit];exact⟨by omega,by omega,z,.inr (.inr ⟨rfl,rfl,rfl,by omega⟩),g1⟩
       .rw[Oy,I om,I oM];simp only[Aq,Ax,C4,g3];omega
    .cases h
def szs:List Nd->Nat
 |[]=>0
 |x::r=>12+(Oy x).length+szs r
def Agr:∀(a b:List Nd),szs (a++b)=szs a+szs b
 |[],b=>by simp[szs]
 |x::a,b=>by simp only[Cj,szs,Agr a b];omega
def Ajw{l:List Nd}(h:k<l.length):szs (l.take (k+1))=szs (l.take k)+(12+(Oy l[k]).length):=by
 rw[Av h,Agr];simp[szs]
def Axt{n:Int}{x:Nd}(h:Uu l s n=.ok (x,k,s')):Fit 8 x/\Hl (l.take 4)=(Oy x).length/\k=12+(Oy x).length/\(Oy x).length<=2000/\k<=l.length:=by
 have⟨h1,h2,h3,h4,h5,h6,h7,d⟩:=Vk h;have⟨c,g2⟩:=An4 sm d;exact⟨c,by omega,by omega,by omega,by omega⟩
def Run.canon{c:List Nd}(h:Run l g s c):g=szs c/\(∀x∈c,Fit 8 x/\(Oy x).length<=2000)/\∀(k:Nat)(hk:k<c.length),szs (c.take k)+12+(Oy c[k]).length<=l.length/\Hl ((l.drop (szs (c.take k))).take 4)=(Oy c[k]).length:=by
 induction h with
 |start=>exact⟨rfl,by simp,by simp⟩
 | @step o s0 e x k s' h hx ih=>
  have⟨n,r,w⟩:=ih;have⟨g1,u,z,g4,g5⟩:=Axt hx;have aa:=h.le.1;simp only[D6]at g5
  refine⟨by rw[Agr,n,z];simp[szs],λy d=>?_,λj t=>?_⟩
  .rcases Cc.1 d with d|d
   .exact r y d
   .simp at d;subst d;exact⟨g1,g4⟩
  .by_cases f:j<e.length
   .rw[Cx om];simp only[List.getElem_append_left f];exact w j f
   .have m:j=e.length:=by simp at t;omega
    subst m;simp only[Qo,Sj];rw[<-n];exact⟨by omega,u⟩
def Axu(a b i:Nat)(h:2^i*a+b<2^62)(f:b<2^i):bits .or .i64 ((2^i*a:Nat):Int) (b:Int)=((2^i*a+b:Nat):Int):=by
 have c:2^i*a<2^64:=om;have d:b<2^64:=om;have e:∀n:Nat,BitVec.ofInt 64 (n:Int)=BitVec.ofNat 64 n:=λn=>by simp
 show IntKind.i64.wrap ((BitVec.ofInt 64 ((2^i*a:Nat):Int)|||BitVec.ofInt 64 (b:Int)).toNat:Int)=_
 rw[e,e,Nk,Dj,Dj,Bl c,Bl d,<-Hh f];exact Cu om om
def or4(a b c d:Nat)(ha:a<256)(hb:b<256)(hc:c<256)(hd:d<256):
  bits .or .i64 (bits .or .i64 (bits .or .i64 (IntKind.i64.wrap ((a:Int)*2^min 24 IntKind.i64.bits)) (IntKind.i64.wrap ((b:Int)*2^min 16 IntKind.i64.bits))) (IntKind.i64.wrap ((c:Int)*2^min 8 IntKind.i64.bits))) (d:Int)=((((a*256+b)*256+c)*256+d:Nat):Int):=by
 have h1:IntKind.i64.wrap ((a:Int)*2^min 24 IntKind.i64.bits)=((2^24*a:Nat):Int):=by
  show IntKind.i64.wrap ((a:Int)*16777216)=_
  rw[Cu om oM];omega
 have h2:IntKind.i64.wrap ((b:Int)*2^min 16 IntKind.i64.bits)=((2^16*b:Nat):Int):=by
  show IntKind.i64.wrap ((b:Int)*65536)=_
  rw[Cu om oM];omega
 have e:IntKind.i64.wrap ((c:Int)*2^min 8 IntKind.i64.bits)=((2^8*c:Nat):Int):=by
  show IntKind.i64.wrap ((c:Int)*256)=_
  rw[Cu om oM];omega
 rw[h1,h2,e,Axu a (2^16*b) 24 om oM];have g:2^24*a+2^16*b=2^16*(256*a+b):=om;rw[g,Axu _ (2^8*c) 16 om oM];have f:2^16*(256*a+b)+2^8*c=2^8*(65536*a+256*b+c):=om;rw[f,Axu _ d 8 om oM];omega
def A4g{p:Nat}(h:p+3<l.length):Hl ((l.drop p).take 4)=((l[p].toNat*256+l[p+1].toNat)*256+l[p+2].toNat)*256+l[p+3].toNat:=by
 have e:(l.drop p).take 4=[l[p],l[p+1],l[p+2],l[p+3]]:=by
  apply P7
  .simp;omega
  .intro i h1 h2;simp at h2;rcases(show i=0\/i=1\/i=2\/i=3 by omega)with rfl|rfl|rfl|rfl<;>simp
 rw[e];have h0:=l[p].toNat_lt;have h1:=l[p+1].toNat_lt;have h2:=l[p+2].toNat_lt;have h3:=l[p+3].toNat_lt;simp only[Hl,Ni,List.foldl_nil];omega
def An5(l:List UInt8)(hl:l.length<=2^40)(n:Nat)(hn:n<=300)(ps:Nat->Nat)(h0:ps 0=0)(hs:∀k,k<n->ps k+4<=l.length/\ps (k+1)=ps k+(12+Hl ((l.drop (ps k)).take 4))/\Hl ((l.drop (ps k)).take 4)<=2000):
  AE 16 [.ro 1 (F6 l),.i n] (.i (ps n)):=by
 have s:=λ(k:Nat)(h:k<l.length)=>A9x h
 have aa:=Tt l;generalize F6 l=lv at s aa;refine Ai func16 λw0 N0=>?_;refine Y [0,1] [] sr (A5 [5] sr (J (Y [0,5,7,8] [] sr (Ad (H5 (λk=>[(5,.i (ps k)),(8,.i k)]) (λ_=>[]) (λk=>k<=n) n (B5 _) (by simp[h0];exact Z) ?_)))));intro k nx hk hI;refine Y [0,5,7,8,9] [] sr (J ?_)
 refine Bk (λh1=>?_) λh1=>?_
 .have m:k<n:=by simp at h1;omega
  have⟨q1,q2,q3⟩:=hs k m;have ag:=Hr (k:=k) om;rw[q2];generalize ps k=p at*;rw[A4g oM]at q3|-;have g0:=s p om;have y:=s (p+1) om;have w:=s (p+2) om;have g3:=s (p+3) om;simp only[Ze]at g0 y w g3;have b0:=l[p].toNat_lt;have b1:=l[p+1].toNat_lt;have b2:=l[p+2].toNat_lt;have b3:=l[p+3].toNat_lt;generalize l[p].toNat=g,l[p+1].toNat=c1,l[p+2].toNat=f,l[p+3].toNat=t at*;have e:=or4 g c1 f t b0 b1 b2 b3;obtain⟨ov,c⟩:∃ov:Int,bits .or .i64 (bits .or .i64 (bits .or .i64 (IntKind.i64.wrap ((g:Int)*2^min 24 IntKind.i64.bits)) (IntKind.i64.wrap ((c1:Int)*2^min 16 IntKind.i64.bits))) (IntKind.i64.wrap ((f:Int)*2^min 8 IntKind.i64.bits))) (t:Int)=ov:=⟨_,rfl⟩;rw[c]at e;generalize((g*256+c1)*256+f)*256+t=sz at e q2 q3|-;revert c;have w1:IntKind.i64.wrap ((p:Int)+1)=((p+1:Nat):Int):=by rw[Cu om oM];omega
  have w2:IntKind.i64.wrap ((p:Int)+2)=((p+2:Nat):Int):=by rw[Cu om oM];omega
  have w3:IntKind.i64.wrap ((p:Int)+3)=((p+3:Nat):Int):=by rw[Cu om oM];omega
  have v0:IntKind.i64.wrap (g:Int)=g:=Cu om om;have v1:IntKind.i64.wrap (c1:Int)=c1:=Cu om om;have v2:IntKind.i64.wrap (f:Int)=f:=Cu om om;have v3:IntKind.i64.wrap (t:Int)=t:=Cu om om;have d0:p<lv.length:=om;have d1:p+1<lv.length:=om;have d2:p+2<lv.length:=om;have d3:p+3<lv.length:=om;obtain⟨u,ad,ah⟩:∃u:Int,IntKind.i64.wrap (4+(sz:Int))=u/\u=4+(sz:Int):=⟨_,rfl,Cu om om⟩;obtain⟨d,j,ab⟩:∃d:Int,IntKind.i64.wrap (u+8)=d/\d=12+(sz:Int):=⟨_,rfl,by rw[Cu om oM];omega⟩;obtain⟨sp,ae,o⟩:∃sp:Int,IntKind.i64.wrap ((p:Int)+d)=sp/\sp=((p+(12+sz):Nat):Int):=⟨_,rfl,by rw[Cu om oM];omega⟩;obtain⟨p1,z⟩:∃p1,p1=p+1:=⟨_,rfl⟩;obtain⟨p2,x⟩:∃p2,p2=p+2:=⟨_,rfl⟩;obtain⟨p3,af⟩:∃p3,p3=p+3:=⟨_,rfl⟩;rw[<-z]at w1 y d1;rw[<-x]at w2 w d2;rw[<-af]at w3 g3 d3;intro c;rw[e]at c;refine J (Ad (I3 [0,3,6,4,14,4,22,4,3,3,10,4,18,4,26,4] [0,5,6,7,8] [] sr (by simp[w1,w2,w3,v0,v1,v2,v3,g0,y,w,g3,d0,d1,d2,d3,c]<;>rfl) ?_));refine A6 [0,5,7,8] [] (by simp[ad,j,ae]<;>rfl) (Cs [] (by simp[ag]<;>rfl) ?_);exact⟨m,by omega,_,by rw[o];exact Z⟩
 .refine A3 ?_;refine Y [4] [] sr ?_;refine Bv sr ?_;have:k=n:=sO h1
  rw[this]
noncomputable def Tw:List Nd->List Jv×Bool
 |[]=>([],true)
 |x::r=>if Alb (gP x) x=true then([],false)else(gP x::(Tw r).1,(Tw r).2)
noncomputable def jvR(l:List UInt8):List Jv×Nat×Int:=
 if(Tw (Iz l).1).2=true then((Tw (Iz l).1).1,(Iz l).2.1,(Iz l).2.2)else((Tw (Iz l).1).1,szs ((Iz l).1.take (Tw (Iz l).1).1.length),2)
def evV(r:List Jv×Nat×Int):V:=.tup [.ro 11 (r.1.map Jv.v),.i r.2.1,.i r.2.2]
def Ajx(l:List Jv):(l.map Jv.v).all V.pureE=true:=by
 rw[Ao];intro v c;obtain⟨e,_,rfl⟩:=Bc.1 c;have:=Anp e.ch;unfold Jv.v;generalize Pz e.ch=cv at this;simp[V.pureE,V.cells,V.pureC]
def Bfv(l:List Nd):(Tw l).1.length<=l.length:=by
 induction l with
 |nil=>simp[Tw]
 |cons x r ih=>rw[Tw];split<;>simp<;>omega
def Bfw{c:List Nd}{d:List Jv}(f:k<c.length)(e:d.length=k)(h:d++(Tw (c.drop k)).1=(Tw c).1/\(Tw (c.drop k)).2=(Tw c).2)(g:Alb (gP c[k]) c[k]=true):
  (Tw c).1=d/\(Tw c).2=false:=by
 rw[Bo f,Tw,Ab g]at h;exact⟨by rw[<-h.1];simp,h.2.symm⟩
def Bah{c:List Nd}{d:List Jv}(e:k<c.length)(h:d++(Tw (c.drop k)).1=(Tw c).1/\(Tw (c.drop k)).2=(Tw c).2)(f:Alb (gP c[k]) c[k]=false):
  (d++[gP c[k]])++(Tw (c.drop (k+1))).1=(Tw c).1/\(Tw (c.drop (k+1))).2=(Tw c).2:=by
 rw[Bo e,Tw,I (by rw[f];simp)]at h;exact⟨by rw[<-h.1];simp,h.2⟩
def Bfx{c:List Nd}{d:List Jv}(h:d++(Tw (c.drop c.length)).1=(Tw c).1/\(Tw (c.drop c.length)).2=(Tw c).2):(Tw c).1=d/\(Tw c).2=true:=by
 rw[Cl,Tw]at h;exact⟨by rw[<-h.1];simp,h.2.symm⟩
def Axv(l:List UInt8)(t:l.length<=2^40):Jp gv prog 10 [.ro 1 (F6 l)] (λr=>r=evV (jvR l)):=by
 have ae:=Aug l t;have e:∃s,Run l (Iz l).2.1 s (Iz l).1:=by rw[Aui];exact⟨_,Auj l⟩
 have⟨s0,e⟩:=e;have⟨a2,ax,ar⟩:=e.canon;have az:=e.le.2;have a4:=e.le.1;have hp:=Gg l;have ag:=λ(k:Nat)(h:k<(Iz l).1.length)=>Axe h
 have a5:((Iz l).1.map Nd.v).length=(Iz l).1.length:=sm
 have am:=λ(n:Nat)(hn:n<=(Iz l).1.length)=>An5 l t n om (λk=>szs ((Iz l).1.take k)) (by simp[szs]) (λk hk=>by
  have⟨g1,g2⟩:=ar k om
  refine⟨by omega,?_,?_⟩
  .rw[g2,Ajw oM]
  .rw[g2];exact(ax _ (As om)).2)
 have ad:=λ(k:Nat)(h:k<(Iz l).1.length)=>Aul (Iz l).1[k]
 have a0:=Qn (Iz l).1;unfold jV at ae;generalize x:jvR l=er;unfold jvR at x;generalize(Iz l).2.2=cd,(Iz l).2.1=at_,(Iz l).1=ns at*;generalize ns.map Nd.v=nv,F6 l=lv at*;refine Bp func10 λw0 N0 hG=>?_;refine Y [0] [] sr (Au 1 sr ?_);refine Jk [0,5,6,7] [] hG ae func22 ?_;refine Y [0,5,6,7,8] [] sr ?_;refine Fg 8 100 11 79 [0,5,6,7,8] [100] sr sr ?_;refine J (Y [0,6,7,8,19,20,21] [100] sr (Ad ?_))
 refine Gn (λp:Nat×List Jv×Nat×Nat=>[(8,.sl 100 p.2.2.1 11 (p.2.1.map Jv.v).length),(21,.i p.1)]) (λp=>[(100,⟨p.2.2.1,11,79,p.2.1.map Jv.v⟩)]) (λp=>p.2.2.2)
  (λp=>p.1<=ns.length/\p.2.1.length=p.1/\(p.2.1++(Tw (ns.drop p.1)).1=(Tw ns).1/\(Tw (ns.drop p.1)).2=(Tw ns).2)) (λp=>ns.length-p.1) (0,[],_,_) ⟨B5 _,rfl,by simp⟩ (by simp;exact Z) ?_
 rintro⟨k,o,vr,nx⟩⟨hk,d,hI⟩;simp only at hk d hI;have c:=Ajx o;have w:(o.map Jv.v).length=k:=sG d
 simp only;generalize y:o.map Jv.v=av at c w;refine Y [0,6,7,8,19,20,21,22] [100] sr (J ?_)
 refine Bk (λh1=>?_) λh1=>?_
 .have m:k<ns.length:=by simp at h1;omega
  have ah:k<nv.length:=om;have ga:=ag k m;have j:=ad k m;have aw:=Hr (k:=k) om;have u:=λh=>Bfw m d hI h
  have f:=λh=>Bah m hI h
  have an:k+1<=maxLen:=by simp[maxLen];omega
  have ao:(k+1)*112<=140737488355328:=om;have aa:=Nd.v_pure ns[k];rw[Bjs]at j;generalize a7:Alb (gP ns[k]) ns[k]=db at j u f;generalize a1:gP ns[k]=g at j f;rcases hxx:ns[k]with⟨xt,xk,xn,xs,ab⟩;rw[hxx]at ga j aa;rw[Nd.v]at ga j aa;have al:=Qn ab;generalize ab.map Nd.v=a3 at ga j aa al;refine J (Ad (Y [0,6,7,8,9,10,19,20,21] [10,100] (by simp[ga,ah]<;>rfl) (Au 1 sr ?_)));cases db with
  |true=>
   have⟨ai,af⟩:=u rfl;rw[Ab rfl,Bmo]at j;have aj:=am k hk;refine Ef j func23 rfl kr rfl rfl rfl rfl sm sr ?_;refine Ak [0,6,7,8,9,11,12,19,20,21] [11,100] sr ?_;refine J (Y [0,6,7,8,9,11,19,20,21,32] [11,100] sr ?_);refine Ek ?_;refine Bq 100 [0,8,9] [] C1 (Au 3 sr ?_);refine Ef aj func16 rfl kr rfl rfl rfl rfl sM sr ?_;refine Ak [2,3,4] [] sr ?_;refine Aj (Aa C1 ?_);rw[<-x,af,ai,I sm,evV];simp[y,d]
  |false=>
   have ak:=f rfl;rw[I (by simp)]at j;have z:g.v=.agg [.i g.kind,.i g.time,.i g.item,.ro 1 (Pz g.ch),.i g.value,.str g.text,.bool g.om,.i g.ik,.i g.it,.i g.il,.i g.ig]:=rfl;rw[z]at j;have aq:=Anp g.ch;generalize a6:Pz g.ch=cv at j aq z;refine Ef j func23 rfl kr rfl rfl rfl rfl sm sr ?_;refine Ak [0,6,7,8,9,11,12,19,20,21] [11,100] sr ?_;refine J (Y [0,6,7,8,9,11,19,20,21,32] [11,100] sr ?_);refine Ce (A6 [0,6,7,8,19,20,21] [100] (by simp[w,an,ao]<;>rfl) (A6 [0,6,7,8,19,20,21] [100] (by simp[aw]<;>rfl) ?_));refine⟨(k+1,o++[g],nx+1+6+8+2+3,nx+1+6+8+2+5+2),⟨m,by simp[d],ak⟩,by simp only;omega,?_⟩;have ay:((k+1:Nat):Int)=(k:Int)+1:=om;simp only[ay,Cg,y,Br,Ci,z,Aq,Ax,Bg,w];exact Z
 .have au:k=ns.length:=by simp at h1;omega
  subst au;have⟨g1,g2⟩:=Bfx hI;refine A3 ?_;refine Bq 100 [6,7,8] [] (by simp[c]<;>rfl) (Y [2,3,4] [] sr ?_);refine Aj (Aa (by simp[results10]<;>rfl) ?_);rw[<-x,g2,g1,Ab rfl,evV];simp[y]
open Go.Eng.Limb
variable {R:V->Prop}
def Bai(h:Jp G0 prog f args R):AC prog f args R:=λw N xs h1 h2 c=>h w N xs trivial h1 h2 c
def Baj(t:Te):AE 18 [t.v,t.v] (.bool true):=by
 have e:=At0 t.elig;have f:=A9h t.steps;have d:=Bai (A3o t.w);have h:=Ac t.elig;have j:=A8 t.steps;have k:=Bx t.w;have g:=vTe t;rw[g];generalize Ap t.elig=ti,A9 t.steps=ts,B9 t.w=tw at*;refine Ai func18 λw0 N0=>?_;refine Y [2,3] [2,3] sr (A5 [5] sr (Au 4 sr ?_));refine Aw e func37 ?_;refine C3 5 sr (Gd (c:=True) (λl=>f) func38 ?_);refine C3 14 sr (Gd (c:=True) (λl=>d) func39 ?_);exact Ak [4] [] sr (Bv sr (rfl))
def A0i(s:Se):AE 9 [s.v,s.v] (.bool true):=by
 have d:=Baj s.t;have e:=Bai (Aw4 s.ans);have g:=A9i s.inc;rw[(vTe s.t)]at d;rw[(vSe s)];have m:=Ac s.t.elig;have x:=A8 s.t.steps;have k:=Bx s.t.w;have n:=Ft s.ans;have l:=Et s.inc;generalize Ap s.t.elig=ti,A9 s.t.steps=ts,B9 s.t.w=tw,Hx s.ans=u,Fa s.inc=o at*;refine Ai func9 λw0 N0=>?_;refine Y [2,3] [2,3] sr (Au 31 sr ?_);refine Ff (c:=True) (λj=>d) func18 rfl kr sr rfl rfl sr sM sr (C3 6 sr ?_);refine Ff (c:=True) (λj=>e) func19 rfl kr sr rfl rfl sr sM sr (C3 6 sr ?_);refine Ff (c:=True) (λj=>g) func21 rfl kr sr rfl rfl sr sM sr ?_;refine Ak [4] [] sr ?_;exact Bv sr (rfl)
def Bak{cs:List V}(h:cs.all V.pureC=true)(d v sz:Nat)(es:List V):cs.map (V.frzC d v sz es)=cs:=by
 have:=Amr d v sz es (show(V.agg cs).pureE=true from h);injection this
def U1(j:Jv):Ev:=⟨j.kind,j.time,⟨j.item,j.ch,j.value,j.text,j.om⟩,⟨j.ik,j.it,j.il,j.ig⟩⟩
def Bhc(l:List Jv):l.map Jv.v=Aeu (l.map U1):=by
 unfold Aeu;rw[K9];exact List.map_congr_left λ_ _=>rfl
def An6:∀(d:List Nd),∀e∈(Tw d).1,(U1 e).an.small
 |[],e,h=>by simp[Tw]at h
 |x::r,e,h=>by
  rw[Tw]at h
  split at h
  .cases h
  .rename_i c
   rcases Bu.1 h with rfl|h
   .have f:P1 (gP x)=0:=by
     unfold Alb at c;simp only[I1,Ht,decide_eq_false_iff_not,not_or,Th]at c;exact c.1
    have:=Auh f;exact⟨by show(gP x).ch.length<=_;omega,by show(gP x).text.length<=_;omega⟩
   .exact An6 r e h
def Ajy(l:List UInt8):∃s,Run l (Iz l).2.1 s (Iz l).1:=by rw[Aui];exact⟨_,Auj l⟩
noncomputable def evs(l:List UInt8):List Ev:=(jvR l).1.map U1
def Bal(l:List UInt8):(jvR l).1=(Tw (Iz l).1).1:=by unfold jvR;split<;>rfl
def Bfy(l:List UInt8):(evs l).length<=(Iz l).1.length/\(Iz l).1.length<=300:=by
 have⟨s,h⟩:=Ajy l;exact⟨by unfold evs;rw[Db,Bal];exact Bfv _,h.le.2⟩
def A4h(l:List UInt8):∀e∈evs l,e.an.small:=by
 unfold evs;intro e h;obtain⟨j,c,rfl⟩:=Bc.1 h;rw[Bal]at c;exact An6 _ j c
def A0j(d:Dl)(t:Te):∀(l:List Ev)(s:Se)(k:Nat),(Sn d t s k l).2.1<=k+l.length
 |[],_,_=>A2 _
 |e::l,s,k=>by
  rw[Sn]
  split
  .exact A7 _ _
  .have:=A0j d t l (Oe d t s e) (k+1);simp only[Ax];omega
def Bfz(d:Dl)(l:List Ev):(Ns d l).2.1<=l.length:=by
 unfold Ns
 split
 .exact B5 _
 .have:=A0j d (Jn d) l L8 0;omega
noncomputable def Adh(l:List UInt8)(n:Nat):Nat:=szs ((Iz l).1.take n)
def Bf0(l:List UInt8)(j:l.length<=2^40)(n:Nat)(hn:n<=(Iz l).1.length):AE 16 [.ro 1 (F6 l),.i n] (.i (Adh l n)):=by
 have⟨s0,c⟩:=Ajy l;have⟨h,e,d⟩:=c.canon;have f:=c.le.2
 exact An5 l j n om (λk=>szs ((Iz l).1.take k)) (by simp[szs]) (λk hk=>by
  have⟨g1,g⟩:=d k om
  refine⟨by omega,?_,?_⟩
  .rw[g,Ajw oM]
  .rw[g];exact(e _ (As om)).2)
def Bf1(l:List UInt8)(n:Nat)(e:n<=(Iz l).1.length):Adh l n<=l.length:=by
 have⟨s0,c⟩:=Ajy l;have⟨h,f,d⟩:=c.canon;cases n with
 |zero=>simp[Adh,szs]
 |succ k=>have g:=(d k e).1;unfold Adh;rw[Ajw e];omega
noncomputable def Aun(d:Dl)(l:List UInt8):Se×Nat×List UInt8×Int:=
 if J7 d≠0 then(L8,0,[],J7 d)else((Ns d (evs l)).1,(Ns d (evs l)).2.1,l.take (Adh l (Ns d (evs l)).2.1),0)
def Bf2(r:Se×Nat×List UInt8×Int):V:=.tup [r.1.v,.i r.2.1,.ro 1 (F6 r.2.2.1),.i r.2.2.2]
def Afs(d:Dl)(l:List UInt8)(hd:DlOk d)(hl:l.length<=100000):Jp gv prog 6 [d.v,.ro 1 (F6 l)] (λr=>r=Bf2 (Aun d l)):=by
 refine Jp.relaxP ?_;have⟨am,an⟩:=Bfy l;have w:=Axv l om;unfold evV at w;rw[Bhc]at w;change Jp _ _ _ _ (λr=>r=.tup [.ro 11 (Aeu (evs l)),_,_])at w;have y:=Bfa Agn d (evs l) hd om (A4h l);have c7:=Ajc Agn d hd;have ao:=Bfz d (evs l);have ag:=Bf0 l om (Ns d (evs l)).2.1 om;have aq:=Bf1 l (Ns d (evs l)).2.1 om;have aa:=Anv (l.take (Adh l (Ns d (evs l)).2.1)) (by rw[C8];omega);have ab:J7 d≠0->Ns d (evs l)=(L8,0,J7 d):=λh=>by unfold Ns;rw[Ab h]
 have al:F6 (l.take (Adh l (Ns d (evs l)).2.1))=(F6 l).take (Adh l (Ns d (evs l)).2.1):=sm;have u:=Gg (l.take (Adh l (Ns d (evs l)).2.1));have af:=Tt l;have pl:=Gg l;have j:=Ann (evs l)
 have aj:Bf2 (Aun d l)=if J7 d≠0 then .tup [L8.v,.i 0,.ro 1 [],.i (J7 d)]else .tup [(Ns d (evs l)).1.v,.i (Ns d (evs l)).2.1,.ro 1 (F6 (l.take (Adh l (Ns d (evs l)).2.1))),.i 0]:=by
  unfold Bf2 Aun;split<;>rfl
 rw[aj];unfold Be9 at y;generalize hx:Ns d (evs l)=x at*;have⟨xs,xn,xe⟩:=x;simp only at*;rw[al]at aa u|-;generalize hm:Adh l xn=m at*;have ad:((F6 l).take m).length=m:=by rw[C8,af];omega
 have ah:(m:Int)<=((F6 l).length:Int):=om;generalize(jvR l).2.1=ja,(jvR l).2.2=jc,Aeu (evs l)=ev,J7 d=ce at*;have⟨dc,ai,g,c,f,e⟩:=Xk d;have⟨sc,z,n,o,k,s⟩:=Ku xs;have⟨z0,ae,z1,z2,z3,z4⟩:=Ku L8;rw[ai]at y c7|-;rw[z]at y|-
 have hz:ce≠0->z0=sc:=λh=>by
  have:=congrArg Prod.fst (ab h);simp only at this;subst this;rw[ae]at z;injection z
 have vs:=λS:AS=>F0 (S:=S) k
 have fz:=λd v sz es=>Bak k d v sz es
 generalize F6 l=lv at*;generalize ak:lv.take m=tk at*;refine Bp func6 λw0 N0 hG=>?_;refine Y [1,2,4] [2,4] C1 (Au 1 sR ?_);refine Dw hG w func10 ?_;refine Ak [1,2,4,8] [2,4] sR (Au 2 C1 ?_);refine Jf hG y func11 rfl kr sm rfl rfl rfl sR Gi sR (Ak [1,2,4,11,12,13] [2,4,11] C1 ?_)
 by_cases t:ce≠0
 .injection (ab t)with hxa hxb;injection hxb with hxb hxc;subst hxb hxc;refine J (Y [1,2,4,11,12,33] [2,4,11] sR ?_);refine Ek ?_;refine Au 1 C1 ?_;refine Jf hG c7 func7 rfl kr sm rfl rfl rfl sR Gi sR (Ak [1,4,11,12,14] [4,11] sR ?_);refine Y [1,4,11,12,14,37] [4,11] sR (Ek ?_);refine Y [4,5,6,7] [4] sR (Aj (Aa C1 ?_));rw[Ab t];exact Bh.tup (.cons Ur (.cons (Bh.refl _) (.cons (Bh.nils 1) (.cons (Bh.refl _) .nil))))
 have t:=Th.1 t
 refine Aoh ⟨[(1,V.ro 1 lv),(4,V.bp 4 1 12 0 0),(11,V.bp 11 21 12 0 0),(12,V.i xn)],[(4,⟨1,12,55,[V.agg [.i 0,.i 0,.i 0,.i 0,.nils,.nils,.i 0,.nils,.int .u64 0,.i 0,.nils,.nils]]⟩),(11,⟨21,12,55,[V.agg sc]⟩)],200,48⟩ ?_ ?_
 .refine Y [1,2,4,11,12,33] [2,4,11] sR ?_
  refine A1 (λh1=>?_) λh1=>?_
  .refine Au 1 C1 ?_;refine Jf hG c7 func7 rfl kr sm rfl rfl rfl sR Gi sR (Ak [1,4,11,12,14] [4,11] sR ?_);refine Y [1,4,11,12,14,37] [4,11] sR ?_
   refine A1 (λh2=>?_) λh2=>?_
   .exact absurd t (sG h2)
   .exact Kp [1,4,11,12] [4,11] rfl rfl rfl sy
  .exact Kp [1,4,11,12] [4,11] rfl rfl rfl sy
 refine J (Ii [7] Jt ?_);refine Fk [1,4] sr sR ?_
 refine Bb0 (i:=5) (ks:=[]) kr (λ_=>ag) func16 rfl kr rfl sm sr rfl rfl sr sM sr ?_;refine Fk [6,1] sr C1 ?_
 refine Km [0,7] kr ?_;intro i hi;simp only[Bu,Ck,or_false]at hi
 rcases hi with rfl|rfl
 .refine⟨_,_,rfl,Nc C1,?_⟩;refine Hn (i:=7) (ks:=[]) kr rfl sm (Abu 47 sm aa func15 rfl kr sr rfl rfl sr sR sr) ?_;refine Fk [8,4] sr C1 ?_
  refine Gl [4,5,6,7] [4,47] kr sr ?_;refine Bq 47 [4,5,6,7] [4] C1 ?_;exact Aj (Aa C1 (by rw[I Gi];exact Bh.refl _))
 .refine⟨_,_,rfl,Abu 47 sm aa func15 rfl kr sr rfl rfl sr sR sr,?_⟩;refine Fk [0,1,8,4] sr C1 ?_
  refine Gl [4,5,6,7] [4,47] kr sr ?_;refine Bq 47 [4,5,6,7] [4] C1 ?_;exact Aj (Aa C1 (by rw[I Gi];exact Bh.refl _))
def hvB(d:Dl):Bool:=(decide ((9:Int)<d.pool.length)&&decide ((d.pool.length:Int)<=18))||(decide ((14:Int)<d.items.length)&&decide ((d.items.length:Int)<=60))||decide ((40:Int)<d.uses.length)
def Bam(d:Dl):AE 5 [d.v] (.bool (hvB d)):=by
 unfold hvB;have e:=vDl d;rw[e];clear e;rw[<-(Er d.pool),<-(I5 d.items),<-(Eh d.uses)];generalize C7 d.pool=pv,Od d.items=iv,A9 d.uses=uv;by_cases h:(9:Int)<pv.length<;>by_cases f:(pv.length:Int)<=18<;>by_cases c:(14:Int)<iv.length<;>by_cases g:(iv.length:Int)<=60
 all_goals
  refine Ai func5 λw0 N0=>?_;exact Y [1] [1] sr (Y [2] [] C1 (Bv sr Gi))
def Bf3(x y:UInt8):((x.toNat:Int)=y.toNat)↔x=y:=by
 constructor
 .intro h;exact UInt8.toNat_inj.1 om
 .intro h;rw[h]
def Ban(a b:List UInt8):AC prog 8 [.ro 1 (F6 a),.ro 1 (F6 b)] (λr=>r=.bool (decide (a=b))):=by
 refine K6 0 rfl λc=>?_;unfold maxLen at c;have o:=Tt a;have t:=Tt b;have m:∀k(h:k<a.length),Gz (F6 a) k=some (Ze a[k]):=λk h=>A9x h
 have g:∀k(h:k<b.length),Gz (F6 b) k=some (Ze b[k]):=λk h=>A9x h
 generalize F6 a=z at o m c;generalize F6 b=bv at t g;refine Ai func8 λw0 N0=>?_;refine Y [0,1] [] sr (J (Y [0,1,10] [] sr ?_))
 refine A1 (λh1=>?_) λh1=>?_
 .have d:¬a=b:=by rintro rfl;simp at h1;omega
  exact Y [4] [] sr (Aj (Aa sr Gi))
 have d:a.length=b.length:=sO h1
 refine J (Y [0,1,5] [] sr (Ad (Ho 5 (λk=>a.take k=b.take k) a.length rfl ?_)));intro k nx hk w;refine J (Y [0,1,5,14] [] sr ?_)
 refine Bk (λh2=>?_) λh2=>?_
 .have e:k<a.length:=by simp at h2;omega
  have j:k<b.length:=om;have ha:=m k e;have hb:=g k j;have x:IntKind.i64.wrap ((k:Int)+1)=((k+1:Nat):Int):=by rw[Cu om oM];omega
  have n:(k:Int)<z.length:=om;have l:(k:Int)<bv.length:=om;refine J (Ad (I3 [0,3,4,3,3,1,7,2] [0,1,5,25] [] sr C1 ?_))
  refine A1 (λu=>?_) λu=>?_
  .have f:¬a=b:=by
    rintro rfl;simp at u
   exact Y [4] [] sr (Aj (Aa sr Gi))
  have f:a[k]=b[k]:=by
   simp at u;exact(Bf3 _ _).1 om
  refine A6 [0,1,5] [] C1 ?_;exact⟨e,by rw[Av e,Av j,w,f],_,Z⟩
 .have y:k=a.length:=by simp at h2;omega
  have s:a=b:=by
   subst y;rw[Bb,d,Bb]at w;exact w
  exact A3 (Qp [4])
open Go.ChangeShapes Go.WideShapes Go.ChangeAt
variable {α:Type}{es vs:List V}
def Bf4:laidOutB prog=true:=by kernel_rfl
def Fu(h:Rd prog n 3 vs):∃x:Int,vs=[.i x]:=by
 obtain⟨a,rfl,_⟩:=Aog underlying3 h;exact⟨a,rfl⟩
def Bjt(h:Rd prog n 42 vs):∃x:Int,vs=[.int .u64 x]:=by
 obtain⟨a,rfl,_⟩:=Aog underlying42 h;exact⟨a,rfl⟩
def Ae0(h:Rd prog n 9 vs):∃x:List UInt8,vs=[.str x]:=by
 obtain⟨a,rfl,_⟩:=Bhf underlying9 h;exact⟨a,rfl⟩
def Bao(h:Rd prog n 4 vs):∃x:Bool,vs=[.bool x]:=Bbx underlying4 h
def Ae1{f:α->V}{t:TypeId}{l:List (List V)}(e:En prog t=some true)(h:∀x∈l,∃y,V.agg x=f y):∃l':List α,l.map (mkV (En prog t))=l'.map f:=by
 refine Avb λv c=>?_;obtain⟨x,a,rfl⟩:=Bc.1 c;have⟨y,d⟩:=h x a;exact⟨y,by rw[e];exact d⟩
def Xs{f:α->V}{t:TypeId}{l:List (List V)}(d:En prog t=some false)(h:∀x∈l,∃y,x=[f y]):∃l':List α,l.map (mkV (En prog t))=l'.map f:=by
 refine Avb λv c=>?_;obtain⟨x,a,rfl⟩:=Bc.1 c;obtain⟨y,rfl⟩:=h x a;exact⟨y,by rw[d];rfl⟩
def Yx(h:Rd prog n 25 vs):∃x:List Int,vs=[.ro 1 (Ap x)]:=by
 obtain⟨es,rfl,_,a⟩:=Lz underlying25 h;have⟨l,d⟩:=Xs (f:=V.int .i64) (t:=3) kr (λx c=>Fu (a x c));exact⟨l,by rw[d,show prog.cellsOf 3=1 by kernel_rfl];rfl⟩
def A0k(h:Rd prog n 148 vs):∃x:List (List UInt8),vs=[.ro 1 (Ha x)]:=by
 obtain⟨es,rfl,_,a⟩:=Lz underlying148 h;have⟨l,d⟩:=Xs (f:=V.str) (t:=9) kr (λx c=>Ae0 (a x c));exact⟨l,by rw[d,show prog.cellsOf 9=1 by kernel_rfl];rfl⟩
def Bf5(h:Rd prog n 107 vs):∃x:Mo,vs=[.ro 1 (Eo x)]:=by
 obtain⟨es,rfl,_,a⟩:=Lz underlying107 h;have⟨l,d⟩:=Xs (f:=λr:List Int=>V.ro 1 (Ap r)) (t:=25) kr (λx c=>Yx (a x c));exact⟨l,by rw[d,show prog.cellsOf 25=1 by kernel_rfl];rfl⟩
def Auo(h:Rd prog n 30 vs):∃x:List Nat,vs=[.ro 1 (Az x)]/\Ei x:=by
 obtain⟨es,rfl,_,d⟩:=Lz underlying30 h
 have e:∀x∈es,∃y: {m:Nat // m<4294967296},x=[V.int .u32 (y.1:Int)]:=λx c=>by
  obtain⟨a,rfl,g⟩:=Aog underlying164 (d x c);simp only[Lit.wf,Be,decide_eq_true_eq]at g;have h1:IntKind.u32.min=0:=rfl;have h2:IntKind.u32.max=4294967295:=rfl;rw[h1,h2]at g;refine⟨⟨a.toNat,by omega⟩,?_⟩;rw[show((a.toNat:Nat):Int)=a by omega]
 have⟨l,i⟩:=Xs (f:=λy: {m:Nat // m<4294967296}=>V.int .u32 (y.1:Int)) (t:=164) kr e
 refine⟨l.map (·.1),?_,λx c=>?_⟩
 .rw[i,show prog.cellsOf 164=1 by kernel_rfl];unfold Az;rw[K9];rfl
 .obtain⟨y,_,rfl⟩:=Bc.1 c;exact y.2
def Ajz(h:Rd prog n 34 vs):∃x:RR,vs=[.bool x.num.neg,.ro 1 (Az x.num.mag),.ro 1 (Az x.den)]/\Ei x.num.mag/\Ei x.den:=by
 obtain⟨l,f,rfl,c,k,t,rfl,e,rfl⟩:=Hu underlying34 h;obtain⟨r,i,rfl,a,m,j,rfl,d,rfl⟩:=Hu underlying32 c;obtain⟨o,rfl⟩:=Bao a;obtain⟨s,rfl,u⟩:=Auo d;obtain⟨g,rfl,l2⟩:=Auo e;exact⟨⟨⟨o,s⟩,g⟩,rfl,u,l2⟩
def Bf6(h:Rd prog n 447 vs):∃x:(Int×Int),V.agg vs=V.agg [.i x.1,.i x.2]:=by
 obtain⟨g,d,rfl,a,f,j,rfl,c,rfl⟩:=Hu underlying447 h;obtain⟨i,rfl⟩:=Fu a;obtain⟨e,rfl⟩:=Fu c;exact⟨(i,e),rfl⟩
def Bju(h:Rd prog n 310 vs):∃x:(Int×Int),V.agg vs=V.agg [.i x.1,.i x.2]:=by
 obtain⟨g,d,rfl,a,f,j,rfl,c,rfl⟩:=Hu underlying310 h;obtain⟨i,rfl⟩:=Fu a;obtain⟨e,rfl⟩:=Fu c;exact⟨(i,e),rfl⟩
def Bjv(h:Rd prog n 28 vs):∃x:List (Int×Int),vs=[.ro 2 (A9 x)]:=by
 obtain⟨es,rfl,_,a⟩:=Lz underlying28 h;have⟨l,d⟩:=Ae1 (f:=(λp:Int×Int=>V.agg [.i p.1,.i p.2])) (t:=447) kr (λx c=>Bf6 (a x c));exact⟨l,by rw[d,show prog.cellsOf 447=2 by kernel_rfl];rfl⟩
def Bf7(h:Rd prog n 39 vs):∃x:List (Int×Int),vs=[.ro 2 (A9 x)]:=by
 obtain⟨es,rfl,_,a⟩:=Lz underlying39 h;have⟨l,d⟩:=Ae1 (f:=(λp:Int×Int=>V.agg [.i p.1,.i p.2])) (t:=310) kr (λx c=>Bju (a x c));exact⟨l,by rw[d,show prog.cellsOf 310=2 by kernel_rfl];rfl⟩
def Bf8(h:Rd prog n 203 vs):∃x:Ru,V.agg vs=x.v:=by
 obtain⟨o,r,rfl,c,m,aa,rfl,e,u,k,rfl,d,l,y,rfl,a,i,w,rfl,f,rfl⟩:=Hu underlying203 h;obtain⟨z,rfl⟩:=Fu c;obtain⟨g,rfl⟩:=Fu e;obtain⟨t,rfl⟩:=Fu d;obtain⟨j,rfl⟩:=Fu a;obtain⟨s,rfl⟩:=Ae0 f;exact⟨⟨z,g,t,j,s⟩,rfl⟩
def Bap(h:Rd prog n 22 vs):∃x:List Ru,vs=[.ro 5 (Hw x)]:=by
 obtain⟨es,rfl,_,a⟩:=Lz underlying22 h;have⟨l,d⟩:=Ae1 (f:=Ru.v) (t:=203) kr (λx c=>Bf8 (a x c));exact⟨l,by rw[d,show prog.cellsOf 203=5 by kernel_rfl];rfl⟩
def Bf9(h:Rd prog n 150 vs):∃x:It,V.agg vs=x.v:=by
 obtain⟨bf,bh,rfl,w,be,bp,rfl,ab,bl,bb,rfl,z,bd,bn,rfl,o,ax,bj,rfl,af,bg,bk,rfl,j,bo,ay,rfl,y,ba,bc,rfl,k,bi,bm,rfl,r,az,bq,rfl,s,ah,an,rfl,a,aw,al,rfl,g,aq,av,rfl,i,am,ag,rfl,e,au,ao,rfl,f,ai,aj,rfl,d,ak,ar,rfl,c,rfl⟩:=Hu underlying150 h;obtain⟨a0,rfl⟩:=Fu w;obtain⟨a1,rfl⟩:=Fu ab;obtain⟨a2,rfl⟩:=Fu z;obtain⟨a3,rfl⟩:=Ae0 o;obtain⟨a4,rfl⟩:=A0k af;obtain⟨a5,rfl⟩:=Yx j;obtain⟨a6,rfl⟩:=Fu y;obtain⟨a7,rfl⟩:=Fu k;obtain⟨a8,rfl⟩:=A0k r;obtain⟨a9,rfl⟩:=Fu s;obtain⟨l,rfl⟩:=Ae0 a;obtain⟨aa,rfl⟩:=Fu g;obtain⟨ad,rfl⟩:=Fu i;obtain⟨u,rfl⟩:=Fu e;obtain⟨ae,rfl⟩:=Fu f;obtain⟨m,rfl⟩:=Yx d;obtain⟨t,rfl⟩:=Fu c;exact⟨⟨a0,a1,a2,a3,a4,a5,a6,a7,a8,a9,l,aa,ad,u,ae,m,t⟩,rfl⟩
def Baq(h:Rd prog n 38 vs):∃x:List It,vs=[.ro 17 (Od x)]:=by
 obtain⟨es,rfl,_,a⟩:=Lz underlying38 h;have⟨l,d⟩:=Ae1 (f:=It.v) (t:=150) kr (λx c=>Bf9 (a x c));exact⟨l,by rw[d,show prog.cellsOf 150=17 by kernel_rfl];rfl⟩
def Bjw(h:Rd prog n 111 vs):∃x:Pit,V.agg vs=x.v:=by
 obtain⟨ad,af,rfl,g,ab,aq,rfl,k,ah,y,rfl,j,aa,an,rfl,e,r,ai,rfl,l,ae,aj,rfl,a,ao,u,rfl,i,w,z,rfl,c,ag,ak,rfl,f,rfl⟩:=Hu underlying111 h;obtain⟨a0,rfl⟩:=Fu g;obtain⟨o,rfl⟩:=Ae0 k;obtain⟨a2,rfl⟩:=Fu j;obtain⟨s,rfl⟩:=Fu e;obtain⟨a4,rfl⟩:=Fu l;obtain⟨a5,rfl⟩:=Fu a;obtain⟨t,rfl⟩:=Fu i;obtain⟨a7,rfl⟩:=Fu c;obtain⟨am,al,rfl,d,rfl⟩:=Hu underlying109 f;obtain⟨b0,rfl⟩:=Bf5 d;exact⟨{id:=a0,code:=o,fam:=a2,st:=s,wo:=a4,se:=a5,pt:=t,ky:=a7,m:=b0},rfl⟩
def Bga(h:Rd prog n 37 vs):∃x:List Pit,vs=[.ro 9 (C7 x)]:=by
 obtain⟨es,rfl,_,a⟩:=Lz underlying37 h;have⟨l,d⟩:=Ae1 (f:=Pit.v) (t:=111) kr (λx c=>Bjw (a x c));exact⟨l,by rw[d,show prog.cellsOf 111=9 by kernel_rfl];rfl⟩
def Bar(p:Po):Prop:=(Ei p.var.num.mag/\Ei p.var.den)/\(Ei p.lvl.num.mag/\Ei p.lvl.den)/\(Ei p.rate.num.mag/\Ei p.rate.den)
def Aup(h:Rd prog n 44 vs):∃x:Dl,V.agg vs=x.v/\Bar x.p:=by
 obtain⟨ce,bk,rfl,j,bi,bq,rfl,af,ch,av,rfl,ae,aw,bc,rfl,aj,bs,a2,rfl,u,ax,bv,rfl,c,co,cb,rfl,ak,bf,bu,rfl,d,bm,ci,rfl,m,be,br,rfl,r,am,an,rfl,a,rfl⟩:=Hu underlying44 h;obtain⟨a0,rfl⟩:=Fu j;obtain⟨a1,rfl⟩:=Fu af;obtain⟨cn,bo,rfl,ai,ao,bb,rfl,ad,bz,b0,rfl,o,cf,cp,rfl,z,ar,bn,rfl,ag,cj,aq,rfl,w,ay,cd,rfl,k,b1,cg,rfl,f,cl,bg,rfl,i,ck,cm,rfl,y,rfl⟩:=Hu underlying36 ae;obtain⟨bd,bh,rfl,e,au,cc,rfl,l,rfl⟩:=Hu underlying24 ai;obtain⟨bl,a9,rfl,s,ba,bx,rfl,al,rfl⟩:=Hu underlying27 ad;obtain⟨c0,rfl⟩:=Fu e;obtain⟨c1,rfl⟩:=Bap l;obtain⟨g0,rfl⟩:=Yx s;obtain⟨g1,rfl⟩:=Yx al;obtain⟨b2,rfl⟩:=Bjv o;obtain⟨b3,rfl⟩:=Fu z;obtain⟨b4,rfl,l4⟩:=Ajz ag;obtain⟨b5,rfl⟩:=Fu w;obtain⟨b6,rfl,l6⟩:=Ajz k;obtain⟨b7,rfl⟩:=Fu f;obtain⟨b8,rfl,l8⟩:=Ajz i;obtain⟨b9,rfl⟩:=Fu y;obtain⟨a3,rfl⟩:=Bga aj;obtain⟨a4,rfl⟩:=Baq u;obtain⟨a5,rfl⟩:=Yx c;obtain⟨a6,rfl⟩:=Bf7 ak;obtain⟨a7,rfl⟩:=Fu d;obtain⟨a8,rfl⟩:=Fu m;obtain⟨bp,az,rfl,t,bw,ca,rfl,ah,bt,bj,rfl,ab,rfl⟩:=Hu underlying41 r;obtain⟨e0,rfl⟩:=Fu t;obtain⟨e1,rfl⟩:=Fu ah;obtain⟨e2,rfl⟩:=Fu ab;obtain⟨aa,rfl⟩:=Bjt a;exact⟨{ses:=a0,cand:=a1,p:={len:=c0,rules:=c1,g:=⟨g0,g1⟩,en:=b2,mn:=b3,var:=b4,cut:=b5,lvl:=b6,top:=b7,rate:=b8,slack:=b9},pool:=a3,items:=a4,ess:=a5,uses:=a6,served:=a7,sec:=a8,nu:=e0,de:=e1,ex:=e2,seed:=aa},rfl,l4,l6,l8⟩
def Aqj{v:V}(h:RdW prog 44 v):∃x:Dl,v=x.v/\Bar x.p:=by
 obtain⟨n,vs,d,rfl⟩:=h;have⟨x,a,c⟩:=Aup d;exact⟨x,by rw[show En prog 44=some true by kernel_rfl];exact a,c⟩
def Bjx{e:Ev}(h:SmlV 1048576 e.v):e.an.small:=by
 cases h with
 |agg h=>
 have h1:=h (.ro 1 (Ap e.an.ch)) sm;have h2:=h (.str e.an.txt) sm;cases h1 with
 |ro h1 _=>cases h2 with
  |str h2=>rw[A0]at h1;exact⟨by omega,by omega⟩
def Bgb{l:List Ev}(h:SmlV 1048576 (.ro 11 (Aeu l))):l.length<=4000000/\∀e∈l,e.an.small:=by
 cases h with
 |ro h k=>rw[At6]at h;exact⟨by omega,λe a=>Bjx (k _ (Na a))⟩
def Auq{l:List (List UInt8)}(h:SmlV 1048576 (.ro 1 (Ha l))):l.length<=2000000/\∀s∈l,s.length<=2000000:=by
 cases h with
 |ro h k=>
 rw[Fh]at h;refine⟨by omega,λs hs=>?_⟩;have:=k (.str s) (Na hs);cases this with
 |str h=>omega
def Mw(h:SmlV 1048576 (.ro sz es)):es.length<=1048576:=by cases h with
 |ro h _=>exact h
def Bas{it:It}(h:SmlV 1048576 it.v):it.small:=by
 cases h with
 |agg h=>
 have h1:=h (.str it.stem) sm;have c:=Mw (h (.ro 1 (Ap it.ch)) sm);have d:=Mw (h (.ro 1 (Ap it.ass)) sm);rw[A0]at c d;cases h1 with
 |str h1=>exact⟨by omega,(Auq (h (.ro 1 (Ha it.opts)) sm)),(Auq (h (.ro 1 (Ha it.txts)) sm)),by omega,by omega⟩
structure DlSm(d:Dl):Prop where
 b:d.p.rules.length<=4000000/\d.pool.length<=4000000/\d.items.length<=4000000/\d.p.en.length<=4000000/\d.uses.length<=4000000
 it:∀it∈d.items,it.small
 el:d.ess.length<=4000000
 m1:d.p.var.num.mag.length<=1048576/\d.p.var.den.length<=1048576
 m2:d.p.lvl.num.mag.length<=1048576/\d.p.lvl.den.length<=1048576
 m3:d.p.rate.num.mag.length<=1048576/\d.p.rate.den.length<=1048576
def A4i(l:List Nat):(Az l).length=l.length:=by simp[Az]
def Bjy{d:Dl}(h:SmlV 1048576 d.v):DlSm d:=by
 cases h with
 |agg h=>
 have o:=Mw (h (.ro 5 (Hw d.p.rules)) sm);have m:=Mw (h (.ro 9 (C7 d.pool)) sm);have a:=h (.ro 17 (Od d.items)) sm;have r:=Mw (h (.ro 2 (A9 d.p.en)) sm);have n:=Mw (h (.ro 2 (A9 d.uses)) sm);have s:=Mw (h (.ro 1 (Ap d.ess)) sm);have i:=Mw (h (.ro 1 (Az d.p.var.num.mag)) sm);have l:=Mw (h (.ro 1 (Az d.p.var.den)) sm);have e:=Mw (h (.ro 1 (Az d.p.lvl.num.mag)) sm);have f:=Mw (h (.ro 1 (Az d.p.lvl.den)) sm);have g:=Mw (h (.ro 1 (Az d.p.rate.num.mag)) sm);have j:=Mw (h (.ro 1 (Az d.p.rate.den)) sm);rw[Ui]at o;rw[Er]at m;rw[Eh]at r n;rw[A0]at s;rw[A4i]at i l e f g j;cases a with
 |ro a k=>
  rw[I5]at a;exact⟨⟨by omega,by omega,by omega,by omega,by omega⟩,λit c=>Bas (k _ (Na c)),by omega,⟨i,l⟩,⟨e,f⟩,⟨g,j⟩⟩
def Bgc{d:Dl}(i:Bar d.p)(h:DlSm d)(hs:hvB d=false):DlOk d:=by
 have⟨⟨e,f⟩,⟨j,a⟩,k,g⟩:=i
 have hb:=h.b;have⟨m1,m2⟩:=h.m1;have⟨m3,m4⟩:=h.m2;have⟨m5,m6⟩:=h.m3
 refine⟨⟨⟨⟨e,by omega⟩,f,by omega⟩,⟨⟨j,by omega⟩,a,by omega⟩,⟨⟨k,by omega⟩,g,by omega⟩⟩,λhp=>?_,by omega,h.it,h.el⟩
 have c:=(Yn hp).1
 unfold hvB at hs
 simp only[E8,Bool.and_eq_false_iff,decide_eq_false_iff_not]at hs
 omega
def Ae2{H:Type}{d:DataW H}{l:List (DataW H)}(h:d∈l):Rows.uptoBulk d<=Rows.uptoBulkAll l:=by
 induction l with
 |nil=>cases h
 |cons x r ih=>
  simp only[Rows.uptoBulkAll];cases Bu.1 h with
  |inl e=>subst e;omega
  |inr e=>have:=ih e;omega
def Bat{H:Type}(d:DataW H):1<=Rows.uptoBulk d:=by
 cases d with
 |lit l=>cases l<;>simp[Rows.uptoBulk]
 |_=>simp[Rows.uptoBulk]
def Aur{H:Type}(l:List (DataW H)):l.length<=Rows.uptoBulkAll l:=by
 induction l with
 |nil=>simp[Rows.uptoBulkAll]
 |cons x r ih=>have:=Bat x;simp only[Rows.uptoBulkAll,Ax];omega
def Bjz(H:Type):BulkOk (Rows.uptoBulk (H:=H))where
 str b:=by simp[Rows.uptoBulk]
 slice elems spare:=by
  refine⟨?_,λe c=>?_⟩
  .have:=Aur elems;simp only[Rows.uptoBulk];omega
  .have:=Ae2 c;simp only[Rows.uptoBulk];omega
 agg parts e c:=by have:=Ae2 c;simp only[Rows.uptoBulk];omega
def Axw{H:Type}{l:List (DataW H)}(c:Rows.uptoSmall H l=true):∀d∈l,Rows.uptoBulk d<=1048576:=by
 exact λd e=>Ae (Ae2 e) (Kd c)
abbrev A0l:List (String×DataW Unit):=Rows.resumeAgainRow.laid
def Bj0{W:World}(hs:W.ShapedOpen prog):∃m,W.cell? ⟨1,0,none⟩=some (.int .i64 m):=
 Go.Proofs.cell_of_shapedOpen_int (zero:= #[.int .i64 0]) (t:=3) hs (Kd kr) kr rfl kr kr underlying3
def Blk:prog.globalNamed "errors.errorType" =some 0:=by kernel_rfl
def Bll:(prog.cutTypes.find? (·.1== "internal/reflectlite.rtype")).map (·.2)=some 241:=by kernel_rfl
def Bj1:((List.range 521).filter λt=>prog.rowNamed t [101,114,114,111,114])=[125]:=by kernel_rfl
def Blm:prog.types.size=521:=by kernel_rfl
def Aj0{W:World}(h:laidMetH prog A0l W):Glw 0 Bhw W:=by
 have⟨c,u,ty,k,g,m,j,d⟩:=((laidMetH_iff.1 h).2) ("errors.errorType",Rows.laid_errors_errorType) (Nj.2 ⟨by simp[A0l,Rows.resumeAgainRow],by kernel_rfl⟩);have en:=(J0 k).symm;subst en;obtain rfl:=J0 (Bll.symm.trans g);have e:ty∈(List.range 521).filter λt=>prog.rowNamed t [101,114,114,111,114]:=Nj.2 ⟨Kv.2 (by rw[<-Blm];exact m),j⟩
 rw[Bj1]at e;obtain rfl:=Bz.1 e;have f:typeHandle prog 125=.pointer (some ⟨4,125,none⟩):=kr;rw[f]at d;have:=World.var?_cell Blk d 0;unfold Glw;simpa using this
def Bln:DataW Unit->Value
 |.lit (.int k n)=>.int k n
 |_=>undef
def Bmp(l:List (DataW Unit)):List Value:=l.flatMap λ
 |.agg m=>m.map Bln
 |x=>[Bln x]
noncomputable def Bj2(h:Array Obj)(x:String×DataW Unit):Array Obj:=match prog.globalNamed x.1,x.2 with
 |some g,.agg l=>h.modify g λ
   |.cells _ t c=>.cells (Bmp l).toArray t c
   |o=>o
 |_,_=>h
noncomputable def Ae3(d:Os):World:=
 {World.holding prog d ⟨#[],#[],[]⟩with heap:=(A0l.foldl Bj2 (World.holding prog d ⟨#[],#[],[]⟩).heap).modify 0 λ
   |.cells _ t c=>.cells #[Bhw] t c
   |o=>o}
def zI:Value:=.int .i64 0
def zS:Value:=.slice none 0 0
def zd:Value:=.agg #[zI,zI,zI,zS,zS,zS,zS,zI,.bool false,zS,zS,zI,.bool false,zS,zS,zI,.bool false,zS,zS,zI,zS,zS,zS,zS,zI,zI,zI,zI,zI,.int .u64 0]
def dI{H:Type}:DataW H:=.lit (.int .i64 0)
def dR{H:Type}:DataW H:=.agg [.agg [.lit (.bool false),.nil],.nil]
def dD{H:Type}:DataW H:=.agg [dI,dI,.agg [.agg [dI,.nil],.agg [.nil,.nil],.nil,dI,dR,dI,dR,dI,dR,dI],.nil,.nil,.nil,.nil,dI,dI,.agg [dI,dI,dI],.lit (.int .u64 0)]
variable {t:Int}
def Bgd{n:Int}(h:I64 n):zag (zig n)=n:=by
 unfold I64 at h;unfold zag zig
 by_cases c:n<0
 .simp only[Ab c];split<;>omega
 .simp only[I c];split<;>omega
def Bau{n:Int}(h:I64 n):Axm (Vu n)=n:=by
 rw[Ajv (Ade n),An0 h,Bgd h]
def A0m{f:Nat->Except Int (Nd×Nat)}:∀(ks:List Nd)(c:Nat)(d:List UInt8),(∀x∈ks,∀c d,bs.drop c=Oy x++d->f c=.ok (x,c+(Oy x).length))->
  bs.drop c=(ks.map Oy).flatten++d->rdL f ks.length c=.ok (ks,c+((ks.map Oy).flatten).length)
 |[],c,d,_,_=>by simp[rdL]
 |x::ks,c,d,e,h=>by
  simp only[Br,Pb,B6]at h;simp only[Ax,rdL,(e x sm c _ h),(A0m ks (c+(Oy x).length) d (λy g=>e y Gi) (Adf h))];simp[Hm]
def A0n:∀(lv:Nat)(x:Nd)(c:Nat)(g:List UInt8),Fit lv x->bs.drop c=Oy x++g->Zu bs e lv c=.ok (x,c+(Oy x).length)
 |0,x,c,g,o,_=>by simp[Fit]at o
 |lv+1,.mk t k n s ks,c,g,o,h=>by
  rw[Fit]at o;have⟨h1,h2,h3,m,h7⟩:=o;have hk:1<=k/\k<=3:=by rcases m with h|h|h<;>omega
  rw[Oy]at h|-;simp only[B6,Cj]at h;have⟨u,d⟩:=Aqh (Adf h);have y:(UInt8.ofNat k.toNat).toNat=k.toNat:=by simp;omega
  have aa:(t.toNat:Int)=t:=om;rw[Zu,(Adg (e:=e) om h)];simp only;rw[I om,u];simp only[y,Aq,Ax,aa]
  rcases m with⟨rfl,rfl,rfl⟩|⟨rfl,rfl,rfl,m⟩|⟨rfl,rfl,rfl,m⟩
  .simp only[if_true]at d|-;have j:=Adg (e:=e) (Ade n) d;simp only[show(1:Int).toNat=1 from rfl,if_true,j,Bau h3]
   congr 2;omega
  .rw[I dC]at d|-;simp only[if_true,B6]at d|-;have l:=Adf d
   have w:c+(Kz t.toNat).length+1+(Kz s.length).length+s.length<=bs.length:=by
    have:=congrArg List.length l;simp only[D6,Aq]at this;have h0:=congrArg List.length d;simp only[D6,Aq]at h0;have hp:0<(Kz s.length).length:=by rw[Kz];split<;>simp
    omega
   have hc:rdC bs e 2000 (c+(Kz t.toNat).length+1)=.ok (s.length,c+(Kz t.toNat).length+1+(Kz s.length).length):=by
    unfold rdC;rw[(Adg (e:=e) om d)];simp only;rw[I oM]
   simp only[show(2:Int).toNat=2 from rfl,show¬(2=1) by omega,if_true,hc];rw[Ab w,l,Xv]
   congr 2;simp;omega
  .rw[I dc,I dC]at d|-;simp only[B6]at d;have l:=Adf d
   have hc:rdC bs e 1024 (c+(Kz t.toNat).length+1)=.ok (ks.length,c+(Kz t.toNat).length+1+(Kz ks.length).length):=by
    unfold rdC;rw[(Adg (e:=e) om d)];simp only;rw[I oM]
   simp only[show(3:Int).toNat=3 from rfl,show¬(3=1) by omega,show¬(3=2) by omega,if_true,hc,(A0m (f:=Zu bs e lv) ks _ g (λx hx c g hh=>A0n lv x c g (h7 x hx) hh) l)]
   congr 2;simp;omega
structure JvR(e:Jv):Prop where
 a:I64 e.kind/\I64 e.time/\I64 e.item/\I64 e.value
 b:∀n∈e.ch,I64 n
 c:I64 e.ik/\I64 e.il/\I64 e.ig
def Rb{n:Int}(k:Nat)(h:0<=t/\t<=9999999)(c:I64 n):Fit (k+1) (num t n):=by
 unfold num;rw[Fit];exact⟨h.1,h.2,c,.inl ⟨rfl,rfl,rfl⟩,λx d=>by cases d⟩
def Bav:I64 0:=by unfold I64;omega
def A4j{e:Jv}(k:JvR e)(m:e.ch.length<=10)(ht:e.text.length<=1000):Fit 8 (.mk 50 3 0 [] (Ja e)):=by
 have⟨⟨o,g,d,l⟩,b,c1,f,r⟩:=k;rw[Fit]
 refine⟨by omega,by omega,Bav,.inr (.inr ⟨rfl,rfl,rfl,?_⟩),λx c=>?_⟩
 .unfold Ja Vj
  split
  .simp
  .split<;>simp
 .unfold Ja at c
  rcases Cc.1 c with h|h
  .simp at h
   rcases h with rfl|rfl
   .exact Rb 6 om o
   .exact Rb 6 om g
  .split at h
   .unfold Vj at h;simp at h
    rcases h with rfl|rfl|rfl|rfl|rfl
    .exact Rb 6 om d
    .rw[Fit];refine⟨by omega,by omega,Bav,.inr (.inr ⟨rfl,rfl,rfl,by simp[Xn];omega⟩),λx c=>?_⟩;simp only[Xn,Bc]at c;obtain⟨n,j,rfl⟩:=c;exact Rb 5 om (b n j)
    .exact Rb 6 om l
    .rw[Fit];exact⟨by omega,by omega,Bav,.inr (.inl ⟨rfl,rfl,rfl,by omega⟩),λx c=>by cases c⟩
    .exact Rb 6 om (by unfold I64;split<;>omega)
   .split at h
    .simp at h
     rcases h with rfl|rfl|rfl
     .exact Rb 6 om c1
     .exact Rb 6 om f
     .exact Rb 6 om r
    .simp at h
def Oz(e:Jv):Nd:=.mk 50 3 0 [] (Ja e)
def Axx{e:Jv}(d:JvR e)(c:P1 e=0):Zu (Oy (Oz e)) 4 8 0=.ok (Oz e,(Oy (Oz e)).length):=by
 have⟨h1,h2⟩:=Auh c;have:=A0n (bs:=Oy (Oz e)) (e:=4) 8 (Oz e) 0 [] (A4j d h1 h2) sm;simpa using this
def Baw(e:Jv)(o:P1 e=0):gP (Oz e)=e:=by
 have⟨f,_,_,m,_⟩:=Yv o;rw[Bi7]at f;simp only[Be,I1,decide_eq_true_eq,Ht,decide_eq_false_iff_not]at f;have⟨⟨⟨⟨_,_⟩,j⟩,c⟩,k⟩:=f
 have g:∀l:List Int,(Xn l).map Nd.nn=l:=by
  intro l
  induction l with
  |nil=>rfl
  |cons n l ih=>simp only[Xn,Br]at ih|-;rw[ih];rfl
 unfold Oz
 by_cases h2:e.kind=2
 .have c:=c.resolve_left om;simp only[Aev,Be,decide_eq_true_eq]at c;have r:(Xn e.ch).length<=10:=by simpa[Xn]using m
  have h:decide ((if e.om=true then(1:Int)else 0)=1)=e.om:=by cases e.om<;>simp
  simp only[gP,Aqi,Ja,h2,if_true,Vj,Cj,D8,num,Nd.nn,Nd.ss,r,evA,g];cases e
  simp_all
 .have j:=j.resolve_left h2;simp only[Vt,Be,decide_eq_true_eq,Ht]at j
  by_cases d:e.kind=5
  .have k:=k.resolve_left (sG d);simp only[gP,Aqi,Ja,d,if_true,Cj,D8,num,Nd.nn,evI,show¬(5:Int)=2 by omega,if_false];cases e
   simp_all
  .have c:=c.resolve_left d;simp only[Aev,Be,decide_eq_true_eq]at c;simp only[gP,Aqi,Ja,h2,d,if_false,Cj,D8,num,Nd.nn,evT];cases e
   simp_all
def Bge{e:Jv}(c:P1 e=0):Alb (gP (Oz e)) (Oz e)=false:=by
 have d:Ajg e=Oz e:=by rw[Ajg,Ab c];rfl
 rw[Baw e c];simp[Alb,c,d,eqN]
def Aus:∀(l:List Jv),(∀e∈l,P1 e=0)->Tw (l.map Oz)=(l,true)
 |[],_=>by simp[Tw]
 |e::l,h=>by
  have c:=h e sm;rw[Br,Tw,I (by rw[Bge c];simp),Aus l (λx d=>h x Gi),Baw e c]
def Wr(a:List UInt8)(es:List Jv):Prop:=(∃s,Run a a.length s (es.map Oz))/\∀e∈es,P1 e=0
def Wr.read{a:List UInt8}{es:List Jv}(h:Wr a es):Iz a=(es.map Oz,a.length,0):=by
 have⟨⟨s,c⟩,_⟩:=h;have:=c.le.2;rw[c.rdJ,show 301-(es.map Oz).length=(300-(es.map Oz).length)+1 by omega,rdJ,Ab (A2 _)]
def A0o{a:List UInt8}{es:List Jv}{e:Jv}(h:Wr a es)(j:JvR e)(d:(wrR a e).2=0):
  Wr (wrR a e).1 (es++[e])/\(∃m,(wrR a e).1=a++m/\0<m.length/\m.length<=2012):=by
 unfold wrR at d|-
 split at d
 .rename_i h;simp only at d;exact absurd d h
 rename_i g;rw[I g];have f:=sG g
 have⟨⟨s,h1⟩,h2,h3⟩:=Bab (Axx j f) d;rw[h.read]at h1;change Wr (Aez a (Oy (Oz e))).1 (es++[e])/\∃m,(Aez a (Oy (Oz e))).1=a++m/\0<m.length/\m.length<=2012
 refine⟨⟨⟨s,by rw[Cg];exact h1⟩,λx c=>?_⟩,?_⟩
 .rcases Cc.1 c with c|c
  .exact h.2 x c
  .rw[Bz.1 c];exact f
 .rw[h2]
  refine⟨Lw (Oy (Oz e))++Kl (Tv a (Oy (Oz e))) 8,by rw[Aax,B6],?_,?_⟩
  .simp only[Lw,Aq,J9];omega
  .simp only[Lw,Aq,J9];omega
def Bgf{a b:List UInt8}{es:List Jv}{e:Jv}(u:Wr a es)(t:Wr b (es++[e]))(h1:a.length<=c)(h2:c<b.length)(hp:b.take a.length=a):(Iz (b.take c)).1=es.map Oz:=by
 have⟨⟨s,j⟩,_⟩:=u;have⟨⟨s',hq⟩,_⟩:=t
 have h:b.take c=a++(b.drop a.length).take (c-a.length):=by
  have e1:b=a++b.drop a.length:=by
   have:=Ga a.length b;rw[hp]at this;exact this.symm
  have n:(a++b.drop a.length).take c=a++(b.drop a.length).take (c-a.length):=by
   rw[Uw,Ba h1]
  rw[<-e1]at n;exact n
 have d:Run (b.take c) a.length s (es.map Oz):=by rw[h];exact j.more _
 have m:=d.le.2;rw[d.rdJ,show 301-(es.map Oz).length=(300-(es.map Oz).length)+1 by omega,rdJ]
 split
 .rfl
 split
 .rfl
 rename_i x k s2 y
 exfalso
 have⟨p1,w,p3,z,p5,_⟩:=Vk y;have o:=j.canon.1;have⟨g,q2,r⟩:=hq.canon;rw[Cg]at g r;have⟨l,f⟩:=r (es.map Oz).length sm;rw[Qo rfl,<-o]at l f;rw[Agr,<-o]at g;simp only[Br,Ci,szs,Sj]at g l f
 have et:((b.take c).drop a.length).take 4=(b.drop a.length).take 4:=by
  simp only[D6,C8]at w;rw[Xx,Xw,G6 om]
 rw[et,f]at z;simp only[D6,C8]at p5;omega
def An7(d:Dl)(t:Te)(e:Ev):∀(l:List Ev)(s:Se)(k:Nat){s':Se}{n:Nat},Sn d t s k l=(s',n,0)->J8 d t s' e=0->Sn d t s k (l++[e])=(Oe d t s' e,n+1,0)
 |[],s,k,s',n,h,h1=>by
  rw[Sn]at h;injection h with h2 h3;injection h3 with h3 _;subst h2 h3;rw[D8,Sn,I Gi,Sn]
 |x::l,s,k,s',n,h,h1=>by
  rw[Sn]at h
  split at h
  .rename_i c;injection h with _ h3;injection h3 with _ h3;exact absurd h3 c
  .rename_i c;rw[Cj,Sn,I c];exact An7 d t e l _ _ h h1
def Bj3{d:Dl}{es:List Jv}{s:Se}(c:J7 d=0)(h1:(Iz l).1=es.map Oz)(h2:∀e∈es,P1 e=0)(j:Sn d (Jn d) L8 0 (es.map U1)=(s,es.length,0)):Aun d l=(s,es.length,l.take (szs (es.map Oz)),0):=by
 have g:evs l=es.map U1:=by unfold evs;rw[Bal,h1,Aus es h2]
 have f:Ns d (evs l)=(s,es.length,0):=by unfold Ns;rw[I Gi,g,j]
 have h:Adh l es.length=szs (es.map Oz):=by unfold Adh;rw[h1,Ba (by simp)]
 unfold Aun;rw[I Gi,f];show(s,es.length,l.take (Adh l es.length),(0:Int))=_
 rw[h]
structure Ch(d:Dl)(ss:List Se)(ls:List (List UInt8))(ds:List Jv):Prop where
 l1:ss.length=ds.length+1
 l2:ls.length=ds.length+1
 w:∀k,k<=ds.length->Wr (ls.getD k []) (ds.take k)/\Sn d (Jn d) L8 0 ((ds.take k).map U1)=(ss.getD k L8,k,0)
 b:∀k,k<=ds.length->SeB k (ss.getD k L8)/\(ls.getD k []).length<=2012*k
 p:∀k,k<ds.length->∃m,ls.getD (k+1) []=ls.getD k []++m
 st:∀k,k<ds.length->J8 d (Jn d) (ss.getD k L8) (U1 (ds.getD k zE))=0/\wrR (ls.getD k []) (ds.getD k zE)=(ls.getD (k+1) [],0)/\Oe d (Jn d) (ss.getD k L8) (U1 (ds.getD k zE))=ss.getD (k+1) L8
 sm:∀e∈ds,(U1 e).an.small
def Ch.nil(d:Dl):Ch d [L8] [[]] []where
 l1:=rfl
 l2:=rfl
 w k hk:=by
  have:=X4.1 hk;subst this;exact⟨⟨⟨_,.start⟩,λe h=>by cases h⟩,rfl⟩
 b k hk:=by
  have:=X4.1 hk;subst this;exact⟨SeB.new,B5 _⟩
 p k hk:=absurd hk (Vx _)
 st k hk:=absurd hk (Vx _)
 sm e he:=by cases he
def Ka{l:List α}{x z:α}(h:k<l.length):(l++[x]).getD k z=l.getD k z:=by
 simp[Dq,Bt h]
def Qd{l:List α}{x z:α}(h:k=l.length):(l++[x]).getD k z=x:=by
 subst h;simp[Dq]
def Ch.push{d:Dl}{ss:List Se}{ls:List (List UInt8)}{ds:List Jv}{e:Jv}(h:Ch d ss ls ds)(hd:J7 d=0)(hok:DlOk d)(hn:ds.length<=700)(hr:JvR e)(hs:(U1 e).an.small)
  (h1:J8 d (Jn d) (ss.getD ds.length L8) (U1 e)=0)(h2:(wrR (ls.getD ds.length []) e).2=0):
  Ch d (ss++[Oe d (Jn d) (ss.getD ds.length L8) (U1 e)]) (ls++[(wrR (ls.getD ds.length []) e).1]) (ds++[e]):=by
 have l1:=h.l1
 have l2:=h.l2
 have⟨w1,w2⟩:=h.w ds.length (A2 _)
 have⟨b1,b2⟩:=h.b ds.length (A2 _)
 rw[Bb]at w1 w2
 have⟨g1,m,g2,g3,g4⟩:=A0o w1 hr h2
 have⟨dp,dt,_⟩:=Ap5 hd hok
 have hL:(ds++[e]).length=ds.length+1:=by simp
 refine⟨by simp[l1],by simp[l2],λk hk=>?_,λk hk=>?_,λk hk=>?_,λk hk=>?_,λx hx=>?_⟩
 .rw[hL]at hk
  rcases Cz ds.length k with hlt|hle
  .have:k=ds.length+1:=by omega
   subst this
   rw[Qd om,Qd om,Ba om,Cg]
   exact⟨g1,An7 d _ _ _ _ _ w2 h1⟩
  .rw[Ka om,Ka om,Cx hle]
   exact h.w k hle
 .rw[hL]at hk
  rcases Cz ds.length k with hlt|hle
  .have:k=ds.length+1:=by omega
   subst this
   rw[Qd om,Qd om]
   exact⟨A9q dp dt hs h1 b1 om,by rw[g2,Aq];omega⟩
  .rw[Ka om,Ka om]
   exact h.b k hle
 .rw[hL]at hk
  rcases Cz k ds.length with hlt|hge
  .rw[Ka om,Ka om]
   exact h.p k hlt
  .have:k=ds.length:=by omega
   subst this
   rw[Qd om,Ka om]
   exact⟨m,g2⟩
 .rw[hL]at hk
  rcases Cz k ds.length with hlt|hge
  .rw[Ka om,Ka om,Ka om,Ka om,Ka om]
   exact h.st k hlt
  .have:k=ds.length:=by omega
   subst this
   rw[Ka (l:=ss) om,Ka (l:=ls) om,Qd (l:=ds) rfl,Qd (l:=ls) om,Qd (l:=ss) om]
   exact⟨h1,Prod.ext rfl h2,rfl⟩
 .rcases Cc.1 hx with hx|hx
  .exact h.sm x hx
  .rw[Bz.1 hx];exact hs
def Ch.pre{d:Dl}{ss:List Se}{c:List (List UInt8)}{g:List Jv}(h:Ch d ss c g):∀ {j:Nat},k<=j->j<=g.length->∃m,c.getD j []=c.getD k []++m
 |0,l,_=>by
  have:=X4.1 l;subst this;exact⟨[],by simp⟩
 |j+1,l,hj=>by
  rcases Cz j k with o|f
  .have:k=j+1:=om;subst this;exact⟨[],by simp⟩
  .have⟨m,r⟩:=h.pre f om;have⟨n,e⟩:=h.p j om;exact⟨m++n,by rw[e,r,B6]⟩
def Ch.cut{d:Dl}{ss:List Se}{g:List (List UInt8)}{e:List Jv}(h:Ch d ss g e)(hd:J7 d=0){w:Nat}(y:w<=e.length)(h1:(g.getD w []).length<=c)(h2:w<e.length->c<(g.getD (w+1) []).length)
  (hc:c<=(g.getD e.length []).length):Aun d ((g.getD e.length []).take c)=(ss.getD w L8,w,g.getD w [],0):=by
 have⟨n,z⟩:=h.w w y;have l:(e.take w).length=w:=by rw[C8];omega
 have hz:szs ((e.take w).map Oz)=(g.getD w []).length:=by have⟨⟨s,hr⟩,_⟩:=n;exact hr.canon.1.symm
 have⟨m,hm⟩:=h.pre (k:=w) (j:=e.length) y (A2 _)
 have r:(Iz ((g.getD e.length []).take c)).1=(e.take w).map Oz:=by
  rcases Cz w e.length with f|aa
  .have⟨m1,o⟩:=h.pre (k:=w+1) (j:=e.length) f (A2 _);have⟨m2,t⟩:=h.p w f;have e1:(g.getD e.length []).take c=(g.getD (w+1) []).take c:=by rw[o,Cx om]
   have⟨x,_⟩:=h.w (w+1) f;rw[Av f]at x;rw[e1];exact Bgf n x h1 (h2 f) (by rw[t];simp)
  .have:w=e.length:=om;subst this;rw[Ba h1,n.read]
 have:=Bj3 hd r n.2 (by rw[z,l]);rw[this,l,hz,Xw,G6 h1,hm];simp
def Xt(h:Rd prog n 3 vs):∃x: {x:Int // I64 x},vs=[V.i x.1]:=by
 obtain⟨a,rfl,c⟩:=Aog underlying3 h;simp only[Lit.wf,Be,decide_eq_true_eq]at c;have e1:IntKind.i64.min= -9223372036854775808:=kr;have e2:IntKind.i64.max=9223372036854775807:=kr;exact⟨⟨a,by unfold I64;omega⟩,rfl⟩
def Aut{p:α->Prop}(l:List {x:α // p x}):∀c∈l.map Subtype.val,p c:=λc d=>by
 obtain⟨y,_,rfl⟩:=Bc.1 d;exact y.2
def Bgg(h:Rd prog n 25 vs):∃x:List {x:Int // I64 x},vs=[.ro 1 (Pz (x.map Subtype.val))]:=by
 obtain⟨es,rfl,_,a⟩:=Lz underlying25 h;have⟨l,d⟩:=Xs (f:=λx: {x:Int // I64 x}=>V.i x.1) (t:=3) kr (λx c=>Xt (a x c));refine⟨l,?_⟩;rw[d,show prog.cellsOf 3=1 by kernel_rfl];unfold Pz;rw[K9];rfl
def Blo(h:Rd prog n 79 vs):∃x: {e:Jv // JvR e},V.agg vs=x.1.v:=by
 obtain⟨u0,w0,rfl,h0,u1,w1,rfl,h1,u2,w2,rfl,h2,u3,w3,rfl,z,rfl⟩:=Hu underlying79 h;obtain⟨⟨c,o1⟩,rfl⟩:=Xt h0;obtain⟨⟨g,y⟩,rfl⟩:=Xt h1;obtain⟨a0,b0,rfl,t,a1,b1,rfl,o,a2,b2,rfl,m,a3,b3,rfl,g3,a4,b4,rfl,g4,rfl⟩:=Hu underlying75 h2;obtain⟨⟨f,s⟩,rfl⟩:=Xt t;obtain⟨j,rfl⟩:=Bgg o;obtain⟨⟨value,o5⟩,rfl⟩:=Xt m;obtain⟨d,rfl⟩:=Ae0 g3;obtain⟨om,rfl⟩:=Bao g4;obtain⟨a5,b5,rfl,g5,a6,b6,rfl,g6,a7,b7,rfl,k,a8,b8,rfl,u,rfl⟩:=Hu underlying77 z;obtain⟨⟨w,l⟩,rfl⟩:=Xt g5;obtain⟨it,rfl⟩:=Fu g6;obtain⟨⟨r,o7⟩,rfl⟩:=Xt k;obtain⟨⟨ig,o8⟩,rfl⟩:=Xt u;exact⟨⟨⟨c,g,f,j.map Subtype.val,value,d,om,w,it,r,ig⟩,⟨o1,y,s,o5⟩,Aut j,l,o7,o8⟩,rfl⟩
def Bgh{v:V}(h:RdW prog 62 v):∃x:List Jv,v=.ro 11 (x.map Jv.v)/\∀e∈x,JvR e:=by
 obtain⟨n,vs,g,rfl⟩:=h;obtain⟨es,rfl,_,a⟩:=Lz underlying62 g;have⟨l,d⟩:=Ae1 (f:=λx: {e:Jv // JvR e}=>x.1.v) (t:=79) kr (λx c=>Blo (a x c));refine⟨l.map Subtype.val,?_,Aut l⟩;rw[show En prog 62=some false by kernel_rfl,d,show prog.cellsOf 79=11 by kernel_rfl,K9];rfl
def Bgi{v:V}(h:RdW prog 3 v):∃x:Int,v=.i x:=by
 obtain⟨n,vs,c,rfl⟩:=h;obtain⟨x,rfl⟩:=Fu c;exact⟨x,by rw[show En prog 3=some false by kernel_rfl];rfl⟩
def Bgj{l:List Jv}(h:SmlV 1048576 (.ro 11 (l.map Jv.v))):l.length<=4000000/\∀e∈l,(U1 e).an.small:=by
 rw[Bhc]at h;have⟨h1,h2⟩:=Bgb h;exact⟨by simpa using h1,λe c=>h2 _ (Na c)⟩
noncomputable def Adi(d:Dl)(s:Se)(b:List UInt8)(e:Jv):Se×List UInt8×Int:=
 if V3 d s (U1 e)≠0 then(L8,[],V3 d s (U1 e))else if(wrR b e).2≠0 then(L8,[],(wrR b e).2)else(Axb d s (U1 e),(wrR b e).1,0)
def Bj4(r:Se×List UInt8×Int):V:=.tup [r.1.v,.ro 1 (F6 r.2.1),.i r.2.2]
def Auu(d:Dl)(s:Se)(b:List UInt8)(e:Jv)(hd:DlOk d)(ha:(U1 e).an.small)(hs:SeOk s)(hw:Ks s.t.w 998)(aj:s.t.steps.length<=900)(hb:b.length<=2^39):
  Jp gv prog 13 [d.v,s.v,.ro 1 (F6 b),e.v] (λr=>r=Bj4 (Adi d s b e)):=by
 refine Jp.relaxP ?_;have ab:=A3s Agn d s (U1 e) hd ha hs hw aj;change Jp _ _ _ [d.v,s.v,e.v] _ at ab;have ad:=A37 b e hb;unfold seR at ab;unfold bcV at ad;have pb:=Gg b;have pw:=Gg (wrR b e).1
 have hR:Bj4 (Adi d s b e)=if V3 d s (U1 e)≠0 then .tup [L8.v,.ro 1 [],.i (V3 d s (U1 e))]else if(wrR b e).2≠0 then .tup [L8.v,.ro 1 [],.i (wrR b e).2]else .tup [(if V3 d s (U1 e)=0 then Axb d s (U1 e)else L8).v,.ro 1 (F6 (wrR b e).1),.i 0]:=by
  unfold Adi
  by_cases h1:V3 d s (U1 e)=0
  .by_cases h2:(wrR b e).2=0
   .rw[I Gi,I Gi,I Gi,I Gi,Ab h1];rfl
   .rw[I Gi,Ab h2,I Gi,Ab h2];rfl
  .rw[Ab h1,Ab h1];rfl
 rw[hR];clear hR;generalize(if V3 d s (U1 e)=0 then Axb d s (U1 e)else L8)=x at*;generalize V3 d s (U1 e)=ae,F6 (wrR b e).1=wv at*;generalize(wrR b e).2=we at*;generalize F6 b=bv at*;have⟨dc,ah,d1,o,j,z⟩:=Xk d;have⟨sc,af,m,u,h,s4⟩:=Ku s;have⟨xc,ag,y,x2,f,x4⟩:=Ku x;have⟨ec,aa,e1,e2,g,n⟩:=Xl (U1 e);change e.v=.agg ec at aa;rw[ah,af,ag,aa]at ab;rw[aa]at ad;rw[ah,af,ag,aa];have k:=λS:AS=>F0 (S:=S) j
 have vs:=λS:AS=>F0 (S:=S) h
 have vx:=λS:AS=>F0 (S:=S) f
 have l:=λS:AS=>F0 (S:=S) g
 have ai:∀c:Int,Bh (.tup [.agg [.i 0,.i 0,.i 0,.i 0,.nils,.nils,.i 0,.nils,.int .u64 0,.i 0,.nils,.nils],.nils,.i c]) (.tup [L8.v,.ro 1 [],.i c]):=λc=>Bh.tup (.cons Ur (.cons (Bh.nils 1) (.cons (Bh.refl _) .nil)))
 refine Bp func13 λw0 N0 hG=>?_;refine Y [2,4,5,7,8] [4,5,7,8] C1 (Au 3 C1 ?_);refine Jf hG ab func25 rfl kr sm rfl rfl rfl sR Gi sR (Ak [2,7,8,11,12] [7,8,11] C1 ?_);refine J (Y [2,7,8,11,12,22] [7,8,11] sR ?_)
 refine A1 (λh1=>?_) λh1=>?_
 .exact Y [8,9,10] [8] sR (Aj (Aa C1 (by rw[Ab (sG h1)];exact ai _)))
 rw[I (sG h1)];refine Au 2 C1 ?_;refine Jf hG ad func26 rfl kr sm rfl rfl rfl sR Gi sR (Ak [8,11,12,13] [8,11] sR ?_);refine J (Y [8,11,12,13,32] [8,11] sR ?_)
 refine A1 (λh2=>?_) λh2=>?_
 .exact Y [8,9,10] [8] sR (Aj (Aa C1 (by rw[Ab (sG h2)];exact ai _)))
 rw[I (sG h2)];exact Y [8,9,10] [8] C1 (Aj (Aa C1 (Bh.refl _)))
noncomputable def rn(d:Dl)(l:List Jv):Nat->List Se×List (List UInt8)×List Jv
 |0=>([L8],[[]],[])
 |k+1=>if(Adi d ((rn d l k).1.getD (rn d l k).2.2.length L8) ((rn d l k).2.1.getD (rn d l k).2.2.length []) (l.getD k zE)).2.2≠0 then rn d l k
  else((rn d l k).1++[(Adi d ((rn d l k).1.getD (rn d l k).2.2.length L8) ((rn d l k).2.1.getD (rn d l k).2.2.length []) (l.getD k zE)).1],(rn d l k).2.1++[(Adi d ((rn d l k).1.getD (rn d l k).2.2.length L8) ((rn d l k).2.1.getD (rn d l k).2.2.length []) (l.getD k zE)).2.1],(rn d l k).2.2++[l.getD k zE])
def Aaz(d:Dl)(s:Se)(b:List UInt8)(e:Jv)(f:J7 d=0):
  ((Adi d s b e).2.2≠0/\(Adi d s b e).2.1=[])\/(J8 d (Jn d) s (U1 e)=0/\(wrR b e).2=0/\Adi d s b e=(Oe d (Jn d) s (U1 e),(wrR b e).1,0)):=by
 have c:V3 d s (U1 e)=J8 d (Jn d) s (U1 e):=by unfold V3;rw[I Gi]
 unfold Adi;rw[c]
 by_cases h1:J8 d (Jn d) s (U1 e)=0
 .rw[I Gi]
  by_cases h2:(wrR b e).2=0
  .rw[I Gi];exact .inr ⟨h1,h2,rfl⟩
  .rw[Ab h2];exact .inl ⟨h2,rfl⟩
 .rw[Ab h1];exact .inl ⟨h1,rfl⟩
def Bax{d:Dl}{l:List Jv}(f:J7 d=0)(c:DlOk d)(h:∀e∈l,JvR e)(hs:∀e∈l,(U1 e).an.small):∀k,k<=l.length->k<=700->Ch d (rn d l k).1 (rn d l k).2.1 (rn d l k).2.2/\(rn d l k).2.2.length<=k
 |0,_,_=>⟨Ch.nil d,A2 _⟩
 |k+1,o,h7=>by
  have⟨h1,h2⟩:=Bax f c h hs k om om;rw[rn]
  rcases Aaz d ((rn d l k).1.getD (rn d l k).2.2.length L8) ((rn d l k).2.1.getD (rn d l k).2.2.length []) (l.getD k zE) f with⟨g,_⟩|⟨g,n,j⟩
  .rw[Ab g];exact⟨h1,by omega⟩
  .rw[I (by rw[j];simp),j];have m:l.getD k zE∈l:=by rw[Cr o];exact As _
   exact⟨h1.push f c om (h _ m) (hs _ m) g n,by simp only[Aq,Ax,Bg];omega⟩
@[simp]def Bm3:Fw prog 68=some 55/\Fw prog 69=some 45/\Iw prog 55=some 176:=ka
def Pk(l:List (List UInt8)):List V:=l.map λb=>V.ro 1 (F6 b)
def Aj1(l:List (List UInt8)):(Pk l).all V.pureE=true:=by
 rw[Ao];intro x c;simp only[Pk,Bc]at c;obtain⟨b,_,rfl⟩:=c;have:=Gg b;simp[V.pureE,V.pureC]
@[simp]def Bki(l:List (List UInt8)):(Pk l).length=l.length:=by simp[Pk]
def V5(l:List Se):List V:=l.map Se.v
def An8(l:List Se):(V5 l).all V.pureE=true:=by
 rw[Ao];intro x c;simp only[V5,Bc]at c;obtain⟨b,_,rfl⟩:=c;exact Az0 b
@[simp]def Blp(l:List Se):(V5 l).length=l.length:=by simp[V5]
def Yy{f:α->V}{l:List α}(z:α)(h:k<l.length):Gz (l.map f) k=some (f (l.getD k z)):=by
 rw[C0,Cr h];simp[h]
def Bay(x:List Se×List (List UInt8)×List Jv):V:=.tup [.ro 12 (V5 x.1),.ro 1 (Pk x.2.1),.ro 11 (x.2.2.map Jv.v),.bool true]
def A4k(d:Dl)(l:List Jv)(hd:J7 d=0)(ao:DlOk d)(hl:l.length<=4000000)(hr:∀e∈l,JvR e)(hs:∀e∈l,(U1 e).an.small):
  AQ 12 [d.v,.ro 11 (l.map Jv.v)] (Bay (rn d l (min l.length 12))):=by
 have aq:=Ap6;have a5:=Bax hd ao hr hs;have aw:=λ(s:Se)(b:List UInt8)(e:Jv)(ha:(U1 e).an.small)(h1:SeOk s)(h2:Ks s.t.w 998)(h3:s.t.steps.length<=900)(h4:b.length<=2^39)=>Auu d s b e ao ha h1 h2 h3 h4
 have a1:∀k,k<l.length->Gz (l.map Jv.v) k=some (l.getD k zE).v:=λk h=>Yy zE h
 have j:(l.map Jv.v).length=l.length:=sm;have pl:=Ajx l;have⟨dc,ax,d1,d2,u,d4⟩:=Xk d;have⟨zc,au,z1,z2,z,z4⟩:=Ku L8;rw[au]at aq;simp only[ax]at aw;rw[ax];have vd:=λS:AS=>F0 (S:=S) u
 generalize a7:l.map Jv.v=lv at*;refine Bp func12 λw0 N0 hG=>?_;refine Y [1,2] [2] C1 (J (Cb (Aw aq func14 ?_ (ha:=by simp<;>rfl) (hs:=by simp<;>rfl))));refine Ak [1,2,8] [2,17] C1 (Y [1,2,8,9] [2,17,18] sR ?_);refine T1 (A1d (k:=18) (sz:=1) sr rfl) ?_;refine Y [1,2,8,9,10] [2,17,18] sR ?_;refine Fg 10 100 11 79 [1,2,8,9,10] [2,17,18,100] sR sR ?_;refine J (A5 [11] sR (Ad ?_))
 refine Gn (λp:Nat×Nat×Nat×Nat×Nat=>[(8,.sl 17 p.2.1 12 (V5 (rn d l p.1).1).length),(9,.sl 18 p.2.2.1 1 (Pk (rn d l p.1).2.1).length),(10,.sl 100 p.2.2.2.1 11 ((rn d l p.1).2.2.map Jv.v).length),(11,.i (p.1:Nat))]) (λp=>[(17,⟨p.2.1,12,55,V5 (rn d l p.1).1⟩),(18,⟨p.2.2.1,1,45,Pk (rn d l p.1).2.1⟩),(100,⟨p.2.2.2.1,11,79,(rn d l p.1).2.2.map Jv.v⟩)]) (λp=>p.2.2.2.2)
  (λp=>p.1<=min l.length 12) (λp=>min l.length 12-p.1) (0,_,_,_,_) (B5 _) (by simp only[rn,V5,Pk,Br,Ci,au];exact Z) ?_
 rintro⟨k,va,vb,vc,nx⟩hk;simp only at hk;have⟨hC,hn⟩:=a5 k om om;have ab:rn d l (k+1)=_ :=rn.eq_2 d l k;simp only;generalize hx:rn d l k=x at*;have⟨ss,ls,ds⟩:=x;simp only at hC hn ab|-;have l1:=hC.l1;have l2:=hC.l2;have ps:=An8 ss;have pb:=Aj1 ls;have pd:=Ajx ds;have fs:=Fm ps;have fb:=Fm pb;have fd:=Fm pd;have ga:Gz (V5 ss) ds.length=some (ss.getD ds.length L8).v:=Yy L8 om;have gb:Gz (Pk ls) ds.length=some (.ro 1 (F6 (ls.getD ds.length []))):=Yy (f:=λb=>V.ro 1 (F6 b)) [] om;have e1:(V5 ss).length=ds.length+1:=by simp[l1]
 have e2:(Pk ls).length=ds.length+1:=by simp[l2]
 have e3:(ds.map Jv.v).length=ds.length:=sm;have hb:=hC.b ds.length (A2 _);have a3:∀x,V5 (ss++[x])=V5 ss++[x.v]:=λx=>by simp[V5]
 have a4:∀x,Pk (ls++[x])=Pk ls++[.ro 1 (F6 x)]:=λx=>by simp[Pk]
 have az:∀x,(ds++[x]).map Jv.v=ds.map Jv.v++[x.v]:=λx=>by simp
 generalize a6:ds.length=n at*;have ay:=Hr (k:=k) om;have ad:(n:Int)<(n:Int)+1:=om;have q1:n+1+1<=maxLen/\(n+1+1)*176<=140737488355328:=⟨by simp[maxLen];omega,by omega⟩;have q2:(n+1+1)*24<=140737488355328/\(n+1)*112<=140737488355328/\n+1<=maxLen:=⟨by omega,by omega,by simp[maxLen];omega⟩;refine J (Y [1,2,8,9,10,11,26] [2,17,18,100] C1 ?_)
 refine Bk (λh1=>?_) λh1=>?_
 .have o:k<l.length/\k<12:=by simp at h1;omega
  have gl:=a1 k o.1;have hm:l.getD k zE∈l:=by rw[Cr o.1];exact As _
  have c:=aw (ss.getD n L8) (ls.getD n []) (l.getD k zE) (hs _ hm) (hb.1.ok om) (hb.1.w998 om) (Ae hb.1.st om) (by have:=hb.2;omega);have al:=Aaz d (ss.getD n L8) (ls.getD n []) (l.getD k zE) hd
  have af:(Adi d (ss.getD n L8) (ls.getD n []) (l.getD k zE)).2.2=0->(ls.getD n []).length<(Adi d (ss.getD n L8) (ls.getD n []) (l.getD k zE)).2.1.length:=λh=>by
   rcases al with⟨g,_⟩|⟨g1,g2,g3⟩
   .exact absurd h g
   .have⟨_,m,e,g,_⟩:=A0o (hC.w n om).1 (hr _ hm) g2;rw[g3,e,Aq];omega
  unfold Bj4 at c;generalize Adi d (ss.getD n L8) (ls.getD n []) (l.getD k zE)=y at*;have⟨ys,yb,ye⟩:=y;simp only at c al af ab;have eb:(F6 (ls.getD n [])).length=(ls.getD n []).length:=Tt _;have ey:(F6 yb).length=yb.length:=Tt _;have aa:=Gg yb;have ae:=Gg (ls.getD n []);have⟨sc,av,s1,s2,s3,s4⟩:=Ku (ss.getD n L8);have⟨xc,ar,x1,x2,x3,x4⟩:=Ku ys;have⟨ec,ah,y1,y2,y3,y4⟩:=Xl (U1 (l.getD k zE));change (l.getD k zE).v=.agg ec at ah;rw[av,ar,ah]at c;rw[av]at ga;rw[ah]at gl;have vs:=λS:AS=>F0 (S:=S) s3
  have vx:=λS:AS=>F0 (S:=S) x3
  have ve:=λS:AS=>F0 (S:=S) y3
  generalize am:F6 yb=a2,a8:F6 (ls.getD n [])=lb,ak:V5 ss=sv,aj:Pk ls=bv,ai:ds.map Jv.v=dv at*;refine J (Ad (Y [1,2,8,9,10,11,12] [2,17,18,100] sR (J (H0 [(1,[]),(2,[]),(3,[]),(5,[]),(6,[]),(7,[]),(9,[]),(10,[]),(11,[]),(0,[13]),(4,[13]),(8,[13]),(12,[13]),(13,[]),(14,[]),(15,[]),(16,[]),(17,[]),(18,[]),(19,[]),(20,[]),(21,[])] Jt kr ?_))));refine B8 13 (by simp[d1,d2,j,ad,ga,gb,gl,o,s1,s2,y1,y2]<;>rfl) ?_;refine Rg hG (λ_=>c) func13 rfl kr rfl rfl sr rfl rfl sR (by simp[u,s3,y3]) sR ?_;refine C5 [1,2,8,9,10,11,12,13,14,15] [2,17,18,100,13] (by simp[x1,x4]<;>rfl) ?_;refine J (Y [1,2,8,9,10,11,12,13,14,50] [2,17,18,100,13] sR ?_)
  refine A1 (λh2=>?_) λh2=>?_
  .have ag:ye≠0:=sG h2
   have a0:yb=[]:=by
    rcases al with⟨_,g⟩|⟨_,_,g⟩
    .exact g
    .injection g with _ g;injection g with _ g;exact absurd g ag
   subst a0;simp only[F6,Ci]at am;subst am;rw[Ab ag]at ab;refine J (Y [1,2,8,9,10,11,53] [2,17,18,100] sR ?_);refine Ce (A3 ?_);refine A6 [1,2,8,9,10,11] [2,17,18,100] (by simp[ay]<;>rfl) ?_;exact⟨(k+1,va,vb,vc,_),by simp only;omega,by simp only;omega,by simp only[ab,ak,aj,ai,e1,e2,e3];exact Z⟩
  have ag:ye=0:=sG h2
  have af:=af ag;rw[<-ey,<-eb]at af;have af:¬((a2.length:Int)<=(lb.length:Int)):=om;rw[I (by simp[ag])]at ab;refine J (Y [1,2,8,9,10,11,13,14,61] [2,17,18,100,13] (by simp[af,ad,gb]<;>rfl) ?_);refine Ce (Y [1,2,8,9,10,11,14] [2,17,18,100] (by simp[e1,q1,x1,x2,x4]<;>rfl) (Y [1,2,8,9,10,11] [2,17,18,100] (by simp[e2,q1,q2]<;>rfl) (Cs [] (by simp[j,e3,q2,gl,o,y1,y2,y4]<;>rfl) (Cs [] (by simp[ay]<;>rfl) ?_))));exact⟨(k+1,_,_,_,_),by simp only;omega,by simp only;omega,by simp only[ab,a3,a4,az,am,ar,ah,e1,e2,e3,Aq,Ax,Bg];exact Z⟩
 .have o:k=min l.length 12:=by simp at h1;omega
  subst o;rw[hx];refine A3 ?_;generalize ak:V5 ss=sv,aj:Pk ls=bv,ai:ds.map Jv.v=dv at*;refine Bq 17 [8,9,10] [18,100] (by simp[ps,fb,fd,e1]<;>rfl) (Bq 18 [8,9,10] [100] (by simp[pb,fd,e2]<;>rfl) (Bq 100 [8,9,10] [] (by simp[pd,e3]<;>rfl) (Y [4,5,6,7] [] sr ?_)));refine Bv (by simp[results12]<;>rfl) ?_;unfold Bay;simp only[ak,aj,ai]
def Aj2{v w:V}(u:V)(h:Bh v w):RelaxL [u,v] [u,w]:=.cons (Bh.refl _) (.cons h .nil)
def Bj5{d:Dl}{l:List Jv}(j:J7 d=0)(f:DlOk d)(h:∀e∈l,JvR e)(hs:∀e∈l,(U1 e).an.small):
  ∃ss g c,rn d l (min l.length 12)=(ss,g,c)/\Ch d ss g c/\c.length<=12:=by
 have⟨h1,h2⟩:=Bax j f h hs (min l.length 12) om om;exact⟨_,_,_,rfl,h1,Ae h2 (P5 _ _)⟩
def Ch.len{d:Dl}{ss:List Se}{e:List (List UInt8)}{c:List Jv}(h:Ch d ss e c)(g:k<=c.length):(e.getD k []).length<=(e.getD c.length []).length:=by
 have⟨m,f⟩:=h.pre g (A2 _);rw[f,Aq];omega
def A4l(d:Dl)(l:List Jv)(cut:Int)(ad:hvB d=false->DlOk d)(hl:l.length<=4000000)(hr:∀e∈l,JvR e)(hs:∀e∈l,(U1 e).an.small):
  Jp gv prog 4 [d.v,.ro 11 (l.map Jv.v),.i cut] (λr=>r=.bool true):=by
 have c5:=Bam d;have pl:=Ajx l;have⟨dc,aj,u,s,m,t⟩:=Xk d;have o:=λS:AS=>F0 (S:=S) m
 cases hb:hvB d with
 |true=>
  rw[aj,hb]at c5;rw[aj];generalize l.map Jv.v=lv at*;refine Bp func4 λw0 N0 hG=>?_;refine Y [1,2,3] [3] C1 (J (Au 1 C1 ?_));refine Ef c5 func5 rfl kr rfl rfl rfl sR Gi sr (Ak [1,2,3,24] [3] sR ?_);refine Ek ?_;exact Y [6] [] sr (Aj (Aa sr rf))
 |false=>
 have ad:=ad hb;have c7:=Ajc Agn d ad;rw[hb]at c5
 by_cases aa:J7 d≠0
 .have c6:=Afs d [] ad sm;have hx:Aun d []=(L8,0,[],J7 d):=by unfold Aun;rw[Ab aa]
  rw[hx]at c6;unfold Bf2 at c6;simp only at c6;change Jp _ _ _ [d.v,.ro 1 []] (λr=>r=.tup [L8.v,.i ((0:Nat):Int),.ro 1 [],.i (J7 d)])at c6;have c6:=c6.argsR (args:=[d.v,.nils]) (Aj2 _ (Bh.nils 1));have⟨sc,ab,s1,s2,s3,s4⟩:=Ku L8;rw[ab]at c6;generalize J7 d=ce at*;rw[aj]at c5 c6 c7|-;generalize l.map Jv.v=lv at*;refine Bp func4 λw0 N0 hG=>?_;refine Y [1,2,3] [3] C1 (J (Au 1 C1 ?_));refine Ef c5 func5 rfl kr rfl rfl rfl sR Gi sr ?_;refine Ak [1,2,3,24] [3] sR ?_;refine Ce (J (J (Cb (C3 1 C1 ?_))));refine Jf hG c7 func7 rfl kr sm rfl rfl rfl sR Gi sr ?_;refine Ak [1,2,3,7] [3] sR ?_;refine Y [1,2,3,7,28] [3] sR ?_;refine Ek ?_;refine Au 1 C1 ?_;refine Jf hG c6 func6 rfl kr sm rfl rfl rfl sR Gi sR ?_;refine Ak [7,9,10,11] [] C1 ?_;exact Y [6] [] sr (Aj (Aa sr rf))
 have aa:=Th.1 aa;have ah:=A4k d l aa ad hl hr hs;have⟨ss,ls,ds,bb,hC,hn⟩:=Bj5 aa ad hr hs;rw[bb]at ah;unfold Bay at ah;simp only at ah;rw[aa]at c7;have l1:=hC.l1;have l2:=hC.l2;have ps:=An8 ss;have pb:=Aj1 ls;have pd:=Ajx ds;have e1:(V5 ss).length=ds.length+1:=by simp[l1]
 have e2:(Pk ls).length=ds.length+1:=by simp[l2]
 have e3:(ds.map Jv.v).length=ds.length:=sm;have ga:∀k,k<=ds.length->Gz (V5 ss) k=some (ss.getD k L8).v:=λk hk=>Yy L8 om
 have gb:∀k,k<=ds.length->Gz (Pk ls) k=some (.ro 1 (F6 (ls.getD k []))):=λk hk=>Yy (f:=λb=>V.ro 1 (F6 b)) [] om
 have gd:∀k,k<ds.length->Gz (ds.map Jv.v) k=some (ds.getD k zE).v:=λk hk=>Yy zE hk
 have ag:∀k,(F6 (ls.getD k [])).all V.pureE=true:=λk=>Gg _
 have bl:∀k,(F6 (ls.getD k [])).length=(ls.getD k []).length:=λk=>Tt _
 have ar:=λk(hk:k<=ds.length)=>hC.len hk
 have au:=(hC.b ds.length (A2 _)).2;have a3:=λk(hk:k<ds.length)=>hC.st k hk
 have ae:∀k,k<ds.length->Jp gv prog 13 [d.v,(ss.getD k L8).v,.ro 1 (F6 (ls.getD k [])),(ds.getD k zE).v] (λr=>r=.tup [(ss.getD (k+1) L8).v,.ro 1 (F6 (ls.getD (k+1) [])),.i 0]):=λk hk=>by
  have⟨h1,h2,h3⟩:=a3 k hk;have hb:=hC.b k om;have:=Auu d (ss.getD k L8) (ls.getD k []) (ds.getD k zE) ad (hC.sm _ (by rw[Cr hk];exact As _)) (hb.1.ok om) (hb.1.w998 om) (Ae hb.1.st om) om
  rcases Aaz d (ss.getD k L8) (ls.getD k []) (ds.getD k zE) aa with⟨g,_⟩|⟨_,_,g⟩
  .exfalso;refine g ?_
   have ha:V3 d (ss.getD k L8) (U1 (ds.getD k zE))=0:=by unfold V3;rw[I (λh=>h aa)];exact h1
   unfold Adi;rw[I (λh=>h ha),I (λh=>h (by rw[h2]))]
  .rw[g,h2,h3]at this;exact this
 have c8:∀k,AC prog 8 [.ro 1 (F6 (ls.getD k [])),.ro 1 (F6 (ls.getD k []))] (λr=>r=.bool true):=λk=>by
  have:=Ban (ls.getD k []) (ls.getD k [])
  rwa[X3 rfl]at this
 have c9:=λk=>A0i (ss.getD k L8)
 have a2:=Ap6;have ba:=(A0i L8).argsR (args:=[L8.v,.agg [.i 0,.i 0,.i 0,.i 0,.nils,.nils,.i 0,.nils,.int .u64 0,.i 0,.nils,.nils]]) (Aj2 _ Ur)
 have c6:∀w c:Nat,w<=ds.length->(ls.getD w []).length<=c->(w<ds.length->c<(ls.getD (w+1) []).length)->c<=(ls.getD ds.length []).length->
   Jp gv prog 6 [d.v,.ro 1 ((F6 (ls.getD ds.length [])).take c)] (λr=>r=.tup [(ss.getD w L8).v,.i (w:Int),.ro 1 (F6 (ls.getD w [])),.i 0]):=λw c h1 h2 h3 h4=>by
  have:=Afs d ((ls.getD ds.length []).take c) ad (by rw[C8];omega);rw[hC.cut aa h1 h2 h3 h4]at this;have e:F6 ((ls.getD ds.length []).take c)=(F6 (ls.getD ds.length [])).take c:=sm;rw[e]at this;exact this
 obtain⟨c,ak,af,ai⟩:∃c:Nat,c<=(ls.getD ds.length []).length/\((cut<0\/((ls.getD ds.length []).length:Int)<cut)->c=(ls.getD ds.length []).length)/\(¬(cut<0\/((ls.getD ds.length []).length:Int)<cut)->cut=(c:Int)):=by
  by_cases h:cut<0\/((ls.getD ds.length []).length:Int)<cut
  .exact⟨_,A2 _,λ_=>rfl,λg=>absurd h g⟩
  .exact⟨cut.toNat,by omega,λg=>absurd g h,λ_=>by omega⟩
 have h0:(ls.getD 0 []).length=0:=by have:=(hC.b 0 (B5 _)).2;omega
 generalize hN:ds.length=n at*;have al:=λk=>Ku (ss.getD k L8)
 have a9:∀k,∃c,(ds.getD k zE).v=.agg c/\c.length=11/\c.take 11=c/\c.all V.pureC=true/\c.all V.isCell=true:=λk=>Xl (U1 (ds.getD k zE))
 have⟨zc,bg,z1,z2,z3,z4⟩:=Ku L8;have vz:=λS:AS=>F0 (S:=S) z3
 rw[bg]at ba a2;simp only[aj]at ae c6;rw[aj]at c5 c7 ah|-;clear hC bb hr hs ad a3 hb aa;generalize a1:(λk=>ss.getD k L8)=sf at*;have am:∀k,ss.getD k L8=sf k:=λk=>congrFun a1 k
 simp only[am]at ga ae c9 c6 al;generalize a8:(λk=>ls.getD k [])=lf at*;have aq:∀k,ls.getD k []=lf k:=λk=>congrFun a8 k
 simp only[aq]at gb ag bl ar au ae c8 c6 ak af ai h0;generalize a0:(λk=>ds.getD k zE)=df at*;have ao:∀k,ds.getD k zE=df k:=λk=>congrFun a0 k
 simp only[ao]at gd ae a9;clear a1 am a8 aq a0 ao l1 l2;generalize V5 ss=sv,Pk ls=bv,ds.map Jv.v=dv,l.map Jv.v=lv at*;have be:∀k,F6 (lf k)=F6 (lf k):=λk=>rfl
 generalize hq:(λk=>F6 (lf k))=q at*;have a6:∀k,F6 (lf k)=q k:=λk=>congrFun hq k
 simp only[a6]at gb ag bl ae c8 c6;clear hq a6 be;simp only[<-bl]at ar au ak af ai h0 c6;clear bl;have gn:=gb n (A2 _);have j:(n:Int)<(n:Int)+1:=om;have Ec:=λk(h:k<=n)=>Hr (k:=k) om
 refine Bp func4 λw0 N0 hG=>?_;refine Y [1,2,3] [3] C1 (J (Au 1 C1 ?_));refine Ef c5 func5 rfl kr rfl rfl rfl sR Gi sr ?_;refine Ak [1,2,3,24] [3] sR ?_;refine Ce (J (J (Cb (C3 1 C1 ?_))));refine Jf hG c7 func7 rfl kr sm rfl rfl rfl sR Gi sr ?_;refine Ak [1,2,3,7] [3] sR ?_;refine Y [1,2,3,7,28] [3] sR ?_;refine Ce (J (Cb (C3 2 C1 ?_)));refine Jf hG ah func12 rfl kr sm rfl rfl rfl sR Gi sR ?_;refine Ak [2,3,12,13,14,15] [3] sR ?_;refine J (Y [2,3,12,13,14,57] [3] sR ?_);refine Ce (Y [2,3,12,13,14,16] [3] C1 ?_)
 refine Aoh ⟨[(2,.i (c:Int)),(3,V.bp 3 0 30 0 0),(12,.ro 12 sv),(13,.ro 1 bv),(14,.ro 11 dv),(16,.i (n:Int))],[(3,⟨0,30,44,[V.agg dc]⟩)],200,168⟩ ?_ ?_
 .by_cases k1:cut<0
  .have af:=af (.inl k1);refine Y [2,3,12,13,14,16,70] [3] C1 ?_;refine Ek ?_;refine A6 [2,3,12,13,14,16] [3] C1 ?_;exact Kp [2,3,12,13,14,16] [3] (by rw[af];rfl) rfl rfl sy
  by_cases k2:((q n).length:Int)<cut
  .refine Y [2,3,12,13,14,16,70] [3] C1 ?_;refine Ek ?_;refine A6 [2,3,12,13,14,16] [3] C1 ?_;exact Kp [2,3,12,13,14,16] [3] (by rw[(af (.inr k2))];rfl) rfl rfl sy
  .have ai:=ai om;subst ai;refine Y [2,3,12,13,14,16,70] [3] C1 ?_;refine Ce ?_;exact Kp [2,3,12,13,14,16] [3] rfl rfl rfl sy
 refine Y [2,3,12,13,14,16,17] [3] sR (J (Ad (Ho 17 (λk=>(q k).length<=c) n om ?_)));intro w nx hw hI;have gs:=λh:w<n=>gb (w+1) h
 have y:(w:Int)<(n:Int)+1:=om;have ww:=Ec w hw;refine J ?_
 by_cases k1:w<n/\(q (w+1)).length<=c
 .have gs:=gs k1.1;refine Y [2,3,12,13,14,16,17,88] [3] C1 ?_;refine Aff ?_;refine Ad (A6 [2,3,12,13,14,16,17] [3] C1 ?_);exact⟨k1.1,k1.2,_,Z⟩
 have Sk:w<n->c<(q (w+1)).length:=λh=>by omega
 have c6:=c6 w c hw hI Sk ak;have a4:=c8 w;have ax:=c9 w;have gw:=gb w hw;have aw:=ga w hw;have pw:=ag w;have⟨sc,ab,s1,s2,s3,s4⟩:=al w;have vs:=λS:AS=>F0 (S:=S) s3
 rw[ab]at c6 ax aw
 refine Aoh ⟨[(2,.i (c:Int)),(3,V.bp 3 0 30 0 0),(12,.ro 12 sv),(13,.ro 1 bv),(14,.ro 11 dv),(16,.i (n:Int)),(17,.i (w:Int)),(88,.bool false)],[(3,⟨0,30,44,[V.agg dc]⟩)],nx+100,168⟩ ?_ ?_
 .rcases Cz w n with k2|k2
  .have k3:¬((q (w+1)).length<=c):=λh=>k1 ⟨k2,h⟩
   have k4:¬(((q (w+1)).length:Int)<=(c:Int)):=om;have k5:(w:Int)<(n:Int):=om;have gs:=gs k2;refine A6 [2,3,12,13,14,16,17,88] [3] C1 ?_;exact Kp [2,3,12,13,14,16,17,88] [3] Gi sm sm sy
  .have k3:w=n:=om;rw[k3]at ww|-;refine A6 [2,3,12,13,14,16,17,88] [3] C1 ?_;exact Kp [2,3,12,13,14,16,17,88] [3] rfl rfl rfl sy
 refine Nf ?_;refine A3 ?_;have pt:((q n).take c).all V.pureE=true:=Ao.2 λx hx=>Ao.1 (ag n) x (Da hx)
 refine J (H0 [(1,[]),(2,[]),(3,[]),(5,[]),(0,[18]),(4,[18]),(6,[]),(7,[]),(8,[]),(9,[]),(10,[]),(11,[]),(12,[]),(13,[]),(14,[]),(15,[]),(16,[]),(17,[])] Jt kr ?_);refine B8 7 C1 ?_;refine Rg hG (λ_=>c6) func6 rfl kr rfl rfl sr rfl rfl sR Gi sR ?_;refine C5 [3,12,13,14,16,17,18,19,20,21] [3,18] C1 ?_;refine J (J (H6 [0,17,18,3,17,1,21,4] sr ?_));refine B8 13 C1 ?_;refine D7 (λ_=>a4) func8 rfl kr rfl rfl sr rfl rfl sR sM sR ?_;refine B8 8 C1 ?_;refine D7 (λ_=>ax) func9 rfl kr rfl rfl sr rfl rfl sR Gi sR ?_;refine C5 [3,12,13,14,16,17,18,20,128] [3,18] sR ?_;refine Ce (J (Y [3,12,13,14,16,18,20,22] [3,18] sR (Ad (H4 (λk bc=>⟨[(3,V.bp 3 0 30 0 0),(12,.ro 12 sv),(13,.ro 1 bv),(14,.ro 11 dv),(16,.i (n:Int)),(18,V.bp 18 (nx+100+13) 12 0 0),(20,.ro 1 (q (w+k))),(22,.i ((w+k:Nat):Int))],[(3,⟨0,30,44,[V.agg dc]⟩),(18,⟨(nx+100+13),12,55,[(sf (w+k)).v]⟩)],bc,168⟩) (λk=>w+k<=n) (n-w) _ hw (by simp only[Eb,ab];exact Z) ?_))));clear ab sc s1 s2 s3 s4 vs c6 a4 ax gw aw pw hI ww gs;intro k bi hk hI;generalize hi:w+k=i at*;have⟨sc,ab,s1,s2,s3,s4⟩:=al i;have vs:=λS:AS=>F0 (S:=S) s3
 have wi:=Ec i hI;have pi:=ag i;have bf:=gb i hI;have av:=ga i hI;refine J ?_
 by_cases k2:i<n
 .have ae:=ae i k2;have⟨xc,a5,x1,x2,x3,x4⟩:=al (i+1);have vx:=λS:AS=>F0 (S:=S) x3
  have⟨ec,az,y1,y2,y3,y4⟩:=a9 i;have ve:=λS:AS=>F0 (S:=S) y3
  have ay:=gd i k2;rw[ab,a5,az]at ae;rw[az]at ay;rw[ab];have bj:=ag (i+1);have sd:List.drop 12 sc=[]:=Hs om;refine Y [3,12,13,14,16,18,20,22,132] [3,18] C1 ?_;refine Aff ?_;refine J (Ad (J (H6 [2,4,0,2,6,9] sr ?_)));refine B8 7 C1 ?_;refine Rg hG (λ_=>ae) func13 rfl kr rfl rfl sr rfl rfl sR Gi sR ?_;refine C5 [3,12,13,14,16,18,20,21,22] [3,18] C1 ?_;refine Y [3,12,13,14,16,18,20,22,148] [3,18] sR ?_;refine Ce (A6 [3,12,13,14,16,18,20,22] [3,18] C1 ?_);exact⟨by omega,by omega,_,by rw[show w+(k+1)=i+1 by omega,a5,show((i+1:Nat):Int)=(i:Int)+1 by omega];exact Z⟩
 have bh:i=n:=om;rw[bh]at ab bf av pi hi|-;have a7:=c9 n;rw[ab]at a7 av|-;refine Y [3,12,13,14,16,18,20,22,132] [3,18] sR ?_;refine Nf ?_;refine A3 ?_;refine J (H6 [0,7,8,3,7,1,11,9] sr ?_);refine B8 5 C1 ?_;refine D7 (λ_=>(c8 n)) func8 rfl kr rfl rfl sr rfl rfl sR sM sR ?_;refine B8 6 C1 ?_;refine D7 (λ_=>a7) func9 rfl kr rfl rfl sr rfl rfl sR Gi sR ?_;refine B8 2 sR ?_;refine D7 (λ_=>a2) func14 rfl kr rfl rfl sr rfl rfl sR sM sR ?_;refine B8 1 sR ?_;refine D7 (λ_=>ba) func9 rfl kr rfl rfl sr rfl rfl sR Gi sR ?_;refine C5 [6] [] sR ?_;exact Aj (Aa sr rfl)
theorem A4m(os:Os):laidMetH prog A0l ((Ae3 os).forCall (fun _ _=>0) ⟨#[],#[zd,zS,zI],[]⟩).memory:=
 laidMetH_of_parts (laidMet_of_run' 8 kr kr) kr
end Go.Proofs.YtnoignhlamifmaaGreatDoor
