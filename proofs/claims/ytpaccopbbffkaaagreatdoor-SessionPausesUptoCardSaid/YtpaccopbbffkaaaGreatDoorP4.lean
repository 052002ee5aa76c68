/- Sessions: part 4 of the proof. No condition. -/
import Derived.Test.YtpaccopbbffkaaaGreatDoorP3
import Derived.Shelf.Slices.In.SortNone
import Derived.Shelf.SlGeneric
import Derived.Shelf.SlSortCmp.WholeK
import Derived.Shelf.SlicesG.Cmp
import Derived.Ground.SlgcProg
import Derived.LoopTactic
import Derived.Tactics2
import Derived.WalkSpells
import Derived.StillTactics
import Derived.Laws.Pointers
import Derived.Deep.RegionHeld3
import Derived.Sort.Grow
import Derived.Shelf.SlSortCmp.NoneTotal
set_option maxHeartbeats 8000000
set_option linter.all false
open Go.Proofs.Tryz
set_option maxRecDepth 4000
namespace Go.Proofs.YtpaccopbbffkaaaGreatDoor
open Go.Eng Go.Eng.Limb
def Ve(w:List Nat):Nat:=w.foldl Nat.gcd 0
def Pr(w:List Nat):List Nat:=w.map (· / Ve w)
def O1(w:List Nat)(m:Mo)(k:Nat):List Nat:=List.zipWith (fun x(r:List Int)=>x*(r.getD k 0).toNat) w m
theorem Ag6{w:List Nat}{k:Nat}(h:k<w.length):Ve (w.take (k+1))=Nat.gcd (Ve (w.take k)) w[k]:=by
 unfold Ve;rw [A1 h,List.foldl_append];rfl
theorem A4t{a b m:Nat}(h1:(B1 a).length<=m)(h2:(B1 b).length<=m):(B1 (Nat.gcd a b)).length<=m:=by
 by_cases c:b=0
 ·rw [c,Nat.gcd_zero_right];exact h1
 ·exact Ai (Zo (Nat.gcd_le_right a om)) h2
theorem Al7{w:List Nat}{m:Nat}(h:J2 w m):∀k,k<=w.length->(B1 (Ve (w.take k))).length<=m
 |0,_ =>by simp [Ve,Ea]
 |k+1,hk=>by
  rw [Ag6 Go.om];exact A4t (Al7 h k om) (h _ (Az _))
theorem Adh(w:List Nat)(hw:J2 w 1000000)(af:w.length<=1000000):AC prog 67 [.ro 1 (Bw w)] (fun r=>r=.ro 1 (Bw (Pr w))):=by
 have hq:∀(k:Nat)(h:k<w.length),G8 (Bw w) k=some (.ro 1 (F5 w[k])):=fun k h=>Kc h
 have lq:=Hk w;have hn:∀(k:Nat)(h:k<w.length),(Bw (Pr w))[k]? =some (.ro 1 (F5 (w[k]/Ve w))):=fun k h=>by rw [Pb (by simp [Pr,h])];simp [Pr]
 have u:(Bw (Pr w)).length=w.length:=by simp [Pr]
 have ad:=Bv (Pr w);have o:=Al7 hw;generalize Bw (Pr w)=j,Bw w=i at*;refine Ax func67 fun w0 N0=>?_;refine Aa [0] [] sr (Aa [0,3] [] sr ?_);refine Ak8 3 (.ro 1 (F5 (Ve (w.take 0)))) [0,3] [] rfl rfl (by rw [Iq,Ve,List.foldl_nil,F5,Ea];exact Bi.nils 1) sr ?_;refine Ab (Aa [0,3,9,10,11] [] sr (Ar (Br (fun k nx=>⟨[(0,V.ro 1 i),(3,V.ro 1 (F5 (Ve (w.take k)))),(9,V.ro 1 i),(10,V.int .i64 i.length),(11,V.int .i64 k)],[],nx,41⟩) (fun k=>True) w.length _ trivial (by simp only [Iq];exact AS.le_refl _) ?_)));intro k nx hk hI;refine Aa [0,3,9,10,11,12] [] sr (Ab ?_)
 refine Ao (fun h1=>Ae ?_) fun h1=>?_
 ·have a:k<w.length:=by simp at h1;omega
  have d:k<i.length:=om;have n:=hq k a;have Dg:=A6 (k:=k) om;have hs:=Ag6 a;have hx:=hw _ (Az a);have hg:=o k om;generalize w[k]=x at n hs hx;generalize Ve (w.take k)=g at hs hg|-;have f:=Azd (B1 g) (B1 x) (Cn _) (Cn _) om om;rw [Cv,Cv,<- hs]at f;change AC _ _ [.ro 1 (F5 g),.ro 1 (F5 x)] (fun r=>r=.ro 1 (F5 (Ve (w.take (k+1)))))at f;have p1:=Ff g;have p2:=Ff x;refine Ab (Ar (Aa [0,3,5,9,10,11] [] (by simp [n,d]<;>rfl) (Ad (Am 2 sr ?_))));refine Ah f func103 ?_;refine Af [0,3,9,10,11] [] sr ?_;refine A3 [0,3,9,10,11] [] (by simp [Dg]<;>rfl) ?_;exact⟨a,trivial,_,AS.le_refl _⟩
 ·refine Bb ?_;have t:k=w.length:=by simp at h1;omega
  subst t;have ae:=o w.length om;rw [Bl]at ae|-;generalize Ve w=G at*;have pG:=Ff G;have aa:(i.length:Int)<=9223372036854775807:=om;have ab:24*(i.length:Int)<=281474976710656:=om;refine Aa [0,3,6] [21] (by simp [aa,ab]<;>rfl) (Ab (Aa [3,6,22,23,24] [21] sr (Ar (Br (fun k s=>⟨[(3,V.ro 1 (F5 G)),(6,V.sl 21 (nx+3) 1 i.length),(22,V.ro 1 i),(23,V.int .i64 i.length),(24,V.int .i64 k)],[(21,{ v:=nx+3,sz:=1,ty:=30,es:=Fk j .nils k})],s,41⟩) (fun k=>True) w.length _ trivial (by rw [Ik,u,<- lq];exact AS.le_refl _) ?_))));intro k s hk hI;have y:=Jk j .nils k om;refine Aa [3,6,22,23,24,25] [21] sr (Ab ?_)
  refine Ao (fun h2=>Ae ?_) fun h2=>?_
  ·have a:k<w.length:=by simp at h2;omega
   have d:k<i.length:=om;have l:k<j.length:=om;have n:=hq k a;have e:=Jm j .nils k l (hn k a);have m:G8 (Fk j .nils k) k=some .nils:=Jl j .nils k l;have Dg:=A6 (k:=k) om;have hx:=hw _ (Az a);generalize w[k]=x at n hx e;have c:=Q9 (B1 x) (B1 G) (Cn _) (Cn _) om;rw [Cv,Cv]at c
   obtain⟨z,r2,hr⟩:∃z r2,Ai2 x G=.tup [.ro 1 (F5 (x/G)),z,r2]/\z.pureV=true/\r2.pureV=true:=by
    unfold Ai2;split
    ·rename_i h;rw [h,Nat.div_zero];exact⟨_,_,by rw [F5,Ea];rfl,rfl,rfl⟩
    ·exact⟨_,_,rfl,Aur _,rfl⟩
   rw [hr.1]at c;have q1:=hr.2.1;have q2:=hr.2.2;change AC _ _ [.ro 1 (F5 x),.ro 1 (F5 G)] _ at c;have p2:=Ff x;generalize Fk j .nils k=row at m e y|-;refine Ab (Ar (Aa [3,6,7,8,22,23,24] [21] (by simp [n,d]<;>rfl) (Ad (Am 4 sr ?_))));refine Ah c func104 ?_;refine Af [3,6,22,23,24] [21] (by simp [d,m,e]<;>rfl) ?_;refine A3 [3,6,22,23,24] [21] (by simp [Dg]<;>rfl) ?_;exact⟨a,trivial,_,AS.le_refl _⟩
  ·refine Bb ?_;have t:k=w.length:=by simp at h2;omega
   rw [Ka j .nils k Go.om];refine Bp 21 [6] [] (by simp [ad,u,lq]<;>rfl) ?_;exact Aa [2] [] sr (Aj (Ac sr rf))
theorem Adi{w:List Nat}{m:Mo}(k:Nat)(h:m.length=w.length):(O1 w m k).length=w.length:=by simp [O1,h]
theorem Azp{w:List Nat}{m:Mo}{k i:Nat}(h:m.length=w.length)(a:i<w.length):(O1 w m k)[i]'(by rw [Adi k h];exact a)=w[i]*((m[i]'(by omega)).getD k 0).toNat:=by simp [O1]
theorem Auz(w:List Nat)(m:Mo)(d:Nat)(hm:Kv m w.length=0)(hk:d<Vb m)(hw:J2 w 1000000):
  AC prog 165 [.ro 1 (Bw w),moV m,.int .i64 d] (fun r=>r=.tup [.ro 1 (Bw (O1 w m d)),.int .i64 0]):=by
 have g:=Qq m w.length;rw [hm]at g;have ab:=Ai9 m;obtain⟨ml,mp,ao,-,m6,mrow⟩:=Xs hm;have hq:∀(k:Nat)(h:k<w.length),G8 (Bw w) k=some (.ro 1 (F5 w[k])):=fun k h=>Kc h
 have lq:=Hk w;have hr:∀(k:Nat)(h:k<m.length),G8 (Eb m) k=some (.ro 1 (As m[k])):=fun k h=>Q6 h
 have lr:=K9 m;have pm:=Do m
 have hn:∀(k:Nat)(h:k<w.length)(h2:k<m.length),(Bw (O1 w m d))[k]? =some (.ro 1 (F5 (w[k]*(m[k].getD d 0).toNat))):=fun k h h2=>by
  rw [Pb (by rw [Adi d ml];exact h),Azp ml h]
 have ad:(Bw (O1 w m d)).length=w.length:=by rw [Hk,Adi d ml]
 have ai:=Bv (O1 w m d);have ev:moV m=.agg [.ro 1 (Eb m)]:=rfl;rw [ev]at g ab|-;generalize Bw (O1 w m d)=l,Bw w=y,Eb m=mv at*;rw [<- lq]at g;refine Ax func165 fun w0 N0=>?_;refine Aa [0,2,4] [4] sr (Ab (Aa [0,2,4,15] [4] sr ?_));refine A7 rfl (fun h1=>by simp at h1;omega) (fun h1=>Ae (Ab (Ab (Ad (Am 3 sr ?_)))));refine Ah g func91 ?_;refine Af [0,2,4,8] [4] sr ?_;refine Aa [0,2,4,8,21] [4] sr ?_;refine A7 rfl (fun h2=>by simp at h2) (fun h2=>Ae (Aa [0,2,4,9] [4] sr (Ab (Ab (Ad (Am 7 sr ?_))))));refine Db (c:=true) (fun hg=>ab) func63 rfl kr sr rfl rfl sr (by simp) sr ?_;refine Af [0,2,4,9,39] [4] sr ?_;refine A7 rfl (fun h3=>by simp at h3;omega) fun h3=>Ae ?_;have af:(y.length:Int)<=9223372036854775807:=om;have ag:24*(y.length:Int)<=281474976710656:=om;refine Aa [0,2,4,9,10] [4,42] (by simp [af,ag]<;>rfl) (Ab (Aa [2,4,9,10,43,44,45] [4,42] sr (Ar (Br (fun k nx=>⟨[(2,V.int .i64 d),(4,V.bp 4 (0) 1 0 0),(9,V.bool true),(10,V.sl 42 (33) 1 y.length),(43,V.ro 1 y),(44,V.int .i64 y.length),(45,V.int .i64 k)],[(4,{ v:=0,sz:=1,ty:=113,es:=[V.agg [V.ro 1 mv]]}),(42,{ v:=33,sz:=1,ty:=30,es:=Fk l .nils k})],nx,73⟩) (fun k=>True) w.length _ trivial (by rw [Ik,ad,<- lq];exact AS.le_refl _) ?_))));intro k nx hk hI;have ae:=Jk l .nils k om;refine Aa [2,4,9,10,43,44,45,46] [4,42] sr (Ab ?_)
 refine Ao (fun h4=>Ae ?_) fun h4=>?_
 ·have i:k<w.length:=by simp at h4;omega
  have o:k<y.length:=om;have s:k<l.length:=om;have e:k<m.length:=om;have t:k<mv.length:=om;have ga:=hq k i;have gr:=hr k e;have a:=Jm l .nils k s (hn k i e);have z:G8 (Fk l .nils k) k=some .nils:=Jl l .nils k s;have Dg:=A6 (k:=k) om;have hx:=hw _ (Az i);obtain⟨ah,aa,-⟩:=mrow _ (Az e);generalize w[k]=x at ga a hx;generalize m[k]=rw at gr a ah aa;have u:d<rw.length:=om;have gi:=E8 u;have li:=A4 rw;have ak:rw.getD d 0=rw[d]:=by simp [List.getD,u]
  rw [ak]at a;have hp:=aa _ (Az u);generalize rw[d]=p at gi a hp;generalize As rw=iv at gr gi li;have al:d<iv.length:=om;obtain⟨n,rfl⟩:∃n:Nat,p=n:=⟨p.toNat,by omega⟩;rw [Dn]at a;have j:=Ada n om;change AC _ _ _ (fun r=>r=.ro 1 (F5 n))at j;have aj:=wrap_u64 (n:=n) om;have an:(B1 n).length<=1:=Er om;have f:=Ai1 (B1 x) (B1 n) (Cn _) (Cn _) om om;rw [Cv,Cv]at f;change AC _ _ [.ro 1 (F5 x),.ro 1 (F5 n)] (fun r=>r=.ro 1 (F5 (x*n)))at f;have pn:=Ff n;have px:=Ff x;have am:=Ff (x*n);generalize Fk l .nils k=row at z a ae|-;refine Ab (Ar (Aa [2,4,9,10,11,12,43,44,45] [4,42] (by simp [ga,o]<;>rfl) (Aa [2,4,9,10,11,12,43,44,45,50] [4,42] sr ?_)))
  refine A7 rfl (fun h5=>?_) (fun h5=>by simp at h5)
  ·refine Ad (Am 12 (by simp [gr,t,gi,al,aj]<;>rfl) ?_);refine Ah j func129 ?_;refine Ah f func172 ?_;refine Af [2,4,9,10,43,44,45] [4,42] (by simp [o,z,a]<;>rfl) ?_;refine A3 [2,4,9,10,43,44,45] [4,42] (by simp [Dg]<;>rfl) ?_;exact⟨i,trivial,_,AS.le_refl _⟩
 ·refine Bb ?_;have aq:k=w.length:=by simp at h4;omega
  rw [Ka l .nils k Go.om];refine Bp 42 [10] [] (by simp [ai,ad,lq]<;>rfl) ?_;exact Aa [6,7] [] sr (Aj (Ac sr rf))
set_option linter.unusedSimpArgs false
def Sq(s:Int):Int:=IntKind.u64.wrap (IntKind.u64.wrap (s*6364136223846793005)+1442695040888963407)
def hiD(s:Int):Nat:=((Sq s/4294967296)%4294967296).toNat
def Ol(s:Int)(n:Nat):Nat:=hiD s*n/4294967296
theorem Ar9(s:Int):0<=Sq s/\Sq s<18446744073709551616:=by unfold Sq;rw [IntKind.wrap_u64];omega
theorem Azq(s:Int):hiD s<4294967296:=by have:=Ar9 s;unfold hiD;omega
theorem Ag7(s:Int){n:Nat}(h:0<n):Ol s n<n:=by
 have:=Azq s;unfold Ol;rw [Cz om,Bj];exact Nat.mul_lt_mul_of_pos_left this h
theorem Azr(s:Int):AC prog 68 [.int .u64 s] (fun r=>r=.int .u64 (Sq s)):=by
 refine Ax func68 fun w0 N0=>?_;refine Aa [0] [] sr ?_;exact Aa [2] [] sr (Aj (Ac sr rf))
theorem A4u(s:Int):AC prog 162 [.int .u64 s] (fun r=>r=.tup [.int .u32 (hiD s:Nat),.int .u64 (Sq s)]):=by
 have a:=Azr s;have hr:=Ar9 s;unfold hiD;generalize Sq s=z at*
 have c:IntKind.u32.wrap (z.fdiv (2^min 32 IntKind.u64.bits))=(((z/4294967296)%4294967296).toNat:Int):=by
  rw [IntKind.wrap_u32];have:z.fdiv (2^min 32 IntKind.u64.bits)=z/4294967296:=G6 _ dc;rw [this];omega
 refine Ax func162 fun w0 N0=>?_;refine Aa [0] [] sr (Ab (Ad (Am 1 sr ?_)));refine Ah a func68 ?_;refine Af [0] [] sr ?_;exact Aa [2,3] [] sr (Aj (Ac sr (by rw [<- c])))
theorem Azs(s:Int)(n:Nat)(h1:1<=n)(h2:n<=2147483648):AC prog 116 [.int .u64 s,.int .i64 n] (fun r=>r=.tup [.int .i64 (Ol s n:Nat),.int .u64 (Sq s)]):=by
 have a:=A4u s;have f:=Azq s;unfold Ol;generalize hiD s=x,Sq s=z at*;have j:IntKind.u64.wrap (x:Int)=x:=wrap_u64 om;have i:IntKind.u64.wrap (n:Int)=n:=wrap_u64 om
 have d:x*n<18446744073709551616:=by
  have:=Hx (Ho f) h2;omega
 obtain⟨y,c⟩:∃y,y=x*n:=⟨_,rfl⟩;rw [<- c]at d|-;have g:IntKind.u64.wrap ((x:Int)*n)=(y:Nat):=by rw [c,<- E7];rw [c]at d;exact wrap_u64 d
 have h:(y:Int).fdiv (2^min 32 IntKind.u64.bits)=((y/4294967296:Nat):Int):=Xm y;have e:IntKind.i64.wrap ((y:Int)/4294967296)=(y:Int)/4294967296:=Bh om om;refine Ax func116 fun w0 N0=>?_;refine Aa [0,1] [] sr (Ab (Aa [0,1,12] [] sr ?_));refine A7 rfl (fun h1=>by simp at h1;omega) (fun h1=>Ae (Ab (Ad (Am 1 sr ?_))));refine Ah a func162 ?_;refine Af [0,1,6] [] sr ?_;exact Aa [4,5] [] (by simp [j,i,g,h,e]<;>rfl) (Aj (Ac sr rf))
def Ts(n:Int):Int:=if n<0 then 0 else if 1000000<n then 1000000 else n
theorem Xz(n:Int):0<=Ts n/\Ts n<=1000000:=by unfold Ts;(repeat' split)<;>omega
theorem Adj(n:Int):AC prog 142 [.int .i64 n] (fun r=>r=.int .i64 (Ts n)):=by
 refine Ax func142 fun w0 N0=>?_;refine Aa [0] [] sr ?_;exact Aa [2] [] sr (Aj (Ac sr (by unfold Ts;(repeat' split)<;>first|rfl|omega|skip)))
theorem Ag8(n:Int)(h1: -9223372036854775808<=n)(h2:n<9223372036854775808):AC prog 144 [.int .i64 n] (fun r=>r=(nR (n:Rat)).v):=by
 have a:=Tn n 1 h1 h2 dc dc;rw [Pn]at a;simp only [Vc]at a|-;have p1:=In;have p2:=Io;refine Ax func144 fun w0 N0=>?_;refine Aa [0,2] [2] sr (Ab (Ad (Am 1 sr ?_)));refine Ah a func88 ?_;refine Af [2,3] [2,3] sr ?_;exact Aa [2] [2] sr (Aj (Ac sr rf))
end Go.Proofs.YtpaccopbbffkaaaGreatDoor
set_option linter.unusedSimpArgs false
set_option maxRecDepth 4000
namespace Go.Proofs.YtpaccopbbffkaaaGreatDoor
open Go.Eng Go.Eng.Limb Go.RowKit Go.Sort
theorem Rg(l:List Int):(As l).all Lu=true:=by
 rw [Aw];intro x a;simp only [As,Bm]at a;obtain⟨n,_,rfl⟩:=a;rfl
theorem Vy(p:Option Addr)(a:Nat)(w:World):Calls prog 101 #[.slice p 0 a] w fun e w'=>e=.returned (.tuple #[])/\w'=w:=Any.slices_Sort_int_none lays189 p a w
theorem Ag9(c:List Int):∀e∈As c,e.fits 1:=by
 intro x a;simp only [As,Bm]at a;obtain⟨h,_,rfl⟩:=a;exact⟨rfl,by simp [V.cells,V.isCell]⟩
theorem Aha{w:World}{g c:Nat}{ty:TypeId}{e:List Int}(h:Aan w g ty 1 c (As e)):Holds (Value.int .i64) w g 0 e.toArray/\g<w.heap.size/\∃a,w.heap[g]? =some (.cells a ty (0,0))/\a.size=c:=by
 obtain⟨h1,h2,a,d,h4,k⟩:=h;refine⟨fun j f=>?_,(B2.1 d).1,a,d,by omega⟩;simp only [C4]at f;obtain⟨x,i,hp⟩:=k j (.int .i64 e[j]) 0 (.int .i64 e[j]) (by simp [As,f]) rfl;simp only [F0,Dy]at i;cases hp
 constructor
 ·simp [World.cell?,d,i,f]
 ·simp [World.frozen?,d]
theorem Asa{w:World}{g d n:Nat}{ty:TypeId}{t:Array Obj}{a:Array Value}{ts us:List Int}(x:w.heap[g]? =some (.cells a ty (0,0)))(hs:a.size=d)(hl:us.length<=ts.length)(ht:ts.length<=d)(f:ts.take us.length=us):
  Aan (grow (putRow (Value.int .i64) (Go.Sort.ahead w n) g 0 ts.toArray) t) g ty 1 d (As us):=by
 refine⟨by rw [A4];omega,Ag9 us,_,heap_sortedI _ x,by simp [putCells,hs],fun k e j c s m=>?_⟩;simp only [As,Bc,A0]at s;obtain⟨z,h,rfl⟩:=s
 have o:j=0:=by
  rcases j with _ |j
  ·rfl
  ·simp [V.cells]at m
 subst o;simp only [V.cells,Da,Au]at m;subst m;have u:k<us.length:=(Ap.1 h).1
 have r:ts[k]? =some z:=by
  rw [<- f]at h;rw [Cg u]at h;exact h
 refine⟨.int .i64 z,?_,.int _ _⟩;have l:k<a.size:=om;have i:k<ts.length:=om;simp [putCells,l,i];exact(Ap.1 r).2
def J5(a:List Int):List Int:=a.mergeSort fun x y=>decide (x<=y)
theorem Adk(f:List Int)(hz:f.length<=17592186044416):ACI prog 101 1 3 (As f) (As (J5 f)) (fun _ _ =>.tup []):=by
 refine⟨fun w g h i a=>?_,fun m=>?_⟩
 ·obtain⟨j,k,l,o,hs⟩:=Aha a;have c:=a.1;rw [A4]at c|-;refine(slices_Sort_int g 0 h f w j k om).mono ?_;rintro e w'⟨rfl,n,os,rfl⟩;exact⟨_,rfl,grownBy_sortedI _,Asa (us:=J5 f) o hs (A9 _) (by simpa using c) Bl,fun d v μ N' _ =>.pur (.tup [] [] rfl sm)⟩
 ·have:f= []:=by simpa [As]using m
  subst this;refine⟨by simp [J5,As],fun w A=>(Vy A 0 w).mono ?_⟩;rintro e w'⟨rfl,rfl⟩;exact⟨_,rfl,⟨rfl,rfl,rfl,A9 _,fun _ _ _ =>rfl⟩,fun d v μ N' _ =>.pur (.tup [] [] rfl sm)⟩
theorem Ap0(a:List Int):(Lib.compact a).length<=a.length:=by
 have c:∀m,(Lib.compactUpTo a.toArray m).length<=m:=by
  intro m
  induction m with
  |zero=>simp [Lib.compactUpTo]
  |succ m ih=>
   rw [Lib.compactUpTo_succ,Bf];split<;>simp<;>omega
 exact c a.length
theorem Al8(f:List Int)(hz:f.length<=17592186044416):ACI prog 102 1 3 (As f) (As (Lib.compact f)) (fun d v=>.sl d v 1 (Lib.compact f).length):=by
 have o:=Ap0 f
 refine⟨fun w g i h a=>?_,fun n=>?_⟩
 ·obtain⟨k,hg,m,r,hs⟩:=Aha a;have c:=a.1;rw [A4]at c|-;refine(slices_Compact_int g 0 i f w k om c).mono ?_;rintro e w'⟨rfl,q,rfl⟩;have l:∀d:Array Int,putRow (Value.int .i64) (Go.Sort.ahead w q) g 0 d=grow (putRow (Value.int .i64) (Go.Sort.ahead w q) g 0 d) #[]:=fun d=>by simp
  rw [l];exact⟨_,rfl,grownBy_sortedI _,Asa r hs sm so sm,fun d v μ N' j=>.slr d v 1 _ g i j om h⟩
 ·have:f= []:=by simpa [As]using n
  subst this;refine⟨by simp [Lib.compact,Lib.compactUpTo,As],fun w A=>(slices_Compact_int_empty A 0 w).mono ?_⟩;rintro e w'⟨rfl,rfl⟩;exact⟨_,rfl,⟨rfl,rfl,rfl,A9 _,fun _ _ _ =>rfl⟩,fun d v μ N' j=>.slv d v 1 A j⟩
end Go.Proofs.YtpaccopbbffkaaaGreatDoor
set_option maxRecDepth 4000
namespace Go.Proofs.YtpaccopbbffkaaaGreatDoor
open Go.Eng Go.Eng.Limb
def Sj(c d:Int)(a:Rat)(sl:Int):Bool:=decide (((Ts c+1:Int):Rat)<=a*((Ts d+1+Ts sl:Int):Rat))
theorem A4v(m s:Int)(r:RR)(sl:Int)(n:r.ok 34359738368):AC prog 100 [.int .i64 m,.int .i64 s,r.v,.int .i64 sl] (fun x=>x=.bool (Sj m s r.val sl)):=by
 have h:=Adj s;have j:=Adj sl;have i:=Adj m;have r1:=Xz s;have r2:=Xz sl;have r3:=Xz m;unfold Sj;generalize Ts s=a,Ts sl=b,Ts m=c at*;have e:=Ag8 (a+1+b) om om;have f:=Ag8 (c+1) om om;have u:Ox ((a+1+b:Int):Rat)<=3:=Oz om om;have y:Ox ((c+1:Int):Rat)<=3:=Oz om om;have d:=Ar2 r (nR ((a+1+b:Int):Rat)) ⟨⟨n.num.lim,Ai n.num.len dc⟩,n.lim,Ai n.len dc⟩ (Mj (Ai u dc));rw [Ln]at d;have z3:Ox (r.val*((a+1+b:Int):Rat))<=34359738371:=Ar5 (RR.sz n dc) u;have g:=Qc (nR ((c+1:Int):Rat)) (nR (r.val*((a+1+b:Int):Rat))) (Mj (Ai y dc)) (Mj (Ai z3 dc));rw [Ln,Ln]at g;have t:=Ar8 (a:=((c+1:Int):Rat)) (b:=r.val*((a+1+b:Int):Rat));generalize M1 ((c+1:Int):Rat) (r.val*((a+1+b:Int):Rat))=z at g t;have w:decide (((c+1:Int):Rat)<=r.val*((a+1+b:Int):Rat))=decide (z<=0):=by simp only [t]
 rw [w];clear w t z3 y u;generalize((a+1+b:Int):Rat)=A,((c+1:Int):Rat)=C at*;generalize r.val*A=M at*;have er:r.v=.agg [.bool r.num.neg,.ro 1 (Av r.num.mag),.ro 1 (Av r.den)]:=rfl;rw [er]at d|-;have o:=Ak r.num.mag;have l:=Ak r.den;generalize Av r.num.mag=am,Av r.den=ad at*;simp only [Vc]at e f d g;have p1:=In;have p2:=Io;have w1:IntKind.i64.wrap (a+1)=a+1:=Bh om om;have w2:IntKind.i64.wrap (a+1+b)=a+1+b:=Bh om om;have w3:IntKind.i64.wrap (c+1)=c+1:=Bh om om;refine Ax func100 fun w0 N0=>?_;refine Aa [0,1,3,6] [6] sr (Ab (C5 [(1,[]),(2,[]),(3,[]),(4,[]),(5,[]),(6,[]),(7,[]),(0,[9]),(8,[]),(9,[]),(10,[])] Ds kr ?_));refine Cf 1 sr ?_;refine Bu (fun k=>h) func142 rfl kr rfl rfl sr rfl rfl sr sm sr ?_;refine Cf 2 (by simp [w1]<;>rfl) ?_;refine Bu (fun k=>j) func142 rfl kr rfl rfl sr rfl rfl sr sm sr ?_;refine Cf 1 (by simp [w2]<;>rfl) ?_;refine Bu (fun k=>e) func144 rfl kr rfl rfl sr rfl rfl sr sm sr ?_;refine Cf 1 sr ?_;refine Bu (fun k=>d) func143 rfl kr rfl rfl sr rfl rfl sr (by simp) sr ?_;refine C6 [0,9] [9] sr ?_;refine Ab (C5 [(0,[]),(1,[]),(2,[]),(3,[]),(4,[]),(5,[]),(6,[]),(7,[])] Ds kr ?_);refine Cf 1 sr ?_;refine Bu (fun k=>i) func142 rfl kr rfl rfl sr rfl rfl sr sm sr ?_;refine Cf 1 (by simp [w3]<;>rfl) ?_;refine Bu (fun k=>f) func144 rfl kr rfl rfl sr rfl rfl sr sm sr ?_;refine Cf 1 sr ?_;refine Bu (fun k=>g) func89 rfl kr rfl rfl sr rfl rfl sr (by simp) sr ?_;refine C6 [8] [] sr ?_;exact Aj (Ac sr (rfl))
def Ez(m:List (Int × Int))(a:Int):Int:=match m with
 | []=>0
 |(x,v)::r=>if x=a then v else Ez r a
def X0(l:List (Int × Int))(m:List (Int × Int)):List (Int × Int):=match l with
 | []=>m
 |u::r=>X0 r ((u.1,Ts (Ez m u.1+Ts u.2))::m)
def mV(m:List (Int × Int)):List (Int × V):=m.map fun p=>(p.1,.int .i64 p.2)
theorem Abr(m:List (Int × Int))(a:Int):Mr false (.int .i64 0) (Gd a (mV m))=.int .i64 (Ez m a):=by
 induction m with
 |nil=>rfl
 |cons p r ih=>
  obtain⟨x,v⟩:=p;simp only [mV,Ct,Gd,Ez]at ih|-
  split
  ·rfl
  ·exact ih
theorem Au0{l m:List (Int × Int)}{k:Nat}(h:k<l.length):X0 (l.drop k) m=X0 (l.drop (k+1)) ((l[k].1,Ts (Ez m l[k].1+Ts l[k].2))::m):=by
 rw [Bt h,X0]
theorem Azt{m:List (Int × Int)}(h:∀p∈m,0<=p.2/\p.2<=1000000)(a:Int):0<=Ez m a/\Ez m a<=1000000:=by
 induction m with
 |nil=>simp [Ez]
 |cons p r ih=>
  rw [Ez]
  split
  ·exact h _ (Et ..)
  ·exact ih fun q c=>h q (Dv _ c)
@[simp]theorem Ap1:Wz prog 180=some (.i64,3):=by kernel_rfl
theorem Au1(l:List (Int × Int)):AC prog 99 [.ro 2 (A2 l)] (fun r=>∃b,r=.mp b .i64 (mV (X0 l []))):=by
 have hq:∀(k:Nat)(h:k<l.length),G8 (A2 l) k=some (.agg [.int .i64 l[k].1,.int .i64 l[k].2]):=fun k h=>H3 h
 have lq:=Du l;refine Rs 0 rfl fun i=>?_;rw [lq]at i;have ad:l.length<=maxLen:=i
 have ab:(l.length:Int)<=9223372036854775807:=by
  have:maxLen<=9223372036854775807:=dc;omega
 generalize A2 l=w at*;refine At5 func99 rfl (by show(1:Nat)<=27;omega) fun w0 N0=>?_;refine Ab (Ad (Ax7 rfl rfl rfl (by simp [ntmps99]) (by simp [Jn]<;>rfl) ?_));refine Af [0] [] sr ?_;refine Ab (Ad (Qa .i64 rfl rfl (fun b hb _ =>⟨_,rfl,?_⟩)));refine Af [0,3] [] sr ?_;refine Ab (Aa [3,7,8,9] [] sr ?_);refine Ar (Di (fun x:Nat × Nat × List (Int × Int)=>⟨[(3,.mp b .i64 (mV x.2.2)),(7,V.ro 2 w),(8,V.int .i64 w.length),(9,V.int .i64 (x.1:Nat))],[],x.2.1,27⟩) (fun x=>x.1<=l.length/\X0 (l.drop x.1) x.2.2=X0 l []/\∀p∈x.2.2,0<=p.2/\p.2<=1000000) (fun x=>l.length-x.1) (0,_,[]) ⟨B4 _,rfl,by simp⟩ (AS.le_refl _) ?_);rintro⟨k,nx,m⟩⟨hk,d,t⟩;simp only at hk d t|-;refine Aa [3,7,8,9,10] [] sr ?_;refine Ab ?_
 refine Ao (fun h1=>Ae ?_) fun h1=>?_
 ·have f:k<l.length:=by simp at h1;omega
  have n:k<w.length:=om;have y:=hq k f;have Dg:=A6 (k:=k) om;rw [Au0 f]at d;generalize l[k]=u at y d;obtain⟨s,z⟩:=u;simp only at y d;have a:=Adj z;have hc:=Xz z;generalize Ts z=g at a hc d;have hl:=Azt t s;have j:=Abr m s;generalize Ez m s=la at hl j d;have Pm:IntKind.i64.wrap (la+g)=la+g:=Bh om om;have c:=Adj (la+g);have o:=Xz (la+g);generalize Ts (la+g)=nn at c o d;refine Ab (Ar (Aa [3,5,7,8,9] [5] (by simp [y,n]<;>rfl) ?_));refine C5 [(0,[]),(1,[]),(3,[]),(4,[]),(7,[]),(2,[]),(5,[]),(6,[]),(8,[]),(9,[]),(10,[]),(11,[]),(12,[])] Ds kr ?_;refine Cf 9 (by simp [j,-Mr]<;>rfl) ?_;refine Bu (fun hg=>a) func142 rfl kr rfl rfl sr rfl rfl sr sm sr ?_;refine Cf 1 (by simp [Pm]<;>rfl) ?_;refine Bu (fun hg=>c) func142 rfl kr rfl rfl sr rfl rfl sr sm sr ?_;refine Vr (b:=b) hb rfl sm rfl rfl rfl sr sr sr rfl Ap1 rfl sr ?_;refine C6 [3,7,8,9] [] sr ?_;refine A3 [3,7,8,9] [] (by simp [Dg]<;>rfl) ?_;exact⟨(k+1,_,(s,nn)::m),⟨f,d,fun p hp=>(Cj.1 hp).elim (fun e=>e▸o) (t p)⟩,by simp only;omega,AS.le_refl _⟩
 ·refine Bb ?_;have aa:k=l.length:=by simp at h1;omega
  rw [aa,Cd,X0]at d;subst d;refine Aa [2] [] sr ?_;exact Aj (At4 rfl rfl rfl ⟨b,rfl⟩)
theorem Ajd{l:List Int}(h:l.Pairwise (·< ·)):J5 l=l:=
 List.mergeSort_of_pairwise (h.imp (fun a=>by simp only [decide_eq_true_eq];exact Int.le_of_lt a))
theorem Adl{l:List Int}(h:l.Pairwise (·< ·)):Lib.compact l=l:=by
 refine Lib.compact_all l fun j a=>?_;unfold Lib.keeps;rw [decide_eq_true_iff]
 by_cases c:j=0
 ·exact .inl c
 ·right
  have:=Hg.1 h (j-1) j om a om;have e:l.toArray[j]! =l[j]:=by simp [a]
  have d:l.toArray[j-1]! =l[j-1]'(by omega):=by simp [show j-1<l.length by omega]
  rw [e,d];omega
theorem Abs:∀ {l:List Int}{p:Int},Rc p l=true->(∀x∈l,p<x/\1<=x/\x<=9999999)/\l.Pairwise (·< ·)
 | [],_,_ =>by simp
 |y::r,p,h=>by
  simp only [Rc,Bk,decide_eq_true_eq,Vd]at h;obtain⟨h1,h2⟩:=Abs h.2;refine⟨fun x a=>?_,Mc.2 ⟨fun x a=>(h1 x a).1,h2⟩⟩
  rcases Cj.1 a with e|e
  ·subst e;omega
  ·have:=h1 x e;omega
theorem Ps(a b:List Int):As (a++b)=As a++As b:=Cr
theorem X1(x:Int):As [x]= [.int .i64 x]:=rfl
def Sk(f:Int->Bool)(l:List Pit):List Int:=(l.filter fun p=>f p.id).map Pit.id
theorem Ap2(f:Int->Bool){l:List Pit}{k:Nat}(h:k<l.length):Sk f (l.take (k+1))=Sk f (l.take k)++(if f l[k].id=true then [l[k].id]else []):=by
 unfold Sk;rw [A1 h,Md,Cr]
 congr 1
 by_cases a:f l[k].id=true
 ·rw [if_pos a,Jt (by exact a)];rfl
 ·rw [if_neg a,Ju (by exact a)];rfl
theorem Ahb(f:Int->Bool)(l:List Pit):(Sk f l).length<=l.length:=by unfold Sk;rw [Eg];exact Ft _ _
theorem Aje(f:Int->Bool){l:List Pit}(h:(Ly l).Pairwise (·< ·)):(Sk f l).Pairwise (·< ·):=
 List.Pairwise.sublist ((List.filter_sublist (l:=l)).map Pit.id) h
def X2(pool:List Pit)(c:List (Int × Int))(d:Int)(a:Rat)(sl:Int):List Int:=Sk (fun id=>Sj (Ez (X0 c []) id) d a sl) pool
theorem Ge(p:Pit):p.v=.agg [.int .i64 p.id,.str p.code,.int .i64 p.fam,.int .i64 p.st,.int .i64 p.wo,.int .i64 p.se,.int .i64 p.pt,.int .i64 p.ky,.ro 1 (Eb p.m)]:=rfl
theorem Au2(pool:List Pit)(a:List (Int × Int))(i:Int)(r:RR)(sl:Int)(hr:r.ok 34359738368)(hp:(Ly pool).Pairwise (·< ·))(am:pool.length<=18):
  AC prog 66 [.ro 9 (Ce pool),.ro 2 (A2 a),.int .i64 i,r.v,.int .i64 sl] (fun x=>x=.ro 1 (As (X2 pool a i r.val sl))):=by
 have aj:=Au1 a;have hq:=fun(k:Nat)(h:k<pool.length)=>Ij h
 have lq:=Dx pool;have j:=fun(ct:Int)=>A4v ct i r sl hr
 have g:=Aje (fun id=>Sj (Ez (X0 a []) id) i r.val sl) hp;have w:=Ahb (fun id=>Sj (Ez (X0 a []) id) i r.val sl);have af:=fun(k:Nat)(h:k<pool.length)=>Ap2 (fun id=>Sj (Ez (X0 a []) id) i r.val sl) h
 have o:=Abr (X0 a []);have pu:=A5 a;unfold X2;generalize X0 a []=m,r.val=q at*;have er:r.v=.agg [.bool r.num.neg,.ro 1 (Av r.num.mag),.ro 1 (Av r.den)]:=rfl;rw [er]at j|-;have ad:=Ak r.num.mag;have ah:=Ak r.den;generalize r.num.neg=rb,Av r.num.mag=rm,Av r.den=rd,A2 a=uv,Ce pool=pv,mV m=mv at*;refine Ax func66 fun w0 N0=>?_;refine Aa [0,1,2,4,8] [8] sr (Ab (Ad (Am 1 sr ?_)));refine Akz rfl rfl rfl func99 kr rfl sr (by simp) aj ?_;rintro _⟨b,rfl⟩;refine⟨_,rfl,?_⟩;refine Af [0,2,4,8,11] [8] sr ?_;refine Aa [0,2,4,8,11,12] [8] sr (Ab (Aa [2,4,8,11,12,17,18,19] [8] sr ?_));refine Fp 12 100 1 3 [2,4,8,11,12,17,18,19] [8,100] sr sr ?_;refine Ar ?_
 refine Di (fun x:Nat × Nat × Nat=>⟨[(2,V.int .i64 i),(4,V.int .i64 sl),(8,V.bp 8 (0) 3 0 0),(11,.mp b .i64 mv),(12,.sl 100 x.2.1 1 (Sk (fun id=>Sj (Ez m id) i q sl) (pool.take x.1)).length),(17,V.ro 9 pv),(18,V.int .i64 pv.length),(19,V.int .i64 (x.1:Nat))],[(8,{ v:=0,sz:=3,ty:=34,es:=[V.agg [V.bool rb,V.ro 1 rm,V.ro 1 rd]]}),(100,⟨x.2.1,1,3,As (Sk (fun id=>Sj (Ez m id) i q sl) (pool.take x.1))⟩)],x.2.2,41⟩)
  (fun x=>x.1<=pool.length) (fun x=>pool.length-x.1) (0,_,_) (B4 _) (AS.le_refl _) ?_
 rintro⟨k,qv,nx⟩hk;simp only at hk|-;refine Aa [2,4,8,11,12,17,18,19,20] [8,100] sr (Ab ?_)
 refine Ao (fun h1=>Ae ?_) fun h1=>?_
 ·have l:k<pool.length:=by simp at h1;omega
  have z:k<pv.length:=om;have ga:=hq k l;have Dg:=A6 (k:=k) om;have c:=af k l;have ab:=w (pool.take k);rw [Ge]at ga;generalize pool[k]=p at ga c;obtain⟨id,ak,al,st,wo,se,pt,ky,mo⟩:=p;simp only at ga c;have y:=o id;generalize Ez m id=ct at y c;have n:=j ct;have aa:(Sk (fun id=>Sj (Ez m id) i q sl) (pool.take k)).length<=18:=by simp only [Cs]at ab;omega
  generalize Sk (fun id=>Sj (Ez m id) i q sl) (pool.take k)=Lk at c aa|-;have ae:Lk.length+1<=maxLen/\(Lk.length+1)*8<=140737488355328:=⟨Ai (show Lk.length+1<=19 by omega) dc,by omega⟩;generalize Sj ct i q sl=e at n c;refine Ab (Ar (Aa [2,4,8,11,12,14,17,18,19] [8,14,100] (by simp [ga,z]<;>rfl) (Ab (Ad (Am 7 (by simp [y,-Mr]<;>rfl) ?_)))));refine Ah n func100 ?_;refine Af [2,4,8,11,12,14,17,18,19,30] [8,14,100] sr ?_
  refine Ao (fun h2=>?_) fun h2=>Ae ?_
  ·refine A3 [2,4,8,11,12,17,18,19] [8,100] (by simp [ae]<;>rfl) (A3 [2,4,8,11,12,17,18,19] [8,100] (by simp [Dg]<;>rfl) ?_);rw [if_pos h2]at c;exact⟨(k+1,_,_),l,by simp only;omega,by simp only [c,Ps,X1,Bf,Ba,Bx];exact AS.le_refl _⟩
  refine A3 [2,4,8,11,12,17,18,19] [8,100] (by simp [Dg]<;>rfl) ?_;rw [if_neg (by rw [h2];simp),Eo]at c;exact⟨(k+1,_,_),l,by simp only;omega,by simp only [c];exact AS.le_refl _⟩
 ·refine Bb ?_;have ai:k=pool.length:=by simp at h1;omega
  subst ai;have ag:=w pool;simp only [Bl];generalize Sk (fun id=>Sj (Ez m id) i q sl) pool=L at g ag|-;have t:=Adk L om;rw [Ajd g]at t;have s:=Al8 L om;rw [Adl g]at s;have hf:=Rg L;have u:=Ag L;have f:=A4 L;generalize As L=r1 at t s hf u f|-;refine Ab (Ad (Am 1 sr ?_));refine Up (d:=100) (v:=qv) t hf hf func101 rfl kr rfl rfl rfl (by simp [f]<;>rfl) Go.sr Go.sr ?_;refine Af [12] [100] sr ?_;refine Ab (Ad (Am 1 sr ?_));refine Up (d:=100) (v:=qv) s hf hf func102 rfl kr rfl rfl rfl (by simp [f]<;>rfl) Go.sr Go.sr ?_;refine Af [10] [100] sr ?_;exact Aj (Ac (by simp [results66,u,f]<;>rfl) (rfl))
def Nj(d:Int):List Int->List Int->List Int->Rat->Rat
 |a::l,b::e,w::c,t=>Nj d l e c (t+mkRat ((b-a)*(b-a)) (1000*d*d*w).natAbs)
 |_,_,_,t=>t
def Ot(a:List Int)(m:Mo)(q:Nat):Rat:=
 if q-1=min (q+1) (a.length-1)then 0
 else Nj (a.getD (min (q+1) (a.length-1)) 0-a.getD (q-1) 0) (m.getD (q-1) []) (m.getD (min (q+1) (a.length-1)) []) (m.getD q []) 0
theorem Ap3(d:Int){a b w:List Int}{k:Nat}(h1:k<a.length)(h2:k<b.length)(c:k<w.length)(t:Rat):
  Nj d (a.drop k) (b.drop k) (w.drop k) t=Nj d (a.drop (k+1)) (b.drop (k+1)) (w.drop (k+1)) (t+mkRat ((b[k]-a[k])*(b[k]-a[k])) (1000*d*d*w[k]).natAbs):=by
 rw [Bt h1,Bt h2,Bt c,Nj]
theorem Adm:∀ {l:List Int},Tk l=true->l.Pairwise (·< ·)
 | [],_ =>.nil
 | [_],_ =>by simp
 |a::b::r,h=>by
  simp only [Tk,Bk,decide_eq_true_eq]at h;have ih:=Adm h.2;refine Mc.2 ⟨fun x c=>?_,ih⟩
  rcases Cj.1 c with e|e
  ·subst e;exact h.1
  ·have:=(Mc.1 ih).1 x e;omega
theorem Al9{x:Int}{n:Nat}(h1: -(n:Int)<=x)(h2:x<=n):0<=x*x/\x*x<=(n*n:Nat):=by
 rw [<- Int.natAbs_mul_self (a:=x)];have:=Hx (show x.natAbs<=n by omega) (show x.natAbs<=n by omega);omega
theorem Ahc{d w:Int}(h1:0<d)(h2:d<=2000)(h3:1<=w)(h4:w<=1000):∃n:Nat,1000*d*d*w=n/\n≠0/\n<=4000000000000/\0<=1000*d/\1000*d<=2000000/\0<=1000*d*d/\1000*d*d<=4000000000:=by
 obtain⟨a,rfl⟩:∃a:Nat,d=a:=⟨d.toNat,by omega⟩;obtain⟨b,rfl⟩:∃b:Nat,w=b:=⟨w.toNat,by omega⟩;have e:a*a<=2000*2000:=Hx om om;have g:0<a*a:=Nat.mul_pos om om;have k3:a*a*b<=2000*2000*1000:=Hx e om;have k4:0<a*a*b:=Nat.mul_pos g om;have c:1000*(a:Int)*a=1000*(a*a:Nat):=by rw [E7,Int.mul_assoc]
 have f:1000*(a:Int)*a*b=(1000*(a*a*b):Nat):=by rw [c,Int.mul_assoc,<- E7];rfl
 refine⟨1000*(a*a*b),f,by omega,by omega,by omega,by omega,?_,?_⟩
 ·rw [c];omega
 ·rw [c];omega
theorem A4w(g:Gr)(m:Mo)(q:Nat)(hg:Ku g=0)(hm:Kv m g.pts.length=0)(hq:q<g.pts.length):
  AC prog 261 [g.v,moV m,.int .i64 q] (fun r=>r=(nR (Ot g.pts m q)).v):=by
 have l:=Tn 0 1 dc dc dc dc;rw [Pn]at l;obtain⟨bk,bh,bc,ad,-,hri⟩:=Jg hg;obtain⟨ml,mp,a6,-,m6,mrow⟩:=Xs hm;have c:=Adm hri;obtain⟨pts,ae⟩:=g;simp only at bk bh bc ad hq ml a6 c|-;have ev:(Gr.mk pts ae).v=.agg [.ro 1 (As pts),.ro 1 (As ae)]:=rfl;have em:moV m=.agg [.ro 1 (Eb m)]:=rfl;rw [ev,em];unfold Ot;have hr:∀(k:Nat)(h:k<m.length),G8 (Eb m) k=some (.ro 1 (As m[k])):=fun k h=>Q6 h
 have lr:=K9 m;have gp:∀(k:Nat)(h:k<pts.length),G8 (As pts) k=some (.int .i64 pts[k]):=fun k h=>E8 h
 have lp:=A4 pts;obtain⟨A,hA⟩:∃A,A=q-1:=⟨_,rfl⟩;obtain⟨B,hB⟩:∃B,B=min (q+1) (pts.length-1):=⟨_,rfl⟩;rw [<- hA,<- hB];have o:A<pts.length:=om;have s:B<pts.length:=om;have gA:=gp A o;have gB:=gp B s;have rA:=hr A om;have rB:=hr B om;have rQ:=hr q om;have eA:pts.getD A 0=pts[A]:=by simp [List.getD,o]
 have eB:pts.getD B 0=pts[B]:=by simp [List.getD,s]
 have a3:m.getD A []=m[A]'(by omega):=by simp [List.getD,show A<m.length by omega]
 have bi:m.getD B []=m[B]'(by omega):=by simp [List.getD,show B<m.length by omega]
 have a1:m.getD q []=m[q]'(by omega):=by simp [List.getD,show q<m.length by omega]
 rw [eA,eB,a3,bi,a1];have xA:=mrow _ (Az (show A<m.length by omega));have xB:=mrow _ (Az (show B<m.length by omega));have xQ:=mrow _ (Az (show q<m.length by omega));have pA:=ad _ (Az o);have pB:=ad _ (Az s);have ar:A≠B->pts[A] <pts[B]:=fun h=>Hg.1 c A B o s om
 generalize m[A]'(by omega)=y,m[B]'(by omega)=z,m[q]'(by omega)=e,pts[A]=pa,pts[B]=pb at*;simp only [Vc]at l|-;have au:nRb ((0:Int):Rat)=nRb 0:=rfl;have a2:nRl ((0:Int):Rat)=nRl 0:=rfl;have ao:nRd ((0:Int):Rat)=nRd 0:=rfl;rw [au,a2,ao]at l;have p1:=In;have p2:=Io;generalize As pts=pv,As ae=qv,Eb m=mv at*
 have bg:(if IntKind.i64.wrap ((q:Int)-1)<0 then 0 else IntKind.i64.wrap ((q:Int)-1))=(A:Int):=by
  rw [Bh om Go.om];split<;>omega
 have be:(if IntKind.i64.wrap ((pv.length:Int)-1)<IntKind.i64.wrap ((q:Int)+1)then IntKind.i64.wrap ((pv.length:Int)-1)else IntKind.i64.wrap ((q:Int)+1))=(B:Int):=by
  rw [Bh om om,Bh om Go.om];split<;>omega
 have a4:A<pv.length:=om;have a7:B<pv.length:=om;have aw:A<mv.length:=om;have a0:B<mv.length:=om;have bf:q<mv.length:=om;have ax:=A4 y;have a8:=A4 z;have bd:=A4 e;obtain⟨wa,al⟩:∃wa,As y=wa:=⟨_,rfl⟩;obtain⟨wb,ai⟩:∃wb,As z=wb:=⟨_,rfl⟩;obtain⟨wq,af⟩:∃wq,As e=wq:=⟨_,rfl⟩;rw [al]at rA ax;rw [ai]at rB a8;rw [af]at rQ bd;refine Ax func261 fun w0 N0=>?_;refine Aa [2,3,4,6] [3,4,6] sr ?_;refine Dq [(0,[]),(1,[]),(2,[]),(3,[]),(4,[]),(5,[]),(10,[]),(6,[]),(7,[]),(8,[]),(9,[]),(11,[])] [2,3,4,6,7,8] [3,4,6] Ds kr (by simp [bg,be]<;>rfl) ?_;refine Ab (Ad (Ah l func88 ?_));refine Af [2,3,4,6,7,8,9] [3,4,6,9] sr ?_;refine Ab (Aa [2,3,4,6,7,8,9,33] [3,4,6,9] sr ?_)
 refine Ao (fun h1=>?_) fun h1=>Ae ?_
 ·have bo:(A:Int)=B:=by simpa using h1
  have a:A=B:=om;exact Aa [6] [6] sr (Aj (Ac sr (by rw [if_pos a])))
 have a:A≠B:=fun h=>by rw [h]at h1;simp at h1
 rw [if_neg a];have bm:=ar a;obtain⟨d,hd⟩:∃d,d=pb-pa:=⟨_,rfl⟩;rw [<- hd];have bj:IntKind.i64.wrap (pb-pa)=d:=by rw [hd];exact Bh om om
 refine Dq [(0,[]),(2,[]),(5,[]),(7,[]),(1,[]),(3,[]),(4,[]),(6,[]),(8,[]),(9,[]),(10,[]),(11,[])] [2,4,6,7,8,9,11] [4,6,9] Ds kr (by simp [gA,gB,a4,a7,bj]<;>rfl) ?_;refine Ab (Aa [4,6,7,8,9,11,50,51,52] [4,6,9] (by simp [rQ,bf]<;>rfl) (Ar ?_))
 refine Di (fun x:Nat × Nat × Rat=>⟨[(4,V.bp 4 (1) 1 0 0),(6,V.bp 6 (2) 3 0 0),(7,.int .i64 A),(8,.int .i64 B),(9,V.bp 9 (19) 3 0 0),(11,.int .i64 d),(50,.ro 1 wq),(51,.int .i64 wq.length),(52,V.int .i64 (x.1:Nat))],[(4,{ v:=1,sz:=1,ty:=113,es:=[V.agg [V.ro 1 mv]]}),(6,{ v:=2,sz:=3,ty:=34,es:=[V.agg [V.bool false,V.nils,V.nils]]}),(9,{ v:=19,sz:=3,ty:=34,es:=[V.agg [V.bool (nRb x.2.2),V.ro 1 (nRl x.2.2),V.ro 1 (nRd x.2.2)]]})],x.2.1,92⟩)
  (fun x=>x.1<=e.length/\Ox x.2.2<=3+4*x.1/\Nj d (y.drop x.1) (z.drop x.1) (e.drop x.1) x.2.2=Nj d y z e 0) (fun x=>e.length-x.1) (0,_,0) ⟨B4 _,Oz (x:=0) dc dc,rfl⟩ (AS.le_refl _) ?_
 rintro⟨k,nx,t⟩⟨hk,ag,j⟩;simp only at hk ag j|-;refine Aa [4,6,7,8,9,11,50,51,52,53] [4,6,9] sr (Ab ?_)
 refine Ao (fun h2=>Ae ?_) fun h2=>?_
 ·have c:k<e.length:=by simp at h2;omega
  have ab:k<y.length:=om;have aa:k<z.length:=om;have ah:k<wa.length:=om;have aj:k<wb.length:=om;have am:k<wq.length:=om;have ga:=E8 ab;have gb:=E8 aa;have gq:=E8 c;rw [al]at ga;rw [ai]at gb;rw [af]at gq;have Dg:=A6 (k:=k) om;have ba:=xA.2.1 _ (Az ab);have bb:=xB.2.1 _ (Az aa);have bq:=xQ.2.1 _ (Az c);rw [Ap3 d ab aa c]at j;generalize y[k]=ka at ga ba j;generalize z[k]=kb at gb bb j;generalize e[k]=kq at gq bq j;obtain⟨ch,ak⟩:∃ch,ch=kb-ka:=⟨_,rfl⟩;have a9:IntKind.i64.wrap (kb-ka)=ch:=by rw [ak];exact Bh om om
  rw [<- ak]at j;have aq:=Al9 (x:=ch) (n:=1000) om om;obtain⟨E,hE,an,br,e1,e2,e3,e4⟩:=Ahc (d:=d) (w:=kq) om om om om;rw [hE,Ek]at j;have av:IntKind.i64.wrap (1000*d)=1000*d:=Bh om om;have az:IntKind.i64.wrap (1000*d*d)=1000*d*d:=Bh om om;have a5:IntKind.i64.wrap (1000*d*d*kq)=(E:Nat):=by rw [hE];exact Bh om om
  clear e1 e2 e3 e4 hE;obtain⟨sq,hs⟩:∃sq,sq=ch*ch:=⟨_,rfl⟩;have ay:IntKind.i64.wrap (ch*ch)=sq:=by rw [hs];exact Bh om om
  rw [<- hs]at aq j;have i:=Tn sq E om om om om;rw [R2 _ an]at i;have z1:Ox (mkRat sq E)<=3:=R1 an (La om om) (Zq (La om om));have bn:k<6:=om;have f:=Ar3 (nR t) (nR (mkRat sq E)) (Mj om) (Mj om);rw [Ln,Ln]at f;have z2:=Ai8 ag z1;generalize mkRat sq E=u at*;simp only [Vc]at i f;refine Ab (Ar (Aa [4,6,7,8,9,11,12,13,50,51,52] [4,6,9] (by simp [gq,am]<;>rfl) ?_));refine Dq [(0,[]),(2,[]),(5,[]),(8,[]),(10,[]),(13,[]),(1,[]),(3,[]),(4,[]),(6,[]),(7,[]),(9,[]),(11,[]),(12,[]),(14,[]),(15,[]),(16,[]),(17,[])] [4,6,7,8,9,11,13,14,50,51,52] [4,6,9] Ds kr (by simp [rA,rB,aw,a0,ga,gb,ah,aj,a9]<;>rfl) ?_;refine Ab (Ad (Am 9 (by simp [ay,av,az,a5]<;>rfl) ?_));refine Ah i func88 ?_;refine Af [4,6,7,8,9,11,15,50,51,52] [4,6,9,15] sr ?_;refine Ad (Am 2 sr ?_);refine Ah f func259 ?_;refine Af [4,6,7,8,9,11,50,51,52] [4,6,9] sr ?_;refine A3 [4,6,7,8,9,11,50,51,52] [4,6,9] (by simp [Dg]<;>rfl) ?_;exact⟨(k+1,_,t+u),⟨by simp only;omega,by simp only;omega,j⟩,by simp only;omega,AS.le_refl _⟩
 ·refine Bb ?_;have bl:k=e.length:=by simp at h2;omega
  have hn:∀t,Nj d (y.drop k) (z.drop k) (e.drop k) t=t:=fun t=>by rw [bl,Cd];cases y.drop e.length<;>cases z.drop e.length<;>rfl
  rw [hn]at j;exact Aa [6] [6] sr (Aj (Ac sr (by rw [j])))
theorem Ama{d:Int}(h1:0<d)(h2:d<=2000):∀ {a b w:List Int}{t:Rat}{s:Nat},(∀x∈a,1<=x/\x<=1000)->(∀x∈b,1<=x/\x<=1000)->(∀x∈w,1<=x/\x<=1000)->Ox t<=s->Ox (Nj d a b w t)<=s+4*w.length
 | [],b,w,t,s,_,_,_,e=>by cases b<;>cases w<;>simp only [Nj]<;>omega
 |_ ::_,[],w,t,s,_,_,_,e=>by cases w<;>simp only [Nj]<;>omega
 |_ ::_,_ ::_,[],t,s,_,_,_,e=>by simp only [Nj];omega
 |x::a,y::b,z::w,t,s,j,l,k,e=>by
  have c:=j x (Et ..);have hy:=l y (Et ..);have i:=k z (Et ..);obtain⟨E,m,g,u,-⟩:=Ahc h1 h2 i.1 i.2;have f:=Al9 (x:=y-x) (n:=1000) om om;obtain⟨q,h⟩:∃q,q=(y-x)*(y-x):=⟨_,rfl⟩;rw [Nj,m,Ek,<- h];rw [<- h]at f;have o:Ox (mkRat q E)<=3:=R1 g (La om om) (Zq (La om om));have r:=Ai8 e o;have:=Ama h1 h2 (fun x c=>j x (Dv _ c)) (fun x c=>l x (Dv _ c)) (fun x c=>k x (Dv _ c)) r;simp only [Ba];omega
theorem Tt{α:Type}{l:List α}{i:Nat}{d:α}(h:i<l.length):l.getD i d∈l:=by
 rw [show l.getD i d=l[i]by simp [List.getD,h]];exact Az h
theorem A4x{g:Gr}{m:Mo}{q:Nat}(h:Ku g=0)(o:Kv m g.pts.length=0)(hq:q<g.pts.length):Ox (Ot g.pts m q)<=27:=by
 obtain⟨k,r,n,a,-,hri⟩:=Jg h;obtain⟨ml,mp,i,-,m6,mrow⟩:=Xs o;have f:=Adm hri;unfold Ot
 split
 ·exact Ai (Oz (x:=0) dc dc) dc
 ·rename_i l;have c:min (q+1) (g.pts.length-1)<g.pts.length:=om;have e:q-1<g.pts.length:=om;have pA:=a _ (Tt (d:=0) e);have pB:=a _ (Tt (d:=0) c)
  have hd:g.pts.getD (q-1) 0<g.pts.getD (min (q+1) (g.pts.length-1)) 0:=by
   have:=Hg.1 f (q-1) _ e c om;simpa [List.getD,e,c]using this
  have j:=mrow _ (Tt (d:=[]) (show q<m.length by omega))
  have:=Ama (t:=0) (s:=3) (show 0<g.pts.getD (min (q+1) (g.pts.length-1)) 0-g.pts.getD (q-1) 0 by omega) om (mrow _ (Tt (d:=[]) (show q-1<m.length by omega))).2.1
   (mrow _ (Tt (d:=[]) (show min (q+1) (g.pts.length-1)<m.length by omega))).2.1 j.2.1 (Oz (x:=0) dc dc)
  omega
theorem A4y(g:Gr)(m:Mo)(q:Nat)(f:Ku g=0)(k:Kv m g.pts.length=0)(i:q<g.pts.length):
  AC prog 228 [g.v,moV m,.int .i64 q] (fun r=>r=.tup [(nR (Ot g.pts m q)).v,.int .i64 0]):=by
 have a:=A4w g m q f k i;have e:=Lb g;rw [f]at e;have c:=Qq m g.pts.length;rw [k]at c;obtain⟨pts,d⟩:=g;simp only at i c a|-;generalize Ot pts m q=u at*;have ev:(Gr.mk pts d).v=.agg [.ro 1 (As pts),.ro 1 (As d)]:=rfl;have j:moV m=.agg [.ro 1 (Eb m)]:=rfl;rw [ev,j]at a|-;rw [ev]at e;have t:=A4 pts;have n:=Ag pts;have o:=Ag d;have l:=Do m;rw [j]at c;rw [<- t]at c;simp only [Vc]at a|-;have w:=In;have s:=Io;generalize As pts=pv,As d=qv,Eb m=mv at*;refine Ax func228 fun w0 N0=>?_;refine Aa [2,3,4,6] [3,4,6] sr (Ab (Ab (Ad (Am 1 sr ?_))));refine Ah e func56 ?_;refine Af [2,3,4,6,8] [3,4,6] sr ?_;refine Aa [2,3,4,6,8,13] [3,4,6] sr ?_;refine A7 rfl (fun h1=>by simp at h1) (fun h1=>Ae (Ab (Ab (Ad (Am 4 sr ?_)))));refine Ah c func91 ?_;refine Af [2,3,4,6,9] [3,4,6] sr ?_;refine Aa [2,3,4,6,9,22] [3,4,6] sr ?_;refine A7 rfl (fun h2=>by simp at h2) (fun h2=>Ae (Ab (Aa [2,3,4,6,33] [3,4,6] sr ?_)));refine A7 rfl (fun h=>by simp at h;omega) (fun h=>Ae (Ab (Ad (Am 3 sr ?_))));refine Ah a func261 ?_;refine Af [6,7] [6] sr ?_;exact Aj (Ac (by simp [results228]<;>rfl) (rfl))
def Tu(q:Rat):Int:=if(q*(100000000:Int)).floor< -9223372036854775808\/1000000<(q*(100000000:Int)).floor then 1000000 else(q*(100000000:Int)).floor
theorem Azu(g:Gr)(m:Mo)(q:Nat)(x:Ku g=0)(z:Kv m g.pts.length=0)(y:q<g.pts.length):
  AC prog 199 [g.v,moV m,.int .i64 q] (fun r=>r=.tup [.int .i64 (Tu (Ot g.pts m q)),.int .i64 0]):=by
 have f:=A4y g m q x z y;have hz:=A4x x z y;have l:=Tn 100000000 1 dc dc dc dc;rw [Pn]at l;unfold Tu;generalize Ot g.pts m q=u at*;have z1:Ox ((100000000:Int):Rat)<=3:=Oz dc dc;have c:=Ar2 (nR u) (nR ((100000000:Int):Rat)) (Mj om) (Mj om);rw [Ln,Ln]at c;have z2:=Ar5 hz z1;have d:=Auw (nR (u*((100000000:Int):Rat))) (Mj om);rw [Ln]at d;have a:=Azf (nI (u*((100000000:Int):Rat)).floor) (Cn _);rw [If]at a;generalize(u*((100000000:Int):Rat)).floor=F at*;generalize u*((100000000:Int):Rat)=U at*;generalize((100000000:Int):Rat)=M at*
 obtain⟨s,n,hr,k,o⟩:∃s n,To F=.tup [.int .i64 s,.bool n]/\(n=decide (-9223372036854775808<=F/\F<=9223372036854775807))/\(n=true->s=F):=by
  unfold To;split
  ·rename_i h;exact⟨_,_,rfl,by simp [h],fun _ =>rfl⟩
  ·rename_i h;exact⟨_,_,rfl,by simp only [h,decide_false],fun h=>by cases h⟩
 rw [hr]at a;have em:moV m=.agg [.ro 1 (Eb m)]:=rfl;have pm:=Do m;have eg:g.v=.agg [.ro 1 (As g.pts),.ro 1 (As g.pri)]:=rfl;have pp:=Ag g.pts;have pq:=Ag g.pri;rw [em,eg]at f|-;simp only [Vc,Apq]at f l c d a;have p1:=In;have p2:=Io;have p3:=Tl;generalize As g.pts=pv at*;generalize As g.pri=qv at*;generalize Eb m=mv at*;refine Ax func199 fun w0 N0=>?_;refine Aa [2,3,4] [3,4] sr (Ab (Ad (Am 3 sr ?_)));refine Ah f func228 ?_;refine Af [8,9] [8] sr ?_;refine Ab (Aa [8,9,22] [8] sr ?_);refine A7 rfl (fun h1=>by simp at h1) (fun h1=>Ae (Ab (Ad (Ah l func88 ?_))));refine Af [8,10] [8,10] sr ?_;refine Ab (Ad (Am 2 sr ?_));refine Ah c func143 ?_;refine Ah d func230 ?_;refine Ah a func229 ?_;refine Af [12,13] [] sr ?_;refine Ab (Aa [12,41] [] sr ?_)
 refine Ao (fun h2=>?_) fun h2=>Ae ?_
 ·have t:F< -9223372036854775808\/1000000<F:=by
   by_cases i:n=true
   ·rw [i]at h2;have:=o i;simp at h2;omega
   ·rw [k]at i;simp at i;omega
  exact Aa [6,7] [] sr (Aj (Ac sr (by rw [if_pos t])))
 have j:¬(F< -9223372036854775808\/1000000<F)/\s=F:=by
  by_cases i:n=true
  ·rw [i]at h2;have e:=o i;simp at h2;rw [i]at k;have:=of_decide_eq_true k.symm;exact⟨by omega,e⟩
  ·simp [i]at h2
 rw [j.2];have w:IntKind.i64.wrap F=F:=Bh om om;exact Aa [6,7] [] Go.sr (Aj (Ac sr (by rw [if_neg j.1])))
def Hs{α:Type}(p:α->Bool):List α->Nat->Int
 | [],_ => -1
 |x::r,i=>if p x=true then(i:Int)else Hs p r (i+1)
theorem Nz{α:Type}(p:α->Bool){l:List α}{k:Nat}(h:k<l.length):Hs p (l.drop k) k=if p l[k]=true then(k:Int)else Hs p (l.drop (k+1)) (k+1):=by
 rw [Bt h,Hs]
theorem Of{α:Type}(p:α->Bool):∀(l:List α)(i:Nat),decide (0<=Hs p l i)=l.any p
 | [],_ =>rfl
 |x::r,i=>by
  rw [Hs,Qy]
  split
  ·rename_i h;rw [h];simp
  ·rename_i h;rw [Of p r (i+1),Bool.eq_false_iff.2 h];rfl
theorem Asb{α:Type}(p:α->Bool):∀(l:List α)(i:Nat),-1<=Hs p l i/\Hs p l i<i+l.length/\(0<=Hs p l i->(i:Int)<=Hs p l i)
 | [],i=>by simp only [Hs,Bx];omega
 |x::r,i=>by
  rw [Hs];have:=Asb p r (i+1)
  split
  ·simp only [Ba];omega
  ·simp only [Ba];omega
theorem Pt(g:FuncId):Bi (.fn g) (.fc g [] []):=by
 refine⟨fun w N x a=>?_,fun _ =>rfl⟩;cases a with
 |fn=>exact .fc g [] [] [] [] rfl rfl sm sm
theorem Ahd(l:List Int)(x:Int):AC prog 82 [.ro 1 (As l),.int .i64 x] (fun r=>r=.int .i64 (Hs (fun y=>decide (x=y)) l 0)):=by
 refine Rs 0 rfl fun g=>?_;have m:=fun(k:Nat)(h:k<l.length)=>E8 h
 have n:=A4 l;rw [n]at g
 have j:(l.length:Int)<=9223372036854775807:=by
  have:maxLen<=9223372036854775807:=dc;omega
 generalize As l=f at*;refine Ax func82 fun w0 N0=>?_;refine Aa [0,1] [] sr (Ab (Aa [0,1,7,8] [] sr (Ar (Br (fun k nx=>⟨[(0,V.ro 1 f),(1,V.int .i64 x),(7,V.int .i64 f.length),(8,V.int .i64 k)],[],nx,19⟩) (fun k=>Hs (fun y=>decide (x=y)) (l.drop k) k=Hs (fun y=>decide (x=y)) l 0) l.length _ rfl (AS.le_refl _) ?_))));intro k nx hk c;refine Aa [0,1,7,8,9] [] sr (Ab ?_)
 refine Ao (fun h1=>Ae ?_) fun h1=>?_
 ·have a:k<l.length:=by simp at h1;omega
  have d:k<f.length:=om;have i:=m k a;have Dg:=A6 (k:=k) om;rw [Nz _ a]at c;generalize l[k]=y at i c;refine Ab (Ar (Aa [0,1,5,7,8] [] sr (Aa [0,1,5,7,8,16] [] (by simp [i,d]<;>rfl) ?_)))
  refine Ao (fun h2=>?_) fun h2=>Ae ?_
  ·exact Aa [4] [] sr (Aj (Ac sr (by rw [<- c,if_pos h2])))
  refine A3 [0,1,7,8] [] (by simp [Dg]<;>rfl) ?_;exact⟨a,by rw [<- c,if_neg (by rw [h2];decide)],_,AS.le_refl _⟩
 ·refine Bb ?_;have e:k=l.length:=by simp at h1;omega
  rw [e,Cd,Hs]at c;exact Aa [4] [] sr (Aj (Ac sr (by rw [<- c])))
theorem Qd(l:List Int)(x:Int):AC prog 64 [.ro 1 (As l),.int .i64 x] (fun r=>r=.bool (decide (x∈l))):=by
 have a:=Ahd l x
 have d:decide (x∈l)=decide (0<=Hs (fun y=>decide (x=y)) l 0):=by
  rw [Of]
  by_cases h:x∈l
  ·rw [decide_eq_true h];symm;rw [Dz];exact⟨x,h,by simp⟩
  ·rw [decide_eq_false h];symm;rw [Na];intro y c;simp;exact fun e=>h (e▸c)
 rw [d];have pl:=Ag l;generalize As l=lv,Hs (fun y=>decide (x=y)) l 0=z at*;refine Ax func64 fun w0 N0=>?_;refine Aa [0,1] [] sr (Ab (Ad (Am 2 sr ?_)));refine Ah a func82 ?_;refine Af [4] [] sr ?_;exact Aj (Ac sr (rfl))
theorem Amb(l:List Pit)(g:FuncId)(us vs:List V)(f:Pit->Bool)(w:∀p∈l,FCQ gv prog (.fc g us vs) [Pit.v p] (fun r=>r=.bool (f p))):Hp gv prog 234 [.ro 9 (Ce l),.fc g us vs] (fun r=>r=.int .i64 (Hs f l 0)):=by
 have s:=fun(k:Nat)(h:k<l.length)=>Ij h
 have u:(Ce l).length=l.length:=Dx l;refine Tc 0 rfl fun n=>?_;rw [u]at n
 have o:(l.length:Int)<=9223372036854775807:=by
  have:maxLen<=9223372036854775807:=dc;omega
 generalize Ce l=m at*;refine By func234 fun w0 N0 t=>?_;refine Aa [0,1] [] sr (Ab (Aa [0,1,7,8] [] sr (Ar (Br (fun k nx=>⟨[(0,V.ro 9 m),(1,V.fc g us vs),(7,V.int .i64 m.length),(8,V.int .i64 k)],[],nx,19⟩) (fun k=>Hs f (l.drop k) k=Hs f l 0) l.length _ rfl (AS.le_refl _) ?_))));intro k nx hk c;refine Aa [0,1,7,8,9] [] sr (Ab ?_)
 refine Ao (fun h1=>Ae ?_) fun h1=>?_
 ·have a:k<l.length:=by simp at h1;omega
  have d:k<m.length:=om;have i:=s k a;have e:=w _ (Az a);have Dg:=A6 (k:=k) om;rw [Nz _ a]at c;generalize l[k]=y at i c e;rw [Ge]at i e;generalize f _ =fb at c e;refine Ab (Ar (Aa [0,1,5,7,8] [] sr (Ab (Ad (Am 5 (by simp [i,d]<;>rfl) ?_)))));refine O7 t e sm rfl rfl sr sr (by simp) sr ?_;refine Af [0,1,5,7,8,16] [] sr ?_
  refine Ao (fun h2=>?_) fun h2=>Ae ?_
  ·exact Aa [4] [] sr (Aj (Ac sr (by rw [<- c,if_pos h2])))
  refine A3 [0,1,7,8] [] (by simp [Dg]<;>rfl) ?_;exact⟨a,by rw [<- c,if_neg (by rw [h2];decide)],_,AS.le_refl _⟩
 ·refine Bb ?_;have j:k=l.length:=by simp at h1;omega
  rw [j,Cd,Hs]at c;exact Aa [4] [] sr (Aj (Ac sr (by rw [<- c])))
theorem Azv(l:List Pit)(g:FuncId)(us vs:List V)(f:Pit->Bool)(d:∀p∈l,FCQ gv prog (.fc g us vs) [Pit.v p] (fun r=>r=.bool (f p))):Hp gv prog 368 [.ro 9 (Ce l),.fc g us vs] (fun r=>r=.bool (l.any f)):=by
 have a:=Amb l g us vs f d;rw [<- Of f l 0];have pl:=Ca l;generalize Ce l=lv,Hs f l 0=z at*;refine By func368 fun w0 N0 c=>?_;refine Aa [0,1] [] sr (Ab (Ad (Am 2 sr ?_)));refine Bq c a func234 ?_;refine Af [4] [] sr ?_;exact Aj (Ac sr (rfl))
theorem Azw(l:List Ru)(g:FuncId)(us vs:List V)(f:Ru->Bool)(x:∀p∈l,FCQ gv prog (.fc g us vs) [Ru.v p] (fun r=>r=.bool (f p))):Hp gv prog 294 [.ro 5 (Ey l),.fc g us vs] (fun r=>r=.int .i64 (Hs f l 0)):=by
 have t:=fun(k:Nat)(h:k<l.length)=>Re h
 have w:(Ey l).length=l.length:=Pp l;refine Tc 0 rfl fun o=>?_;rw [w]at o
 have s:(l.length:Int)<=9223372036854775807:=by
  have:maxLen<=9223372036854775807:=dc;omega
 generalize Ey l=m at*;refine By func294 fun w0 N0 u=>?_;refine Aa [0,1] [] sr (Ab (Aa [0,1,7,8] [] sr (Ar (Br (fun k nx=>⟨[(0,V.ro 5 m),(1,V.fc g us vs),(7,V.int .i64 m.length),(8,V.int .i64 k)],[],nx,19⟩) (fun k=>Hs f (l.drop k) k=Hs f l 0) l.length _ rfl (AS.le_refl _) ?_))));intro k nx hk c;refine Aa [0,1,7,8,9] [] sr (Ab ?_)
 refine Ao (fun h1=>Ae ?_) fun h1=>?_
 ·have a:k<l.length:=by simp at h1;omega
  have d:k<m.length:=om;have i:=t k a;have e:=x _ (Az a);have Dg:=A6 (k:=k) om;rw [Nz _ a]at c;generalize l[k]=y at i c e;rw [show y.v=.agg [.int .i64 y.kind,.int .i64 y.n,.int .i64 y.mn,.int .i64 y.mx,.str y.code]from rfl]at i e;generalize f _ =fb at c e;refine Ab (Ar (Aa [0,1,5,7,8] [] sr (Ab (Ad (Am 5 (by simp [i,d]<;>rfl) ?_)))));refine O7 u e sm rfl rfl sr sr sm sr ?_;refine Af [0,1,5,7,8,16] [] sr ?_
  refine Ao (fun h2=>?_) fun h2=>Ae ?_
  ·exact Aa [4] [] sr (Aj (Ac sr (by rw [<- c,if_pos h2])))
  refine A3 [0,1,7,8] [] (by simp [Dg]<;>rfl) ?_;exact⟨a,by rw [<- c,if_neg (by rw [h2];decide)],_,AS.le_refl _⟩
 ·refine Bb ?_;have j:k=l.length:=by simp at h1;omega
  rw [j,Cd,Hs]at c;exact Aa [4] [] sr (Aj (Ac sr (by rw [<- c])))
theorem Azx(l:List Ru)(g:FuncId)(us vs:List V)(f:Ru->Bool)(d:∀p∈l,FCQ gv prog (.fc g us vs) [Ru.v p] (fun r=>r=.bool (f p))):Hp gv prog 269 [.ro 5 (Ey l),.fc g us vs] (fun r=>r=.bool (l.any f)):=by
 have a:=Azw l g us vs f d;rw [<- Of f l 0];have pl:=C2 l;generalize Ey l=lv,Hs f l 0=z at*;refine By func269 fun w0 N0 c=>?_;refine Aa [0,1] [] sr (Ab (Ad (Am 2 sr ?_)));refine Bq c a func294 ?_;refine Af [4] [] sr ?_;exact Aj (Ac sr (rfl))
theorem Azy(l:List Int)(g:FuncId)(us vs:List V)(f:Int->Bool)(w:∀p∈l,FCQ gv prog (.fc g us vs) [V.int .i64 p] (fun r=>r=.bool (f p))):Hp gv prog 295 [.ro 1 (As l),.fc g us vs] (fun r=>r=.int .i64 (Hs f l 0)):=by
 have s:=fun(k:Nat)(h:k<l.length)=>E8 h
 have u:(As l).length=l.length:=A4 l;refine Tc 0 rfl fun m=>?_;rw [u]at m
 have o:(l.length:Int)<=9223372036854775807:=by
  have:maxLen<=9223372036854775807:=dc;omega
 generalize As l=j at*;refine By func295 fun w0 N0 t=>?_;refine Aa [0,1] [] sr (Ab (Aa [0,1,7,8] [] sr (Ar (Br (fun k nx=>⟨[(0,V.ro 1 j),(1,V.fc g us vs),(7,V.int .i64 j.length),(8,V.int .i64 k)],[],nx,19⟩) (fun k=>Hs f (l.drop k) k=Hs f l 0) l.length _ rfl (AS.le_refl _) ?_))));intro k nx hk c;refine Aa [0,1,7,8,9] [] sr (Ab ?_)
 refine Ao (fun h1=>Ae ?_) fun h1=>?_
 ·have a:k<l.length:=by simp at h1;omega
  have d:k<j.length:=om;have n:=s k a;have i:=w _ (Az a);have Dg:=A6 (k:=k) om;rw [Nz _ a]at c;generalize l[k]=y at n c i;generalize f _ =fb at c i;refine Ab (Ar (Aa [0,1,5,7,8] [] sr (Ab (Ad (Am 5 (by simp [n,d]<;>rfl) ?_)))));refine O7 t i sm rfl rfl sr sr sm sr ?_;refine Af [0,1,5,7,8,16] [] sr ?_
  refine Ao (fun h2=>?_) fun h2=>Ae ?_
  ·exact Aa [4] [] sr (Aj (Ac sr (by rw [<- c,if_pos h2])))
  refine A3 [0,1,7,8] [] (by simp [Dg]<;>rfl) ?_;exact⟨a,by rw [<- c,if_neg (by rw [h2];decide)],_,AS.le_refl _⟩
 ·refine Bb ?_;have e:k=l.length:=by simp at h1;omega
  rw [e,Cd,Hs]at c;exact Aa [4] [] sr (Aj (Ac sr (by rw [<- c])))
theorem Azz(l:List Int)(g:FuncId)(us vs:List V)(f:Int->Bool)(d:∀p∈l,FCQ gv prog (.fc g us vs) [V.int .i64 p] (fun r=>r=.bool (f p))):Hp gv prog 273 [.ro 1 (As l),.fc g us vs] (fun r=>r=.bool (l.any f)):=by
 have a:=Azy l g us vs f d;rw [<- Of f l 0];have pl:=Ag l;generalize As l=lv,Hs f l 0=z at*;refine By func273 fun w0 N0 c=>?_;refine Aa [0,1] [] sr (Ab (Ad (Am 2 sr ?_)));refine Bq c a func295 ?_;refine Af [4] [] sr ?_;exact Aj (Ac sr (rfl))
def A76(n:Nat):V:=.ro 1 (F5 n)
theorem Az0(l:List Nat)(g:FuncId)(us vs:List V)(f:Nat->Bool)(x:∀p∈l,FCQ gv prog (.fc g us vs) [A76 p] (fun r=>r=.bool (f p))):Hp gv prog 247 [.ro 1 (Bw l),.fc g us vs] (fun r=>r=.int .i64 (Hs f l 0)):=by
 have s:=fun(k:Nat)(h:k<l.length)=>Kc h
 have u:(Bw l).length=l.length:=Hk l;refine Tc 0 rfl fun n=>?_;rw [u]at n
 have o:(l.length:Int)<=9223372036854775807:=by
  have:maxLen<=9223372036854775807:=dc;omega
 generalize Bw l=m at*;refine By func247 fun w0 N0 t=>?_;refine Aa [0,1] [] sr (Ab (Aa [0,1,7,8] [] sr (Ar (Br (fun k nx=>⟨[(0,V.ro 1 m),(1,V.fc g us vs),(7,V.int .i64 m.length),(8,V.int .i64 k)],[],nx,19⟩) (fun k=>Hs f (l.drop k) k=Hs f l 0) l.length _ rfl (AS.le_refl _) ?_))));intro k nx hk c;refine Aa [0,1,7,8,9] [] sr (Ab ?_)
 refine Ao (fun h1=>Ae ?_) fun h1=>?_
 ·have a:k<l.length:=by simp at h1;omega
  have d:k<m.length:=om;have i:=s k a;have e:=x _ (Az a);have Dg:=A6 (k:=k) om;rw [Nz _ a]at c;generalize l[k]=y at i c e;have w:=Ff y;rw [show A76 y=.ro 1 (F5 y)from rfl]at e;rw [show Av (B1 y)=F5 y from rfl]at i;generalize f _ =fb at c e;refine Ab (Ar (Aa [0,1,5,7,8] [] sr (Ab (Ad (Am 5 (by simp [i,d]<;>rfl) ?_)))));refine O7 t e sm rfl rfl sr sr (by simp) sr ?_;refine Af [0,1,5,7,8,16] [] sr ?_
  refine Ao (fun h2=>?_) fun h2=>Ae ?_
  ·exact Aa [4] [] sr (Aj (Ac sr (by rw [<- c,if_pos h2])))
  refine A3 [0,1,7,8] [] (by simp [Dg]<;>rfl) ?_;exact⟨a,by rw [<- c,if_neg (by rw [h2];decide)],_,AS.le_refl _⟩
 ·refine Bb ?_;have j:k=l.length:=by simp at h1;omega
  rw [j,Cd,Hs]at c;exact Aa [4] [] sr (Aj (Ac sr (by rw [<- c])))
theorem Az1(l:List Nat)(g:FuncId)(us vs:List V)(f:Nat->Bool)(d:∀p∈l,FCQ gv prog (.fc g us vs) [A76 p] (fun r=>r=.bool (f p))):Hp gv prog 207 [.ro 1 (Bw l),.fc g us vs] (fun r=>r=.bool (l.any f)):=by
 have a:=Az0 l g us vs f d;rw [<- Of f l 0];have pl:=Bv l;generalize Bw l=lv,Hs f l 0=z at*;refine By func207 fun w0 N0 c=>?_;refine Aa [0,1] [] sr (Ab (Ad (Am 2 sr ?_)));refine Bq c a func247 ?_;refine Af [4] [] sr ?_;exact Aj (Ac sr (rfl))
theorem Tv{α:Type}(f:α->Bool){l:List α}{k:Nat}(h:k<l.length):(l.take (k+1)).filter f=(l.take k).filter f++(if f l[k]=true then [l[k]]else []):=by
 rw [A1 h,Md]
 congr 1
 by_cases a:f l[k]=true
 ·rw [if_pos a,Jt a];rfl
 ·rw [if_neg a,Ju a];rfl
theorem Tw{α β:Type}(f:α->β){l:List α}{k:Nat}(h:k<l.length):(l.take (k+1)).map f=(l.take k).map f++[f l[k]]:=by
 rw [A1 h,Cr];rfl
theorem Au3(a b:List Pit):Ce (a++b)=Ce a++Ce b:=Cr
theorem Au4(p:Pit):Ce [p]= [.agg [.int .i64 p.id,.str p.code,.int .i64 p.fam,.int .i64 p.st,.int .i64 p.wo,.int .i64 p.se,.int .i64 p.pt,.int .i64 p.ky,.ro 1 (Eb p.m)]]:=rfl
def Asc(pool:List Pit)(ids:List Int):List Pit:=pool.filter fun p=>decide (p.id∈ids)
theorem Amc(pool:List Pit)(ids:List Int)(z:pool.length<=18):AC prog 105 [.ro 9 (Ce pool),.ro 1 (As ids)] (fun x=>x=.ro 9 (Ce (Asc pool ids))):=by
 have s:=fun(k:Nat)(h:k<pool.length)=>Ij h
 have lq:=Dx pool;have t:=Qd ids;have y:=Ag ids;have i:∀k,((pool.take k).filter fun p=>decide (p.id∈ids)).length<=18:=fun k=>Ai (Ft _ _) so
 have o:=fun(k:Nat)(h:k<pool.length)=>Tv (fun p:Pit=>decide (p.id∈ids)) h
 unfold Asc;generalize As ids=iv,Ce pool=pv at*;refine Ax func105 fun w0 N0=>?_;refine Aa [0,1] [] sr (Aa [0,1,5] [] sr (Ab (Aa [1,5,8,9,10] [] sr ?_)));refine Fp 5 100 9 115 [1,5,8,9,10] [100] sr sr ?_;refine Ar ?_
 refine Di (fun x:Nat × Nat × Nat=>⟨[(1,V.ro 1 iv),(5,.sl 100 x.2.1 9 ((pool.take x.1).filter fun p=>decide (p.id∈ids)).length),(8,V.ro 9 pv),(9,V.int .i64 pv.length),(10,V.int .i64 (x.1:Nat))],[(100,⟨x.2.1,9,115,Ce ((pool.take x.1).filter fun p=>decide (p.id∈ids))⟩)],x.2.2,24⟩)
  (fun x=>x.1<=pool.length) (fun x=>pool.length-x.1) (0,_,_) (B4 _) (AS.le_refl _) ?_
 rintro⟨k,qv,nx⟩u;simp only at u|-;refine Aa [1,5,8,9,10,11] [100] sr (Ab ?_)
 refine Ao (fun h1=>Ae ?_) fun h1=>?_
 ·have c:k<pool.length:=by simp at h1;omega
  have d:k<pv.length:=om;have l:=s k c;have Dg:=A6 (k:=k) om;have a:=o k c;have j:=i k;rw [Ge]at l;generalize pool[k]=p at l a;have f:=t p.id;have w:=Do p.m;generalize(pool.take k).filter (fun p=>decide (p.id∈ids))=Lk at a j|-;have n:Lk.length+1<=maxLen/\(Lk.length+1)*96<=140737488355328:=⟨Ai (show Lk.length+1<=19 by omega) dc,by omega⟩;generalize aa:decide (p.id∈ids)=e at f a;refine Ab (Ar (Aa [1,5,7,8,9,10] [7,100] (by simp [l,d]<;>rfl) (Ab (Ad (Am 3 sr ?_)))));refine Ah f func64 ?_;refine Af [1,5,7,8,9,10,17] [7,100] sr ?_
  refine Ao (fun h2=>?_) fun h2=>Ae ?_
  ·refine A3 [1,5,8,9,10] [100] (by simp [n]<;>rfl) (A3 [1,5,8,9,10] [100] (by simp [Dg]<;>rfl) ?_);rw [if_pos h2]at a;exact⟨(k+1,_,_),c,by simp only;omega,by simp only [a,Au3,Au4,Bf,Ba,Bx];exact AS.le_refl _⟩
  refine A3 [1,5,8,9,10] [100] (by simp [Dg]<;>rfl) ?_;rw [if_neg (by rw [h2];simp),Eo]at a;exact⟨(k+1,_,_),c,by simp only;omega,by simp only [a];exact AS.le_refl _⟩
 ·refine Bb ?_;have r:k=pool.length:=by simp at h1;omega
  subst r;simp only [Bl];have g:=Ca (pool.filter fun p=>decide (p.id∈ids));refine Aa [4] [100] sr ?_;exact Aj (Ac (by simp [results105,g]<;>rfl) (rfl))
def Hn(a:List (Int × Int)):List Int:=a.map Prod.fst
theorem Au5{l:List (Int × Int)}{k:Nat}(h:k<l.length):Hn (l.take (k+1))=Hn (l.take k)++[l[k].1]:=Tw Prod.fst h
theorem Adn(l:List (Int × Int)):(Hn l).length=l.length:=by simp [Hn]
theorem Amd(a:List (Int × Int))(hl:a.length<=1000):AC prog 106 [.ro 2 (A2 a)] (fun x=>x=.ro 1 (As (Hn a))):=by
 have o:=fun(k:Nat)(h:k<a.length)=>H3 h
 have lq:=Du a;have g:=fun(k:Nat)(h:k<a.length)=>Au5 h
 generalize A2 a=pv at*;refine Ax func106 fun w0 N0=>?_;refine Aa [0] [] sr (Aa [0,3] [] sr (Ab (Aa [3,6,7,8] [] sr ?_)));refine Fp 3 100 1 3 [3,6,7,8] [100] sr sr ?_;refine Ar ?_
 refine Di (fun x:Nat × Nat × Nat=>⟨[(3,.sl 100 x.2.1 1 (Hn (a.take x.1)).length),(6,V.ro 2 pv),(7,V.int .i64 pv.length),(8,V.int .i64 (x.1:Nat))],[(100,⟨x.2.1,1,3,As (Hn (a.take x.1))⟩)],x.2.2,19⟩)
  (fun x=>x.1<=a.length) (fun x=>a.length-x.1) (0,_,_) (B4 _) (AS.le_refl _) ?_
 rintro⟨k,qv,nx⟩r;simp only at r|-;refine Aa [3,6,7,8,9] [100] sr (Ab ?_)
 refine Ao (fun h1=>Ae ?_) fun h1=>?_
 ·have d:k<a.length:=by simp at h1;omega
  have e:k<pv.length:=om;have n:=o k d;have Dg:=A6 (k:=k) om;have c:=g k d;have i:(Hn (a.take k)).length<=1000:=by rw [Adn];simp;omega
  generalize a[k]=p at n c;generalize Hn (a.take k)=l at c i|-;have j:l.length+1<=maxLen/\(l.length+1)*8<=140737488355328:=⟨Ai (show l.length+1<=1001 by omega) dc,by omega⟩;refine Ab (Ar (Aa [3,5,6,7,8] [5,100] (by simp [n,e]<;>rfl) (A3 [3,6,7,8] [100] (by simp [j]<;>rfl) (A3 [3,6,7,8] [100] (by simp [Dg]<;>rfl) ?_))));exact⟨(k+1,_,_),d,by simp only;omega,by simp only [c,Ps,X1,Bf,Ba,Bx];exact AS.le_refl _⟩
 ·refine Bb ?_;have m:k=a.length:=by simp at h1;omega
  subst m;simp only [Bl];have f:=Ag (Hn a);refine Aa [2] [100] sr ?_;exact Aj (Ac (by simp [results106,f]<;>rfl) (rfl))
def Afn(m:Mo)(c:Int):Bool:=decide (0<=c)&&decide (c<Vb m)
theorem Asd(m:Mo)(c:Int):AC prog 164 [moV m,.int .i64 c] (fun r=>r=.bool (Afn m c)):=by
 have a:=Ai9 m;unfold Afn;have e:moV m=.agg [.ro 1 (Eb m)]:=rfl;have d:=Do m;rw [e]at a|-;generalize Eb m=mv at*;refine Ax func164 fun w0 N0=>?_;refine Aa [1,2] [2] sr (Ab (Ad (Am 5 sr ?_)));refine Db (c:=decide (0<=c)) (fun hg=>a) func63 rfl kr sr rfl rfl sr (by simp) sr ?_;refine Af [4] [] sr ?_;exact Aj (Ac sr sm)
def Bbh:Pit:=⟨0,[],0,0,0,0,0,0,[]⟩
def Lj(pool:List Pit)(id:Int):Option Pit:=pool.find? fun p=>decide (p.id=id)
def Afo(o:Option Pit):Pit:=match o with|some p=>p|none=>Bbh
theorem Zr{α:Type}(f:α->Bool){l:List α}{k:Nat}(h:k<l.length):(l.drop k).find? f=if f l[k]=true then some l[k]else(l.drop (k+1)).find? f:=by
 rw [Bt h,List.find?_cons]
 by_cases a:f l[k]=true
 ·rw [if_pos a,a]
 ·rw [if_neg a,Bool.eq_false_iff.2 a]
theorem Ase(pool:List Pit)(id:Int):AC prog 163 [.ro 9 (Ce pool),.int .i64 id] (fun r=>r=.tup [(Afo (Lj pool id)).v,.bool (Lj pool id).isSome]):=by
 refine AC.relaxP ?_;refine Rs 0 rfl fun g=>?_;have j:=fun(k:Nat)(h:k<pool.length)=>Ij h
 have l:=Dx pool;rw [l]at g
 have i:(pool.length:Int)<=9223372036854775807:=by
  have:maxLen<=9223372036854775807:=dc;omega
 unfold Lj;generalize Ce pool=pv at*;refine Ax func163 fun w0 N0=>?_;refine Aa [0,1,4] [4] sr (Ab (Aa [1,4,8,9,10] [4] sr (Ar (Br (fun k nx=>⟨[(1,V.int .i64 id),(4,V.bp 4 (0) 9 0 0),(8,V.ro 9 pv),(9,V.int .i64 pv.length),(10,V.int .i64 k)],[(4,{ v:=0,sz:=9,ty:=115,es:=[.agg [.int .i64 0,.str [],.int .i64 0,.int .i64 0,.int .i64 0,.int .i64 0,.int .i64 0,.int .i64 0,.nils]]})],nx,21⟩) (fun k=>(pool.drop k).find? (fun p=>decide (p.id=id))=pool.find? (fun p=>decide (p.id=id))) pool.length _ rfl (AS.le_refl _) ?_))));intro k nx hk c;refine Aa [1,4,8,9,10,11] [4] sr (Ab ?_)
 refine Ao (fun h1=>Ae ?_) fun h1=>?_
 ·have a:k<pool.length:=by simp at h1;omega
  have d:k<pv.length:=om;have e:=j k a;have Dg:=A6 (k:=k) om;rw [Zr _ a]at c;rw [Ge]at e;generalize pool[k]=p at e c;have n:=Do p.m;refine Ab (Ar (Aa [1,4,7,8,9,10] [4,7] (by simp [e,d]<;>rfl) (Aa [1,4,7,8,9,10,17] [4,7] sr ?_)))
  refine Ao (fun h2=>?_) fun h2=>Ae ?_
  ·refine Aa [4,5] [4] sr ?_;refine Aj (Ac (by simp [results163]<;>rfl) ?_);rw [<- c,if_pos (by simpa using h2)];exact Bi.refl _
  refine A3 [1,4,8,9,10] [4] (by simp [Dg]<;>rfl) ?_;exact⟨a,by rw [<- c,if_neg (by rw [show decide (p.id=id)=false from by simpa using h2];decide)],_,AS.le_refl _⟩
 ·refine Bb ?_;have f:k=pool.length:=by simp at h1;omega
  rw [f,Cd,List.find?_nil]at c;refine Aa [4,5] [4] sr ?_;refine Aj (Ac sr ?_);rw [<- c];refine Bi.tup (.cons (Bi.agg (.cons (Bi.refl _) (.cons (Bi.refl _) (.cons (Bi.refl _) (.cons (Bi.refl _) (.cons (Bi.refl _) (.cons (Bi.refl _) (.cons (Bi.refl _) (.cons (Bi.refl _) (.cons (Bi.nils 1) .nil)))))))))) (.cons (Bi.refl _) .nil))
def Sl(a:List Int)(q:Nat)(l:List Pit):List Int:=l.map fun p=>Tu (Ot a p.m q)
theorem X3{l:List Pit}{n:Int}(h:Jp l n=0):l.length<=18/\Rc 0 (Ly l)=true/\∀p∈l,Kv p.m n=0:=by
 unfold Jp at h
 (repeat' split at h)<;>try omega
 rename_i h1 h2;refine⟨by omega,by simpa using h2,fun p hp=>?_⟩;have:=Nu h p hp;unfold Apy at this
 (repeat' split at this)<;>omega
theorem Ap4(l:List Pit)(g:Gr)(q:Nat)(hg:Ku g=0)(hq:q<g.pts.length)(hp:Jp l g.pts.length=0):
  Hp gv prog 153 [.ro 9 (Ce l),g.v,.int .i64 q] (fun r=>r=.tup [.ro 1 (As (Sl g.pts q l)),.int .i64 0]):=by
 have j:=Lb g;rw [hg]at j;have n:=Lz l g.pts.length;rw [hp]at n;obtain⟨ad,-,hmod⟩:=X3 hp;have s:=fun p(h:p∈l)=>Azu g p.m q hg (hmod p h) hq
 have aa:=fun(k:Nat)(h:k<l.length)=>Ij h
 have lq:=Dx l;have pl:=Ca l;have hn:∀(k:Nat)(h:k<l.length),(As (Sl g.pts q l))[k]? =some (.int .i64 (Tu (Ot g.pts l[k].m q))):=fun k h=>by simp [As,Sl,h]
 have t:(As (Sl g.pts q l)).length=l.length:=by simp [Sl]
 have ab:=Ag (Sl g.pts q l);have eg:g.v=.agg [.ro 1 (As g.pts),.ro 1 (As g.pri)]:=rfl;have pp:=Ag g.pts;have pq:=Ag g.pri;have lp:=A4 g.pts;rw [eg]at j s|-;rw [<- lp]at n;generalize As (Sl g.pts q l)=e,As g.pts=pt,As g.pri=pr,Ce l=pv at*;refine By func153 fun w0 N0 hG=>?_;refine Aa [0,2,4] [4] sr (Ab (Ab (Ad (Am 1 sr ?_))));refine Ah j func56 ?_;refine Af [0,2,4,8] [4] sr ?_;refine Aa [0,2,4,8,18] [4] sr ?_;refine A7 rfl (fun h1=>by simp at h1) (fun h1=>Ae (Ab (Ab (Ad (Am 4 sr ?_)))));refine Bq hG n func35 ?_;refine Af [0,2,4,9] [4] sr ?_;refine Aa [0,2,4,9,26] [4] sr ?_;refine A7 rfl (fun h2=>by simp at h2) (fun h2=>Ae (Ab (Aa [0,2,4,36] [4] sr ?_)));refine A7 rfl (fun h3=>by simp at h3;omega) fun h3=>Ae ?_;have y:(pv.length:Int)<=9223372036854775807:=om;have z:8*(pv.length:Int)<=281474976710656:=om;refine Aa [0,2,4,10] [4,39] (by simp [y,z]<;>rfl) (Ab (Aa [2,4,10,40,41,42] [4,39] sr (Ar (Br (fun k nx=>⟨[(2,V.int .i64 (q:Nat)),(4,V.bp 4 (0) 2 0 0),(10,V.sl 39 (27) 1 pv.length),(40,V.ro 9 pv),(41,V.int .i64 pv.length),(42,V.int .i64 k)],[(4,{ v:=0,sz:=2,ty:=27,es:=[V.agg [V.ro 1 pt,V.ro 1 pr]]}),(39,{ v:=27,sz:=1,ty:=3,es:=Fk e (.int .i64 0) k})],nx,64⟩) (fun k=>True) l.length _ trivial (by rw [Ik,t,<- lq];exact AS.le_refl _) ?_))));intro k nx hk hI;have x:=Jk e (.int .i64 0) k om;refine Aa [2,4,10,40,41,42,43] [4,39] sr (Ab ?_)
 refine Ao (fun w=>Ae ?_) fun w=>?_
 ·have d:k<l.length:=by simp at w;omega
  have f:k<pv.length:=om;have i:k<e.length:=om;have ga:=aa k d;have a:=Jm e (.int .i64 0) k i (hn k d);have o:G8 (Fk e (.int .i64 0) k) k=some (.int .i64 0):=Jl e _ k i;have Dg:=A6 (k:=k) om;have c:=s _ (Az d);rw [Ge]at ga;generalize l[k]=p at ga a c;have em:moV p.m=.agg [.ro 1 (Eb p.m)]:=rfl;have pm:=Do p.m;rw [em]at c;generalize Tu (Ot g.pts p.m q)=u,Eb p.m=mv at*;generalize Fk e (.int .i64 0) k=row at o a x|-;refine Ab (Ar (Aa [2,4,10,11,12,40,41,42] [4,39,12] (by simp [ga,f]<;>rfl) (Ab (Ad (Am 4 sr ?_)))));refine Ah c func199 ?_;refine Af [2,4,10,11,13,14,40,41,42] [4,39] sr ?_;refine Ab (Aa [2,4,10,11,13,14,40,41,42,56] [4,39] sr ?_);refine A7 rfl (fun h5=>by simp at h5) (fun h5=>Ae (A3 [2,4,10,40,41,42] [4,39] (by simp [f,o,a]<;>rfl) (A3 [2,4,10,40,41,42] [4,39] (by simp [Dg]<;>rfl) ?_)));exact⟨d,trivial,_,AS.le_refl _⟩
 ·refine Bb ?_;have ae:k=l.length:=by simp at w;omega
  rw [Ka e (.int .i64 0) k Go.om];refine Bp 39 [10] [] (by simp [ab,t,lq]<;>rfl) ?_;exact Aa [6,7] [] sr (Aj (Ac sr rf))
theorem Ado{α:Type}{f:α->Int}:∀ {l:List α},(∀x∈l,f x=0)->Kt f l=0
 | [],_ =>rfl
 |x::r,h=>by rw [Kt,if_neg (by rw [h x (Et ..)];simp),Ado fun y a=>h y (Dv _ a)]
theorem Adp:∀ {l m:List Int}{p:Int},l.Sublist m->Rc p m=true->Rc p l=true
 |_,_,_,.slnil,_ =>rfl
 |_,_,p,.cons a h,c=>by
  simp only [Rc,Bk,decide_eq_true_eq]at c;refine Adp h ?_;obtain⟨h1,h2⟩:=Abs c.2
  have d:∀(r:List Int)(a p:Int),p<a->Rc a r=true->Rc p r=true:=by
   intro r a p f e;cases r with
   |nil=>rfl
   |cons x r=>
    simp only [Rc,Bk,decide_eq_true_eq]at e|-;exact⟨⟨e.1.1,by omega⟩,e.2⟩
  exact d _ _ _ c.1.2 c.2
 |_,_,p,.cons_cons a h,c=>by
  simp only [Rc,Bk,decide_eq_true_eq]at c|-;exact⟨c.1,Adp h c.2⟩
theorem Au6{l m:List Pit}{n:Int}(h:l.Sublist m)(a:Jp m n=0):Jp l n=0:=by
 unfold Jp at a|-
 (repeat' split at a)<;>try omega
 rename_i h1 h2;have hl:=h.length_le;have d:Rc 0 (Ly l)=true:=Adp (h.map Pit.id) (by simpa [Ly]using h2);rw [if_neg om,if_neg (by rw [d];decide)];exact Ado fun x c=>Nu a x (h.subset c)
theorem Ahe(pool:List Pit)(ids:List Int):(Asc pool ids).Sublist pool:=List.filter_sublist
def Gn(g:Gr)(w:List Nat)(l:List Pit):List Int:=Sl g.pts (Ac7 g.pts (Oq g w)) l
theorem Ame(g:Gr)(w:List Nat)(l:List Pit)(h:sumsOk g w)(hp:Jp l g.pts.length=0):
  Hp gv prog 107 [g.v,.ro 1 (Bw w),.ro 9 (Ce l)] (fun r=>r=.tup [.ro 1 (As (Gn g w l)),.int .i64 0]):=by
 have a:=A4q g w h;have c:=A4r g h.grid (Oq g w) (Ai (Azm h) dc);have e:=(Jg h.grid).pos;have d:=Ap4 l g (Ac7 g.pts (Oq g w)) h.grid (A3w _ e) hp;unfold Gn;have k:=Ag (Sl g.pts (Ac7 g.pts (Oq g w)) l);generalize Sl g.pts (Ac7 g.pts (Oq g w)) l=L,Ac7 g.pts (Oq g w)=q,Oq g w=mn at*;have n:g.v=.agg [.ro 1 (As g.pts),.ro 1 (As g.pri)]:=rfl;have f:=Ag g.pts;have i:=Ag g.pri;have s:=Bv w;have pl:=Ca l;rw [n]at a c d|-;simp only [Vc]at a c;have o:=In;have j:=Io;generalize As g.pts=pt,As g.pri=pr,Bw w=wv,Ce l=pv at*;refine By func107 fun w0 N0 m=>?_;refine Aa [1,2,3] [3] sr (Ab (Ad (Am 2 sr ?_)));refine Ah a func151 ?_;refine Af [2,3,8,9] [3,8] sr ?_;refine Ab (Aa [2,3,8,9,18] [3,8] sr ?_);refine A7 rfl (fun h1=>by simp at h1) (fun h1=>Ae (Ab (Ad (Am 2 sr ?_))));refine Ah c func152 ?_;refine Af [2,3,9,10] [3] sr ?_;refine Ab (Aa [2,3,9,10,27] [3] sr ?_);refine A7 rfl (fun h2=>by simp at h2) (fun h2=>Ae (Ab (Ad (Am 3 sr ?_))));refine Bq m d func153 ?_;refine Af [6,7] [] sr ?_;exact Aj (Ac (by simp [results107]<;>rfl) (rfl))
def Rh(l:List Ru):List V:=l.map Wh
@[simp]theorem Ahf(l:List Ru):(Rh l).length=l.length:=by simp [Rh]
theorem Au7{l:List Ru}{k:Nat}(h:k<l.length):G8 (Rh l) k=some (Wh l[k]):=by rw [C0];simp [Rh,h]
theorem Au8(r:Ru):∀c∈Adf r,c.isCell=true:=by
 unfold Adf;(repeat' split)<;>simp [V.isCell,V.still]
theorem Adq(r:Ru):(Wh r).pureE=true:=by
 unfold Wh Adf;(repeat' split)<;>simp [V.pureE,V.pureC,V.cells]<;>rfl
theorem Ap5(l:List Ru):(Rh l).all V.pureE=true:=by
 rw [Aw];intro x a;simp only [Rh,Bm]at a;obtain⟨n,_,rfl⟩:=a;exact Adq n
theorem Ap6{l:List Ru}{k:Nat}(h:k<l.length):Rh (l.take (k+1))=Rh (l.take k)++[Wh l[k]]:=Tw Wh h
set_option maxHeartbeats 4000000 in
theorem Ap7(len:Int)(rs:List Ru)(hl:rs.length<=20)(hf:∀r∈rs,r.fits=true):AC prog 266 [Pq len rs] (fun r=>r=.ro 1 (Rh rs)):=by
 have y:=fun(k:Nat)(h:k<rs.length)=>Re h
 have lq:=Pp rs
 have u:=fun(k:Nat)(h:k<rs.length)=>Ap6 h
 unfold Pq
 generalize Ey rs=f at*
 refine Ak0 func266 rfl (by show(1:Nat)<=31;omega) (fun w0 N0=>?_)
 refine Aa [1] [1] (by simp [ntmps266]<;>rfl) ?_
 have m:(f.length:Int)<=9223372036854775807:=by omega
 have o:16*(f.length:Int)<=281474976710656:=by omega
 refine Aa [1,3] [1,11] (by simp [m,o]<;>rfl) ?_
 refine Ab ?_
 refine Aa [3,13,14,15] [11] Go.sr ?_
 refine Ar ?_
 refine Di (fun x:Nat × Nat × Nat=>⟨[(3,.sl 11 x.2.1 1 x.1),(13,V.ro 5 f),(14,V.int .i64 f.length),(15,V.int .i64 (x.1:Nat))],[(11,⟨x.2.1,1,165,Rh (rs.take x.1)⟩)],x.2.2,31⟩)
  (fun x=>x.1<=rs.length) (fun x=>rs.length-x.1) (0,_,_) (B4 _) (AS.le_refl _) ?_
 rintro⟨k,qv,nx⟩z
 simp only at z|-
 refine Aa [3,13,14,15,16] [11] Go.sr ?_
 refine Ab ?_
 refine A7 rfl (fun h1=>Ae ?_) (fun h1=>?_)
 ·have c:k<rs.length:=by simp at h1;omega
  have j:k<f.length:=by omega
  have s:=y k c
  have Dg:=A6 (k:=k) Go.om
  have a:=u k c
  have d:=hf _ (Az c)
  generalize rs[k]=r at s a d
  have e:=Aau (Wi d)
  rw [d]at e
  have aa:=Au8 r
  have g:=Adq r
  rw [show r.v=.agg [.int .i64 r.kind,.int .i64 r.n,.int .i64 r.mn,.int .i64 r.mx,.str r.code]from rfl]at s e
  unfold Wh at a g
  generalize Al0 r=dt at*
  generalize Adf r=dc at*
  have i:(Rh (rs.take k)).length=k:=by rw [Ahf,Cs];omega
  generalize Rh (rs.take k)=Lk at a i|-
  have t:k+1<=maxLen/\(k+1)*16<=140737488355328:=⟨Ai (show k+1<=21 by omega) Go.dc,by omega⟩
  refine Ab ?_
  refine Ar ?_
  refine Aa [3,5,13,14,15] [11,5] (by simp [s,j]<;>rfl) ?_
  refine Ab (Ad ?_)
  refine Am 1 Go.sr ?_
  refine Mg e func85 rfl (by kernel_rfl) rfl rfl rfl Go.sr (by simp) Go.sr ?_
  refine Af [3,6,7,13,14,15] [11] Go.sr ?_
  refine Aa [3,6,13,14,15,24] [11] Go.sr ?_
  refine A7 rfl (fun h2=>?_) (fun h2=>by simp at h2)
  ·refine A3 [3,13,14,15] [11] (by simp [t,i]<;>rfl) ?_
   refine A3 [3,13,14,15] [11] (by simp [Dg]<;>rfl) ?_
   exact⟨(k+1,_,_),c,by simp only;omega,by simp only [a];exact AS.le_refl _⟩
 ·refine Bb ?_
  have w:k=rs.length:=by simp at h1;omega
  subst w
  simp only [Bl]
  have l:=Ap5 rs
  refine Aa [2] [11] Go.sr ?_
  exact Aj (Ac (by simp [results266,l]<;>rfl) (rfl))
def Au9(s t:List UInt8):Bool:=decide (t.length<=s.length)&&decide (s.take t.length=t)
theorem Afp(s t:List UInt8):AC prog 210 [.str s,.str t] (fun r=>r=.bool (Au9 s t)):=by
 unfold Au9;refine Ax func210 fun w0 N0=>?_;refine Aa [0,1] [] sr ?_
 by_cases h:t.length<=s.length
 ·have a:(t.length:Int)<=s.length:=om;exact Aa [4] [] (by simp [a]<;>rfl) (Aj (Ac sr (by simp [h])))
 ·have a:¬(t.length:Int)<=s.length:=om;exact Aa [4] [] (by simp [a]<;>rfl) (Aj (Ac sr (by simp [h])))
theorem X4(s t:List UInt8):AC prog 168 [.str s,.str t] (fun r=>r=.bool (Au9 s t)):=by
 have a:=Afp s t;refine Ax func168 fun w0 N0=>?_;refine Aa [0,1] [] sr (Ab (Ad (Am 2 sr ?_)));refine Ah a func210 ?_;refine Af [4] [] sr ?_;refine Aj (Ac sr ?_);rfl
def R4(a c:List UInt8):Bool:=decide (c= [])||(decide (a=c)||Au9 a (c++[46]))
theorem Az2(a c:List UInt8)(h:c.length<9223372036854775807):AC prog 123 [.str a,.str c] (fun r=>r=.bool (R4 a c)):=by
 have e:=X4 a (c++[46]);have d:c.length<=9223372036854775806:=om;refine Ax func123 fun w0 N0=>?_;refine Aa [0,1] [] sr (Ab (Ad (Am 11 (by simp [d]<;>rfl) ?_)));refine Db (fun hg=>e) func168 rfl kr sr rfl rfl sr sm sr ?_;refine Af [4] [] sr ?_;refine Aj (Ac sr ?_);simp [R4,Bool.or_assoc]
def Az3(a b:Int):Int × Int:=(if b<a then b else a,if a<b then b else a)
theorem Ap8(a b:Int):AC prog 307 [.int .i64 a,.int .i64 b] (fun r=>r=.agg [.int .i64 (Az3 a b).1,.int .i64 (Az3 a b).2]):=by
 refine Ax func307 fun w0 N0=>?_;refine Aa [0,1,4] [4] sr (Aa [4] [4] sr ?_);refine Aj (Ac sr ?_);rfl
theorem Adr{a:FuncId}{fn:Func}{us args vs:List V}{r:V}(h:Hp gv prog a (us++args++vs) (fun x=>x=r))(c:prog.funcs[a]? =some fn)(e:fn.body.isSome=true)(d:(fn.name== "runtime.NumGoroutine")=false):FCQ gv prog (.fc a us vs) args (fun x=>x=r):=Ape h c e d
def Ads(r:Ru)(p:Pit):Int:=
 if r.kind=1 then Je (R4 p.code r.code)else if r.kind=2 then p.wo else if r.kind=3 then p.se else if r.kind=4 then p.pt else Je (decide (p.ky=r.n))
theorem A77(r:Ru)(p:Pit)(h:r.code.length<9223372036854775807):AC prog 121 [p.v,.rp r.v] (fun x=>x=.int .i64 (Je (R4 p.code r.code))):=by
 have a:=Az2 p.code r.code h;have c:=Tp (R4 p.code r.code);generalize R4 p.code r.code=u at*;generalize Je u=o at*;rw [Ge,show r.v=.agg [.int .i64 r.kind,.int .i64 r.n,.int .i64 r.mn,.int .i64 r.mx,.str r.code]from rfl];have pm:=Do p.m;refine Ax func121 fun w0 N0=>?_;refine Aa [1,2] [2] sr (Ab (Ad (Am 4 sr ?_)));refine Ah a func123 ?_;refine Ah c func122 ?_;refine Af [3] [] sr ?_;exact Aj (Ac sr (rfl))
theorem A78(p:Pit):AC prog 124 [p.v] (fun x=>x=.int .i64 p.wo):=by
 rw [Ge];refine Ax func124 fun w0 N0=>?_;refine Aa [1] [1] sr ?_;exact Aa [2] [] sr (Aj (Ac sr rf))
theorem A79(p:Pit):AC prog 125 [p.v] (fun x=>x=.int .i64 p.se):=by
 rw [Ge];refine Ax func125 fun w0 N0=>?_;refine Aa [1] [1] sr ?_;exact Aa [2] [] sr (Aj (Ac sr rf))
theorem A8a(p:Pit):AC prog 126 [p.v] (fun x=>x=.int .i64 p.pt):=by
 rw [Ge];refine Ax func126 fun w0 N0=>?_;refine Aa [1] [1] sr ?_;exact Aa [2] [] sr (Aj (Ac sr rf))
theorem A8b(r:Ru)(p:Pit):AC prog 127 [p.v,.rp r.v] (fun x=>x=.int .i64 (Je (decide (p.ky=r.n)))):=by
 have a:=Tp (decide (p.ky=r.n));generalize hu:Je (decide (p.ky=r.n))=o at*;rw [Ge,show r.v=.agg [.int .i64 r.kind,.int .i64 r.n,.int .i64 r.mn,.int .i64 r.mx,.str r.code]from rfl];refine Ax func127 fun w0 N0=>?_;refine Aa [1,2] [2] sr (Ab (Ad (Am 5 sr ?_)));refine Ah a func122 ?_;refine Af [3] [] sr ?_;exact Aj (Ac sr (rfl))
theorem A8c(a b n:Int)(p:Pit):AC prog 359 [.agg [.int .i64 a,.int .i64 b,.int .i64 n],p.v] (fun x=>x=.int .i64 (Je (decide (p.st=n)))):=by
 have c:=Tp (decide (p.st=n));generalize hu:Je (decide (p.st=n))=o at*;rw [Ge];refine Ax func359 fun w0 N0=>?_;refine Aa [2,3] [2,3] sr (Ab (Ad (Am 5 sr ?_)));refine Ah c func122 ?_;refine Af [4] [] sr ?_;exact Aj (Ac sr (rfl))
theorem A8d(p:Pit):AC prog 366 [p.v] (fun x=>x=.int .i64 0):=by
 rw [Ge];refine Ax func366 fun w0 N0=>?_;refine Aa [] [] sr ?_;exact Aa [2] [] sr (Aj (Ac sr rf))
theorem A8e(p:Pit):AC prog 264 [p.v] (fun x=>x=.int .i64 1):=by
 rw [Ge];refine Ax func264 fun w0 N0=>?_;refine Aa [] [] sr ?_;exact Aa [2] [] sr (Aj (Ac sr rf))
theorem A8f(n:Int)(p:Pit):AC prog 375 [p.v,.rp (.agg [.int .i64 n])] (fun x=>x=.int .i64 (Je (decide (p.id=n)))):=by
 have a:=Tp (decide (p.id=n));generalize hu:Je (decide (p.id=n))=o at*;rw [Ge];refine Ax func375 fun w0 N0=>?_;refine Aa [1,2] [2] sr (Ab (Ad (Am 5 sr ?_)));refine Ah a func122 ?_;refine Af [3] [] sr ?_;exact Aj (Ac sr (rfl))
theorem A8g(n:Int)(p:Pit):AC prog 382 [p.v,.rp (.int .i64 n)] (fun x=>x=.int .i64 (Je (decide (p.fam=n)))):=by
 have a:=Tp (decide (p.fam=n));generalize hu:Je (decide (p.fam=n))=o at*;rw [Ge];refine Ax func382 fun w0 N0=>?_;refine Aa [1,2] [2] sr (Ab (Ad (Am 4 sr ?_)));refine Ah a func122 ?_;refine Af [3] [] sr ?_;exact Aj (Ac sr (rfl))
theorem A8h(a b:Int)(p:Pit):AC prog 268 [p.v,.rp (.agg [.int .i64 a,.int .i64 b])] (fun x=>x=.int .i64 (Je (decide (p.id=a)||decide (p.id=b)))):=by
 have c:=Tp (decide (p.id=a)||decide (p.id=b));generalize hu:Je (decide (p.id=a)||decide (p.id=b))=o at*;rw [Ge];refine Ax func268 fun w0 N0=>?_;refine Aa [1,2] [2] sr (Ab (Ad (Am 12 sr ?_)));refine Ah c func122 ?_;refine Af [3] [] sr ?_;exact Aj (Ac sr (rfl))
theorem Az4(n:Int)(p:Pit):AC prog 235 [p.v,.rp (.int .i64 n)] (fun x=>x=.bool (decide (p.id=n))):=by
 rw [Ge];refine Ax func235 fun w0 N0=>?_;refine Aa [1,2] [2] sr ?_;exact Aa [3] [] sr (Aj (Ac sr rf))
theorem Az5(n:Int)(p:Pit):AC prog 369 [p.v,.rp (.int .i64 n)] (fun x=>x=.bool (decide (p.id=n))):=by
 rw [Ge];refine Ax func369 fun w0 N0=>?_;refine Aa [1,2] [2] sr ?_;exact Aa [3] [] sr (Aj (Ac sr rf))
theorem Ava(a n:Int)(r:Ru):AC prog 270 [r.v,.rp (.int .i64 a),.rp (.int .i64 n)] (fun x=>x=.bool (decide (r.kind=a)&&decide (r.n=n))):=by
 rw [show r.v=.agg [.int .i64 r.kind,.int .i64 r.n,.int .i64 r.mn,.int .i64 r.mx,.str r.code]from rfl];refine Ax func270 fun w0 N0=>?_;refine Aa [1,2,3] [3] sr ?_;exact Aa [4] [] sr (Aj (Ac sr rf))
def frV(len:Int)(rs:List Ru)(pool:List Pit)(vars a:Int):V:=.agg [.int .i64 len,.ro 5 (Ey rs),.ro 9 (Ce pool),.int .i64 vars,.int .i64 a]
def G0:Gp where
 P:=fun _ =>True
 bl:=fun _ =>False
 stable:=fun _ _ _ _ =>trivial
 low:=fun _ _ _ h=>h.elim
theorem A8i(B:Bs):Gon G0 B:=⟨trivial,fun _ h=>h.elim⟩
theorem X5(pool:List Pit)(id:Int):Hp gv prog 201 [.ro 9 (Ce pool),.int .i64 id] (fun r=>r=.int .i64 (Hs (fun p=>decide (p.id=id)) pool 0)):=by
 have a:=Amb pool 235 [] [.rp (.int .i64 id)] (fun p=>decide (p.id=id)) (fun p _ =>Adr ((Az4 id p).q gv) func235 kr rfl);have pl:=Ca pool;generalize Ce pool=pv,Hs (fun p=>decide (p.id=id)) pool 0=z at*;refine By func201 fun w0 N0 c=>?_;refine Aa [0,3] [3] sr (Bp 3 [0,3] [] sr (Ab (Ad (Am 2 sr ?_))));refine Bq c a func234 ?_;refine Af [4] [] sr ?_;exact Aj (Ac sr (rfl))
theorem Ajf(pool:List Pit)(id:Int):Hp gv prog 367 [.ro 9 (Ce pool),.int .i64 id] (fun r=>r=.bool (pool.any fun p=>decide (p.id=id))):=by
 have a:=Azv pool 369 [] [.rp (.int .i64 id)] (fun p=>decide (p.id=id)) (fun p _ =>Adr ((Az5 id p).q gv) func369 kr rfl);have pl:=Ca pool;generalize Ce pool=pv,(pool.any fun p=>decide (p.id=id))=z at*;refine By func367 fun w0 N0 c=>?_;refine Aa [0,3] [3] sr (Bp 3 [0,3] [] sr (Ab (Ad (Am 2 sr ?_))));refine Bq c a func368 ?_;refine Af [4] [] sr ?_;exact Aj (Ac sr (rfl))
theorem Asf(len:Int)(rs:List Ru)(pool:List Pit)(vars c:Int)(id:Int):Hp gv prog 365 [frV len rs pool vars c,.int .i64 id] (fun r=>r=.bool (pool.any fun p=>decide (p.id=id))):=by
 have a:=Ajf pool id;have pl:=Ca pool;unfold frV;generalize Ce pool=pv,Ey rs=rv,(pool.any fun p=>decide (p.id=id))=z at*;refine By func365 fun w0 N0 d=>?_;refine Aa [1,2] [2] sr (Ab (Ad (Am 3 sr ?_)));refine Bq d a func367 ?_;refine Af [4] [] sr ?_;exact Aj (Ac sr (rfl))
def Tx(rs:List Ru)(a n:Int):Bool:=rs.any fun r=>decide (r.kind=a)&&decide (r.n=n)
theorem Ahg(len:Int)(rs:List Ru)(pool:List Pit)(vars d:Int)(a n:Int):Hp gv prog 233 [frV len rs pool vars d,.int .i64 a,.int .i64 n] (fun r=>r=.bool (Tx rs a n)):=by
 have c:=Azx rs 270 [] [.rp (.int .i64 a),.rp (.int .i64 n)] (fun r=>decide (r.kind=a)&&decide (r.n=n)) (fun p _ =>Adr ((Ava a n p).q gv) func270 kr rfl);have pl:=C2 rs;unfold frV Tx;generalize Ce pool=pv,Ey rs=rv,(rs.any fun r=>decide (r.kind=a)&&decide (r.n=n))=z at*;refine By func233 fun w0 N0 e=>?_;refine Aa [3,4,5] [3,4,5] sr (Bp 4 [3,4,5] [3,5] sr (Bp 5 [3,4,5] [3] sr (Ab (Ad (Am 4 sr ?_)))));refine Bq e c func269 ?_;refine Af [6] [] sr ?_;exact Aj (Ac sr (rfl))
def Jf(pool:List Pit)(vars:Nat)(a:Pit->Int):List Int:=pool.map a++List.replicate (vars-pool.length) 0
theorem X6{pool:List Pit}{vars:Nat}(a:Pit->Int)(h:pool.length<=vars):(Jf pool vars a).length=vars:=by simp [Jf];omega
theorem Az6{pool:List Pit}{vars:Nat}(a:Pit->Int){k:Nat}(h:k<pool.length):(As (Jf pool vars a))[k]? =some (.int .i64 (a pool[k])):=by
 simp only [As,Jf,Cr,O5];rw [Bn (by simpa using h)];simp [h]
theorem Avb{pool:List Pit}{vars:Nat}(a:Pit->Int):Fk (As (Jf pool vars a)) (.int .i64 0) pool.length=As (Jf pool vars a):=by
 have e:As (Jf pool vars a)=As (pool.map a)++List.replicate (vars-pool.length) (.int .i64 0):=by
  unfold Jf;rw [Ps];congr 1;simp [As]
 rw [e,Fk,List.take_left' (by simp)]
 congr 1
 simp
structure Rw where
 coef:List Int
 mn:Int
 mx:Int
def Rw.v(r:Rw):V:=.agg [.ro 1 (As r.coef),.int .i64 r.mn,.int .i64 r.mx]
def Gv(l:List Rw):List V:=l.map Rw.v
@[simp]theorem M2(l:List Rw):(Gv l).length=l.length:=by simp [Gv]
theorem Adt{l:List Rw}{k:Nat}(h:k<l.length):G8 (Gv l) k=some l[k].v:=by rw [C0];simp [Gv,h]
theorem Gg(l:List Rw):(Gv l).all V.pureE=true:=by
 rw [Aw];intro x a;simp only [Gv,Bm]at a;obtain⟨n,_,rfl⟩:=a;have:=Ag n.coef;simp [Rw.v,V.pureE,V.pureC,V.cells]
theorem Adu(a b:List Rw):Gv (a++b)=Gv a++Gv b:=Cr
theorem X7{a:FuncId}{fn:Func}{us args vs:List V}{r:V}(h:AC prog a (us++args++vs) (fun x=>x=r))(c:prog.funcs[a]? =some fn)(e:fn.body.isSome=true)(d:(fn.name== "runtime.NumGoroutine")=false):FCQ G0 prog (.fc a us vs) args (fun x=>x=r):=Ape (h.q G0) c e d
theorem Ajg(len:Int)(rs:List Ru)(pool:List Pit)(vars:Nat)(st:Int)(g:FuncId)(us vs:List V)(f:Pit->Int)(a b:Int)(hp:pool.length<=vars)(hv:vars<=1000)
  (hf:∀p∈pool,FCQ G0 prog (.fc g us vs) [p.v] (fun r=>r=.int .i64 (f p))):
  ACO prog 265 [frV len rs pool vars st,.fc g us vs,.int .i64 a,.int .i64 b] 1 3 (fun F es=>F=(fun d q=>.agg [.sl d q 1 vars,.int .i64 a,.int .i64 b])/\es=As (Jf pool vars f)):=by
 have hq:=fun(k:Nat)(h:k<pool.length)=>Ij h
 have lq:=Dx pool;have hn:=fun(k:Nat)(h:k<pool.length)=>Az6 (vars:=vars) f h
 have ab:(As (Jf pool vars f)).length=vars:=by rw [A4,X6 f hp]
 have z:=Avb (pool:=pool) (vars:=vars) f;have t:=Rg (Jf pool vars f);unfold frV;generalize As (Jf pool vars f)=j,Ce pool=pv,Ey rs=rv at*;refine Kr func265 fun w0 N0=>?_;refine Aa [1,2,3,4,8] [4,8] sr ?_;have w:(vars:Int)<=9223372036854775807:=om;have x:8*(vars:Int)<=281474976710656:=om;refine Aa [1,2,3,4,8,9] [4,8,14] (by simp [w,x]<;>rfl) (Ab (Aa [1,2,3,8,9,16,17,18] [8,14] sr (Ar (Br (fun k nx=>⟨[(1,V.fc g us vs),(2,V.int .i64 a),(3,V.int .i64 b),(8,V.bp 8 (1) 3 0 0),(9,V.sl 14 (4) 1 vars),(16,V.ro 9 pv),(17,V.int .i64 pv.length),(18,V.int .i64 k)],[(8,{ v:=1,sz:=3,ty:=339,es:=[V.agg [.nils,.int .i64 0,.int .i64 0]]}),(14,{ v:=4,sz:=1,ty:=3,es:=Fk j (.int .i64 0) k})],nx,34⟩) (fun k=>True) pool.length _ trivial (by rw [Ik,ab];exact AS.le_refl _) ?_))));intro k nx hk hI;have u:=Jk j (.int .i64 0) k om;refine Aa [1,2,3,8,9,16,17,18,19] [8,14] sr (Ab ?_)
 refine Ao (fun h1=>Ae ?_) fun h1=>?_
 ·have e:k<pool.length:=by simp at h1;omega
  have o:k<pv.length:=om;have i:k<j.length:=om;have l:k<vars:=om;have y:=hq k e;have c:=Jm j (.int .i64 0) k i (hn k e);have n:G8 (Fk j (.int .i64 0) k) k=some (.int .i64 0):=Jl j _ k i;have Dg:=A6 (k:=k) om;have s:=hf _ (Az e);rw [Ge]at y s;generalize pool[k]=p at y c s;have pm:=Do p.m;generalize Fk j (.int .i64 0) k=row at n c u|-;refine Ab (Ar (Aa [1,2,3,8,9,10,11,16,17,18] [8,14,11] (by simp [y,o]<;>rfl) (Ad (Am 4 sr ?_))));refine O7 (A8i _) s sm rfl rfl sr sr (by simp) sr ?_;refine Af [1,2,3,8,9,16,17,18] [8,14] (by simp [l,n,c]<;>rfl) ?_;refine A3 [1,2,3,8,9,16,17,18] [8,14] (by simp [Dg]<;>rfl) ?_;exact⟨e,trivial,_,AS.le_refl _⟩
 ·refine Bb ?_;have aa:k=pool.length:=by simp at h1;omega
  rw [aa,z];refine Aa [8] [8,14] sr ?_;exact Aj (Ii 14 rfl rfl rfl t sr ⟨rfl,rfl⟩)
theorem Wk(len:Int)(rs:List Ru)(pool:List Pit)(vars:Nat)(d:Int)(g:FuncId)(us vs:List V)(c:Pit->Int)(a b:Int)(hp:pool.length<=vars)(e:vars<=1000)
  (f:∀p∈pool,FCQ G0 prog (.fc g us vs) [p.v] (fun r=>r=.int .i64 (c p))):
  AC prog 265 [frV len rs pool vars d,.fc g us vs,.int .i64 a,.int .i64 b] (fun r=>r=Rw.v ⟨Jf pool vars c,a,b⟩):=by
 refine(Ajg len rs pool vars d g us vs c a b hp e f).ac ?_;rintro F es⟨rfl,rfl⟩;have h1:=Ag (Jf pool vars c);have h2:(As (Jf pool vars c)).length=vars:=by rw [A4,X6 c hp]
 exact⟨_,by simp [AS.viewT,AS.view,AS.viewL,AS.viewC,AS.elems,Eng.get,h1,h2,X6 c hp,V.pureC,Rw.v],rfl⟩
structure frOk(pool:List Pit)(vars st:Nat):Prop where
 le:pool.length<=vars
 small:vars<=1000
 lt:st<=vars
theorem Qr(len:Int)(rs:List Ru)(pool:List Pit)(vars a:Int):frV len rs pool vars a=.agg [.int .i64 len,.ro 5 (Ey rs),.ro 9 (Ce pool),.int .i64 vars,.int .i64 a]:=rfl
theorem Az7(c:List Int)(a b:Int):Rw.v ⟨c,a,b⟩=.agg [.ro 1 (As c),.int .i64 a,.int .i64 b]:=rfl
theorem Zs(len:Int)(rs:List Ru)(pool:List Pit)(vars e:Nat)(g:FuncId)(d:Pit->Int)(a b:Int)(h:frOk pool vars e)
  (j:∀p∈pool,FCQ G0 prog (.fc g [] []) [p.v] (fun r=>r=.int .i64 (d p))):
  AC prog 346 [.agg [.int .i64 a,.int .i64 b,.fc g [] []],frV len rs pool vars e] (fun r=>r=.ro 3 (Gv [⟨Jf pool vars d,a,b⟩])):=by
 have c:=Wk len rs pool vars e g [] [] d a b h.le h.small j;have pl:=Ca pool;have i:=C2 rs;have f:=Ag (Jf pool vars d);rw [Qr]at c|-;rw [Az7]at c;rw [show Gv [⟨Jf pool vars d,a,b⟩]= [.agg [.ro 1 (As (Jf pool vars d)),.int .i64 a,.int .i64 b]]from rfl];generalize As (Jf pool vars d)=cv,Ce pool=pv,Ey rs=rv at*;refine Ax func346 fun w0 N0=>?_;refine Aa [2,3] [2,3] sr (Ab (Ad (Am 9 sr ?_)));refine Ah c func265 ?_;refine Af [4] [15] sr ?_;exact Aj (Ac (by simp [results346]<;>rfl) (rfl))
theorem Ahh(len:Int)(rs:List Ru)(pool:List Pit)(vars f:Nat)(g:FuncId)(e:V)(d:Pit->Int)(a b:Int)(h:frOk pool vars f)
  (k:∀p∈pool,FCQ G0 prog (.fc g [] [.rp e]) [p.v] (fun r=>r=.int .i64 (d p))):
  AC prog 346 [.agg [.int .i64 a,.int .i64 b,.fc g [] [.rp e]],frV len rs pool vars f] (fun r=>r=.ro 3 (Gv [⟨Jf pool vars d,a,b⟩])):=by
 have c:=Wk len rs pool vars f g [] [.rp e] d a b h.le h.small k;have pl:=Ca pool;have j:=C2 rs;have i:=Ag (Jf pool vars d);rw [Qr]at c|-;rw [Az7]at c;rw [show Gv [⟨Jf pool vars d,a,b⟩]= [.agg [.ro 1 (As (Jf pool vars d)),.int .i64 a,.int .i64 b]]from rfl];generalize As (Jf pool vars d)=cv,Ce pool=pv,Ey rs=rv at*;refine Ax func346 fun w0 N0=>?_;refine Aa [2,3] [2,3] sr (Ab (Ad (Am 9 sr ?_)));refine Ah c func265 ?_;refine Af [4] [15] sr ?_;exact Aj (Ac (by simp [results346]<;>rfl) (rfl))
theorem Ahi(l:List Int)(i:Nat)(x:Int):(As l).set i (.int .i64 x)=As (l.set i x):=by simp [As,M9]
def L0(a b:Int):Int:=if b<a then b else a
def Abt(pool:List Pit)(vars st:Nat)(a b n:Int):List Rw:=
 [⟨(Jf pool vars fun p=>Je (decide (p.st=n))).set st (-(L0 b 1000000)),-1000000,0⟩,⟨(Jf pool vars fun p=>Je (decide (p.st=n))).set st (-(L0 a 1000000)),0,1000000⟩]
theorem Az8(len:Int)(rs:List Ru)(pool:List Pit)(vars st:Nat)(a b n:Int)(h:frOk pool vars st)(c:st<vars)(ha:0<=a)(hb:0<=b):
  AC prog 358 [.agg [.int .i64 a,.int .i64 b,.int .i64 n],frV len rs pool vars st] (fun r=>r=.ro 3 (Gv (Abt pool vars st a b n))):=by
 have f:=fun(p:Pit)=>X7 (us:=[.agg [.int .i64 a,.int .i64 b,.int .i64 n]]) (args:=[p.v]) (vs:=[]) (r:=.int .i64 (Je (decide (p.st=n)))) (A8c a b n p) func359 kr rfl
 have o:=Ajg len rs pool vars st 359 [.agg [.int .i64 a,.int .i64 b,.int .i64 n]] [] (fun p=>Je (decide (p.st=n))) (-1000000) 0 h.le h.small (fun p _ =>f p);have i:=Ajg len rs pool vars st 359 [.agg [.int .i64 a,.int .i64 b,.int .i64 n]] [] (fun p=>Je (decide (p.st=n))) 0 1000000 h.le h.small (fun p _ =>f p);have d:=X6 (fun p=>Je (decide (p.st=n))) h.le;unfold Abt;generalize Jf pool vars (fun p=>Je (decide (p.st=n)))=C at*;have pl:=Ca pool;have j:=C2 rs;have m:=A4 C;have s:=Ag (C.set st (-(L0 b 1000000)));have g:=Ag (C.set st (-(L0 a 1000000)));have w:(C.set st (-(L0 b 1000000))).length=vars:=by simp [d]
 have l2:(C.set st (-(L0 a 1000000))).length=vars:=by simp [d]
 rw [show∀x y,Gv [⟨C.set st x,-1000000,0⟩,⟨C.set st y,0,1000000⟩]= [.agg [.ro 1 (As (C.set st x)),.int .i64 (-1000000),.int .i64 0],.agg [.ro 1 (As (C.set st y)),.int .i64 0,.int .i64 1000000]]from fun _ _ =>rfl];rw [Qr]at o i|-;have u:IntKind.i64.wrap (-(L0 b 1000000))= -(L0 b 1000000):=Bh (by unfold L0;split<;>omega) (by unfold L0;split<;>omega);have z:IntKind.i64.wrap (-(L0 a 1000000))= -(L0 a 1000000):=Bh (by unfold L0;split<;>omega) (by unfold L0;split<;>omega);have s1:=Ahi C st (-(L0 b 1000000));have t:=Ahi C st (-(L0 a 1000000));have m1:(if(1000000:Int)<b then(1000000:Int)else b)=L0 b 1000000:=rfl;have m2:(if(1000000:Int)<a then(1000000:Int)else a)=L0 a 1000000:=rfl;generalize L0 b 1000000=x,L0 a 1000000=y at*;have d1:=A4 (C.set st (-x));have d2:=A4 (C.set st (-y));generalize As (C.set st (-x))=D1,As (C.set st (-y))=D2 at*;have e:=E8 (l:=C) (k:=st) om;generalize C[st]'(by omega)=c0 at e;generalize Ce pool=pv,Ey rs=rv at*;refine Ax func358 fun w0 N0=>?_;refine Aa [2,3] [2,3] sr (Ab (Ad (Am 3 sr ?_)));refine L7 100 o func265 rfl kr rfl rfl rfl sr (by simp [AS.views,AS.view,AS.viewL,AS.viewC]<;>rfl) sr ?_;refine Af [2,3,5] [2,3,5,100] sr ?_;refine Aa [2,3,5] [2,3,5,100] (by simp [c,m1,u,s1,e]<;>rfl) (Bp 100 [2,3,5] [2,3,5] (by simp [s,w,d1]<;>rfl) (Ab (Ad (Am 3 sr ?_))));refine L7 101 i func265 rfl kr rfl rfl rfl sr (by simp [AS.views,AS.view,AS.viewL,AS.viewC]<;>rfl) sr ?_;refine Af [2,3,5,6] [2,3,5,6,101] sr ?_;refine Aa [5,6] [5,6,101] (by simp [c,m2,z,t,e]<;>rfl) (Bp 101 [5,6] [5,6] (by simp [g,l2,d2]<;>rfl) (Aa [4] [37] sr ?_));exact Aj (Ac (by simp [results358]<;>rfl) (rfl))
def Ahj(pool:List Pit)(n:Int):Bool:=pool.any fun p=>decide (p.id=n)
def Abu(pool:List Pit)(vars:Nat)(n:Int):List Rw:=if Ahj pool n=true then []else [⟨Jf pool vars fun _ =>0,1,1⟩]
theorem Avc(len:Int)(rs:List Ru)(pool:List Pit)(vars d:Nat)(n:Int)(h:frOk pool vars d):Hp gv prog 364 [.agg [.int .i64 n],frV len rs pool vars d] (fun r=>r=.ro 3 (Gv (Abu pool vars n))):=by
 refine Hp.relaxP ?_;have c:=Asf len rs pool vars d n;have a:=Wk len rs pool vars d 366 [] [] (fun _ =>0) 1 1 h.le h.small (fun p _ =>X7 (args:=[p.v]) (us:=[]) (vs:=[]) (r:=.int .i64 0) (A8d p) func366 kr rfl);have a:=a.argsR (args:=[frV len rs pool vars d,.fn 366,.int .i64 1,.int .i64 1]) (.cons (Bi.refl _) (.cons (Pt 366) (.cons (Bi.refl _) (.cons (Bi.refl _) .nil))));unfold Abu;change Hp _ _ _ _ (fun r=>r=.bool (Ahj pool n))at c;generalize Ahj pool n=q at*;have pl:=Ca pool;have e:=C2 rs;have f:=Ag (Jf pool vars fun _ =>0);rw [Qr]at a c|-;rw [Az7]at a;generalize hC:Jf pool vars (fun _ =>0)=C at*;generalize Ce pool=pv,Ey rs=rv at*;refine By func364 fun w0 N0 g=>?_;refine Aa [2,3] [2,3] sr (Ab (Ab (Ad (Am 3 sr ?_))));refine Bq g c func365 ?_;refine Af [3,9] [3] sr ?_
 refine Ao (fun h1=>?_) fun h1=>Ae ?_
 ·refine Aa [4] [] sr ?_;refine Aj (Ac sr ?_);rw [if_pos h1];exact Bi.nils 3
 refine Aa [3,5] [3] sr (Ab (Ad (Am 2 sr ?_)));refine Ah a func265 ?_;refine Af [4] [13] sr ?_;refine Aj (Ac (by simp [results364]<;>rfl) ?_);rw [if_neg (by rw [h1];decide)];exact Bi.refl _
def Abv(rs:List Ru)(pool:List Pit)(vars:Nat)(n:Int):List Rw:=if(!Ahj pool n|| !Tx rs 7 n)=true then []else [⟨Jf pool vars fun p=>Je (decide (p.id=n)),0,0⟩]
theorem Avd(len:Int)(rs:List Ru)(pool:List Pit)(vars f:Nat)(n:Int)(h:frOk pool vars f):Hp gv prog 374 [.agg [.int .i64 n],frV len rs pool vars f] (fun r=>r=.ro 3 (Gv (Abv rs pool vars n))):=by
 refine Hp.relaxP ?_;have d:=Asf len rs pool vars f n;have e:=Ahg len rs pool vars f 7 n;have a:=Wk len rs pool vars f 375 [] [.rp (.agg [.int .i64 n])] (fun p=>Je (decide (p.id=n))) 0 0 h.le h.small (fun p _ =>X7 (args:=[p.v]) (us:=[]) (vs:=[.rp (.agg [.int .i64 n])]) (r:=.int .i64 (Je (decide (p.id=n)))) (A8f n p) func375 kr rfl);unfold Abv;change Hp _ _ _ _ (fun r=>r=.bool (Ahj pool n))at d;generalize Ahj pool n=q,Tx rs 7 n=k at*;have pl:=Ca pool;have g:=C2 rs;have j:=Ag (Jf pool vars fun p=>Je (decide (p.id=n)));rw [Qr]at a d e|-;rw [Az7]at a;generalize hC:Jf pool vars (fun p=>Je (decide (p.id=n)))=C at*;generalize Ce pool=pv,Ey rs=rv at*;refine By func374 fun w0 N0 i=>?_;refine Aa [2,3] [2,3] sr (Ab (Ab (Ad (Am 3 sr ?_))));refine Bq i d func365 ?_;refine Am 5 sr ?_;refine Np i (c:=q) (fun hg=>e) func233 rfl kr sm rfl rfl sr (by simp) sr ?_;refine Af [2,3,17] [2,3] sr ?_
 refine Ao (fun h1=>?_) fun h1=>Ae ?_
 ·refine Aa [4] [] sr ?_;refine Aj (Ac sr ?_);rw [if_pos (by simpa using h1)];exact Bi.nils 3
 refine Bp 2 [2,3] [3] sr (Aa [3,5] [3] sr (Ab (Ad (Am 2 sr ?_))));refine Ah a func265 ?_;refine Af [4] [22] sr ?_;refine Aj (Ac (by simp [results374]<;>rfl) ?_);rw [if_neg (by rw [show(!q|| !k)=false from by simpa using h1];decide)];exact Bi.refl _
def X8:List Pit->List (Int × Int)->List Int->List Int
 | [],_,l=>l
 |p::r,m,l=>if p.fam<=0 then X8 r m l else X8 r ((p.fam,Ez m p.fam+1)::m) (if Ez m p.fam+1=2 then l++[p.fam]else l)
theorem Ave{pool:List Pit}{k:Nat}(h:k<pool.length)(m:List (Int × Int))(l:List Int):
  X8 (pool.drop k) m l=if pool[k].fam<=0 then X8 (pool.drop (k+1)) m l else X8 (pool.drop (k+1)) ((pool[k].fam,Ez m pool[k].fam+1)::m) (if Ez m pool[k].fam+1=2 then l++[pool[k].fam]else l):=by
 rw [Bt h,X8]
def Afr(pool:List Pit):List Int:=J5 (X8 pool [] [])
theorem Ty:∀(pool:List Pit)(m:List (Int × Int))(l:List Int),(X8 pool m l).length<=l.length+pool.length
 | [],_,l=>by simp [X8]
 |p::r,m,l=>by
  rw [X8]
  split
  ·have:=Ty r m l;simp only [Ba];omega
  ·have:=Ty r ((p.fam,Ez m p.fam+1)::m) (if Ez m p.fam+1=2 then l++[p.fam]else l);have h2:(if Ez m p.fam+1=2 then l++[p.fam]else l).length<=l.length+1:=by split<;>simp
   simp only [Ba];omega
theorem N3(l:List Int):(J5 l).length=l.length:=by simp [J5]
theorem Az9{m:List (Int × Int)}{n:Int}(h:∀p∈m,0<=p.2/\p.2<=n)(hn:0<=n)(a:Int):0<=Ez m a/\Ez m a<=n:=by
 induction m with
 |nil=>simp [Ez];omega
 |cons p r ih=>
  rw [Ez]
  split
  ·exact h _ (Et ..)
  ·exact ih fun q c=>h q (Dv _ c)
theorem Amf(pool:List Pit)(aa:pool.length<=18):AC prog 381 [.agg [],.ro 9 (Ce pool)] (fun r=>r=.ro 1 (As (Afr pool))):=by
 have f:=fun(k:Nat)(h:k<pool.length)=>Ij h
 have lq:=Dx pool;have l:=Ty pool [] [];unfold Afr;generalize Ce pool=pv at*;refine Ax func381 fun w0 N0=>?_;refine Aa [1] [] sr (Ab (Ad (Qa .i64 rfl rfl (fun b hb _ =>⟨_,rfl,?_⟩))));refine Af [1,5] [] sr ?_;refine Aa [1,5,6] [] sr (Ab (Aa [5,6,10,11,12] [] sr ?_));refine Fp 6 100 1 3 [5,6,10,11,12] [100] sr sr ?_;refine Ar ?_
 refine Di (fun x:Nat × Nat × Nat × List (Int × Int)× List Int=>⟨[(5,.mp b .i64 (mV x.2.2.2.1)),(6,.sl 100 x.2.1 1 x.2.2.2.2.length),(10,V.ro 9 pv),(11,V.int .i64 pv.length),(12,V.int .i64 (x.1:Nat))],[(100,⟨x.2.1,1,3,As x.2.2.2.2⟩)],x.2.2.1,38⟩)
  (fun x=>x.1<=pool.length/\x.2.2.2.2.length<=x.1/\(∀p∈x.2.2.2.1,0<=p.2/\p.2<=(x.1:Int))/\X8 (pool.drop x.1) x.2.2.2.1 x.2.2.2.2=X8 pool [] []) (fun x=>pool.length-x.1) (0,_,_,[],[]) ⟨B4 _,A9 _,by simp,rfl⟩ (AS.le_refl _) ?_
 rintro⟨k,qv,nx,m,L⟩⟨hk,hL,g,a⟩;simp only at hk hL g a|-;refine Aa [5,6,10,11,12,13] [100] sr (Ab ?_)
 refine Ao (fun h1=>Ae ?_) fun h1=>?_
 ·have c:k<pool.length:=by simp at h1;omega
  have j:k<pv.length:=om;have s:=f k c;have Dg:=A6 (k:=k) om;rw [Ave c]at a;rw [Ge]at s;generalize pool[k]=p at s a;have pm:=Do p.m;have i:=Abr m p.fam;have u:=Az9 g om p.fam;generalize Ez m p.fam=la at i u a;have Pm:IntKind.i64.wrap (la+1)=la+1:=Bh om om;have t:L.length+1<=maxLen/\(L.length+1)*8<=140737488355328:=⟨Ai (show L.length+1<=19 by omega) dc,by omega⟩;refine Ab (Ar (Aa [5,6,8,10,11,12] [8,100] (by simp [s,j]<;>rfl) (Ab (Aa [5,6,8,10,11,12,18] [8,100] sr ?_))))
  refine Ao (fun h2=>?_) fun h2=>Ae ?_
  ·refine Bb ?_;refine A3 [5,6,10,11,12] [100] (by simp [Dg]<;>rfl) ?_;rw [if_pos (by simpa using h2)]at a;exact⟨(k+1,_,_,m,L),⟨c,by simp only;omega,fun q f=>by have:=g q f;simp only;omega,a⟩,by simp only;omega,AS.le_refl _⟩
  rw [if_neg (by simp at h2;omega)]at a;refine Ab (Ad (Am 5 (by simp [i,-Mr,Pm]<;>rfl) ?_));refine Qm (b:=b) hb rfl rfl rfl sr sr sr rfl Ap1 rfl sr ?_;refine Af [5,6,8,10,11,12] [8,100] sr ?_;refine Aa [5,6,8,10,11,12,28] [8,100] sr ?_
  refine Ao (fun o=>?_) fun o=>Ae ?_
  ·refine A3 [5,6,10,11,12] [100] (by simp [t]<;>rfl) (A3 [5,6,10,11,12] [100] (by simp [Dg]<;>rfl) ?_);rw [if_pos (by simpa using o)]at a;exact⟨(k+1,_,_,(p.fam,la+1)::m,L++[p.fam]),⟨c,by simp;omega,fun q f=>(Cj.1 f).elim (fun e=>by subst e;simp only;omega) (fun e=>by have:=g q e;simp only;omega),a⟩,by simp only;omega,by simp only [Ps,X1,Bf,Ba,Bx];exact AS.le_refl _⟩
  refine A3 [5,6,10,11,12] [100] (by simp [Dg]<;>rfl) ?_;rw [if_neg (by simpa using o)]at a;exact⟨(k+1,_,_,(p.fam,la+1)::m,L),⟨c,by simp only;omega,fun q f=>(Cj.1 f).elim (fun e=>by subst e;simp only;omega) (fun e=>by have:=g q e;simp only;omega),a⟩,by simp only;omega,AS.le_refl _⟩
 ·refine Bb ?_;have y:k=pool.length:=by simp at h1;omega
  rw [y,Cd,X8]at a;subst a;simp only [Bx]at l;generalize X8 pool [] []=L at*;have w:=Adk L om;have f1:=Rg L;have z:=Rg (J5 L);have n:=Ag (J5 L);have l1:=A4 L;have l2:=A4 (J5 L);have l3:=N3 L;refine Ab (Ad (Am 1 sr ?_));refine Up (d:=100) (v:=qv) w f1 z func101 rfl kr rfl rfl rfl sr sr sr ?_;refine Af [6] [100] sr ?_;refine Aa [4] [100] sr ?_;exact Aj (Ac (by simp [results381,n,l3]<;>rfl) (rfl))
theorem Avf{d v sz:Nat}{es:List V}{c:V}(h:c.pureC=true):c.frzC d v sz es=c:=by
 cases c<;>first|rfl|simp [V.pureC]at h
theorem Amg{l:List V}{f:V->V}(h:∀c∈l,f c=c):l.map f=l:=by
 induction l with
 |nil=>rfl
 |cons x r ih=>rw [Ct,h x (Et ..),ih fun c a=>h c (Dv _ a)]
theorem Ahk(d v sz:Nat)(es:List V){e:V}(h:e.pureE=true):e.frz d v sz es=e:=by
 have a:∀c∈e.cells,c.pureC=true:=Aw.1 h;cases e with
 |agg cs=>
  have h2:cs.map (V.frzC d v sz es)=cs:=Amg fun c h1=>Avf (a c h1)
  simp only [V.frz,h2]
 |_ =>first|rfl|(have f:=a _ (Bz.2 rfl);simp [V.pureC]at f)
theorem Fo{l:List V}(h:l.all V.pureE=true)(d v sz:Nat)(es:List V):l.map (V.frz d v sz es)=l:=Amg fun c a=>Ahk d v sz es (Aw.1 h c a)
def Tz(pool:List Pit)(vars:Nat)(f:Int):Rw:=⟨Jf pool vars fun p=>Je (decide (p.fam=f)),0,1⟩
def Ld(pool:List Pit)(vars:Nat)(a:List Int):List Rw:=a.map (Tz pool vars)
theorem Ajh{pool:List Pit}{vars:Nat}{a:List Int}{k:Nat}(h:k<a.length):Ld pool vars (a.take (k+1))=Ld pool vars (a.take k)++[Tz pool vars a[k]]:=Tw _ h
theorem Aav(pool:List Pit)(vars:Nat)(a:List Int):(Ld pool vars a).length=a.length:=by simp [Ld]
theorem A0a(len:Int)(rs:List Ru)(pool:List Pit)(vars m:Nat)(h:frOk pool vars m)(z:pool.length<=18):AC prog 380 [.agg [],frV len rs pool vars m] (fun r=>r=.ro 3 (Gv (Ld pool vars (Afr pool)))):=by
 have j:=Amf pool z
 have af:(Afr pool).length<=18:=by
  have:=Ty pool [] [];rw [Afr,N3];simp only [Bx]at this;omega
 have c:=fun(f:Int)=>Wk len rs pool vars m 382 [] [.rp (.int .i64 f)] (fun p=>Je (decide (p.fam=f))) 0 1 h.le h.small (fun p _ =>X7 (args:=[p.v]) (us:=[]) (vs:=[.rp (.int .i64 f)]) (r:=.int .i64 (Je (decide (p.fam=f)))) (A8g f p) func382 kr rfl)
 change∀f,AC _ _ _ (fun r=>r=(Tz pool vars f).v)at c;have s:=fun(f:Int)=>Ag (Tz pool vars f).coef
 have ab:=fun(k:Nat)(o:k<(Afr pool).length)=>Ajh (pool:=pool) (vars:=vars) o
 generalize Afr pool=a at*;have hq:=fun(k:Nat)(h:k<a.length)=>E8 h
 have lq:=A4 a;have pl:=Ca pool;have pr:=C2 rs;simp only [Qr]at c;rw [Qr];generalize ae:Ce pool=pv at*;generalize Ey rs=rv,As a=fv at*;refine Ax func380 fun w0 N0=>?_;refine Aa [2,3] [2,3] sr (Aa [2,3,5] [2,3] sr (Ab (Ab (Ad (Am 3 sr ?_)))));refine Ah j func381 ?_;refine Af [3,5,12,13,14] [3] sr ?_;refine Fp 5 100 3 339 [3,5,12,13,14] [3,100] sr sr ?_;refine Ar ?_
 refine Di (fun x:Nat × Nat × Nat=>⟨[(3,V.bp 3 (1) 5 0 0),(5,.sl 100 x.2.1 3 (Ld pool vars (a.take x.1)).length),(12,.ro 1 fv),(13,.int .i64 fv.length),(14,V.int .i64 (x.1:Nat))],[(3,{ v:=1,sz:=5,ty:=333,es:=[V.agg [V.int .i64 len,V.ro 5 rv,V.ro 9 pv,V.int .i64 vars,V.int .i64 m]]}),(100,⟨x.2.1,3,339,Gv (Ld pool vars (a.take x.1))⟩)],x.2.2,27⟩)
  (fun x=>x.1<=a.length) (fun x=>a.length-x.1) (0,_,_) (B4 _) (AS.le_refl _) ?_
 rintro⟨k,qv,nx⟩o;simp only at o|-;refine Aa [3,5,12,13,14,15] [3,100] sr (Ab ?_)
 refine Ao (fun h1=>Ae ?_) fun h1=>?_
 ·have g:k<a.length:=by simp at h1;omega
  have l:k<fv.length:=om;have ga:=hq k g;have Dg:=A6 (k:=k) om;have d:=ab k g;have y:(Ld pool vars (a.take k)).length<=18:=by rw [Aav];simp;omega
  generalize a[k]=f at ga d;have e:=c f;have pc:=s f;rw [show(Tz pool vars f).v=.agg [.ro 1 (As (Tz pool vars f).coef),.int .i64 0,.int .i64 1]from rfl]at e;generalize Ld pool vars (a.take k)=i at d y|-;have aa:i.length+1<=maxLen/\(i.length+1)*40<=140737488355328:=⟨Ai (show i.length+1<=19 by omega) dc,by omega⟩;have w:Gv (Ld pool vars (a.take (k+1)))=Gv i++[.agg [.ro 1 (As (Tz pool vars f).coef),.int .i64 0,.int .i64 1]]:=by rw [d,Adu];rfl
  have u:(Ld pool vars (a.take (k+1))).length=i.length+1:=by rw [d,Bf];rfl
  generalize As (Tz pool vars f).coef=cv at*;refine Ab (Ar (Aa [3,5,7,12,13,14] [3,7,100] (by simp [ga,l]<;>rfl) ?_));have t:=Fo (Gg i);refine Bp 7 [3,5,7,12,13,14] [3,100] (by simp [t]<;>rfl) (Aa [3,5,8,12,13,14] [3,100] sr (Ad (Am 3 sr ?_)));refine Ah e func265 ?_;refine Af [3,5,12,13,14] [3,100] (by simp [aa]<;>rfl) ?_;refine A3 [3,5,12,13,14] [3,100] (by simp [Dg]<;>rfl) ?_;exact⟨(k+1,_,_),g,by simp only;omega,by simp only [w,u];exact AS.le_refl _⟩
 ·refine Bb ?_;have ad:k=a.length:=by simp at h1;omega
  subst ad;simp only [Bl];have n:=Gg (Ld pool vars a);refine Aa [4] [100] sr ?_;exact Aj (Ac (by simp [results380,n]<;>rfl) (rfl))
end Go.Proofs.YtpaccopbbffkaaaGreatDoor
namespace Go.Proofs
open Go.Shelf
def Tryz.sortPairs_ren:Go.Shelf.Ren:=⟨fun|6=>308|15=>146|14=>312|28=>188|29=>189|20=>314|21=>315|22=>316|23=>317|24=>318|25=>319|26=>320|27=>321|46=>323|47=>221|48=>222|49=>324|50=>325|57=>326|n=>n,fun|22=>28|24=>368|25=>403|3=>3|39=>246|0=>0|53=>149|55=>42|4=>4|46=>282|45=>281|50=>261|5=>5|9=>9|66=>320|70=>324|76=>352|77=>353|n=>n,fun|n=>n⟩
theorem Tryz.sortPairs:Go.Proofs.SlLaysF0.n6 prog sortPairs_ren:={
 mixed:=by kernel_rfl
 f6:=⟨Tryz.f308.name,by decide,func308.trans (congrArg some kr)⟩
 f14:=⟨Tryz.f312.name,by decide,func312.trans (congrArg some kr)⟩
 f15:=func146.trans (congrArg some kr)
 f20:=⟨Tryz.f314.name,by decide,func314.trans (congrArg some kr)⟩
 f21:=⟨Tryz.f315.name,by decide,func315.trans (congrArg some kr)⟩
 f22:=⟨Tryz.f316.name,by decide,func316.trans (congrArg some kr)⟩
 f23:=⟨Tryz.f317.name,by decide,func317.trans (congrArg some kr)⟩
 f24:=⟨Tryz.f318.name,by decide,func318.trans (congrArg some kr)⟩
 f25:=⟨Tryz.f319.name,by decide,func319.trans (congrArg some kr)⟩
 f26:=⟨Tryz.f320.name,by decide,func320.trans (congrArg some kr)⟩
 f27:=⟨Tryz.f321.name,by decide,func321.trans (congrArg some kr)⟩
 f28:=func188.trans (congrArg some kr)
 f29:=func189.trans (congrArg some kr)
 f46:=⟨Tryz.f323.name,by decide,func323.trans (congrArg some kr)⟩
 f47:=func221.trans (congrArg some kr)
 f48:=func222.trans (congrArg some kr)
 f49:=⟨Tryz.f324.name,by decide,func324.trans (congrArg some kr)⟩
 f50:=⟨Tryz.f325.name,by decide,func325.trans (congrArg some kr)⟩
 f57:=⟨Tryz.f326.name,by decide,func326.trans (congrArg some kr)⟩
 t0:=underlying0
 a0:=isAgg0
 z0:=sizeOf0
 v0:=zeroValue0
 t3:=underlying3
 a3:=isAgg3
 z3:=sizeOf3
 v3:=zeroValue3
 t4:=underlying4
 a4:=isAgg4
 z4:=sizeOf4
 v4:=zeroValue4
 t5:=underlying5
 a5:=isAgg5
 z5:=sizeOf5
 v5:=zeroValue5
 t9:=underlying9
 a9:=isAgg9
 z9:=sizeOf9
 v9:=zeroValue9
 t22:=underlying28
 a22:=isAgg28
 z22:=sizeOf28
 v22:=zeroValue28
 t25:=underlying403
 a25:=isAgg403
 z25:=sizeOf403
 v25:=zeroValue403
 t39:=underlying246
 a39:=isAgg246
 z39:=sizeOf246
 v39:=zeroValue246
 t45:=underlying281
 a45:=isAgg281
 z45:=sizeOf281
 v45:=zeroValue281
 t46:=underlying282
 a46:=isAgg282
 z46:=sizeOf282
 v46:=zeroValue282
 t50:=underlying261
 a50:=isAgg261
 z50:=sizeOf261
 v50:=zeroValue261
 t53:=underlying149
 a53:=isAgg149
 z53:=sizeOf149
 v53:=zeroValue149
 t55:=underlying42
 a55:=isAgg42
 z55:=sizeOf42
 v55:=zeroValue42
 t66:=underlying320
 a66:=isAgg320
 z66:=sizeOf320
 v66:=zeroValue320
 t70:=underlying324
 a70:=isAgg324
 z70:=sizeOf324
 v70:=zeroValue324
 t76:=underlying352
 a76:=isAgg352
 z76:=sizeOf352
 v76:=zeroValue352
 t77:=underlying353
 a77:=isAgg353
 z77:=sizeOf353
 v77:=zeroValue353}
def Tryz.cmpInt_ren:Go.Shelf.Ren:=⟨fun|5=>159|7=>204|n=>n,fun|22=>3|3=>3|4=>4|n=>n,fun|n=>n⟩
theorem Tryz.cmpInt:Go.Proofs.SlLaysC2.n5 prog cmpInt_ren:={
 mixed:=by kernel_rfl
 f5:=⟨Tryz.f159.name,by decide,func159.trans (congrArg some kr)⟩
 f7:=⟨Tryz.f204.name,by decide,func204.trans (congrArg some kr)⟩
 t3:=underlying3
 a3:=isAgg3
 z3:=sizeOf3
 v3:=zeroValue3
 t4:=underlying4
 a4:=isAgg4
 z4:=sizeOf4
 v4:=zeroValue4
 t22:=underlying3
 a22:=isAgg3
 z22:=sizeOf3
 v22:=zeroValue3}
end Go.Proofs
namespace Go.Proofs
open Go.RowKit
theorem Tryz.or2(b off:Nat)(A C r:Int)(m:A=0->r=C)(l:A≠0->r=A)(w:World)(j:w.cell? ⟨b,off,none⟩=some (.int .i64 A))(h1:w.cell? ⟨b,off+1,none⟩=some (.int .i64 C)):
  Calls prog 158 #[.slice (some ⟨b,off,none⟩) 2 2] w fun e w'=>e=.returned (.int .i64 r)/\w'=w:=by
 go_enter func158,ntmps158
 go_wp2
 go_loop [8] (fun i=>∃k:Nat,k<=2/\i=.int .i64 k/\(0<k->A=0)/\(1<k->C=0)) (fun i=>2-(intOf i).toNat)
 case atStart=>exact⟨0,by omega,rfl,by omega,by omega⟩
 case round=>
  obtain⟨k,hk,rfl,hA,hC⟩:=hrel;obtain⟨z,d,c⟩:∃z,(k=0->z=A)/\(k=1->z=C):=⟨if k=0 then A else C,by intro h;simp [h],by intro h;simp [h]⟩
  have g:(k:Int)<2->w.cell? ⟨b,off+k,none⟩=some (.int .i64 z):=by
   intro h
   rcases De k 1 with h2|h2
   ·have:k=0:=om;subst this;rw [d rfl];simpa using j
   ·have:k=1:=om;subst this;rw [c rfl];simpa using h1
  clear j h1
  go_wp2
  ·have f:z≠0:=by simpa using ‹(z != 0)=true›
   have a:(k:Int)<2:=by assumption
   have:z=r:=om
   go_ret
   exact⟨by rw [this];rfl,rfl⟩
  ·have f:z=0:=by simpa using ‹(z != 0)=false›
   have a:(k:Int)<2:=by assumption
   refine⟨⟨k+1,by omega,?_,by omega,by omega⟩,?_⟩
   ·simp
   ·simp [intOf];omega
  ·have a:¬(k:Int)<2:=om;have:r=0:=om
   go_ret
   exact⟨by rw [this];rfl,rfl⟩
theorem Tryz.cmp159(x y:Int)(w:World):Calls prog 159 #[.int .i64 x,.int .i64 y] w fun e w'=>e=.returned (.int .i64 (Lib.compareInt x y))/\w'=w:=AnyG.cmp_Compare_int cmpInt x y w
theorem Amh(V:World)(a:Array Value)(T n:Nat)(c:n=V.heap.size)(k:Nat)(v:Value)(h:a[k]? =some v):((V.alloc (.cells a T)).drew).cell? ⟨n,k,none⟩=some v:=by
 show(V.alloc (.cells a T)).cell? ⟨n,k,none⟩=some v
 subst c;have d:(V.alloc (.cells a T)).heap[V.heap.size]? =some (.cells a T):=heap_alloc_new V _;simp only [World.cell?,d,h];rfl
open Go.Sort in
def GR(W w':World):Prop:=∃q os',w'=grow (W.drewN q) os'
open Go.Sort in
theorem GR.refl(W:World):GR W W:=⟨0,#[],by rw [grow_empty];rfl⟩
open Go.Sort in
theorem GR.alloc{W w:World}(h:GR W w)(o:Obj):GR W (w.alloc o):=by
 obtain⟨q,os,rfl⟩:=h;exact⟨q,os++ #[o],by rw [alloc_eq_grow,grow_grow]⟩
open Go.Sort in
theorem GR.drew{W w:World}(h:GR W w):GR W w.drew:=by
 obtain⟨q,os,rfl⟩:=h;exact⟨q+1,os,rfl⟩
open Go.Sort in
set_option maxRecDepth 8000 in
theorem Tryz.closure309(x1 x2 y1 y2 a b r:Int)(ha:Lib.compareInt x1 y1=a)(hb:Lib.compareInt x2 y2=b)(hr1:a=0->r=b)(hr2:a≠0->r=a)(W:World):Calls prog 309 #[.agg #[.int .i64 x1,.int .i64 x2],.agg #[.int .i64 y1,.int .i64 y2]] W fun e w'=>e=.returned (.int .i64 r)/\∃q os',w'=grow (W.drewN q) os':=by
 have h1:=fun W'=>cmp159 x1 y1 W'
 have h2:=fun W'=>cmp159 x2 y2 W'
 rw [ha]at h1;rw [hb]at h2
 go_enter func309,ntmps309
 go_wp
 go_region_held3 (fun w'=>w'.cell? ⟨W.heap.size,0,none⟩=some (.int .i64 x1)/\w'.cell? ⟨W.heap.size,1,none⟩=some (.int .i64 x2)/\w'.cell? ⟨W.heap.size+1,0,none⟩=some (.int .i64 y1)/\w'.cell? ⟨W.heap.size+1,1,none⟩=some (.int .i64 y2)) (go_keep)
  (first
   |(go_at_call_of 159 (Value.int .i64 x1);refine(h1 _).mono ?_;rintro e w'⟨rfl,rfl⟩)
   |(go_at_call_of 159 (Value.int .i64 x2);refine(h2 _).mono ?_;rintro e w'⟨rfl,rfl⟩)
   |(go_at_call 158;refine(or2 _ _ a b r hr1 hr2 _ ?_ ?_).mono ?_;(exact Amh _ _ _ _ sm _ _ rfl);(exact Amh _ _ _ _ sm _ _ rfl);rintro e w'⟨rfl,rfl⟩))
 all_goals go_wp2
 all_goals go_ret
 all_goals refine⟨rfl,?_⟩
 all_goals(repeat(first|exact GR.refl _ |apply GR.drew|apply GR.alloc))
end Go.Proofs
set_option linter.unusedSimpArgs false
set_option maxRecDepth 4000
namespace Go.Proofs.YtpaccopbbffkaaaGreatDoor
open Go.Eng Go.Eng.Limb Go.RowKit Go.Sort
def Ap9(x y:Int × Int):Int:=if Lib.compareInt x.1 y.1=0 then Lib.compareInt x.2 y.2 else Lib.compareInt x.1 y.1
def ltP(x y:Int × Int):Bool:=decide (x.1<y.1\/(x.1=y.1/\x.2<y.2))
def leP(x y:Int × Int):Bool:=decide (x.1<y.1\/(x.1=y.1/\x.2<=y.2))
theorem Ahl:ltOf Ap9=ltP:=by
 funext x y
 have c:∀a b:Int,(Lib.compareInt a b=0↔a=b)/\(Lib.compareInt a b<0↔a<b):=by
  intro a b;unfold Lib.compareInt
  by_cases h1:a<b
  ·simp [h1];omega
  ·by_cases h2:b<a
   ·simp [h1,h2];omega
   ·simp [h1,h2];omega
 unfold ltOf Ap9 ltP;have h1:=c x.1 y.1;have h2:=c x.2 y.2
 by_cases h:x.1=y.1
 ·rw [if_pos (h1.1.2 h)];simp only [h2.2];congr 1;simp [h]
 ·rw [if_neg (fun e=>h (h1.1.1 e))];simp only [h1.2];congr 1;simp [h]
theorem Bbi:SWO ltP where
 irrefl x:=by simp [ltP]
 trans x y z h1 h2:=by simp only [ltP,decide_eq_true_eq]at*;omega
 ntrans x y z h1 h2:=by simp only [ltP,decide_eq_false_iff_not]at*;omega
def Wl(x:Int × Int):List Value:=[.int .i64 x.1,.int .i64 x.2]
theorem A0b(blk off a:Nat)(w:World):CmpLays prog 309 #[] Wl 2 Ap9 blk off a w:=by
 intro m os dk _ x y;exact closure309 x.1 x.2 y.1 y.2 _ _ (Ap9 x y) rfl rfl (fun h=>by unfold Ap9;rw [if_pos h]) (fun h=>by unfold Ap9;rw [if_neg h]) _
theorem Ami{w:World}{g n:Nat}{f:Array Obj}(d:Array Value):w.grownBy (grow (putRow id (Sort.ahead w n) g 0 d) f) (some g):=by
 refine⟨rfl,rfl,rfl,by simp,fun k c a=>?_⟩;rw [heap_grow_old _ _ (by simpa using c)];have:g≠k:=fun e=>a (by rw [e])
 simp [putRow,mapBlock,Sort.ahead,Kj,this]
theorem A0c{w:World}{g n:Nat}{i:Array Obj}{a:Array Value}{e:TypeId}{c:Nat × Nat}(d:Array Value)(f:w.heap[g]? =some (.cells a e c)):
  (grow (putRow id (Sort.ahead w n) g 0 d) i).heap[g]? =some (.cells (putCells id 0 d a) e c):=by
 have h:g<w.heap.size:=(B2.1 f).1;rw [heap_grow_old _ _ (by simpa using h)];simp [putRow,mapBlock,Sort.ahead,Kj,f,onCells]
theorem Aqa(l:List (Int × Int)):∀e∈A2 l,e.fits 2:=by
 intro x a;simp only [A2,Bm]at a;obtain⟨h,_,rfl⟩:=a;exact⟨rfl,by simp [V.cells,V.isCell]⟩
theorem Zt{l:List (Int × Int)}{k:Nat}(h:k<l.length):(A2 l)[k]? =some (.agg [.int .i64 l[k].1,.int .i64 l[k].2]):=by simp [A2,h]
theorem Aqb{w:World}{g e:Nat}{ty:TypeId}{l:List (Int × Int)}(h:Aan w g ty 2 e (A2 l)):HoldsK Wl 2 w g 0 l.toArray/\g<w.heap.size/\∃a,w.heap[g]? =some (.cells a ty (0,0))/\a.size=e*2:=by
 obtain⟨h1,h2,a,c,r,o⟩:=h;refine⟨fun j k=>?_,(B2.1 c).1,a,c,r⟩;rw [size_flatK,C4]at k;have i:j/2<l.length:=om
 have n:(flatK Wl 2 l.toArray)[j]! =(Wl l[j/2])[j%2]! :=by
  rw [get_flatK Wl 2 l.toArray j (by simpa using k)];simp [i]
 have m:j/2*2+j%2=j:=om
 rcases(by omega:j%2=0\/j%2=1)with f|f
 ·obtain⟨x,d,hp⟩:=o (j/2) _ (j%2) (.int .i64 l[j/2].1) (Zt i) (by rw [f];rfl);rw [m]at d;cases hp
  rw [n,f];exact⟨by simp [World.cell?,c,d,Wl],by simp [World.frozen?,c]⟩
 ·obtain⟨x,d,hp⟩:=o (j/2) _ (j%2) (.int .i64 l[j/2].2) (Zt i) (by rw [f];rfl);rw [m]at d;cases hp
  rw [n,f];exact⟨by simp [World.cell?,c,d,Wl],by simp [World.frozen?,c]⟩
theorem A0d{w:World}{g d n:Nat}{ty:TypeId}{r:Array Obj}{a:Array Value}{l:List (Int × Int)}(u:w.heap[g]? =some (.cells a ty (0,0)))(hs:a.size=d*2)(s:l.length<=d):
  Aan (grow (putRow id (Sort.ahead w n) g 0 (flatK Wl 2 l.toArray)) r) g ty 2 d (A2 l):=by
 refine⟨by rw [Du];exact s,Aqa l,_,A0c _ u,by simp [putCells,hs],fun k e j c f h=>?_⟩;have i:k<l.length:=by have:=(Ap.1 f).1;simpa using this
 rw [Zt i]at f;injection f with f;subst f;have m:j<2:=by have:=(Ap.1 h).1;simpa [V.cells]using this
 have t:(flatK Wl 2 l.toArray)[k*2+j]! =(Wl l[k])[j]! :=by
  rw [get_flatK Wl 2 l.toArray (k*2+j) so,show(k*2+j)/2=k by omega,show(k*2+j)%2=j by omega];simp [i]
 have o:(putCells id 0 (flatK Wl 2 l.toArray) a)[k*2+j]? =some ((Wl l[k])[j]!):=by
  rw [putCells,Array.getElem?_mapIdx,Array.getElem?_eq_getElem (show k*2+j<a.size by omega)];simp only [H6,size_flatK,C4,Dj,J4,id];rw [if_pos om,t]
 refine⟨_,o,?_⟩
 rcases(by omega:j=0\/j=1)with rfl|rfl
 ·simp only [V.cells,Da,Au]at h;subst h;exact .int _ _
 ·simp only [V.cells,Fy,Da,Au]at h;subst h;exact .int _ _
def Qe(l:List (Int × Int)):List (Int × Int):=l.mergeSort leP
theorem A0e{l m:List (Int × Int)}(hp:m.Perm l)(hs:m.Pairwise fun x y=>leP x y=true):m=Qe l:=by
 refine List.Perm.eq_of_pairwise (le:=fun x y=>leP x y=true) (fun a b _ _ h1 h2=>?_) hs (List.pairwise_mergeSort (fun a b c h1 h2=>?_) (fun a b=>?_) l) (hp.trans (List.mergeSort_perm l leP).symm)
 ·simp only [leP,decide_eq_true_eq]at h1 h2;exact Prod.ext om om
 ·simp only [leP,decide_eq_true_eq]at*;omega
 ·simp only [leP,Hc,decide_eq_true_eq];omega
theorem Afs{d:Array (Int × Int)}(h:SortedIn ltP 0 d.size d):d.toList.Pairwise fun x y=>leP x y=true:=by
 rw [Hg];intro i j e c a;have:=h i j (B4 _) a (by simpa using c);have g:d[j]! =d.toList[j]:=by rw [getElem!_pos d j (by simpa using c)];simp
 have f:d[i]! =d.toList[i]:=by rw [getElem!_pos d i (by simpa using e)];simp
 rw [g,f]at this;simp only [ltP,decide_eq_false_iff_not]at this;simp only [leP,decide_eq_true_eq];omega
theorem Aqc(l:List (Int × Int))(hz:l.length<=17592186044416):A98 prog 308 309 2 368 (A2 l) (A2 (Qe l)) (fun _ _ =>.tup []):=by
 have eg:∀args w,(callFunc 309 args).run prog w=.ok (.enter 309 args) w:=enters_of func309 kr rfl
 refine⟨fun w g j r c=>?_,fun he=>?_⟩
 ·obtain⟨t,u,z,hb,hs⟩:=Aqb c;have i:=c.1;rw [Du]at i|-;have a:=AnyQ.slices_SortFunc sortPairs 2 isAgg368 sizeOf368 Wl (fun _ =>rfl) (fun x v s=>by simp [Wl]at s;rcases s with rfl|rfl<;>rfl) Ap9 (by rw [Ahl];exact Bbi) 309 #[] g 0 j l.toArray w eg (A0b g 0 _ w) t u so;rw [Ahl]at a;refine a.mono ?_;rintro e w'⟨rfl,h,n,os,hp,o,rfl⟩;have hd:h.size=l.length:=by simpa using hp.1
  have f:h.toList.Perm l:=by
   have h3:=hp.2.2;have y:(h.extract 0 l.toArray.size).toList=h.toList:=by simp;rw [Bg (by simp;omega)]
   have a2:(l.toArray.extract 0 l.toArray.size).toList=l:=sm
   rwa [y,a2]at h3
  have k:h.toList=Qe l:=A0e f (Afs (by rw [hd];simpa using o));have m:h=(Qe l).toArray:=by rw [<- k]
  subst m;exact⟨_,rfl,Ami _,A0d hb hs (by simp [Qe];omega),fun d v μ N' _ =>.pur (.tup [] [] rfl sm)⟩
 ·have:l= []:=by simpa [A2]using he
  subst this;refine⟨by simp [Qe,A2],fun w A=>?_⟩;refine(AnyF.slices_SortFunc_none sortPairs A 0 _ w).mono ?_;rintro e w'⟨rfl,rfl⟩;exact⟨_,rfl,⟨rfl,rfl,rfl,A9 _,fun _ _ _ =>rfl⟩,fun d v μ N' _ =>.pur (.tup [] [] rfl sm)⟩
end Go.Proofs.YtpaccopbbffkaaaGreatDoor
set_option maxRecDepth 4000
namespace Go.Proofs.YtpaccopbbffkaaaGreatDoor
open Go.Eng Go.Eng.Limb
def Kh:List (Int × Int)->List (Int × Int)
 | []=>[]
 | [x]=>[x]
 |x::y::r=>if x=y then Kh (y::r)else x::Kh (y::r)
theorem Ahm(y x:Int × Int):∀a:List (Int × Int),Kh (a++[y,x])=Kh (a++[y])++(if y=x then []else [x])
 | []=>by
  show Kh [y,x]=Kh [y]++_
  by_cases h:y=x
  ·subst h;simp [Kh]
  ·simp [Kh,h]
 |z::a=>by
  have ih:=Ahm y x a
  match a,ih with
  | [],ih=>
   show(if z=y then Kh [y,x]else z::Kh [y,x])=(if z=y then Kh [y]else z::Kh [y])++_
   rw [show Kh [y,x]=_ from ih];split<;>simp
  |b::r,ih=>
   show(if z=b then Kh (b::r++[y,x])else z::Kh (b::r++[y,x]))=(if z=b then Kh (b::r++[y])else z::Kh (b::r++[y]))++_
   rw [ih];split<;>simp
theorem Ahn{l:List (Int × Int)}{m:Nat}(h:m+1<l.length):Kh (l.take (m+2))=Kh (l.take (m+1))++(if l[m]'(by omega)=l[m+1]then []else [l[m+1]]):=by
 have c:l.take (m+2)=l.take m++[l[m]'(by omega),l[m+1]]:=by
  rw [A1 h,A1 (show m<l.length by omega),C3];rfl
 have a:l.take (m+1)=l.take m++[l[m]'(by omega)]:=A1 om;rw [c,a,Ahm]
theorem Adv:∀l:List (Int × Int),(Kh l).length<=l.length
 | []=>by simp [Kh]
 | [x]=>by simp [Kh]
 |x::y::r=>by
  have:=Adv (y::r);rw [Kh];split<;>simp only [Ba]at*<;>omega
theorem Bbj(l:List (Int × Int))(i:Nat)(x:Int × Int):(A2 l).set i (.agg [.int .i64 x.1,.int .i64 x.2])=A2 (l.set i x):=by simp [A2,M9]
theorem Asg(a b:Int × Int):(decide (a.1=b.1)&&decide (a.2=b.2))=decide (a=b):=by
 obtain⟨d,f⟩:=a;obtain⟨e,c⟩:=b;by_cases h:d=e<;>by_cases h2:f=c<;>simp [h,h2]
def Bah(v:Nat)(l:List (Int × Int))(r:V)(a:List (Nat × Ob)):Prop:=
 ∃L:List (Int × Int),a= [(100,⟨v,2,368,A2 L⟩)]/\((r=.sl 100 v 2 L.length/\L=Kh l)\/(r=.ss 100 v 2 0 (Kh l).length/\L.take (Kh l).length=Kh l/\(Kh l).length<=L.length))
theorem Zu{fn:Func}{nx k:Nat}{R:V->List (Nat × Ob)->Prop}{E:List PanicEntry->Prop}{S:AS}{r:V}{ob:Ob}(a:nx<=S.nx)(c:Xi prog S fn.results.toList=some r)(d:Eng.get S.objs k=some ob)(f:R r [(k,ob)]):Acy prog fn R E nx .ret S:=
 ⟨a,r,_,c,fun _ _ e=>Dk d e,f⟩
theorem Aji(v:Nat)(l:List (Int × Int))(hl:l.length<=1000000):ACS prog 310 [.sl 100 v 2 l.length] [(100,⟨v,2,368,A2 l⟩)] (Bah v l) (fun _ =>False):=by
 refine Gs func310 fun w0 N0 af=>?_;refine Aa [0] [100] sr (Ab (Aa [0,8] [100] sr ?_))
 refine Ao (fun h1=>?_) fun h1=>Ae ?_
 ·refine Aa [2] [100] sr ?_;refine Aj (Zu sy sr rfl ⟨l,rfl,.inl ⟨rfl,?_⟩⟩);have az:l.length<2:=by simp at h1;omega
  match l,az with
  | [],_ =>rfl
  | [x],_ =>rfl
 have bf:2<=l.length:=by simp at h1;omega
 refine Ab (Aa [0,3] [100] sr (Ar ?_));refine Di (fun t:Nat × Nat=>⟨[(0,V.sl 100 v 2 l.length),(3,V.int .i64 ((t.1+1:Nat):Int))],[(100,⟨v,2,368,A2 l⟩)],t.2,61⟩) (fun t=>t.1+1<=l.length/\af<=t.2/\Kh (l.take (t.1+1))=l.take (t.1+1)) (fun t=>l.length-t.1) (0,_) ⟨by simp only;omega,by simp only;omega,by rw [A1 om,Iq];rfl⟩ (AS.le_refl _) ?_;rintro⟨k,nx⟩⟨hk,a5,hI⟩;simp only at hk a5 hI|-;refine Ab (Aa [0,3,13] [100] sr ?_)
 refine Ao (fun h2=>Ae ?_) fun h2=>?_
 ·have r:k+1<l.length:=by simp at h2;omega
  have ba:k+1<(A2 l).length:=by rw [Du];exact r
  have bb:k<(A2 l).length:=by rw [Du];omega
  have g1:=H3 r;have g0:=H3 (show k<l.length by omega);have Dg:IntKind.i64.wrap (k:Int)=k:=Bh om om;have Pm:IntKind.i64.wrap ((k:Int)+1+1)=(k:Int)+1+1:=Bh om om;have ak:(0:Int)<=(k:Int)+1:=om;have aw:(k:Int)+1<l.length:=om;have a9:(k:Int)<l.length:=om;have ht:=Ahn r;have ag:=Asg l[k+1] (l[k]'(by omega));generalize a7:l[k+1]=x1 at*;generalize bg:l[k]'(by omega)=x0 at*;refine Ab (Ar (Dq [(0,[]),(1,[]),(2,[]),(4,[]),(5,[]),(6,[]),(7,[]),(3,[]),(8,[]),(9,[])] [0,3,25] [100] Ds kr (by simp [g1,g0,Dg,ak,aw,a9]<;>rfl) ?_))
  refine Ao (fun h3=>?_) fun h3=>Ae ?_
  ·have s:x1=x0:=by rw [<- decide_eq_true_iff (p:=x1=x0),<- ag];simpa using h3
   have hN:l.length-(k+1)+(k+1)=l.length:=om;have a0:(k:Int)+1<=l.length:=om;rw [if_pos s.symm,Eo,hI]at ht;refine Aa [0,3,4] [100] (by simp [ak,a0]<;>rfl) (Ab (Aa [0,3,4,5] [100] sr (Ar ?_)))
   refine Di (fun t:Nat × Nat × List (Int × Int)× Nat=>⟨[(0,V.sl 100 v 2 l.length),(3,V.int .i64 (t.2.1:Nat)),(4,V.ss 100 v 2 (k+1) (l.length-(k+1))),(5,V.int .i64 ((t.1+1:Nat):Int))],[(100,⟨v,2,368,A2 t.2.2.1⟩)],t.2.2.2,61⟩)
    (fun t=>k+1+(t.1+1)<=l.length/\t.2.2.1.length=l.length/\t.2.1=(Kh (l.take (k+1+t.1+1))).length/\t.2.2.1.take t.2.1=Kh (l.take (k+1+t.1+1))/\t.2.1<=k+1+t.1/\(∀q,k+1+t.1<=q->t.2.2.1[q]? =l[q]?)/\af<=t.2.2.2)
    (fun t=>l.length-t.1) (0,k+1,l,_) ⟨by simp only;omega,rfl,by simp only [Dy];rw [ht,Cs];omega,by simp only [Dy];rw [ht],by simp only;omega,fun _ _ =>rfl,by simp only;omega⟩ (AS.le_refl _) ?_
   rintro⟨a,c,L,bi⟩⟨hj,o,i,j,ay,n,ae⟩;simp only at hj o i j ay n ae|-;have be:((l.length-(k+1):Nat):Int)=(l.length:Int)-(k+1):=om;refine Ab (Aa [0,3,4,5,32] [100] sr ?_)
   refine Ao (fun h4=>Ae ?_) fun h4=>?_
   ·have a1:k+1+(a+1)<l.length:=by simp at h4;omega
    have q1:=n (k+1+(a+1)) om;have q0:=n (k+1+a) om;rw [Al om,Al a1]at q1;rw [Al om,Al (show k+1+a<l.length by omega)]at q0;injection q1 with q1;injection q0 with q0;have u:=H3 (l:=L) (k:=k+1+(a+1)) om;have aq:=H3 (l:=L) (k:=k+1+a) om;rw [q1]at u;rw [q0]at aq;have h:=Ahn (l:=l) (m:=k+1+a) om;have ab:=Asg (l[k+1+(a+1)]) (l[k+1+a]'(by omega));have ax:=Bbj L c (l[k+1+(a+1)]);have ad:(L.set c (l[k+1+(a+1)])).length=l.length:=by rw [Ha];exact o
    have a4:(L.set c (l[k+1+(a+1)])).take (c+1)=L.take c++[l[k+1+(a+1)]]:=by
     rw [A1 (by rw [ad];omega),List.getElem_set_self,List.take_set_of_le (A9 _)]
    have ar:∀q,c<q->(L.set c (l[k+1+(a+1)]))[q]? =L[q]? :=fun q hq=>Hw om
    have f:k+1+a+1=k+1+(a+1):=om;have w:k+1+a+2=k+1+(a+1)+1:=om;simp only [f,w]at h j i;have ai:G8 (A2 L) c=some (.agg [.int .i64 (L[c]'(by omega)).1,.int .i64 (L[c]'(by omega)).2]):=H3 om;generalize(L[c]'(by omega))=yo at ai;generalize l[k+1+(a+1)]=y,l[k+1+a]'(by omega)=y0 at*;generalize L.set c y=L' at*;have av:IntKind.i64.wrap (a:Int)=a:=Bh om om;have ah:IntKind.i64.wrap ((a:Int)+1+1)=(a:Int)+1+1:=Bh om om;have a2:IntKind.i64.wrap ((c:Int)+1)=(c:Int)+1:=Bh om om;have am:(0:Int)<=(a:Int)+1:=om;have an:(a:Int)+1<((l.length-(k+1):Nat):Int):=om;have au:(a:Int)<((l.length-(k+1):Nat):Int):=om;have a6:(c:Int)<l.length:=om;have al:=Du L;refine Ab (Ar (Dq [(0,[]),(1,[]),(2,[]),(4,[]),(5,[]),(6,[]),(7,[]),(3,[]),(8,[]),(9,[])] [0,3,4,5,44] [100] Ds kr (by simp [u,aq,av,am,an,au]<;>rfl) ?_));have ao:(!decide (y.1=y0.1)|| !decide (y.2=y0.2))= !decide (y=y0):=by rw [<- ab,Bool.not_and]
    refine Ao (fun h5=>?_) fun h5=>Ae ?_
    ·have aj:¬y=y0:=by rw [ao]at h5;simpa using h5
     rw [if_neg (fun e=>aj e.symm)]at h;refine Aa [0,3,4,5] [100] (by simp [u,am,an,a6,ai,ax]<;>rfl) (A3 [0,3,4,5] [100] (by simp [a2]<;>rfl) (A3 [0,3,4,5] [100] (by simp [ah]<;>rfl) ?_));exact⟨(a+1,c+1,L',_),⟨by simp only;omega,ad,by simp only [];rw [h,Bf,<- i];rfl,by simp only [];rw [h,a4,j],by simp only;omega,fun q hq=>by rw [ar q Go.om];exact n q om,by simp only;omega⟩,by simp only;omega,AS.le_refl _⟩
    have a3:y=y0:=by rw [ao]at h5;simpa using h5
    rw [if_pos a3.symm,Eo]at h;refine A3 [0,3,4,5] [100] (by simp [ah]<;>rfl) ?_;exact⟨(a+1,c,L,_),⟨by simp only;omega,o,by simp only [];rw [h];exact i,by simp only [];rw [h];exact j,by simp only;omega,fun q hq=>n q om,by simp only;omega⟩,by simp only;omega,AS.le_refl _⟩
   ·refine Bb ?_;have bh:k+1+(a+1)=l.length:=by simp at h4;omega
    have g:l.take (k+1+a+1)=l:=Bg om;rw [g]at i j;have bd:=Adv l;have al:=Du L;have aa:(c:Int)<=l.length:=om;have bc:c<=l.length:=om;have a8:(A2 L).take c=A2 (Kh l):=by rw [<- j];simp [A2,Ke]
    refine Ab (Ad (Am 3 (by simp [aa]<;>rfl) ?_));refine At8 (d:=100) (off:=c) (len:=l.length-c) (ob:=⟨v,2,368,A2 L⟩) (te:=368) (z:=.agg #[.int .i64 0,.int .i64 0]) rfl rfl rfl sm gt (by simp [o];omega) sm zeroValue368 rfl (by simp [Value.cells,Value.oneCell']) (by simp [a8]<;>rfl) ?_;refine Af [0,3] [100] sr ?_;refine Aa [2] [100] (by simp [aa]<;>rfl) ?_;exact Aj (Zu sy sr rfl ⟨Kh l,rfl,.inr ⟨by rw [i],Bl,A9 _⟩⟩)
  have s:¬x1=x0:=by rw [<- decide_eq_true_iff (p:=x1=x0),<- ag,h3];decide
  rw [if_neg (fun e=>s e.symm),hI]at ht;refine A3 [0,3] [100] (by simp [Pm]<;>rfl) ?_;exact⟨(k+1,_),⟨by simp only;omega,by simp only;omega,by rw [ht,A1 (show k+1<l.length by omega),a7]⟩,by simp only;omega,AS.le_refl _⟩
 ·refine Bb ?_;have bj:k+1=l.length:=by simp at h2;omega
  have g:l.take (k+1)=l:=Bg om;rw [g]at hI;refine Aa [2] [100] sr ?_;exact Aj (Zu sy sr rfl ⟨l,rfl,.inl ⟨rfl,hI.symm⟩⟩)
set_option linter.unusedSimpArgs false
def Avg(p:Int × Int):Bool:=decide (p.1≠p.2)
def Adw(l:List (Int × Int)):List (Int × Int):=(l.filter Avg).map fun p=>Az3 p.1 p.2
theorem Avh{l:List (Int × Int)}{k:Nat}(h:k<l.length):Adw (l.take (k+1))=Adw (l.take k)++(if Avg l[k]=true then [Az3 l[k].1 l[k].2]else []):=by
 unfold Adw;rw [Tv Avg h,Cr]
 congr 1
 by_cases a:Avg l[k]=true<;>simp [a]
theorem Adx(l:List (Int × Int)):(Adw l).length<=l.length:=by unfold Adw;rw [Eg];exact Ft _ _
def Amj(l:List (Int × Int)):List (Int × Int):=Kh (Qe (Adw l))
theorem Zv(l:List (Int × Int)):(Qe l).length=l.length:=by simp [Qe]
theorem Zw(l:List (Int × Int)):(Amj l).length<=l.length:=Ai (Adv _) (by rw [Zv];exact Adx l)
theorem Ady(a b:List (Int × Int)):A2 (a++b)=A2 a++A2 b:=Cr
theorem Adz(p:Int × Int):A2 [p]= [.agg [.int .i64 p.1,.int .i64 p.2]]:=rfl
theorem flatP(l:List (Int × Int)):(A2 l).all Lu=true:=by
 rw [Aw];intro x a;simp only [A2,Bm]at a;obtain⟨n,_,rfl⟩:=a;rfl
theorem A0f(l:List (Int × Int))(hl:l.length<=1000):AC prog 293 [.ro 2 (A2 l)] (fun r=>r=.ro 2 (A2 (Amj l))):=by
 have hq:=fun(k:Nat)(h:k<l.length)=>H3 h
 have lq:=Du l;have u:=fun(k:Nat)(h:k<l.length)=>Avh h
 have ag:=Adx l;unfold Amj;generalize A2 l=w at*;refine Ax func293 fun w0 N0=>?_;refine Aa [0] [] sr (Aa [0,3] [] sr (Ab (Aa [3,6,7,8] [] sr ?_)));refine Fp 3 100 2 368 [3,6,7,8] [100] sr sr ?_;refine Ar ?_
 refine Di (fun x:Nat × Nat × Nat=>⟨[(3,.sl 100 x.2.1 2 (Adw (l.take x.1)).length),(6,V.ro 2 w),(7,V.int .i64 w.length),(8,V.int .i64 (x.1:Nat))],[(100,⟨x.2.1,2,368,A2 (Adw (l.take x.1))⟩)],x.2.2,30⟩)
  (fun x=>x.1<=l.length) (fun x=>l.length-x.1) (0,_,_) (B4 _) (AS.le_refl _) ?_
 rintro⟨k,qv,nx⟩f;simp only at f|-;refine Aa [3,6,7,8,9] [100] sr (Ab ?_)
 refine Ao (fun h1=>Ae ?_) fun h1=>?_
 ·have c:k<l.length:=by simp at h1;omega
  have i:k<w.length:=om;have ga:=hq k c;have Dg:=A6 (k:=k) om;have a:=u k c;have s:(Adw (l.take k)).length<=1000:=Ai (Adx _) so;generalize l[k]=p at ga a;have g:=Ap8 p.1 p.2;generalize Az3 p.1 p.2=op at*;have e:Avg p= !decide (p.1=p.2):=by unfold Avg;simp
  generalize Adw (l.take k)=z at a s|-;have t:z.length+1<=maxLen/\(z.length+1)*16<=140737488355328:=⟨Ai (show z.length+1<=1001 by omega) dc,by omega⟩;refine Ab (Ar (Aa [3,5,6,7,8] [5,100] (by simp [ga,i]<;>rfl) (Aa [3,5,6,7,8,16] [5,100] sr ?_)))
  refine Ao (fun h2=>?_) fun h2=>Ae ?_
  ·refine Ad (Am 5 sr ?_);refine Ah g func307 ?_;refine Af [3,6,7,8] [100] (by simp [t]<;>rfl) ?_;refine A3 [3,6,7,8] [100] (by simp [Dg]<;>rfl) ?_;rw [if_pos (by rw [e];simpa using h2)]at a;exact⟨(k+1,_,_),c,by simp only;omega,by simp only [a,Ady,Adz,Bf,Ba,Bx];exact AS.le_refl _⟩
  refine A3 [3,6,7,8] [100] (by simp [Dg]<;>rfl) ?_;rw [if_neg (by rw [e];simp at h2;simp [h2]),Eo]at a;exact⟨(k+1,_,_),c,by simp only;omega,by simp only [a];exact AS.le_refl _⟩
 ·refine Bb ?_;have ad:k=l.length:=by simp at h1;omega
  subst ad;simp only [Bl];generalize Adw l=L at*;have ab:=Aqc L om;have j:=Aji qv (Qe L) (by rw [Zv];omega);have f1:=flatP L;have f2:=flatP (Qe L);have l1:=Du L;rw [Zv]at j;refine Ab (Ad (Am 1 sr ?_));refine Apf (d:=100) (v:=qv) ab f1 f2 func308 rfl kr rfl rfl rfl rfl sr sr sr ?_;refine Af [3] [100] sr ?_;refine Ab (Ad (Am 1 sr ?_));refine El j func310 rfl kr rfl rfl rfl sr (fun k o f=>Dk gt f) ?_ fun ch m=>m.elim;rintro r ae ah⟨L2,rfl,hr⟩af;refine⟨fun k f=>L3 f,?_⟩;have pL:=A5 (Kh (Qe L))
  rcases hr with⟨rfl,rfl⟩|⟨rfl,aa,y⟩
  ·refine⟨_,by simp<;>rfl,?_⟩;refine Af [2] [100] sr ?_;exact Aj (Ac (by simp [results293,pL]<;>rfl) rfl)
  ·have n:(A2 L2).take (Kh (Qe L)).length=A2 (Kh (Qe L)):=by rw [<- aa];simp [A2,Ke]
   refine⟨_,by simp<;>rfl,?_⟩;refine Af [2] [100] sr ?_;exact Aj (Ac (by simp [results293,pL,n,y]<;>rfl) rfl)
@[simp]theorem Ajj:Wz prog 262=some (.i64,4):=by kernel_rfl
def mB(l:List Int):List (Int × V):=l.map fun x=>(x,.bool true)
theorem A40(l:List Int)(a:Int):Mr false (.bool false) (Gd a (mB l))=.bool (decide (a∈l)):=by
 induction l with
 |nil=>rfl
 |cons x r ih=>
  simp only [mB,Ct,Gd]at ih|-
  by_cases h:x=a
  ·rw [if_pos h];simp [Mr,h]
  ·rw [if_neg h,ih];congr 1;simp [show¬a=x from fun e=>h e.symm]
def T0(ids:List Int)(p:Int × Int):Bool:=decide (p.1∈ids)&&decide (p.2∈ids)
def M3(l:List (Int × Int))(ids:List Int):List (Int × Int):=(Amj l).filter (T0 ids)
theorem Ajk(l:List (Int × Int))(ids:List Int)(hl:l.length<=1000)(hi:ids.length<=1000):AC prog 267 [.ro 2 (A2 l),.ro 1 (As ids)] (fun r=>r=.ro 2 (A2 (M3 l ids))):=by
 have i:=A0f l hl;have ai:=Zw l;have pl:=A5 l;have hq:=fun(k:Nat)(h:k<ids.length)=>E8 h
 have lq:=A4 ids;have f:∀a,Mr false (.bool false) (Gd a (mB ids.reverse))=.bool (decide (a∈ids)):=fun a=>by rw [A40];congr 1;simp
 unfold M3;generalize Amj l=N at*;have o:=fun(k:Nat)(h:k<N.length)=>H3 h
 have y:=Du N;have af:=fun(k:Nat)(h:k<N.length)=>Tv (T0 ids) h
 have w:∀k,((N.take k).filter (T0 ids)).length<=1000:=fun k=>Ai (Ft _ _) so
 generalize A2 l=lv at*;generalize ag:A2 N=Nv at i o y;generalize As ids=iv at*;refine Ax func267 fun w0 N0=>?_;refine Aa [0,1] [] sr ?_;refine Ab (Ad (Qa .i64 rfl rfl (fun b hb _ =>⟨_,rfl,?_⟩)));refine Af [0,1,5] [] sr ?_;refine Ab (Aa [0,5,12,13,14] [] sr ?_);refine Ar (Br (fun k nx=>⟨[(0,V.ro 2 lv),(5,.mp b .i64 (mB (ids.take k).reverse)),(12,V.ro 1 iv),(13,V.int .i64 iv.length),(14,V.int .i64 k)],[],nx,44⟩) (fun k=>True) ids.length _ trivial (AS.le_refl _) ?_);intro k nx hk hI;refine Aa [0,5,12,13,14,15] [] sr ?_;refine Ab ?_
 refine Ao (fun h1=>Ae ?_) fun h1=>?_
 ·have c:k<ids.length:=by simp at h1;omega
  have g:k<iv.length:=om;have n:=hq k c;have Dg:=A6 (k:=k) om;have m:mB (ids.take (k+1)).reverse=(ids[k],.bool true)::mB (ids.take k).reverse:=by rw [A1 c,List.reverse_append];rfl
  generalize ids[k]=id at n m;refine Ab (Ar (Aa [0,5,7,12,13,14] [] (by simp [n,g]<;>rfl) ?_));refine Ad (Am 2 sr ?_);refine Qm (b:=b) hb rfl rfl rfl sr sr sr rfl Ajj rfl sr ?_;refine Af [0,5,12,13,14] [] sr ?_;refine A3 [0,5,12,13,14] [] (by simp [Dg]<;>rfl) ?_;exact⟨c,trivial,_,by rw [m];exact AS.le_refl _⟩
 ·refine Bb ?_;have j:k=ids.length:=by simp at h1;omega
  rw [j,Bl];generalize mB ids.reverse=mv at*;refine Aa [0,5,8] [] sr ?_;refine Ab (Ab (Ad (Am 1 sr ?_)));refine Ah i func293 ?_;refine Af [5,8,22,23,24] [] sr ?_;refine Fp 8 100 2 368 [5,8,22,23,24] [100] sr sr ?_;refine Ar ?_
  refine Di (fun x:Nat × Nat × Nat=>⟨[(5,.mp b .i64 mv),(8,.sl 100 x.2.1 2 ((N.take x.1).filter (T0 ids)).length),(22,V.ro 2 Nv),(23,V.int .i64 Nv.length),(24,V.int .i64 (x.1:Nat))],[(100,⟨x.2.1,2,368,A2 ((N.take x.1).filter (T0 ids))⟩)],x.2.2,44⟩)
   (fun x=>x.1<=N.length) (fun x=>N.length-x.1) (0,_,_) (B4 _) (AS.le_refl _) ?_
  rintro⟨e,qv,ah⟩ab;simp only at ab|-;refine Aa [5,8,22,23,24,25] [100] sr ?_;refine Ab ?_
  refine Ao (fun h2=>Ae ?_) fun h2=>?_
  ·have c:e<N.length:=by simp at h2;omega
   have g:e<Nv.length:=om;have n:=o e c;have Dg:=A6 (k:=e) om;have d:=af e c;have z:=w e;generalize N[e]=p at n d;have ae:=f p.1;have aa:=f p.2;have s:T0 ids p=(decide (p.1∈ids)&&decide (p.2∈ids)):=rfl;generalize decide (p.1∈ids)=e1 at*;generalize decide (p.2∈ids)=e2 at*;generalize(N.take e).filter (T0 ids)=Lk at d z|-;have ad:Lk.length+1<=maxLen/\(Lk.length+1)*16<=140737488355328:=⟨Ai (show Lk.length+1<=1001 by omega) dc,by omega⟩;refine Ab (Ar (Aa [5,8,10,22,23,24] [10,100] (by simp [n,g]<;>rfl) ?_));refine Aa [5,8,10,22,23,24,37] [10,100] (by simp [ae,aa,-Mr]<;>rfl) ?_
   refine Ao (fun t=>?_) fun t=>Ae ?_
   ·refine A3 [5,8,22,23,24] [100] (by simp [ad]<;>rfl) ?_;refine A3 [5,8,22,23,24] [100] (by simp [Dg]<;>rfl) ?_;rw [if_pos (by rw [s];simpa using t)]at d;exact⟨(e+1,_,_),c,by simp only;omega,by simp only [d,Ady,Adz,Bf,Ba,Bx];exact AS.le_refl _⟩
   refine A3 [5,8,22,23,24] [100] (by simp [Dg]<;>rfl) ?_;rw [if_neg (by rw [s];intro h;rw [h]at t;simp at t),Eo]at d;exact⟨(e+1,_,_),c,by simp only;omega,by simp only [d];exact AS.le_refl _⟩
  ·refine Bb ?_;have j:e=N.length:=by simp at h2;omega
   subst j;simp only [Bl];have u:=A5 (N.filter (T0 ids));refine Aa [4] [100] sr ?_;exact Aj (Ac (by simp [results267,u]<;>rfl) (rfl))
theorem A0g:Rx prog 210 "examboard/blueprint.rows" 4 346 0 3:=by
 intro xs w e
 match xs,e with
 | [a,b,c,d],_ =>show _ =_;kernel_rfl
theorem A0h:Rx prog 212 "examboard/blueprint.rows" 3 346 0 3:=by
 intro xs w d
 match xs,d with
 | [a,b,c],_ =>show _ =_;kernel_rfl
theorem A0i:Rx prog 213 "examboard/blueprint.rows" 3 346 0 3:=by
 intro xs w d
 match xs,d with
 | [a,b,c],_ =>show _ =_;kernel_rfl
theorem A0j:Rx prog 214 "examboard/blueprint.rows" 3 346 0 3:=by
 intro xs w d
 match xs,d with
 | [a,b,c],_ =>show _ =_;kernel_rfl
theorem A0k:Rx prog 216 "examboard/blueprint.rows" 4 346 0 3:=by
 intro xs w e
 match xs,e with
 | [a,b,c,d],_ =>show _ =_;kernel_rfl
theorem A0l:Rx prog 218 "examboard/blueprint.rows" 3 358 0 3:=by
 intro xs w d
 match xs,d with
 | [a,b,c],_ =>show _ =_;kernel_rfl
theorem A0m:Rx prog 220 "examboard/blueprint.rows" 1 364 0 1:=by
 intro xs w c
 match xs,c with
 | [a],_ =>show _ =_;kernel_rfl
theorem A0n:Rx prog 221 "examboard/blueprint.rows" 1 374 0 1:=by
 intro xs w c
 match xs,c with
 | [a],_ =>show _ =_;kernel_rfl
theorem A0o:Rx prog 223 "examboard/blueprint.rows" 0 380 0 0:=by
 intro xs w a
 match xs,a with
 | [],_ =>show _ =_;kernel_rfl
def Le(rs:List Ru)(pool:List Pit)(vars a:Nat)(r:Ru):List Rw:=
 if r.kind=6 then Abt pool vars a r.mn r.mx r.n
 else if r.kind=7 then Abu pool vars r.n
 else if r.kind=8 then Abv rs pool vars r.n
 else if r.kind=9 then Ld pool vars (Afr pool)
 else [⟨Jf pool vars (Ads r),r.mn,r.mx⟩]
theorem A41{a b:Int}(h:Ac9 a b=0):0<=a/\0<=b:=by unfold Ac9 at h;(repeat' split at h)<;>omega
theorem A0p(len:Int)(rs:List Ru)(pool:List Pit)(vars a:Nat)(r:Ru)(h:frOk pool vars a)(i:pool.length<=18)(l:r.fits=true)(c:Ai7 r=0)(j:r.kind=6->a<vars):
  ICQ gv prog (Wh r) "examboard/blueprint.rows" [frV len rs pool vars a] (fun x=>x=.ro 3 (Gv (Le rs pool vars a r))):=by
 unfold Wh Al0 Adf Le
 rcases Ag3 l with e|e|e|e|e|e|e|e|e
 ·have f:r.code.length<9223372036854775807:=by
   unfold Ai7 at c;rw [if_pos e]at c
   split at c
   ·omega
   ·rename_i h2
    have:r.code.length<=24:=by
     have g:Nx r.code=true:=by simpa using h2
     unfold Nx at g;rw [Bk]at g;exact of_decide_eq_true g.1
    omega
  have d:Ads r=fun p=>Je (R4 p.code r.code):=by funext p;unfold Ads;rw [if_pos e]
  simp only [e,if_true,if_false,Int.reduceEq];rw [d];exact⟨210,_,346,_,0,3,.inl rfl,A0g,func346,rfl,by kernel_rfl,(Ahh len rs pool vars a 121 r.v (fun p=>Je (R4 p.code r.code)) r.mn r.mx h (fun p _ =>X7 (args:=[p.v]) (us:=[]) (vs:=[.rp r.v]) (r:=.int .i64 (Je (R4 p.code r.code))) (A77 r p f) func121 kr rfl)).q gv⟩
 ·have d:Ads r=Pit.wo:=by funext p;unfold Ads;rw [if_neg om,if_pos e]
  simp only [e,if_true,if_false,Int.reduceEq];rw [d];have c:=(Zs len rs pool vars a 124 Pit.wo r.mn r.mx h (fun p _ =>X7 (args:=[p.v]) (us:=[]) (vs:=[]) (r:=.int .i64 p.wo) (A78 p) func124 kr rfl)).argsR (args:=[.agg [.int .i64 r.mn,.int .i64 r.mx,.fn 124],frV len rs pool vars a]) (.cons (Bi.agg (.cons (Bi.refl _) (.cons (Bi.refl _) (.cons (Pt 124) .nil)))) (.cons (Bi.refl _) .nil));exact⟨212,_,346,_,0,3,.inl rfl,A0h,func346,rfl,by kernel_rfl,c.q gv⟩
 ·have d:Ads r=Pit.se:=by funext p;unfold Ads;rw [if_neg om,if_neg om,if_pos e]
  simp only [e,if_true,if_false,Int.reduceEq];rw [d];have c:=(Zs len rs pool vars a 125 Pit.se r.mn r.mx h (fun p _ =>X7 (args:=[p.v]) (us:=[]) (vs:=[]) (r:=.int .i64 p.se) (A79 p) func125 kr rfl)).argsR (args:=[.agg [.int .i64 r.mn,.int .i64 r.mx,.fn 125],frV len rs pool vars a]) (.cons (Bi.agg (.cons (Bi.refl _) (.cons (Bi.refl _) (.cons (Pt 125) .nil)))) (.cons (Bi.refl _) .nil));exact⟨213,_,346,_,0,3,.inl rfl,A0i,func346,rfl,by kernel_rfl,c.q gv⟩
 ·have d:Ads r=Pit.pt:=by funext p;unfold Ads;rw [if_neg om,if_neg om,if_neg om,if_pos e]
  simp only [e,if_true,if_false,Int.reduceEq];rw [d];have c:=(Zs len rs pool vars a 126 Pit.pt r.mn r.mx h (fun p _ =>X7 (args:=[p.v]) (us:=[]) (vs:=[]) (r:=.int .i64 p.pt) (A8a p) func126 kr rfl)).argsR (args:=[.agg [.int .i64 r.mn,.int .i64 r.mx,.fn 126],frV len rs pool vars a]) (.cons (Bi.agg (.cons (Bi.refl _) (.cons (Bi.refl _) (.cons (Pt 126) .nil)))) (.cons (Bi.refl _) .nil));exact⟨214,_,346,_,0,3,.inl rfl,A0j,func346,rfl,by kernel_rfl,c.q gv⟩
 ·have d:Ads r=fun p=>Je (decide (p.ky=r.n)):=by funext p;unfold Ads;rw [if_neg om,if_neg om,if_neg om,if_neg Go.om]
  simp only [e,if_true,if_false,Int.reduceEq];rw [d];exact⟨216,_,346,_,0,3,.inl rfl,A0k,func346,rfl,by kernel_rfl,(Ahh len rs pool vars a 127 r.v (fun p=>Je (decide (p.ky=r.n))) r.mn r.mx h (fun p _ =>X7 (args:=[p.v]) (us:=[]) (vs:=[.rp r.v]) (r:=.int .i64 (Je (decide (p.ky=r.n)))) (A8b r p) func127 kr rfl)).q gv⟩
 ·simp only [e,if_true,if_false,Int.reduceEq]
  have k:0<=r.mn/\0<=r.mx:=by
   unfold Ai7 at c;simp only [e,if_true,if_false,Int.reduceEq,or_self]at c
   split at c
   ·omega
   ·exact A41 c
  exact⟨218,_,358,_,0,3,.inl rfl,A0l,func358,rfl,by kernel_rfl,(Az8 len rs pool vars a r.mn r.mx r.n h (j e) k.1 k.2).q gv⟩
 ·simp only [e,if_true,if_false,Int.reduceEq];exact⟨220,_,364,_,0,1,.inl rfl,A0m,func364,rfl,by kernel_rfl,Avc len rs pool vars a r.n h⟩
 ·simp only [e,if_true,if_false,Int.reduceEq];exact⟨221,_,374,_,0,1,.inl rfl,A0n,func374,rfl,by kernel_rfl,Avd len rs pool vars a r.n h⟩
 ·simp only [e,if_true,if_false,Int.reduceEq];exact⟨223,_,380,_,0,0,.inl rfl,A0o,func380,rfl,by kernel_rfl,(A0a len rs pool vars a h i).q gv⟩
theorem Ajl{len:Int}{rs:List Ru}(h:Rf len rs=0):1<=len/\len<=18/\rs.length<=20/\∀r∈rs,r.fits=true/\Ai7 r=0:=by
 unfold Rf at h
 (repeat' split at h)<;>try omega
 rename_i h1 h2;refine⟨by omega,by omega,by omega,fun r c=>?_⟩;have:=Nu h r c;unfold Ag5 at this
 split at this
 ·omega
 ·rename_i a;exact⟨by simpa using a,this⟩
def A0q(pool:List Pit):Int:=match pool with| []=>0|p::_ =>p.m.length
theorem A42{pool:List Pit}{n:Int}(h:Jp pool n=0):Jp pool (A0q pool)=0:=by
 cases pool with
 |nil=>rfl
 |cons p r=>
  have:=(X3 h).2.2 p (Et ..);have e:(p.m.length:Int)=n:=by unfold Kv at this;(repeat' split at this)<;>omega
  simp only [A0q];rw [e];exact h
theorem Aft(len:Int)(rs:List Ru)(pool:List Pit)(en:List (Int × Int))(n:Int)(hs:Rf len rs=0)(hp:Jp pool n=0)(he:en.length<=400):
  Hp gv prog 231 [Pq len rs,.ro 9 (Ce pool),.ro 2 (A2 en)] (fun r=>r=.int .i64 0):=by
 have c:=Vx len rs;rw [hs]at c;have a:=Lz pool (A0q pool);rw [A42 hp]at a;have pr:=C2 rs;have pl:=Ca pool;have le:=Du en;have t:=Dx pool
 have h0:(pool= []/\A0q pool=0)\/∃p,∃h:0<pool.length,pool[0]=p/\A0q pool=p.m.length:=by
  cases pool with
  |nil=>exact .inl ⟨rfl,rfl⟩
  |cons p r=>exact .inr ⟨p,by simp,rfl,rfl⟩
 have z:=fun(k:Nat)(h:k<pool.length)=>Ij h
 unfold Pq at c|-;generalize Ey rs=rv at*;generalize aa:A2 en=ev at*
 rcases h0 with⟨e,j⟩|⟨p,g,o,j⟩
 ·rw [j]at a;have l:(Ce pool).length=0:=by rw [t,e];rfl
  generalize Ce pool=pv at*;refine By func231 fun w0 N0 i=>?_;refine Aa [1,2,3] [3] sr (Ab (Ab (Ad (Am 1 sr ?_))));refine Bq i c func55 ?_;refine Af [1,2,7] [] sr ?_;refine Aa [1,2,7,13] [] sr ?_;refine A7 rfl (fun h1=>absurd h1 sm) (fun h1=>Ae (Aa [1,2,8] [] sr (Ab (Aa [1,2,8,17] [] sr ?_))));refine A7 rfl (fun h2=>absurd h2 (by simp [l])) (fun h2=>Ae (Ab (Ab (Ad (Am 2 sr ?_)))));refine Bq i a func35 ?_;refine Af [2,9] [] sr ?_;refine Aa [2,9,28] [] sr ?_;refine A7 rfl (fun u=>absurd u sm) (fun u=>Ae (Ab (Aa [32] [] sr ?_)));refine A7 rfl (fun y=>absurd y (by simp [le];omega)) fun y=>Ae ?_;exact Aa [6] [] sr (Aj (Ac sr rf))
 ·rw [j]at a;have d:=z 0 g;rw [o]at d;have f:0<(Ce pool).length:=by rw [t];exact g
  have x:(Eb p.m).length=p.m.length:=by simp [Eb]
  generalize Ce pool=pv at*;unfold Pit.v Pit.cs at d;generalize Eb p.m=mv at*;refine By func231 fun w0 N0 i=>?_;refine Aa [1,2,3] [3] sr (Ab (Ab (Ad (Am 1 sr ?_))));refine Bq i c func55 ?_;refine Af [1,2,7] [] sr ?_;refine Aa [1,2,7,13] [] sr ?_;refine A7 rfl (fun h1=>absurd h1 sm) (fun h1=>Ae (Aa [1,2,8] [] sr (Ab (Aa [1,2,8,17] [] sr ?_))))
  refine A7 rfl (fun h2=>?_) (fun h2=>absurd h2 (by simp [f]))
  ·refine A3 [1,2,8] [] (by simp [d,f]<;>rfl) (Ab (Ab (Ad (Am 2 sr ?_))));refine Gt i a func35 rfl kr sm rfl rfl rfl (by simp [x]<;>rfl) sm (by simp [x]<;>rfl) ?_;refine Af [2,9] [] sr ?_;refine Aa [2,9,28] [] sr ?_;refine A7 rfl (fun w=>absurd w sm) (fun w=>Ae (Ab (Aa [32] [] sr ?_)));refine A7 rfl (fun s=>absurd s (by simp [le];omega)) fun s=>Ae ?_;exact Aa [6] [] sr (Aj (Ac sr rf))
def Sr(r:Ru):Nat:=if r.kind=6 then 1 else 0
def Fa:List Ru->Nat
 | []=>0
 |r::t=>Sr r+Fa t
theorem X9:∀(a b:List Ru),Fa (a++b)=Fa a+Fa b
 | [],b=>by simp [Fa]
 |r::t,b=>by rw [Ch,Fa,Fa,X9 t b];omega
theorem Ya:∀(l:List Ru),Fa l<=l.length
 | []=>A9 _
 |r::t=>by have:=Ya t;simp only [Fa,Sr,Ba];split<;>omega
theorem Amk(r:Ru):Je (decide (r.kind=6))=(Sr r:Int):=by unfold Sr Je;by_cases h:r.kind=6<;>simp [h]
def Zx(rs:List Ru)(pool:List Pit)(vars:Nat):Nat->List Ru->List Rw
 |_,[]=>[]
 |a,r::t=>Le rs pool vars a r++Zx rs pool vars (a+Sr r) t
theorem Aml(rs:List Ru)(pool:List Pit)(vars:Nat):∀(a b:List Ru)(c:Nat),Zx rs pool vars c (a++b)=Zx rs pool vars c a++Zx rs pool vars (c+Fa a) b
 | [],b,c=>by simp [Zx,Fa]
 |r::t,b,c=>by rw [Ch,Zx,Zx,Aml rs pool vars t b,C3,Fa,Jb]
theorem A0r(pool:List Pit):(Afr pool).length<=pool.length:=by
 have:=Ty pool [] [];rw [Afr,N3];simp only [Bx]at this;omega
theorem Aaw(rs:List Ru)(pool:List Pit)(vars a:Nat)(r:Ru)(h:pool.length<=18):(Le rs pool vars a r).length<=18:=by
 unfold Le Abt Abu Abv;have:=A0r pool
 repeat' split
 all_goals simp only [Ba,Bx,Aav]
 all_goals omega
theorem Amm(rs:List Ru)(pool:List Pit)(vars:Nat)(h:pool.length<=18):∀(l:List Ru)(a:Nat),(Zx rs pool vars a l).length<=18*l.length
 | [],_ =>by simp [Zx]
 |r::t,a=>by
  have h1:=Amm rs pool vars h t (a+Sr r);have h2:=Aaw rs pool vars a r h;rw [Zx,Bf,Ba];omega
def Afu(len:Int)(rs:List Ru)(pool:List Pit)(vars:Nat)(k:Nat):List Rw:=⟨Jf pool vars fun _ =>1,len,len⟩::Zx rs pool vars pool.length (rs.take k)
def stA(rs:List Ru)(pool:List Pit)(k:Nat):Nat:=pool.length+Fa (rs.take k)
theorem Ad0{rs:List Ru}(pool:List Pit){k:Nat}(h:k<rs.length):stA rs pool (k+1)=stA rs pool k+Sr rs[k]:=by
 unfold stA;rw [A1 h,X9];simp only [Fa];omega
theorem Avi(len:Int){rs:List Ru}(pool:List Pit)(vars:Nat){k:Nat}(h:k<rs.length):Afu len rs pool vars (k+1)=Afu len rs pool vars k++Le rs pool vars (stA rs pool k) rs[k]:=by
 unfold Afu stA;rw [A1 h,Aml];simp [Zx]
theorem Zy(l:List Ru)(k:Nat):Fa (l.take k)<=Fa l:=by
 conv=>rhs;rw [<- Gi k l]
 rw [X9];omega
theorem Amn(len:Int)(rs:List Ru)(pool:List Pit)(vars k:Nat)(h:pool.length<=18):(Afu len rs pool vars k).length<=18*rs.length+1:=by
 unfold Afu;have:=Amm rs pool vars h (rs.take k) pool.length;rw [Ba];rw [Cs]at this;have:min k rs.length<=rs.length:=N5 _ _;omega
theorem Avj(len:Int)(rs:List Ru)(pool:List Pit)(vars:Nat):Afu len rs pool vars 0= [⟨Jf pool vars fun _ =>1,len,len⟩]:=by simp [Afu,Zx]
theorem U1(l:List Int)(x:Int):As (l++[x])=As l++[.int .i64 x]:=by rw [Ps];rfl
def Ajm(pool:List Pit)(k:Nat):List Int:=(pool.take k).map Pit.id
theorem Avk{pool:List Pit}{k:Nat}(h:k<pool.length):Ajm pool (k+1)=Ajm pool k++[pool[k].id]:=Tw _ h
theorem A0s(pool:List Pit)(k:Nat):(Ajm pool k).length<=pool.length:=by unfold Ajm;simp;omega
def Amo(pool:List Pit)(vars:Nat)(e:Int × Int):Rw:=⟨Jf pool vars fun p=>Je (decide (p.id=e.1)||decide (p.id=e.2)),0,1⟩
def Ajn(len:Int)(rs:List Ru)(pool:List Pit)(vars:Nat)(c:List (Int × Int))(k:Nat):List Rw:=Afu len rs pool vars rs.length++(c.take k).map (Amo pool vars)
theorem Avl(len:Int)(rs:List Ru)(pool:List Pit)(vars:Nat){c:List (Int × Int)}{k:Nat}(h:k<c.length):Ajn len rs pool vars c (k+1)=Ajn len rs pool vars c k++[Amo pool vars c[k]]:=by
 unfold Ajn;rw [C3,Tw _ h]
theorem Amp(len:Int)(rs:List Ru)(pool:List Pit)(vars:Nat)(c:List (Int × Int))(k:Nat)(h:pool.length<=18):(Ajn len rs pool vars c k).length<=18*rs.length+1+c.length:=by
 unfold Ajn;have:=Amn len rs pool vars rs.length h;rw [Bf,Eg,Cs];have:min k c.length<=c.length:=N5 _ _;omega
def St(len:Int)(rs:List Ru)(pool:List Pit)(en:List (Int × Int))(vars:Nat):List Rw:=Ajn len rs pool vars (M3 en (pool.map Pit.id)) (M3 en (pool.map Pit.id)).length
theorem Aqd(len:Int)(rs:List Ru)(pool:List Pit)(en:List (Int × Int))(hs:Rf len rs=0)(t:pool.length<=18)(he:en.length<=400):
  Hp gv prog 232 [frV len rs pool (pool.length+Fa rs:Nat) (pool.length:Nat),.ro 2 (A2 en)] (fun r=>r=.ro 3 (Gv (St len rs pool en (pool.length+Fa rs)))):=by
 obtain⟨_,_,bb,ak⟩:=Ajl hs;have ad:=Ap7 len rs bb (fun r hr=>(ak r hr).1);have bi:=Ya rs;have af:∀k,frOk pool (pool.length+Fa rs) (stA rs pool k):=fun k=>⟨by omega,by omega,by have:=Zy rs k;unfold stA;omega⟩
 have w:=fun(st:Nat)(hk:frOk pool (pool.length+Fa rs) st)=>Wk len rs pool (pool.length+Fa rs) st 264 [] [] (fun _ =>1) len len hk.le hk.small (fun p _ =>X7 (args:=[p.v]) (us:=[]) (vs:=[]) (r:=.int .i64 1) (A8e p) func264 kr rfl)
 have ab:=fun(st:Nat)(hk:frOk pool (pool.length+Fa rs) st)(a b:Int)=>Wk len rs pool (pool.length+Fa rs) st 268 [] [.rp (.agg [.int .i64 a,.int .i64 b])] (fun p=>Je (decide (p.id=a)||decide (p.id=b))) 0 1 hk.le hk.small (fun p _ =>X7 (args:=[p.v]) (us:=[]) (vs:=[.rp (.agg [.int .i64 a,.int .i64 b])]) (r:=.int .i64 (Je (decide (p.id=a)||decide (p.id=b)))) (A8h a b p) func268 kr rfl)
 have o:=(w pool.length ⟨by omega,by omega,by omega⟩).argsR (args:=[frV len rs pool (pool.length+Fa rs:Nat) (pool.length:Nat),.fn 264,.int .i64 len,.int .i64 len]) (.cons (Bi.refl _) (.cons (Pt 264) (.cons (Bi.refl _) (.cons (Bi.refl _) .nil))))
 have aa:=fun(k:Nat)(h:k<rs.length)=>A0p len rs pool (pool.length+Fa rs) (stA rs pool k) rs[k] (af k) t (ak _ (Az h)).1 (ak _ (Az h)).2 (fun e=>by
  have h1:=Ad0 pool h;have h2:=Zy rs (k+1);unfold Sr at h1;rw [if_pos e]at h1;unfold stA at h1|-;omega)
 have bl:(M3 en (pool.map Pit.id)).length<=400:=by unfold M3;exact Ai (Ft _ _) (Ai (Zw en) he)
 have an:=Ajk en (pool.map Pit.id) om so;have bd:=fun(k:Nat)(h:k<rs.length)=>Avi len pool (pool.length+Fa rs) h
 have a3:=fun(k:Nat)(h:k<rs.length)=>Ad0 pool h
 have a0:=fun(k:Nat)=>Amn len rs pool (pool.length+Fa rs) k t
 have ar:=Avj len rs pool (pool.length+Fa rs);have az:stA rs pool 0=pool.length:=by simp [stA,Fa]
 have ay:=fun(k:Nat)(h:k<pool.length)=>Avk h
 have ba:=A0s pool;have a4:Ajm pool pool.length=pool.map Pit.id:=by simp [Ajm]
 have be:=fun(k:Nat)(h:k<(M3 en (pool.map Pit.id)).length)=>Avl len rs pool (pool.length+Fa rs) h
 have ax:=fun(k:Nat)=>Amp len rs pool (pool.length+Fa rs) (M3 en (pool.map Pit.id)) k t
 have av:Ajn len rs pool (pool.length+Fa rs) (M3 en (pool.map Pit.id)) 0=Afu len rs pool (pool.length+Fa rs) rs.length:=by simp [Ajn]
 have ai:=fun(e:Int × Int)=>ab (stA rs pool rs.length) (af rs.length) e.1 e.2
 change∀e,AC _ _ _ (fun r=>r=(Amo pool (pool.length+Fa rs) e).v)at ai;have a9:=fun(e:Int × Int)=>Ag (Amo pool (pool.length+Fa rs) e).coef
 unfold St;generalize M3 en (pool.map Pit.id)=N at*;generalize pool.map Pit.id=il at*;generalize Afu len rs pool (pool.length+Fa rs)=i at*;generalize Ajn len rs pool (pool.length+Fa rs) N=m at*;generalize stA rs pool=j at*;have a7:=fun(k:Nat)(h:k<N.length)=>H3 h
 have b0:=Du N;have a8:=fun(k:Nat)(h:k<pool.length)=>Ij h
 have bt:=Dx pool;have a1:=fun(k:Nat)(h:k<rs.length)=>Re h
 have bs:=Pp rs;have bc:=fun(k:Nat)(h:k<rs.length)=>Au7 h
 have bk:=Ahf rs;have pl:=Ca pool;have pr:=C2 rs;have pe:=A5 en;have pN:=A5 N;have b2:((pool.length+Fa rs:Nat):Int)=(pool.length+Fa rs:Nat):=rfl;generalize bz:pool.length+Fa rs=vars at*;simp only [Qr]at w ab o aa ai;rw [Qr];unfold Pq at ad;generalize bw:A2 en=ev at*;generalize b1:A2 N=Nv at*;generalize bu:Ce pool=pv at*;generalize Ey rs=rv at*;generalize Rh rs=dv at*;have bm:=Ag (Jf pool vars fun _ =>1);rw [Az7]at o;have ao:Gv (i 0)= [.agg [.ro 1 (As (Jf pool vars fun _ =>1)),.int .i64 len,.int .i64 len]]:=by rw [ar];rfl
 have al:(i 0).length=1:=by rw [ar];rfl
 generalize As (Jf pool vars fun _ =>1)=r0 at*;refine By func232 fun w0 N0 hG=>?_;refine Aa [1,2] [2] sr (Aa [1,2,5] [2] sr (Ab (Ad (Am 8 sr ?_))));refine Ah o func265 ?_;refine Af [1,2,6] [2,24] sr ?_;refine Ab (Ab (Ad (Am 2 sr ?_)));refine Ah ad func266 ?_;refine Af [1,2,6,27,28,29] [2,24] sr ?_;refine Ar ?_
 refine Di (fun x:Nat × Nat × Nat=>⟨[(1,V.ro 2 ev),(2,V.bp 2 (0) 5 0 0),(6,.sl 24 x.2.1 3 (i x.1).length),(27,.ro 1 dv),(28,.int .i64 dv.length),(29,V.int .i64 (x.1:Nat))],[(2,{ v:=0,sz:=5,ty:=333,es:=[V.agg [V.int .i64 len,V.ro 5 rv,V.ro 9 pv,V.int .i64 vars,V.int .i64 (j x.1:Nat)]]}),(24,⟨x.2.1,3,339,Gv (i x.1)⟩)],x.2.2,83⟩)
  (fun x=>x.1<=rs.length) (fun x=>rs.length-x.1) (0,_,_) (B4 _) (by simp only [ao,al,az];exact AS.le_refl _) ?_
 rintro⟨k,qv,nx⟩hk;simp only at hk|-;refine Aa [1,2,6,27,28,29,30] [2,24] sr (Ab ?_)
 refine Ao (fun h1=>Ae ?_) fun h1=>?_
 ·have c:k<rs.length:=by simp at h1;omega
  have f:k<rv.length:=om;have am:k<dv.length:=om;have bg:(k:Int).toNat=k:=rfl;have ga:=a1 k c;have gd:=bc k c;have Dg:=A6 (k:=k) om;have g:=bd k c;have bv:=a3 k c;have bq:=a0 k;have ae:=af k;have cI:=aa k c;have dl:=Aaw rs pool vars (j k) rs[k] t;have h6:=Amk rs[k];rw [show rs[k].v=.agg [.int .i64 rs[k].kind,.int .i64 rs[k].n,.int .i64 rs[k].mn,.int .i64 rs[k].mx,.str rs[k].code]from rfl]at ga;have y:=Tp (decide (rs[k].kind=6));rw [h6]at y;have bj:Sr rs[k]<=1:=by unfold Sr;split<;>omega
  have a5:IntKind.i64.wrap ((j k:Int)+(Sr rs[k]:Int))=(j (k+1):Nat):=by rw [Bh om (by have:=ae.lt;have:=ae.small;omega)];omega
  unfold Wh at cI gd;have pd:=Gg (Le rs pool vars (j k) rs[k]);have l:(i k).length+(Le rs pool vars (j k) rs[k]).length<=maxLen/\((i k).length+(Le rs pool vars (j k) rs[k]).length)*40<=140737488355328:=⟨Ai (show(i k).length+(Le rs pool vars (j k) rs[k]).length<=400 by omega) dc,by omega⟩;have ag:Gv (i (k+1))=Gv (i k)++Gv (Le rs pool vars (j k) rs[k]):=by rw [g,Adu]
  have ah:(i (k+1)).length=(i k).length+(Le rs pool vars (j k) rs[k]).length:=by rw [g,Bf]
  generalize Le rs pool vars (j k) rs[k]=dr at*;generalize Al0 rs[k]=dt at*;generalize Adf rs[k]=dc at*;generalize rs[k].kind=kd at*;generalize Sr rs[k]=sx at*;refine Ab (Ar (Aa [1,2,6,7,8,27,28,29] [2,24] (by simp [gd,am]<;>rfl) (Ab (Ad (Am 3 sr ?_)))));refine Agu hG cI (by simp) rfl rfl sr sr (by simp) sr ?_;refine Af [1,2,6,7,27,28,29] [2,24] (by simp [M2,l]<;>rfl) ?_;refine C5 [(0,[]),(2,[]),(3,[]),(5,[]),(1,[]),(4,[]),(6,[]),(7,[]),(8,[]),(9,[]),(10,[]),(11,[]),(12,[]),(13,[])] Ds kr ?_;refine Cf 10 (by simp [ga,f]<;>rfl) ?_;refine Bu (fun hg=>y) func122 rfl kr rfl rfl sr rfl rfl sr sm sr ?_;refine C6 [1,2,6,27,28,29] [2,24] (by simp [a5]<;>rfl) ?_;refine A3 [1,2,6,27,28,29] [2,24] (by simp [Dg]<;>rfl) ?_;exact⟨(k+1,_,_),c,by simp only;omega,by simp only [ag,ah];exact AS.le_refl _⟩
 ·refine Bb ?_;have s:k=rs.length:=by simp at h1;omega
  subst s;refine Aa [1,2,6,9] [2,24] sr (Ab (Aa [1,2,6,9,54,55,56] [2,24] sr ?_));refine Fp 9 101 1 3 [1,2,6,9,54,55,56] [2,24,101] sr sr ?_;refine Ar ?_
  refine Di (fun x:Nat × Nat × Nat=>⟨[(1,V.ro 2 ev),(2,V.bp 2 (0) 5 0 0),(6,.sl 24 qv 3 (i rs.length).length),(9,.sl 101 x.2.1 1 (Ajm pool x.1).length),(54,.ro 9 pv),(55,.int .i64 pv.length),(56,V.int .i64 (x.1:Nat))],[(2,{ v:=0,sz:=5,ty:=333,es:=[V.agg [V.int .i64 len,V.ro 5 rv,V.ro 9 pv,V.int .i64 vars,V.int .i64 (j rs.length:Nat)]]}),(24,⟨qv,3,339,Gv (i rs.length)⟩),(101,⟨x.2.1,1,3,As (Ajm pool x.1)⟩)],x.2.2,83⟩)
   (fun x=>x.1<=pool.length) (fun x=>pool.length-x.1) (0,_,_) (B4 _) (AS.le_refl _) ?_
  rintro⟨u,bx,br⟩a2;simp only at a2|-;refine Aa [1,2,6,9,54,55,56,57] [2,24,101] sr (Ab ?_)
  refine Ao (fun h2=>Ae ?_) fun h2=>?_
  ·have c:u<pool.length:=by simp at h2;omega
   have f:u<pv.length:=om;have ga:=a8 u c;have Dg:=A6 (k:=u) om;have g:=ay u c;have aq:=ba u;rw [Ge]at ga;generalize Ajm pool u=Lk at g aq|-;have l:Lk.length+1<=maxLen/\(Lk.length+1)*8<=140737488355328:=⟨Ai (show Lk.length+1<=19 by omega) dc,by omega⟩;refine Ab (Ar (Aa [1,2,6,9,11,54,55,56] [2,11,24,101] (by simp [ga,f]<;>rfl) (A3 [1,2,6,9,54,55,56] [2,24,101] (by simp [l]<;>rfl) (A3 [1,2,6,9,54,55,56] [2,24,101] (by simp [Dg]<;>rfl) ?_))));exact⟨(u+1,_,_),c,by simp only;omega,by simp only [g,U1,Bf,Ba,Bx];exact AS.le_refl _⟩
  ·refine Bb ?_;have s:u=pool.length:=by simp at h2;omega
   subst s;rw [a4];have pi:=Ag il;have a6:=A4 il;generalize bn:As il=iv at*;refine Ab (Ab (Ad (Am 2 sr ?_)));have aj:=Fo (Gg (i rs.length));refine I7 101 [2,6,66,67] [2,24] (by simp [aj,pi,a6]<;>rfl) ?_;refine Ah an func267 ?_;refine Af [2,6,68,69,70] [2,24] sr ?_;refine Ar ?_
   refine Di (fun x:Nat × Nat × Nat=>⟨[(2,V.bp 2 (0) 5 0 0),(6,.sl 24 x.2.1 3 (m x.1).length),(68,.ro 2 Nv),(69,.int .i64 Nv.length),(70,V.int .i64 (x.1:Nat))],[(2,{ v:=0,sz:=5,ty:=333,es:=[V.agg [V.int .i64 len,V.ro 5 rv,V.ro 9 pv,V.int .i64 vars,V.int .i64 (j rs.length:Nat)]]}),(24,⟨x.2.1,3,339,Gv (m x.1)⟩)],x.2.2,83⟩)
    (fun x=>x.1<=N.length) (fun x=>N.length-x.1) (0,_,_) (B4 _) (by simp only [av];exact AS.le_refl _) ?_
   rintro⟨d,bh,bo⟩aw;simp only at aw|-;refine Aa [2,6,68,69,70,71] [2,24] sr (Ab ?_)
   refine Ao (fun h3=>Ae ?_) fun h3=>?_
   ·have c:d<N.length:=by simp at h3;omega
    have f:d<Nv.length:=om;have ga:=a7 d c;have Dg:=A6 (k:=d) om;have g:=be d c;have bf:=ax d;have z:=ai N[d];have pc:=a9 N[d];rw [show(Amo pool vars N[d]).v=.agg [.ro 1 (As (Amo pool vars N[d]).coef),.int .i64 0,.int .i64 1]from rfl]at z;have ag:Gv (m (d+1))=Gv (m d)++[.agg [.ro 1 (As (Amo pool vars N[d]).coef),.int .i64 0,.int .i64 1]]:=by rw [g,Adu];rfl
    have ah:(m (d+1)).length=(m d).length+1:=by rw [g,Bf];rfl
    have l:(m d).length+1<=maxLen/\((m d).length+1)*40<=140737488355328:=⟨Ai (show(m d).length+1<=800 by omega) dc,by omega⟩;generalize As (Amo pool vars N[d]).coef=cv at*;generalize N[d]=e3 at*;refine Ab (Ar (Aa [2,6,13,68,69,70] [2,13,24] (by simp [ga,f]<;>rfl) ?_));have aj:=Fo (Gg (m d));refine Bp 13 [2,6,13,68,69,70] [2,24] (by simp [aj]<;>rfl) (Aa [2,6,14,68,69,70] [2,24] sr (Ad (Am 3 sr ?_)));refine Ah z func265 ?_;refine Af [2,6,68,69,70] [2,24] (by simp [l]<;>rfl) ?_;refine A3 [2,6,68,69,70] [2,24] (by simp [Dg]<;>rfl) ?_;exact⟨(d+1,_,_),c,by simp only;omega,by simp only [ag,ah];exact AS.le_refl _⟩
   ·refine Bb ?_;have s:d=N.length:=by simp at h3;omega
    subst s;have au:=Gg (m N.length);refine Aa [4] [24] sr ?_;exact Aj (Ac (by simp [results232,au]<;>rfl) (rfl))
def A43(rs:List Ru)(p:Pit):Int:=if Tx rs 7 p.id=true then 1 else if Tx rs 8 p.id=true then 0 else -1
def O2(rs:List Ru)(pool:List Pit):List Int:=pool.map (A43 rs)++List.replicate (Fa rs) (-1)
theorem Amq(rs:List Ru)(pool:List Pit):(O2 rs pool).length=pool.length+Fa rs:=by simp [O2]
theorem A44{rs:List Ru}{pool:List Pit}{k:Nat}(h:k<pool.length):(As (O2 rs pool))[k]? =some (.int .i64 (A43 rs pool[k])):=by
 simp only [As,O2,Cr,O5];rw [Bn (by simpa using h)];simp [h]
theorem A45{rs:List Ru}{pool:List Pit}{k:Nat}(h:pool.length<=k)(h2:k<pool.length+Fa rs):(As (O2 rs pool))[k]? =some (.int .i64 (-1)):=by
 simp only [As,O2,Cr,O5];rw [Be (by simpa using h)];simp [show k-pool.length<Fa rs by omega]
def Amr(len:Int)(rs:List Ru)(pool:List Pit)(en:List (Int × Int)):Int:=
 if 24<pool.length+Fa rs\/60<(St len rs pool en (pool.length+Fa rs)).length then 5 else 0
def Ams(a:List Int)(c:List Rw)(f:V):V:=.agg [.ro 1 (As a),.ro 3 (Gv c),f]
def Ash:V:=.agg [.nils,.nils,.nils]
def Wm(a:List Int)(rs:List Ru):List Int:=a++List.replicate (Fa rs) 0
def Aho(e:Int)(c:List Int)(d:List Rw)(f:List Int)(r:V)(a:List (Nat × Ob)):Prop:=
 if e=0 then∃v,r=.tup [Ams c d (.sl 78 v 1 f.length),.int .i64 0]/\a= [(78,⟨v,1,3,As f⟩)]
 else r=.tup [Ash,.int .i64 e]/\a= []
theorem Ajo(len:Int)(rs:List Ru)(pool:List Pit)(en:List (Int × Int))(a:List Int)(n:Int)(hs:Rf len rs=0)(hp:Jp pool n=0)(aw:pool.length<=18)(he:en.length<=400)
  (bk:a.length=pool.length)(aq:∀v∈a,-1000000<=v/\v<=1000000):
  U9 gv prog 200 [Pq len rs,.ro 9 (Ce pool),.ro 2 (A2 en),.ro 1 (As a)] [] (Aho (Amr len rs pool en) (Wm a rs) (St len rs pool en (pool.length+Fa rs)) (O2 rs pool)):=by
 have u:=Aft len rs pool en n hs hp he;have z:=Aqd len rs pool en hs aw he;have ab:=fun(kd:Int)(st:Int)(n:Int)=>Ahg len rs pool (pool.length+Fa rs:Nat) st kd n
 have bb:=Ya rs;have bs:rs.length<=20:=(Ajl hs).2.2.1;have ai:=Amq rs pool;have aj:=fun(k:Nat)(h:k<pool.length)=>A44 (rs:=rs) h
 have am:=fun(k:Nat)(h:pool.length<=k)(h2:k<pool.length+Fa rs)=>A45 h h2
 have a6:=fun(k:Nat)(h:k<pool.length)=>Ij h
 have a1:=Dx pool;have av:=fun(k:Nat)(h:k<rs.length)=>Re h
 have bh:=Pp rs;have ba:=fun(k:Nat)(h:k<a.length)=>E8 h
 have bd:=A4 a;have pl:=Ca pool;have pr:=C2 rs;have pe:=A5 en;have a7:=Ag a;have au:stA rs pool 0=pool.length:=by simp [stA,Fa]
 have a5:stA rs pool rs.length=pool.length+Fa rs:=by simp [stA]
 unfold Pq at u|-;simp only [Qr]at z ab;unfold Amr Aho Ams Wm;generalize bq:St len rs pool en (pool.length+Fa rs)=cr at*;have bo:=Gg cr;have aa:=M2 cr;have a9:(As (O2 rs pool)).length=pool.length+Fa rs:=by rw [A4,ai]
 have az:=Ag (O2 rs pool);rw [ai];generalize As (O2 rs pool)=t at*;have ar:As (a++List.replicate (Fa rs) 0)=As a++List.replicate (Fa rs) (.int .i64 0):=by rw [Ps];congr 1;simp [As]
 rw [ar];generalize Gv cr=cv,As a=s at*;generalize bn:A2 en=ev at*;generalize bj:Ce pool=pv at*;generalize Ey rs=rv at*;refine Hr func200 fun w0 N0 f hG=>?_;refine Aa [1,2,3,4,8] [4,8] sr (Ab (Ab (Ad (Am 3 sr ?_))));refine Gt hG u func231 rfl kr (by simp [pl,pr,pe]) rfl rfl rfl sr sm sr ?_;refine Af [1,2,3,4,8,10] [4,8] sr ?_;refine Aa [1,2,3,4,8,10,24] [4,8] sr ?_;refine A7 rfl (fun h1=>absurd h1 sm) (fun h1=>Ae (Ab (Aa [1,2,3,4,8,31] [4,8] sr ?_)));refine A7 rfl (fun h2=>absurd h2 so) (fun h2=>Ae (Ab (Aa [1,2,3,4,8,33,34,35] [4,8] sr (Ar (Br (fun k nx=>⟨[(1,V.ro 9 pv),(2,V.ro 2 ev),(3,V.ro 1 s),(4,V.bp 4 f 2 0 0),(8,V.bp 8 (f+1) 3 0 0),(33,V.ro 1 s),(34,V.int .i64 s.length),(35,V.int .i64 k)],[(4,{ v:=f,sz:=2,ty:=24,es:=[V.agg [V.int .i64 len,V.ro 5 rv]]}),(8,{ v:=f+1,sz:=3,ty:=257,es:=[.agg [.nils,.nils,.nils]]})],nx,131⟩) (fun k=>True) a.length _ trivial (AS.le_refl _) ?_)))));intro k nx hk hI;refine Aa [1,2,3,4,8,33,34,35,36] [4,8] sr (Ab ?_)
 refine Ao (fun h3=>Ae ?_) fun h3=>?_
 ·have c:k<a.length:=by simp at h3;omega
  have j:k<s.length:=om;have y:=ba k c;have Dg:=A6 (k:=k) om;have a2:=aq _ (Az c);generalize a[k]=v at y a2;refine Ab (Ar (Aa [1,2,3,4,8,12,33,34,35] [4,8] (by simp [y,j]<;>rfl) (Aa [1,2,3,4,8,33,34,35,44] [4,8] sr ?_)));refine A7 rfl (fun h4=>absurd h4 so) (fun h4=>Ae (A3 [1,2,3,4,8,33,34,35] [4,8] (by simp [Dg]<;>rfl) ?_));exact⟨c,trivial,_,AS.le_refl _⟩
 ·refine Bb ?_;refine Aa [1,2,3,4,8,13] [4,8,13] sr (Ab (Aa [1,2,3,8,13,55,56,57] [8,13] sr (Ar (Br (fun k e=>⟨[(1,V.ro 9 pv),(2,V.ro 2 ev),(3,V.ro 1 s),(8,V.bp 8 (f+1) 3 0 0),(13,V.bp 13 (nx+1+7) 5 0 0),(55,V.ro 5 rv),(56,V.int .i64 rv.length),(57,V.int .i64 k)],[(8,{ v:=f+1,sz:=3,ty:=257,es:=[.agg [.nils,.nils,.nils]]}),(13,{ v:=nx+1+7,sz:=5,ty:=333,es:=[V.agg [V.int IntKind.i64 len,V.ro 5 rv,V.ro 9 pv,V.int IntKind.i64 (stA rs pool k:Nat),V.int IntKind.i64 (pool.length:Nat)]]})],e,131⟩) (fun k=>True) rs.length _ trivial (by simp only [a1,au];exact AS.le_refl _) ?_))));intro g e bg bi;refine Aa [1,2,3,8,13,55,56,57,58] [8,13] sr (Ab ?_)
  refine Ao (fun h5=>Ae ?_) fun h5=>?_
  ·have c:g<rs.length:=by simp at h5;omega
   have j:g<rv.length:=om;have y:=av g c;have Dg:=A6 (k:=g) om;have bl:=Ad0 pool c;have h6:=Amk rs[g];rw [show rs[g].v=.agg [.int .i64 rs[g].kind,.int .i64 rs[g].n,.int .i64 rs[g].mn,.int .i64 rs[g].mx,.str rs[g].code]from rfl]at y;have w:=Tp (decide (rs[g].kind=6));rw [h6]at w;have bc:Sr rs[g]<=1:=by unfold Sr;split<;>omega
   have bf:=Zy rs g;have a4:IntKind.i64.wrap ((stA rs pool g:Int)+(Sr rs[g]:Int))=(stA rs pool (g+1):Nat):=by rw [Bh om (by unfold stA;omega)];omega
   generalize Sr rs[g]=sx,rs[g].kind=kd at*;refine Ab (Ar (Aa [1,2,3,8,13,15,55,56,57] [8,13,15] (by simp [y,j]<;>rfl) ?_));refine C5 [(0,[]),(2,[]),(1,[]),(3,[]),(4,[]),(5,[]),(6,[]),(7,[]),(8,[])] Ds kr ?_;refine Cf 5 sr ?_;refine Bu (fun hg=>w) func122 rfl kr rfl rfl sr rfl rfl sr sm sr ?_;refine C6 [1,2,3,8,13,55,56,57] [8,13] (by simp [a4]<;>rfl) ?_;refine A3 [1,2,3,8,13,55,56,57] [8,13] (by simp [Dg]<;>rfl) ?_;exact⟨c,trivial,_,AS.le_refl _⟩
  ·refine Bb ?_;have ae:g=rs.length:=by simp at h5;omega
   rw [ae,a5];generalize br:pool.length+Fa rs=vars at*;have ak:(vars:Int)<=9223372036854775807:=om;have ah:8*(vars:Int)<=281474976710656:=om;refine Ab (Abk (.take 0 [] (.take 4 [] (.take 6 [] (.take 1 [72,78,16] (.take 3 [72,78,16] (.take 5 [] (.take 7 [72,78,16] (.alt 2 (.alt 8 (.take 9 [] (.take 10 [] (.take 11 [] .done))) (.alt 10 (.take 8 [] (.take 9 [] (.take 11 [] .done))) .stop)) (.alt 8 (.alt 2 (.take 9 [] (.take 10 [] (.take 11 [] .done))) (.alt 10 (.take 2 [] (.take 9 [] (.take 11 [] .done))) .stop)) (.alt 10 (.alt 2 (.take 8 [] (.take 9 [] (.take 11 [] .done))) (.alt 8 (.take 2 [] (.take 9 [] (.take 11 [] .done))) .stop)) .stop)))))))))) Ds kr ?_);refine Rv sr ?_;refine Rv sr ?_;refine Rv sr ?_;refine Rv sr ?_;refine Rv (by simp [ak,ah]<;>rfl) ?_;refine Aub hG (fun hg=>z) func232 rfl kr rfl rfl sr rfl rfl sr (by simp [pl,pr,pe]) sr ?_;refine Rt (L:=[1,3,8,13,16]) (M:=[8,13,72,78,16]) (by simp [ak,ah]<;>rfl) ?_;intro T hT;have a3:=(show T=_ by simpa using hT);subst a3;refine Ab (Aa [1,3,8,13,16,88] [8,13,72,78,16] (by simp [aa]<;>rfl) ?_)
   refine Ao (fun h6=>?_) fun h6=>Ae ?_
   ·refine Aa [8,9] [8] sr ?_;have hE:24<vars\/60<cr.length:=by simp [aa]at h6;omega
    exact C1 f (Dr (A8 _ _) sr (outs0:=[]) (by rw [if_pos hE,if_neg Go.dc];exact⟨rfl,rfl⟩) (fun k o hk=>by cases hk))
   have hE:¬(24<vars\/60<cr.length):=by simp [aa]at h6;omega
   have ay:s.length<=vars:=om;refine Ab (Ad (Am 3 sr ?_));refine Aua (te:=3) rfl rfl kr kr (by simp [ay]<;>rfl) ?_;refine Af [1,8,13,16] [8,13,72,78,16] sr ?_;refine Ab (Aa [1,8,13,16,96,97] [8,13,72,78,16] sr (Ar (Br (fun k ag=>⟨[(1,V.ro 9 pv),(8,V.bp 8 (f+1) 3 0 0),(13,V.bp 13 (nx+1+7) 5 0 0),(16,V.bp 16 (e+1+10) 3 0 0),(96,V.int .i64 vars),(97,V.int .i64 k)],[(8,{ v:=f+1,sz:=3,ty:=257,es:=[.agg [.nils,.nils,.nils]]}),(13,{ v:=nx+1+7,sz:=5,ty:=333,es:=[V.agg [V.int IntKind.i64 len,V.ro 5 rv,V.ro 9 pv,V.int IntKind.i64 vars,V.int IntKind.i64 (pool.length:Nat)]]}),(72,{ v:=e+1+2,sz:=1,ty:=3,es:=s++List.replicate (vars-s.length) (V.int IntKind.i64 0)}),(78,{ v:=e+1+8,sz:=1,ty:=3,es:=Fk t (.int .i64 0) k}),(16,{ v:=e+1+10,sz:=3,ty:=257,es:=[V.agg [V.sl 72 (e+1+2) 1 vars,V.ro 3 cv,V.sl 78 (e+1+8) 1 vars]]})],ag,131⟩) (fun k=>True) vars _ trivial (by rw [Ik,a9];exact AS.le_refl _) ?_)));intro d ag be bm;have af:=Jk t (.int .i64 0) d om;refine Aa [1,8,13,16,96,97,98] [8,13,72,78,16] sr (Ab ?_)
   refine Ao (fun h7=>Ae ?_) fun h7=>?_
   ·have c:d<vars:=by simp at h7;omega
    have m:d<t.length:=om;have Dg:=A6 (k:=d) om;have i:=fun(x:V)(hx:t[d]? =some x)=>Jm t (.int .i64 0) d m hx
    have al:G8 (Fk t (.int .i64 0) d) d=some (.int .i64 0):=Jl t _ d m;generalize Fk t (.int .i64 0) d=row at al i af|-;have ao:∀x,G8 (row.set d x) d=some x:=fun x=>by rw [C0];simp [af,m]
    refine Ab (Ar (Aa [1,8,13,16,17,96,97] [8,13,72,78,16] sr (Aa [1,8,13,16,17,96,97] [8,13,72,78,16] (by simp [al,c]<;>rfl) (Ab (Aa [1,8,13,16,17,96,97,107] [8,13,72,78,16] sr ?_)))))
    refine Ao (fun h8=>?_) fun h8=>Ae ?_
    ·refine Bb ?_;refine A3 [1,8,13,16,96,97] [8,13,72,78,16] (by simp [i _ (am d (by simp at h8;omega) c),Dg]<;>rfl) ?_;exact⟨c,trivial,_,AS.le_refl _⟩
    have an:d<pool.length:=by simp at h8;omega
    have j:d<pv.length:=om;have y:=a6 d an;have r:=aj d an;have l:A43 rs pool[d]=if Tx rs 7 pool[d].id=true then 1 else if Tx rs 8 pool[d].id=true then 0 else -1:=rfl
    rw [Ge]at y;generalize A43 rs pool[d]=fp,pool[d].id=id at*;refine Aa [1,8,13,16,17,18,96,97] [8,13,72,78,16] (by simp [y,j]<;>rfl) (Ar (Ab (Ad (Am 2 sr ?_))));refine Gt hG (ab 7 (pool.length:Nat) id) func233 rfl kr (by simp [pl,pr]) rfl rfl rfl sr (by simp [pl,pr]) sr ?_;refine Af [1,8,13,16,17,18,96,97,113] [8,13,72,78,16] sr ?_
    refine Ao (fun h9=>?_) fun h9=>?_
    ·rw [if_pos (by simpa using h9)]at l;subst l;refine A3 [1,8,13,16,96,97] [8,13,72,78,16] (by simp [ao,c]<;>rfl) (A3 [1,8,13,16,96,97] [8,13,72,78,16] (by simp [i _ r,Dg]<;>rfl) ?_);exact⟨c,trivial,_,AS.le_refl _⟩
    ·rw [if_neg (by simpa using h9)]at l;refine Ab (Ad (Am 2 sr ?_));refine Gt hG (ab 8 (pool.length:Nat) id) func233 rfl kr (by simp [pl,pr]) rfl rfl rfl sr (by simp [pl,pr]) sr ?_;refine Af [1,8,13,16,17,96,97,121] [8,13,72,78,16] sr ?_
     refine Ao (fun ad=>?_) fun ad=>Ae ?_
     ·rw [if_pos (by simpa using ad)]at l;subst l;refine A3 [1,8,13,16,96,97] [8,13,72,78,16] (by simp [ao,c]<;>rfl) (A3 [1,8,13,16,96,97] [8,13,72,78,16] (by simp [i _ r,Dg]<;>rfl) ?_);exact⟨c,trivial,_,AS.le_refl _⟩
     rw [if_neg (by simpa using ad)]at l;subst l;refine A3 [1,8,13,16,96,97] [8,13,72,78,16] (by simp [i _ r,Dg]<;>rfl) ?_;exact⟨c,trivial,_,AS.le_refl _⟩
   ·refine Bb ?_;have ae:d=vars:=by simp at h7;omega
    rw [ae,Ka t (.int .i64 0) vars Go.om];have a0:vars-s.length=Fa rs:=om;rw [a0];refine Aa [8,9] [8,72,78] sr ?_;have a8:=Fo az;have ax:s.length+Fa rs=vars:=om;refine Bp 72 [8,9] [8,78] (by simp [a7,a8,ax]<;>rfl) ?_;exact C1 f (Dr (A8 _ _) sr (outs0:=[(78,⟨e+1+8,1,3,t⟩)]) (by rw [if_neg hE,if_pos rfl];exact⟨e+1+8,rfl,rfl⟩) (fun k o hk=>Dk gt hk))
theorem Qg{α:Type}{l:List α}{f:α->Bool}{k:Nat}(h:k<l.length)(a:f l[k]=true):l.any f=true:=Dz.2 ⟨_,Az h,a⟩
theorem M4{α:Type}{l:List α}{f:α->Bool}{k:Nat}(h:k<l.length)(a:(l.take k).any f=false)(c:f l[k]=false):(l.take (k+1)).any f=false:=by
 rw [A1 h,List.any_append,a];simp [c]
def inB(n m:Int):Bool:=decide (-m<=n)&&decide (n<=m)
theorem Ahq(n m:Int)(hm:0<=m)(c:m<=1000000000):AC prog 272 [.int .i64 n,.int .i64 m] (fun r=>r=.bool (inB n m)):=by
 have a:IntKind.i64.wrap (-m)= -m:=Bh om om;refine Ax func272 fun w0 N0=>?_;refine Aa [0,1] [] sr ?_;exact Aa [4] [] (by simp [a]<;>rfl) (Aj (Ac sr (by simp [inB])))
theorem A8j(n:Int):AC prog 271 [.int .i64 n] (fun r=>r=.bool (!inB n 1000000)):=by
 have a:=Ahq n 1000000 dc dc;generalize inB n 1000000=z at*;refine Ax func271 fun w0 N0=>?_;refine Aa [0] [] sr (Ab (Ad (Am 1 sr ?_)));refine Ah a func272 ?_;refine Af [2] [] sr ?_;exact Aj (Ac sr (rfl))
def Afw(r:Rw):Bool:=r.coef.any (fun c=> !inB c 1000000)||(!inB r.mn 24000000|| !inB r.mx 24000000)
def Zz(a:List Int)(d:List Rw)(e:List Int):Int:=
 if 24<a.length\/60<d.length then 5 else if e.length≠a.length then 1 else if d.any (fun r=>decide (r.coef.length≠a.length))=true then 1
 else if a.any (fun c=> !inB c 1000000)=true then 3 else if d.any Afw=true then 3 else if e.any (fun f=>decide (f< -1)||decide (1<f))=true then 3 else 0
theorem A46(d:List Int)(a:List Rw)(j:List Int)(hz:d.length<=1000/\a.length<=1000/\j.length<=1000):Hp gv prog 236 [.agg [.ro 1 (As d),.ro 3 (Gv a),.ro 1 (As j)]] (fun r=>r=.int .i64 (Zz d a j)):=by
 unfold Zz;have aa:=fun(l:List Int)=>(Azz l 271 [] [] (fun c=> !inB c 1000000) (fun c _ =>Adr ((A8j c).q gv) func271 kr rfl)).argsR (args:=[.ro 1 (As l),.fn 271]) (.cons (Bi.refl _) (.cons (Pt 271) .nil))
 have ae:=aa d;have hw:=fun(n:Int)=>Ahq n 24000000 dc dc
 have ad:=fun(k:Nat)(h:k<a.length)=>Adt h
 have au:=M2 a;have af:=fun(k:Nat)(h:k<j.length)=>E8 h
 have aj:=A4 j;have ak:=A4 d;have pr:=Gg a;have pv:=Ag d;have pf:=Ag j;have ah:=fun(r:Rw)=>Ag r.coef
 have ag:=fun(r:Rw)=>A4 r.coef
 generalize Gv a=rw at*;generalize an:As j=fv at*;generalize am:As d=vv at*;refine By func236 fun w0 N0 hG=>?_;refine Aa [1] [1] sr (Aa [1,3] [1] sr (Ab (Aa [1,3,21] [1] sr ?_)))
 refine Ao (fun h1=>?_) fun h1=>Ae ?_
 ·exact Aa [2] [] sr (Aj (Ac sr (by rw [if_pos (by simp at h1;omega)])))
 rw [if_neg (by simp at h1;omega)];refine Ab (Aa [1,3,26] [1] sr ?_)
 refine Ao (fun h2=>?_) fun h2=>Ae ?_
 ·exact Aa [2] [] sr (Aj (Ac sr (by rw [if_pos (by simp at h2;omega)])))
 rw [if_neg (by simp at h2;omega)];refine Ab (Aa [1,3,28,29,30] [1] sr (Ar (Br (fun k nx=>⟨[(1,V.bp 1 (0) 3 0 0),(3,V.int .i64 vv.length),(28,V.ro 3 rw),(29,V.int .i64 rw.length),(30,V.int .i64 k)],[(1,{ v:=0,sz:=3,ty:=257,es:=[V.agg [V.ro 1 vv,V.ro 3 rw,V.ro 1 fv]]})],nx,82⟩) (fun k=>(a.take k).any (fun r=>decide (r.coef.length≠d.length))=false) a.length _ rfl (AS.le_refl _) ?_)));intro k nx hk hI;refine Aa [1,3,28,29,30,31] [1] sr (Ab ?_)
 refine Ao (fun h3=>Ae ?_) fun h3=>?_
 ·have e:k<a.length:=by simp at h3;omega
  have i:k<rw.length:=om;have u:=ad k e;have Dg:=A6 (k:=k) om;rw [show a[k].v=.agg [.ro 1 (As a[k].coef),.int .i64 a[k].mn,.int .i64 a[k].mx]from rfl]at u;have aq:=ag a[k];have o:=fun h=>M4 (f:=fun r:Rw=>decide (r.coef.length≠d.length)) e hI h
  have m:=fun h=>Qg (f:=fun r:Rw=>decide (r.coef.length≠d.length)) e h
  generalize a[k]=r at*;generalize As r.coef=cv at*;refine Ab (Ar (Aa [1,3,5,28,29,30] [1,5] (by simp [u,i]<;>rfl) (Aa [1,3,28,29,30,38] [1] sr ?_)))
  refine Ao (fun h4=>?_) fun h4=>Ae ?_
  ·exact Aa [2] [] sr (Aj (Ac sr (by rw [if_pos (m (by simp at h4|-;omega))])))
  refine A3 [1,3,28,29,30] [1] (by simp [Dg]<;>rfl) ?_;exact⟨e,o (by simp at h4|-;omega),_,AS.le_refl _⟩
 ·refine Bb ?_;have s:k=a.length:=by simp at h3;omega
  rw [s,Bl]at hI;rw [if_neg (by rw [hI];simp)];refine Aa [1,6] [1] sr (Ab (Ab (Ad (Am 3 sr ?_))));refine Gt hG ae func273 rfl kr (by simp) rfl rfl rfl sr (by simp) sr ?_;refine Af [1,6,43] [1] sr ?_
  refine Ao (fun h5=>?_) fun h5=>Ae ?_
  ·exact Aa [2] [] sr (Aj (Ac sr (by rw [if_pos (by simpa using h5)])))
  rw [if_neg (by simpa using h5)];refine Ab (Aa [1,6,45,46,47] [1] sr (Ar (Br (fun k nx=>⟨[(1,V.bp 1 (0) 3 0 0),(6,.fn 271),(45,V.ro 3 rw),(46,V.int .i64 rw.length),(47,V.int .i64 k)],[(1,{ v:=0,sz:=3,ty:=257,es:=[V.agg [V.ro 1 vv,V.ro 3 rw,V.ro 1 fv]]})],nx,82⟩) (fun k=>(a.take k).any Afw=false) a.length _ rfl (AS.le_refl _) ?_)));intro g ao al t;refine Aa [1,6,45,46,47,48] [1] sr (Ab ?_)
  refine Ao (fun h6=>Ae ?_) fun h6=>?_
  ·have e:g<a.length:=by simp at h6;omega
   have i:g<rw.length:=om;have u:=ad g e;have Dg:=A6 (k:=g) om;rw [show a[g].v=.agg [.ro 1 (As a[g].coef),.int .i64 a[g].mn,.int .i64 a[g].mx]from rfl]at u;have x:=aa a[g].coef;have z:=ah a[g];have o:=fun h=>M4 (f:=Afw) e t h
   have m:=fun h=>Qg (f:=Afw) e h
   have ab:Afw a[g]=(a[g].coef.any (fun c=> !inB c 1000000)||(!inB a[g].mn 24000000|| !inB a[g].mx 24000000)):=rfl;have c1:=hw a[g].mn;have c2:=hw a[g].mx;generalize Afw a[g]=fa at*;generalize a[g].coef.any (fun c=> !inB c 1000000)=q1 at*;generalize inB a[g].mn 24000000=q2 at*;generalize inB a[g].mx 24000000=q3 at*;generalize a[g].mn=mn at*;generalize a[g].mx=mx at*;generalize As a[g].coef=cv at*;refine Ab (Ar (Aa [1,6,8,45,46,47] [1,8] (by simp [u,i]<;>rfl) (Ab (Ad (Am 3 sr ?_)))));refine Gt hG x func273 rfl kr (by simp) rfl rfl rfl sr (by simp) sr ?_;refine Am 3 sr ?_;refine Db (c:= !q1) (fun hg=>c1) func272 rfl kr sr rfl rfl sr sm sr ?_;refine Am 5 sr ?_;refine Db (c:=(!q1&&q2)) (fun hg=>c2) func272 rfl kr sr rfl rfl sr sm sr ?_;refine Af [1,6,45,46,47,66] [1] sr ?_
   refine Ao (fun h7=>?_) fun h7=>Ae ?_
   ·exact Aa [2] [] sr (Aj (Ac sr (by rw [if_pos (m (by rw [ab];revert h7;cases q1<;>cases q2<;>cases q3<;>simp))])))
   refine A3 [1,6,45,46,47] [1] (by simp [Dg]<;>rfl) ?_;exact⟨e,o (by rw [ab];revert h7;cases q1<;>cases q2<;>cases q3<;>simp),_,AS.le_refl _⟩
  ·refine Bb ?_;have s:g=a.length:=by simp at h6;omega
   rw [s,Bl]at t;rw [if_neg (by rw [t];simp)];refine Ab (Aa [69,70,71] [] sr (Ar (Br (fun k nx=>⟨[(69,V.ro 1 fv),(70,V.int .i64 fv.length),(71,V.int .i64 k)],[],nx,82⟩) (fun k=>(j.take k).any (fun f=>decide (f< -1)||decide (1<f))=false) j.length _ rfl (AS.le_refl _) ?_)));intro y ai ar w;refine Aa [69,70,71,72] [] sr (Ab ?_)
   refine Ao (fun h8=>Ae ?_) fun h8=>?_
   ·have e:y<j.length:=by simp at h8;omega
    have i:y<fv.length:=om;have u:=af y e;have Dg:=A6 (k:=y) om;have o:=fun h=>M4 (f:=fun f:Int=>decide (f< -1)||decide (1<f)) e w h
    have m:=fun h=>Qg (f:=fun f:Int=>decide (f< -1)||decide (1<f)) e h
    generalize j[y]=f at*;refine Ab (Ar (Aa [10,69,70,71] [] (by simp [u,i]<;>rfl) (Aa [69,70,71,80] [] sr ?_)))
    refine Ao (fun h9=>?_) fun h9=>Ae ?_
    ·exact Aa [2] [] sr (Aj (Ac sr (by rw [if_pos (m (by simpa using h9))])))
    refine A3 [69,70,71] [] (by simp [Dg]<;>rfl) ?_;exact⟨e,o (by simpa using h9),_,AS.le_refl _⟩
   ·refine Bb ?_;have s:y=j.length:=by simp at h8;omega
    rw [s,Bl]at w;rw [if_neg (by rw [w];simp)];exact Aa [2] [] sr (Aj (Ac sr rf))
theorem Cp{α:Type}{l:List α}{k:Nat}(h:k<l.length)(d:α):l.getD k d=l[k]:=by simp [List.getD,h]
def Yb(c x:List Int):Nat->Int
 |0=>0
 |k+1=>IntKind.i64.wrap (Yb c x k+IntKind.i64.wrap (c.getD k 0*x.getD k 0))
def Vz(c x:List Int):Int:=Yb c x c.length
theorem Ad1(c x:List Int)(h:c.length<=x.length)(hl:c.length<=1000):AC prog 298 [.ro 1 (As c),.ro 1 (As x)] (fun r=>r=.int .i64 (Vz c x)):=by
 unfold Vz;have l:=fun(k:Nat)(h:k<c.length)=>E8 h
 have z:=A4 c;have s:=fun(k:Nat)(h:k<x.length)=>E8 h
 have y:=A4 x;have m:∀k(h1:k<c.length)(h2:k<x.length),Yb c x (k+1)=IntKind.i64.wrap (Yb c x k+IntKind.i64.wrap (c[k]*x[k])):=fun k h1 h2=>by rw [Yb,Cp h1,Cp h2]
 have o:Yb c x 0=0:=rfl;have pc:=Ag c;have px:=Ag x;generalize As c=i,As x=t,Yb c x=pk at*;refine Ax func298 fun w0 N0=>?_;refine Aa [0,1] [] sr (Aa [0,1,5] [] sr (Ab (Aa [1,5,8,9,10] [] sr (Ar (Br (fun k nx=>⟨[(1,V.ro 1 t),(5,V.int .i64 (pk k)),(8,V.ro 1 i),(9,V.int .i64 i.length),(10,V.int .i64 k)],[],nx,25⟩) (fun k=>True) c.length _ trivial (by simp only [o];exact AS.le_refl _) ?_)))));intro k nx hk hI;refine Aa [1,5,8,9,10,11] [] sr (Ab ?_)
 refine Ao (fun h1=>Ae ?_) fun h1=>?_
 ·have d:k<c.length:=by simp at h1;omega
  have e:k<x.length:=om;have g:k<i.length:=om;have f:k<t.length:=om;have u:=l k d;have w:=s k e;have Dg:=A6 (k:=k) om;have n:=m k d e;generalize c[k]=a,x[k]=b at*;refine Ab (Ar (Aa [1,5,6,7,8,9,10] [] (by simp [u,g]<;>rfl) (A3 [1,5,8,9,10] [] (by simp [w,f]<;>rfl) (A3 [1,5,8,9,10] [] (by simp [Dg]<;>rfl) ?_))));exact⟨d,trivial,_,by rw [n];exact AS.le_refl _⟩
 ·refine Bb ?_;have j:k=c.length:=by simp at h1;omega
  subst j;exact Aa [4] [] sr (Aj (Ac sr rf))
def M5(a:List Int):Nat->List Int
 |0=>[]
 |k+1=>if a.getD k 0<0 then M5 a k++[(k:Int)]else M5 a k
def Fc(a:List Int):List Int:=M5 a a.length
theorem U2(a:List Int):∀k,(M5 a k).length<=k
 |0=>A9 _
 |k+1=>by have:=U2 a k;rw [M5];split<;>simp<;>omega
theorem Yc(c:List Int):∀k,∀i∈M5 c k,0<=i/\i<k
 |0=>fun i a=>by cases a
 |k+1=>fun i a=>by
  have ih:=Yc c k;rw [M5]at a
  split at a
  ·rcases Cc.1 a with h1|h1
   ·have:=ih i h1;omega
   ·have:=Bz.1 h1;omega
  ·have:=ih i a;omega
theorem Amt(e:List V)(rw:List V)(a:List Int)(pv:e.all V.pureE=true)(pr:rw.all V.pureE=true)(hl:a.length<=1000):ACO prog 274 [.agg [.ro 1 e,.ro 3 rw,.ro 1 (As a)]] 1 3 (fun F es=>(F=fun d q=>.sl d q 1 (Fc a).length)/\es=As (Fc a)):=by
 unfold Fc;have t:=fun(k:Nat)(h:k<a.length)=>E8 h
 have aa:=A4 a;have pf:=Ag a;have r:∀k(h:k<a.length),M5 a (k+1)=if a[k] <0 then M5 a k++[(k:Int)]else M5 a k:=fun k h=>by rw [M5,Cp h]
 have m:=U2 a;have l:M5 a 0= []:=rfl;generalize M5 a=j,As a=s at*;refine Kr func274 fun w0 N0=>?_;refine Aa [1] [1] sr (Aa [1,3] [1] sr (Ab (Aa [3,7,8,9] [] sr (Ar (Fp 3 100 1 3 [3,7,8,9] [100] sr sr ?_)))))
 refine Di (fun x:Nat × Nat × Nat=>⟨[(3,.sl 100 x.2.1 1 (j x.1).length),(7,V.ro 1 s),(8,.int .i64 s.length),(9,V.int .i64 (x.1:Nat))],[(100,⟨x.2.1,1,3,As (j x.1)⟩)],x.2.2,22⟩)
  (fun x=>x.1<=a.length) (fun x=>a.length-x.1) (0,_,_) (B4 _) (by simp only [l];exact AS.le_refl _) ?_
 rintro⟨k,qv,nx⟩y;simp only at y|-;refine Aa [3,7,8,9,10] [100] sr (Ab ?_)
 refine Ao (fun h1=>Ae ?_) fun h1=>?_
 ·have c:k<a.length:=by simp at h1;omega
  have i:k<s.length:=om;have w:=t k c;have Dg:=A6 (k:=k) om;have hs:=r k c;have z:=m k;generalize a[k]=f,j k=o at*;have n:o.length+1<=maxLen/\(o.length+1)*8<=140737488355328:=⟨Ai (show o.length+1<=1001 by omega) dc,by omega⟩;refine Ab (Ar (Aa [3,4,5,7,8,9] [100] (by simp [w,i]<;>rfl) (Aa [3,4,7,8,9,15] [100] sr ?_)))
  refine Ao (fun h2=>?_) fun h2=>Ae ?_
  ·rw [if_pos (by simpa using h2)]at hs;refine A3 [3,7,8,9] [100] (by simp [n]<;>rfl) (A3 [3,7,8,9] [100] (by simp [Dg]<;>rfl) ?_);exact⟨(k+1,_,_),c,by simp only;omega,by simp only [hs,U1,Bf,Ba,Bx];exact AS.le_refl _⟩
  rw [if_neg (by simpa using h2)]at hs;refine A3 [3,7,8,9] [100] (by simp [Dg]<;>rfl) ?_;exact⟨(k+1,_,_),c,by simp only;omega,by simp only [hs];exact AS.le_refl _⟩
 ·refine Bb ?_;have u:k=a.length:=by simp at h1;omega
  subst u;have g:=Rg (j a.length);refine Aa [2] [100] sr ?_;exact Aj (Ii 100 sr rfl rfl (by simpa using g) sr ⟨rfl,rfl⟩)
theorem A47(a:List V)(rw:List V)(c:List Int)(pv:a.all V.pureE=true)(f:rw.all V.pureE=true)(d:c.length<=1000):AC prog 274 [.agg [.ro 1 a,.ro 3 rw,.ro 1 (As c)]] (fun r=>r=.ro 1 (As (Fc c))):=by
 refine(Amt a rw c pv f d).ac ?_;rintro F e⟨rfl,rfl⟩;have hp:=Ag (Fc c);have d:=A4 (Fc c);exact⟨_,by simp [hp,d]<;>rfl,rfl⟩
instance:Inhabited Rw:=⟨⟨[],0,0⟩⟩
def Amu(c:List Int):Nat->Int
 |0=>0
 |k+1=>IntKind.i64.wrap (Amu c k+c.getD k 0)
def T1(c:Int):Bool:=decide (c≠0)&&decide (c≠1)
def Ad2(c:List Int):Int:=if c.any T1=true then -1 else Amu c c.length
def Qs(a:List Rw):Nat->Int × Int
 |0=>(-1,0)
 |k+1=>if(Qs a k).2<Ad2 (a.getD k default).coef then((k:Int),Ad2 (a.getD k default).coef)else Qs a k
def A0t(a:List Rw):Int:=(Qs a a.length).1
theorem Avm(l:List V)(a:List Rw)(fv:List V)(pv:l.all V.pureE=true)(pf:fv.all V.pureE=true)(hl:a.length<=1000)(hc:∀r∈a,r.coef.length<=1000):AC prog 297 [.agg [.ro 1 l,.ro 3 (Gv a),.ro 1 fv]] (fun r=>r=.int .i64 (A0t a)):=by
 unfold A0t;have ad:=fun(k:Nat)(h:k<a.length)=>Adt h
 have al:=M2 a;have pr:=Gg a;have ag:∀k(h:k<a.length),Qs a (k+1)=if(Qs a k).2<Ad2 a[k].coef then((k:Int),Ad2 a[k].coef)else Qs a k:=fun k h=>by rw [Qs,Cp h]
 have hw0:Qs a 0=(-1,0):=rfl;generalize Qs a=wk,Gv a=rw at*;refine Ax func297 fun w0 N0=>?_;refine Aa [1] [1] sr (Aa [1,3,4] [1] sr (Ab (Aa [3,4,11,12,13] [] sr (Ar (Br (fun k nx=>⟨[(3,V.int .i64 (wk k).1),(4,V.int .i64 (wk k).2),(11,V.ro 3 rw),(12,V.int .i64 rw.length),(13,V.int .i64 k)],[],nx,42⟩) (fun k=>True) a.length _ trivial (by simp only [hw0];exact AS.le_refl _) ?_)))));intro k nx hk hI;refine Aa [3,4,11,12,13,14] [] sr (Ab ?_)
 refine Ao (fun h1=>Ae ?_) fun h1=>?_
 ·have i:k<a.length:=by simp at h1;omega
  have u:k<rw.length:=om;have ga:=ad k i;have Dg:=A6 (k:=k) om;have hs:=ag k i;have ai:=hc _ (Az i);rw [show a[k].v=.agg [.ro 1 (As a[k].coef),.int .i64 a[k].mn,.int .i64 a[k].mx]from rfl]at ga;generalize a[k].coef=d,wk k=p0 at*;obtain⟨aa,m0⟩:=p0;simp only at hs|-;have w:=fun(k:Nat)(h:k<d.length)=>E8 h
  have ak:=A4 d;have pc:=Ag d;have af:∀k(h:k<d.length),Amu d (k+1)=IntKind.i64.wrap (Amu d k+d[k]):=fun k h=>by rw [Amu,Cp h]
  have z:Amu d 0=0:=rfl;have j:Ad2 d=if d.any T1=true then -1 else Amu d d.length:=rfl
  generalize Amu d=sk,As d=cv,Ad2 d=on at*;refine Ab (Ar (Aa [3,4,5,6,11,12,13] [6] (by simp [ga,u]<;>rfl) (Aa [3,4,5,6,7,11,12,13] [6] sr (Ab (Aa [3,4,5,7,11,12,13,19,20,21] [] sr (Ar (Br (fun g t=>⟨[(3,V.int .i64 aa),(4,V.int .i64 m0),(5,V.int .i64 k),(7,V.int .i64 (sk g)),(11,V.ro 3 rw),(12,V.int .i64 rw.length),(13,V.int .i64 k),(19,.ro 1 cv),(20,.int .i64 cv.length),(21,V.int .i64 g)],[],t,42⟩) (fun g=>(d.take g).any T1=false) d.length _ rfl (by simp only [z];exact AS.le_refl _) ?_)))))));intro g t aj n;refine Aa [3,4,5,7,11,12,13,19,20,21,22] [] sr (Ab ?_)
  refine Ao (fun h2=>Ae ?_) fun h2=>?_
  ·have e:g<d.length:=by simp at h2;omega
   have o:g<cv.length:=om;have gc:=w g e;have Pm:=A6 (k:=g) om;have ae:=fun h=>M4 (f:=T1) e n h
   have ab:=fun h=>Qg (f:=T1) e h
   have y:=af g e;have s:T1 d[g]=(decide (d[g]≠0)&&decide (d[g]≠1)):=rfl;generalize d[g]=c at*;refine Ab (Ar (Aa [3,4,5,7,9,11,12,13,19,20,21] [] (by simp [gc,o]<;>rfl) (Ab (Aa [3,4,5,7,9,11,12,13,19,20,21,30] [] sr ?_))))
   refine Ao (fun h3=>?_) fun h3=>Ae ?_
   ·rw [if_pos (ab (by rw [s];simpa using h3))]at j;subst j;refine Aa [3,4,5,7,11,12,13] [] sr (Bb ?_);refine Aa [3,4,5,7,11,12,13,37] [] sr ?_
    refine Ao (fun x=>?_) fun x=>Ae ?_
    ·rw [if_pos (by simpa using x)]at hs;refine A3 [3,4,11,12,13] [] sr (A3 [3,4,11,12,13] [] (by simp [Dg]<;>rfl) ?_);exact⟨i,trivial,_,by simp only [hs];exact AS.le_refl _⟩
    rw [if_neg (by simpa using x)]at hs;refine A3 [3,4,11,12,13] [] (by simp [Dg]<;>rfl) ?_;exact⟨i,trivial,_,by simp only [hs];exact AS.le_refl _⟩
   refine A3 [3,4,5,7,11,12,13,19,20,21] [] sr (A3 [3,4,5,7,11,12,13,19,20,21] [] (by simp [Pm]<;>rfl) ?_);exact⟨e,ae (by rw [s];simpa using h3),_,by simp only [y];exact AS.le_refl _⟩
  ·refine Bb ?_;have m:g=d.length:=by simp at h2;omega
   rw [m,Bl]at n;rw [if_neg (by rw [n];simp)]at j;rw [m,<- j];refine Aa [3,4,5,7,11,12,13,37] [] sr ?_
   refine Ao (fun h5=>?_) fun h5=>Ae ?_
   ·rw [if_pos (by simpa using h5)]at hs;refine A3 [3,4,11,12,13] [] sr (A3 [3,4,11,12,13] [] (by simp [Dg]<;>rfl) ?_);exact⟨i,trivial,_,by simp only [hs];exact AS.le_refl _⟩
   rw [if_neg (by simpa using h5)]at hs;refine A3 [3,4,11,12,13] [] (by simp [Dg]<;>rfl) ?_;exact⟨i,trivial,_,by simp only [hs];exact AS.le_refl _⟩
 ·refine Bb ?_;have ah:k=a.length:=by simp at h1;omega
  subst ah;exact Aa [2] [] sr (Aj (Ac sr rf))
theorem Dd{l:List Int}{k:Nat}(h:k<l.length):G8 (As l) k=some (.int .i64 (l.getD k 0)):=by rw [Cp h];exact E8 h
theorem Yd{l:List Rw}{k:Nat}(h:k<l.length):G8 (Gv l) k=some (.agg [.ro 1 (As (l.getD k default).coef),.int .i64 (l.getD k default).mn,.int .i64 (l.getD k default).mx]):=by rw [Cp h];exact Adt h
theorem Ad3{l:Mo}{k:Nat}(h:k<l.length):G8 (Eb l) k=some (.ro 1 (As (l.getD k []))):=by rw [Cp h];exact Q6 h
theorem Gl{α:Type}{l:List α}{P:α->Prop}(h:∀x∈l,P x){k:Nat}(a:k<l.length)(d:α):P (l.getD k d):=by rw [Cp a];exact h _ (Az a)
structure Ss where
 vals:List Int
 rows:List Rw
 fx:List Int
 free:List Int
 one:Bool
 once:Bool
 low:Mo
 high:Mo
 wide:Int
 order:List Int
structure Sd where
 x:List Int
 value:Int
 sums:List Int
 least:Int
 best:Option (List Int)
 most:Int
 found:Bool
def bV:Option (List Int)->V
 |none=>.nils
 |some l=>.ro 1 (As l)
theorem Abw(o:Option (List Int)):(bV o).pureC=true:=by cases o<;>simp [bV,V.pureC]
def srC(s:Ss)(d:Sd)(c a:V):List V:=
 [.ro 1 (As s.vals),.ro 3 (Gv s.rows),.ro 1 (As s.fx),.ro 1 (As s.free),.bool s.one,.bool s.once,c,.int .i64 d.value,a,.ro 1 (Eb s.low),.ro 1 (Eb s.high),.int .i64 s.wide,.ro 1 (As s.order),.int .i64 d.least,bV d.best,.int .i64 d.most,.bool d.found]
structure WfS(s:Ss):Prop where
 hr:s.rows.length<=1000
 hv:s.vals.length<=1000
 hc:∀r∈s.rows,r.coef.length=s.vals.length
 hf:∀i∈s.free,0<=i/\i<s.vals.length
 hfl:s.free.length<=1000
 hl:s.low.length=s.free.length+1
 hh:s.high.length=s.free.length+1
 hlr:∀l∈s.low,l.length=s.rows.length
 hhr:∀l∈s.high,l.length=s.rows.length
 hw: -1<=s.wide/\s.wide<s.rows.length
 ho:∀e∈s.order,0<=e/\e<s.free.length
 hol:s.order.length<=1000
structure WfD(s:Ss)(d:Sd):Prop where
 hx:d.x.length=s.vals.length
 hs:d.sums.length=s.rows.length
def Ajp(s:Ss)(d:Sd)(a k:Nat):Bool:=
 decide ((s.rows.getD k default).mx<IntKind.i64.wrap (d.sums.getD k 0+(s.low.getD a []).getD k 0))||decide (IntKind.i64.wrap (d.sums.getD k 0+(s.high.getD a []).getD k 0)<(s.rows.getD k default).mn)
def Ad4(s:Ss)(d:Sd)(a:Nat):Nat->Bool
 |0=>true
 |k+1=>Ad4 s d a k&& !Ajp s d a k
def Afx(s:Ss)(d:Sd)(a:Nat):Bool:=Ad4 s d a s.rows.length
theorem Amv{s:Ss}{d:Sd}{a k:Nat}(h:Ajp s d a k=true):∀m,k<m->Ad4 s d a m=false
 |0,c=>absurd c om
 |m+1,c=>by
  rw [Ad4]
  by_cases e:k=m
  ·subst e;rw [h];simp
  ·rw [Amv h m Go.om];rfl
theorem Amw(s:Ss)(d:Sd)(a:Nat)(hs:WfS s)(hd:WfD s d)(aq:a<=s.free.length):
  AC prog 300 [.rp (.agg (srC s d (.ro 1 (As d.x)) (.ro 1 (As d.sums)))),.int .i64 a] (fun r=>r=.bool (Afx s d a)):=by
 unfold Afx;have a2:=hs.hr;have af:=fun(k:Nat)(h:k<s.rows.length)=>Yd h
 have a5:=M2 s.rows;have pr:=Gg s.rows;have pv:=Ag s.vals;have pf:=Ag s.fx;have az:=Ag s.free;have px:=Ag d.x;have a6:=Ag d.sums;have a4:=Do s.low;have a0:=Do s.high;have a3:=Ag s.order;have pb:=Abw d.best;have g:a<s.low.length:=by have:=hs.hl;omega
 have o:a<s.high.length:=by have:=hs.hh;omega
 have ai:=Ad3 g;have ag:=Ad3 o;have a7:=Gl hs.hlr g [];have aw:=Gl hs.hhr o [];have a1:=K9 s.low;have au:=K9 s.high;have ax:=hd.hs;have am:∀k,Ajp s d a k=(decide ((s.rows.getD k default).mx<IntKind.i64.wrap (d.sums.getD k 0+(s.low.getD a []).getD k 0))||decide (IntKind.i64.wrap (d.sums.getD k 0+(s.high.getD a []).getD k 0)<(s.rows.getD k default).mn)):=fun k=>rfl
 have j:=fun(k:Nat)(h:Ajp s d a k=true)=>Amv h s.rows.length
 have ak:∀k,Ad4 s d a (k+1)=(Ad4 s d a k&& !Ajp s d a k):=fun k=>rfl
 have an:Ad4 s d a 0=true:=rfl;unfold srC;generalize Ad4 s d a=pk,Ajp s d a=bp,s.low.getD a []=lo,s.high.getD a []=hi at*;have ad:=fun(k:Nat)(h:k<d.sums.length)=>Dd h
 have n:=fun(k:Nat)(h:k<lo.length)=>Dd h
 have z:=fun(k:Nat)(h:k<hi.length)=>Dd h
 have av:=A4 d.sums;have ao:=A4 lo;have ar:=A4 hi;generalize Gv s.rows=rw,As d.sums=sv,Eb s.low=w,Eb s.high=l,As lo=ab,As hi=ae,As s.vals=vv,As s.fx=fv,As s.free=aa,As d.x=xv,As s.order=ov,bV d.best=bv at*;refine Ax func300 fun w0 N0=>?_;refine Aa [0,1] [] sr (Ab (Aa [0,1,11,12,13] [] sr (Ar (Br (fun k nx=>⟨[(0,V.rp (V.agg [.ro 1 vv,.ro 3 rw,.ro 1 fv,.ro 1 aa,.bool s.one,.bool s.once,.ro 1 xv,.int .i64 d.value,.ro 1 sv,.ro 1 w,.ro 1 l,.int .i64 s.wide,.ro 1 ov,.int .i64 d.least,bv,.int .i64 d.most,.bool d.found])),(1,V.int .i64 a),(11,V.ro 3 rw),(12,V.int .i64 rw.length),(13,V.int .i64 k)],[],nx,63⟩) (fun k=>pk k=true) s.rows.length _ an (AS.le_refl _) ?_))));intro k nx hk hI;refine Aa [0,1,11,12,13,14] [] sr (Ab ?_)
 refine Ao (fun h1=>Ae ?_) fun h1=>?_
 ·have c:k<s.rows.length:=by simp at h1;omega
  have y:k<rw.length:=om;have ga:=af k c;have Dg:=A6 (k:=k) om;have gs:=ad k om;have gl:=n k om;have gh:=z k om;have f:k<sv.length:=om;have t:k<ab.length:=om;have u:k<ae.length:=om;have i:a<w.length:=om;have e:a<l.length:=om;have m:=am k;have aj:=j k;have al:=ak k;generalize s.rows.getD k default=r,d.sums.getD k 0=su,lo.getD k 0=l1 at*;generalize hi.getD k 0=ay at*;generalize bp k=b at*;refine Ab (Ar (Aa [0,1,5,6,11,12,13] [6] (by simp [ga,y]<;>rfl) ?_));refine Dq [(0,[]),(1,[]),(2,[]),(4,[]),(7,[]),(8,[]),(9,[]),(11,[]),(14,[]),(18,[]),(3,[]),(5,[]),(6,[]),(10,[]),(12,[]),(13,[]),(15,[]),(16,[]),(17,[]),(19,[]),(20,[]),(21,[]),(22,[]),(23,[]),(24,[]),(26,[]),(29,[]),(30,[]),(31,[]),(33,[]),(36,[]),(40,[]),(25,[]),(27,[]),(28,[]),(32,[]),(34,[]),(35,[]),(37,[]),(38,[]),(39,[]),(41,[]),(42,[]),(43,[])] [0,1,11,12,13,61] [] Ds kr (by simp [gs,gl,gh,f,t,u,i,e,ai,ag]<;>rfl) ?_
  refine Ao (fun h2=>?_) fun h2=>Ae ?_
  ·exact Aa [4] [] sr (Aj (Ac sr (by rw [aj (by rw [m];simpa using h2) c])))
  refine A3 [0,1,11,12,13] [] (by simp [Dg]<;>rfl) ?_;exact⟨c,by rw [al,hI,m];simpa using h2,_,AS.le_refl _⟩
 ·refine Bb ?_;have ah:k=s.rows.length:=by simp at h1;omega
  rw [ah]at hI;rw [hI];exact Aa [4] [] sr (Aj (Ac sr rf))
def Lf(s:Ss)(i:Nat):Bool:=decide (0<=s.wide)&&decide ((s.rows.getD s.wide.toNat default).coef.getD i 0=1)
def Ng(s:Ss)(d:Sd)(a:Nat):Nat->Int × Int
 |0=>(if 0<=s.wide then IntKind.i64.wrap ((s.rows.getD s.wide.toNat default).mx-d.sums.getD s.wide.toNat 0)else 0,d.value)
 |k+1=>if s.order.getD k 0<a then Ng s d a k
  else if Lf s (s.free.getD (s.order.getD k 0).toNat 0).toNat=true then
   (if(Ng s d a k).1<=0 then Ng s d a k else(IntKind.i64.wrap ((Ng s d a k).1-1),IntKind.i64.wrap ((Ng s d a k).2+s.vals.getD (s.free.getD (s.order.getD k 0).toNat 0).toNat 0)))
  else((Ng s d a k).1,IntKind.i64.wrap ((Ng s d a k).2+s.vals.getD (s.free.getD (s.order.getD k 0).toNat 0).toNat 0))
def Aqe(s:Ss)(d:Sd)(a:Nat):Int:=(Ng s d a s.order.length).2
theorem A0v(s:Ss)(d:Sd)(e:Nat)(hs:WfS s)(hd:WfD s d):
  AC prog 301 [.rp (.agg (srC s d (.ro 1 (As d.x)) (.ro 1 (As d.sums)))),.int .i64 e] (fun r=>r=.int .i64 (Aqe s d e)):=by
 unfold Aqe;have hol:=hs.hol;have aw:=fun(k:Nat)(h:k<s.rows.length)=>Yd h
 have bb:=M2 s.rows;have pr:=Gg s.rows;have pv:=Ag s.vals;have pf:=Ag s.fx;have a5:=Ag s.free;have px:=Ag d.x;have bc:=Ag d.sums;have bg:=Do s.low;have a9:=Do s.high;have bh:=Ag s.order;have pb:=Abw d.best;have a8:=hd.hs;have az:=fun(k:Nat)(h:k<d.sums.length)=>Dd h
 have al:=fun(k:Nat)(h:k<s.order.length)=>Dd h
 have z:=fun(k:Nat)(h:k<s.free.length)=>Dd h
 have aq:=fun(k:Nat)(h:k<s.vals.length)=>Dd h
 have bd:=A4 d.sums;have a3:=A4 s.order;have a2:=A4 s.free;have a6:=A4 s.vals
 have ao:∀k,Ng s d e (k+1)=if s.order.getD k 0<e then Ng s d e k
  else if Lf s (s.free.getD (s.order.getD k 0).toNat 0).toNat=true then
   (if(Ng s d e k).1<=0 then Ng s d e k else(IntKind.i64.wrap ((Ng s d e k).1-1),IntKind.i64.wrap ((Ng s d e k).2+s.vals.getD (s.free.getD (s.order.getD k 0).toNat 0).toNat 0)))
  else((Ng s d e k).1,IntKind.i64.wrap ((Ng s d e k).2+s.vals.getD (s.free.getD (s.order.getD k 0).toNat 0).toNat 0)):=fun k=>rfl
 have n:Ng s d e 0=(if 0<=s.wide then IntKind.i64.wrap ((s.rows.getD s.wide.toNat default).mx-d.sums.getD s.wide.toNat 0)else 0,d.value):=rfl;have j:∀i,Lf s i=(decide (0<=s.wide)&&decide ((s.rows.getD s.wide.toNat default).coef.getD i 0=1)):=fun i=>rfl
 have ba:=hs.hw;have au:=fun(k:Nat)(h:k<s.rows.length)=>Gl hs.hc h default
 unfold srC;generalize Ng s d e=bk,Lf s=wh at*;generalize bf:s.wide=wd at*;generalize Gv s.rows=rw,As d.sums=sv,Eb s.low=an,Eb s.high=aj,As s.vals=vv,As s.fx=fv,As s.free=w,As d.x=xv,As s.order=ov,bV d.best=bv at*;refine Ax func301 fun w0 N0=>?_;refine Aa [0,1] [] sr (Aa [0,1,5] [] sr (Ab (Aa [0,1,5,14] [] sr ?_)))
 refine Ao (fun h1=>?_) fun h1=>Ae ?_
 ·obtain⟨o,a0⟩:=Cl (show 0<=wd by simpa using h1);subst a0;simp only [Dn]at n j;have ak:o<s.rows.length:=om;have gr:=aw o ak;have gs:=az o om;have am:o<rw.length:=om;have ar:o<sv.length:=om;have hw0:(0:Int)<=(o:Int):=om;have av:=au o ak;rw [if_pos hw0]at n;replace j:∀i,wh i=decide ((s.rows.getD o default).coef.getD i 0=1):=fun i=>by rw [j];simp
  generalize s.rows.getD o default=r,d.sums.getD o 0=su at*;obtain⟨cf,be,a4⟩:=r;simp only at av n j gr;have ay:=fun(k:Nat)(h:k<s.vals.length)=>Dd (l:=cf) (show k<cf.length by omega)
  have a7:=A4 cf;generalize As cf=cv at*;refine Rr [(0,[]),(1,[]),(2,[]),(3,[]),(5,[]),(6,[]),(7,[]),(12,[]),(13,[]),(14,[]),(16,[]),(17,[]),(18,[]),(4,[]),(8,[]),(9,[]),(10,[]),(11,[]),(15,[]),(19,[]),(20,[]),(21,[]),(22,[]),(23,[])] [0,1,5] [] Ds kr (by simp [gr,gs,am,ar]<;>rfl) ?_;refine Aa [0,1,5,6] [] sr (Ab (Aa [0,1,5,6,45,46,47] [] sr (Ar (Br (fun k nx=>⟨[(0,V.rp (V.agg [.ro 1 vv,.ro 3 rw,.ro 1 fv,.ro 1 w,.bool s.one,.bool s.once,.ro 1 xv,.int .i64 d.value,.ro 1 sv,.ro 1 an,.ro 1 aj,.int .i64 (o:Nat),.ro 1 ov,.int .i64 d.least,bv,.int .i64 d.most,.bool d.found])),(1,V.int .i64 e),(5,.int .i64 (bk k).1),(6,.int .i64 (bk k).2),(45,.ro 1 ov),(46,.int .i64 ov.length),(47,V.int .i64 k)],[],nx,100⟩) (fun k=>True) s.order.length _ trivial (by simp only [n];exact AS.le_refl _) ?_))));intro k nx hk hI;refine Aa [0,1,5,6,45,46,47,48] [] sr (Ab ?_)
  refine Ao (fun h2=>Ae ?_) fun h2=>?_
  ·have f:k<s.order.length:=by simp at h2;omega
   have t:k<ov.length:=om;have ga:=al k f;have Dg:=A6 (k:=k) om;have a:=ao k;obtain⟨ae,aa⟩:=Gl hs.ho f 0;obtain⟨en,ad⟩:=Cl ae;rw [ad]at ga a aa;have m:en<s.free.length:=om;have ge:=z en m;obtain⟨ab,af⟩:=Gl hs.hf m 0;obtain⟨i,hi⟩:=Cl ab;simp only [Dn]at a;rw [hi]at ge af a;simp only [Dn]at a;have u:i<s.vals.length:=om;have gv:=aq i u;have ag:en<w.length:=om;have y:i<vv.length:=om;generalize s.vals.getD i 0=v,bk k=p at*;obtain⟨ai,a1⟩:=p;simp only at a|-;have gc:=ay i u;have ax:i<cv.length:=om;rw [j i]at a;generalize cf.getD i 0=c at*;refine Ab (Ar (Aa [0,1,5,6,8,45,46,47] [] (by simp [ga,t]<;>rfl) (Ab (Aa [0,1,5,6,8,45,46,47,53] [] sr ?_))))
   refine Ao (fun h3=>?_) fun h3=>Ae ?_
   ·rw [if_pos (by simpa using h3)]at a;refine Bb ?_;refine A3 [0,1,5,6,45,46,47] [] (by simp [Dg]<;>rfl) ?_;exact⟨f,trivial,_,by simp only [a];exact AS.le_refl _⟩
   rw [if_neg (by simpa using h3)]at a;refine Aa [0,1,5,6,9,45,46,47] [] (by simp [ge,ag]<;>rfl) (Ab (Dq [(0,[]),(1,[]),(2,[]),(3,[]),(4,[]),(5,[]),(6,[]),(7,[]),(8,[]),(9,[]),(11,[]),(12,[]),(13,[]),(18,[]),(10,[]),(14,[]),(15,[]),(16,[]),(17,[]),(19,[]),(20,[]),(21,[]),(22,[])] [0,1,5,6,9,45,46,47,83] [] Ds kr (by simp [gr,gc,ax,hw0,am]<;>rfl) ?_))
   refine Ao (fun h4=>?_) fun h4=>Ae ?_
   ·refine Ab ?_;rw [if_pos (by simpa using h4)]at a;refine Aa [0,1,5,6,9,45,46,47,85] [] sr ?_
    refine Ao (fun h5=>?_) fun h5=>Ae ?_
    ·rw [if_pos (by simpa using h5)]at a;refine Bb ?_;refine A3 [0,1,5,6,45,46,47] [] (by simp [Dg]<;>rfl) ?_;exact⟨f,trivial,_,by simp only [a];exact AS.le_refl _⟩
    rw [if_neg (by simpa using h5)]at a;refine A3 [0,1,5,6,9,45,46,47] [] sr (A3 [0,1,5,6,45,46,47] [] (by simp [gv,y]<;>rfl) (A3 [0,1,5,6,45,46,47] [] (by simp [Dg]<;>rfl) ?_));exact⟨f,trivial,_,by simp only [a];exact AS.le_refl _⟩
   rw [if_neg (by simpa using h4)]at a;refine A3 [0,1,5,6,45,46,47] [] (by simp [gv,y]<;>rfl) (A3 [0,1,5,6,45,46,47] [] (by simp [Dg]<;>rfl) ?_);exact⟨f,trivial,_,by simp only [a];exact AS.le_refl _⟩
  ·refine Bb ?_;have ah:k=s.order.length:=by simp at h2;omega
   subst ah;exact Aa [4] [] sr (Aj (Ac sr rf))
 have g:¬(0:Int)<=wd:=by simpa using h1
 rw [if_neg g]at n;replace j:∀i,wh i=false:=fun i=>by rw [j];simp only [g,decide_false,Bool.false_and]
 refine Aa [0,1,5,6] [] sr (Ab (Aa [0,1,5,6,45,46,47] [] sr (Ar (Br (fun k nx=>⟨[(0,V.rp (V.agg [.ro 1 vv,.ro 3 rw,.ro 1 fv,.ro 1 w,.bool s.one,.bool s.once,.ro 1 xv,.int .i64 d.value,.ro 1 sv,.ro 1 an,.ro 1 aj,.int .i64 wd,.ro 1 ov,.int .i64 d.least,bv,.int .i64 d.most,.bool d.found])),(1,V.int .i64 e),(5,.int .i64 (bk k).1),(6,.int .i64 (bk k).2),(45,.ro 1 ov),(46,.int .i64 ov.length),(47,V.int .i64 k)],[],nx,100⟩) (fun k=>True) s.order.length _ trivial (by simp only [n];exact AS.le_refl _) ?_))));intro k nx hk hI;refine Aa [0,1,5,6,45,46,47,48] [] sr (Ab ?_)
 refine Ao (fun h6=>Ae ?_) fun h6=>?_
 ·have f:k<s.order.length:=by simp at h6;omega
  have t:k<ov.length:=om;have ga:=al k f;have Dg:=A6 (k:=k) om;have a:=ao k;obtain⟨ae,aa⟩:=Gl hs.ho f 0;obtain⟨en,ad⟩:=Cl ae;rw [ad]at ga a aa;have m:en<s.free.length:=om;have ge:=z en m;obtain⟨ab,af⟩:=Gl hs.hf m 0;obtain⟨i,hi⟩:=Cl ab;simp only [Dn]at a;rw [hi]at ge af a;simp only [Dn]at a;have u:i<s.vals.length:=om;have gv:=aq i u;have ag:en<w.length:=om;have y:i<vv.length:=om;generalize s.vals.getD i 0=v,bk k=p at*;obtain⟨ai,a1⟩:=p;simp only at a|-;rw [j i]at a;refine Ab (Ar (Aa [0,1,5,6,8,45,46,47] [] (by simp [ga,t]<;>rfl) (Ab (Aa [0,1,5,6,8,45,46,47,53] [] sr ?_))))
  refine Ao (fun h7=>?_) fun h7=>Ae ?_
  ·rw [if_pos (by simpa using h7)]at a;refine Bb ?_;refine A3 [0,1,5,6,45,46,47] [] (by simp [Dg]<;>rfl) ?_;exact⟨f,trivial,_,by simp only [a];exact AS.le_refl _⟩
  rw [if_neg (by simpa using h7)]at a;refine Aa [0,1,5,6,9,45,46,47] [] (by simp [ge,ag]<;>rfl) (Ab (Dq [(0,[]),(1,[]),(2,[]),(3,[]),(4,[]),(5,[]),(6,[]),(7,[]),(8,[]),(9,[]),(11,[]),(12,[]),(13,[]),(18,[]),(10,[]),(14,[]),(15,[]),(16,[]),(17,[]),(19,[]),(20,[]),(21,[]),(22,[])] [0,1,5,6,9,45,46,47,83] [] Ds kr (by simp [g]<;>rfl) ?_));refine A7 rfl (fun h8=>absurd h8 (by simp)) fun h8=>Ae ?_;rw [if_neg (by simp)]at a;refine A3 [0,1,5,6,45,46,47] [] (by simp [gv,y]<;>rfl) (A3 [0,1,5,6,45,46,47] [] (by simp [Dg]<;>rfl) ?_);exact⟨f,trivial,_,by simp only [a];exact AS.le_refl _⟩
 ·refine Bb ?_;have ah:k=s.order.length:=by simp at h6;omega
  subst ah;exact Aa [4] [] sr (Aj (Ac sr rf))
theorem Amx{P:Program}{w0:Bs}{N0:Nat->Prop}{Q:Exit->AS->Prop}{S:AS}{c:Code}(a:Nat)(h:AW P w0 N0 c Q { S with nx:=a+S.nx}):AW P w0 N0 c Q S:=
 S7 (S':={ S with nx:=a+S.nx}) (Agm rfl rfl rfl (Nat.le_add_left _ _)) h
def Z0(s:Ss)(d:Sd)(v c a:Nat):List (Nat × Ob):=
 [(22,⟨v,17,376,[.agg (srC s d (.sl 27 c 1 d.x.length) (.sl 61 a 1 d.sums.length))]⟩),(27,⟨c,1,3,As d.x⟩),(61,⟨a,1,3,As d.sums⟩)]
theorem E9{a b c k:Nat}{x y z o:Ob}{l:List (Nat × Ob)}(h1:Eng.get l a=some x)(h2:Eng.get l b=some y)(f:Eng.get l c=some z)(d:Eng.get [(a,x),(b,y),(c,z)] k=some o):Eng.get l k=some o:=by
 simp only [Eng.get]at d
 split at d
 ·rename_i e;subst e;injection d with d;subst d;exact h1
 ·split at d
  ·rename_i e;subst e;injection d with d;subst d;exact h2
  ·split at d
   ·rename_i e;subst e;injection d with d;subst d;exact f
   ·cases d
def Wn(c:List Rw)(i:Nat)(d:Int)(a:List Int):Nat->List Int
 |0=>a
 |k+1=>(Wn c i d a k).set k (IntKind.i64.wrap ((Wn c i d a k).getD k 0+IntKind.i64.wrap (d*(c.getD k default).coef.getD i 0)))
theorem T2(c:List Rw)(i:Nat)(d:Int)(a:List Int):∀k,(Wn c i d a k).length=a.length
 |0=>rfl
 |k+1=>by rw [Wn,Ha,T2 c i d a k]
def sgn(b:Int):Int:=IntKind.i64.wrap (IntKind.i64.wrap (2*b)-1)
def Hy(s:Ss)(d:Sd)(i:Nat)(b:Int):Sd:=
 { d with x:=d.x.set i b,value:=IntKind.i64.wrap (d.value+IntKind.i64.wrap (sgn b*s.vals.getD i 0)),sums:=Wn s.rows i (sgn b) d.sums s.rows.length}
theorem Qh{s:Ss}{d:Sd}(h:WfD s d)(i:Nat)(b:Int):WfD s (Hy s d i b):=⟨by simp [Hy,h.hx],by simp [Hy,T2,h.hs]⟩
theorem T3(l:List Int)(k:Nat)(x:Int):As (l.set k x)=(As l).set k (.int .i64 x):=by simp [As,M9]
theorem A48(s:Ss)(d:Sd)(i:Nat)(b:Int)(v z y:Nat)(hs:WfS s)(hd:WfD s d)(hi:i<s.vals.length):
  ACS prog 302 [.bp 22 v 17 0 0,.int .i64 i,.int .i64 b] (Z0 s d v z y) (fun r j=>r=.tup []/\j=Z0 s (Hy s d i b) v z y) (fun _ =>False):=by
 have a1:=hs.hr;have ao:=fun(k:Nat)(h:k<s.rows.length)=>Yd h
 have ad:=fun(k:Nat)(h:k<s.rows.length)=>Dd (l:=(s.rows.getD k default).coef) (k:=i) (by rw [Gl hs.hc h default];exact hi)
 have n:=fun(k:Nat)(h:k<s.rows.length)=>Gl hs.hc h default
 have a6:=M2 s.rows;have az:=hd.hs;have a0:=hd.hx;have gv:=Dd hi;have a3:=A4 s.vals;have af:=A4 d.x;have gx:=Dd (l:=d.x) (k:=i) om;have am:=fun(k:Nat)(h:k<(Wn s.rows i (sgn b) d.sums k).length)=>Dd h
 have e:=T2 s.rows i (sgn b) d.sums;have ah:∀k,Wn s.rows i (sgn b) d.sums (k+1)=(Wn s.rows i (sgn b) d.sums k).set k (IntKind.i64.wrap ((Wn s.rows i (sgn b) d.sums k).getD k 0+IntKind.i64.wrap (sgn b*(s.rows.getD k default).coef.getD i 0))):=fun k=>rfl
 have ag:Wn s.rows i (sgn b) d.sums 0=d.sums:=rfl;have aw:IntKind.i64.wrap (IntKind.i64.wrap (2*b)-1)=sgn b:=rfl;have ar:=T3 d.x i b;unfold Z0 srC Hy;simp only [Ha,e,ar];generalize Wn s.rows i (sgn b) d.sums=f at*;generalize sgn b=sg at*;generalize Gv s.rows=rw at*;generalize Eb s.low=au at*;generalize Eb s.high=aj at*;generalize s.vals.getD i 0=vi at*;generalize As s.vals=vv at*;generalize As s.fx=fv at*;generalize As s.free=ab at*;generalize As d.x=xv at*;generalize As s.order=ov at*;generalize bV d.best=bv at*;have a4:i<xv.length:=om;have g:i<vv.length:=om;have ae:i<d.x.length:=om;refine Gs func302 fun w0 N0 ai=>?_;refine Aa [0,1,2] [22,27,61] (by simp [ntmps302,ae,gx]<;>rfl) (Aa [0,1,6] [22,27,61] (by simp [aw]<;>rfl) ?_);refine Dq [(0,[]),(1,[]),(2,[]),(4,[]),(5,[]),(6,[]),(7,[]),(8,[]),(10,[]),(3,[]),(9,[]),(11,[]),(12,[]),(13,[]),(14,[]),(15,[]),(16,[]),(17,[])] [0,1,6] [22,27,61] Ds kr (by simp [gv,g]<;>rfl) ?_;refine Aa [0,1,6,40,41,42] [22,27,61] sr (Ar (Br (fun k nx=>⟨[(0,V.bp 22 v 17 0 0),(1,V.int .i64 i),(6,.int .i64 sg),(40,.ro 3 rw),(41,.int .i64 rw.length),(42,V.int .i64 k)],[(22,⟨v,17,376,[V.agg [V.ro 1 vv,V.ro 3 rw,V.ro 1 fv,V.ro 1 ab,V.bool s.one,V.bool s.once,V.sl 27 z 1 d.x.length,V.int IntKind.i64 (IntKind.i64.wrap (d.value+IntKind.i64.wrap (sg*vi))),V.sl 61 y 1 d.sums.length,V.ro 1 au,V.ro 1 aj,V.int IntKind.i64 s.wide,V.ro 1 ov,V.int IntKind.i64 d.least,bv,V.int IntKind.i64 d.most,V.bool d.found]]⟩),(27,⟨z,1,3,xv.set i (.int .i64 b)⟩),(61,⟨y,1,3,As (f k)⟩)],nx,64⟩) (fun k=>True) s.rows.length _ trivial (by simp only [ag];exact AS.le_refl _) ?_));intro k nx hk hI;refine Aa [0,1,6,40,41,42,43] [22,27,61] sr (Ab ?_)
 refine Ao (fun h1=>Ae ?_) fun h1=>?_
 ·have a:k<s.rows.length:=by simp at h1;omega
  have u:k<rw.length:=om;have ga:=ao k a;have gc:=ad k a;have lc:=n k a;have Dg:=A6 (k:=k) om;have t:=ah k;have aa:=T3 (f k) k;have al:k<(f k).length:=by rw [e];omega
  have gs:=am k al;have a5:=A4 (f k);have ax:=e k;generalize s.rows.getD k default=r at*;obtain⟨cf,a2,ay⟩:=r;simp only at gc lc ga t;have n:=A4 cf;generalize As cf=cv at*;generalize cf.getD i 0=c at*;generalize As (f k)=m at*;generalize(f k).getD k 0=su at*;have an:i<cv.length:=om;have a7:k<m.length:=om;have aq:k<d.sums.length:=om;have w:m.length=d.sums.length:=om;refine Ab (Ar (Aa [0,1,6,7,8,40,41,42] [8,22,27,61] (by simp [ga,u]<;>rfl) ?_));refine Rr [(0,[]),(1,[]),(2,[]),(4,[]),(7,[]),(8,[]),(10,[]),(3,[]),(5,[]),(6,[]),(9,[]),(11,[]),(12,[]),(13,[]),(14,[]),(15,[]),(16,[])] [0,1,6,40,41,42] [22,27,61] Ds kr (by simp [gs,gc,an,aq]<;>rfl) ?_;refine A3 [0,1,6,40,41,42] [22,27,61] (by simp [Dg]<;>rfl) ?_;exact⟨a,trivial,_,by rw [t,aa];exact AS.le_refl _⟩
 ·have av:k=s.rows.length:=by simp at h1;omega
  subst av;refine Amx ai ?_;refine Bb ?_;exact⟨A8 _ _,.tup [],_,by simp [results302],fun k o hk=>E9 gt gt gt hk,rfl,rfl⟩
theorem Mk{n b:Nat}(a:n<=100000)(c:b<=1000):n<=maxLen/\n*b<=140737488355328:=
 ⟨Ai a dc,Ai (Hx a c) dc⟩
theorem Ye(es:List V)(hp:es.all V.pureE=true)(c:es.all Lu=true)(f:es.length<=100000):ACO prog 110 [.ro 1 es] 1 3 (fun F a=>(F=fun d q=>.sl d q 1 es.length)/\a=es):=by
 have e:=Mk (b:=8) f dc;refine Kr func110 fun w0 N0=>?_;refine Aa [0] [] sr (Ab (Ab (Ad (Am 1 sr ?_))));refine No rfl rfl sr rfl kr (fun b h=>⟨_,by simp<;>rfl,?_⟩);refine Af [0,4] [] sr ?_
 refine Ao (fun h1=>?_) fun h1=>Ae ?_
 ·refine Aa [2] [] sr ?_;have g:=Aq.1 (h h1);subst g;refine Fp 2 2 1 3 [2] [2] sr sr ?_;exact Aj (Ii 2 sr rfl rfl sm sr ⟨rfl,rfl⟩)
 refine Aa [2] [5] (by simp [e]<;>rfl) ?_;exact Aj (Ii 5 sr rfl rfl (by simpa using c) sr ⟨rfl,rfl⟩)
theorem Aax(es:List V)(hp:es.all V.pureE=true)(a:es.all Lu=true)(c:es.length<=100000):AC prog 110 [.ro 1 es] (fun r=>r=.ro 1 es):=by
 refine(Ye es hp a c).ac ?_;rintro F d⟨rfl,rfl⟩;exact⟨_,by simp [hp]<;>rfl,rfl⟩
theorem Ajq(es:List V)(hp:es.all V.pureE=true)(c:es.all Lu=true)(f:es.length<=100000):ACO prog 113 [.ro 1 es] 1 149 (fun F a=>(F=fun d q=>.sl d q 1 es.length)/\a=es):=by
 have e:=Mk (b:=4) f dc;refine Kr func113 fun w0 N0=>?_;refine Aa [0] [] sr (Ab (Ab (Ad (Am 1 sr ?_))));refine No rfl rfl sr rfl kr (fun b h=>⟨_,by simp<;>rfl,?_⟩);refine Af [0,4] [] sr ?_
 refine Ao (fun h1=>?_) fun h1=>Ae ?_
 ·refine Aa [2] [] sr ?_;have g:=Aq.1 (h h1);subst g;refine Fp 2 2 1 149 [2] [2] sr sr ?_;exact Aj (Ii 2 sr rfl rfl sm sr ⟨rfl,rfl⟩)
 refine Aa [2] [5] (by simp [e]<;>rfl) ?_;exact Aj (Ii 5 sr rfl rfl (by simpa using c) sr ⟨rfl,rfl⟩)
theorem Aay(es:List V)(hp:es.all V.pureE=true)(a:es.all Lu=true)(c:es.length<=100000):AC prog 113 [.ro 1 es] (fun r=>r=.ro 1 es):=by
 refine(Ajq es hp a c).ac ?_;rintro F d⟨rfl,rfl⟩;exact⟨_,by simp [hp]<;>rfl,rfl⟩
theorem Yf(es:List V)(hp:es.all V.pureE=true)(c:es.all Lu=true)(f:es.length<=100000):ACO prog 111 [.ro 2 es] 2 98 (fun F a=>(F=fun d q=>.sl d q 2 es.length)/\a=es):=by
 have e:=Mk (b:=16) f dc;refine Kr func111 fun w0 N0=>?_;refine Aa [0] [] sr (Ab (Ab (Ad (Am 1 sr ?_))));refine No rfl rfl sr rfl kr (fun b h=>⟨_,by simp<;>rfl,?_⟩);refine Af [0,4] [] sr ?_
 refine Ao (fun h1=>?_) fun h1=>Ae ?_
 ·refine Aa [2] [] sr ?_;have g:=Aq.1 (h h1);subst g;refine Fp 2 2 2 98 [2] [2] sr sr ?_;exact Aj (Ii 2 sr rfl rfl sm sr ⟨rfl,rfl⟩)
 refine Aa [2] [5] (by simp [e]<;>rfl) ?_;exact Aj (Ii 5 sr rfl rfl (by simpa using c) sr ⟨rfl,rfl⟩)
theorem Amy(es:List V)(hp:es.all V.pureE=true)(a:es.all Lu=true)(c:es.length<=100000):AC prog 111 [.ro 2 es] (fun r=>r=.ro 2 es):=by
 refine(Yf es hp a c).ac ?_;rintro F d⟨rfl,rfl⟩;exact⟨_,by simp [hp]<;>rfl,rfl⟩
theorem Ajr(es:List V)(hp:es.all V.pureE=true)(f:es.length<=100000):ACS prog 112 [.ro 1 es] [] (fun r c=>∃v,r=.sl 5 v 1 es.length/\c= [(5,⟨v,1,30,es⟩)]) (fun _ =>False):=by
 have e:=Mk (b:=24) f dc;refine Gs func112 fun w0 N0 a=>?_;refine Aa [0] [] sr (Ab (Ab (Ad (Am 1 sr ?_))));refine No rfl rfl sr rfl kr (fun b h=>⟨_,by simp<;>rfl,?_⟩);refine Af [0,4] [] sr ?_
 refine Ao (fun h1=>?_) fun h1=>Ae ?_
 ·refine Aa [2] [] sr ?_;have g:=Aq.1 (h h1);subst g;refine Fp 2 5 1 30 [2] [5] sr sr ?_;exact C1 a (Dr (A8 _ _) sr ⟨_,rfl,rfl⟩ (fun k o d=>Dk gt d))
 refine Aa [2] [5] (by simp [e]<;>rfl) ?_;exact C1 a (Dr (A8 _ _) sr ⟨_,rfl,rfl⟩ (fun k o d=>Dk gt d))
theorem Yg(S:AS)(o:Option (List Int)):S.viewC (bV o)=some (bV o):=by
 cases o with
 |none=>rfl
 |some l=>have:=Ag l;simp [bV,AS.viewC]
theorem Kd{a b c k:Nat}{x y z g f h:Ob}(d:Eng.get [(a,x),(b,y),(c,z)] k=none):Eng.get [(a,g),(b,f),(c,h)] k=none:=by
 simp only [Eng.get]at d|-
 split at d
 ·cases d
 ·rename_i h1;rw [if_neg h1]
  split at d
  ·cases d
  ·rename_i h2;rw [if_neg h2]
   split at d
   ·cases d
   ·rename_i e;rw [if_neg e]
def V0(s:Ss)(d:Sd)(a:Nat):Bool:= !Afx s d a||decide (Aqe s d a<d.least)
def Ahr(s:Ss)(d:Sd):Sd:={ d with best:=some d.x,most:=d.value,found:=true,least:=if s.once=true then 9223372036854775807 else IntKind.i64.wrap (d.value+1)}
def vI(s:Ss)(a:Nat):Nat:=(s.free.getD a 0).toNat
def Amz(s:Ss)(a:Nat):Bool:= !s.one&&decide (s.vals.getD (vI s a) 0<=0)
def Gm(s:Ss):Nat->Nat->Sd->Sd
 |0,a,d=>if V0 s d a=true then d else Ahr s d
 |m+1,a,d=>if V0 s d a=true then d else
  if Amz s a=true then Hy s (Gm s m (a+1) (Hy s (Gm s m (a+1) d) (vI s a) 1)) (vI s a) 0
  else Gm s m (a+1) (Hy s (Gm s m (a+1) (Hy s d (vI s a) 1)) (vI s a) 0)
theorem A0w{s:Ss}{d:Sd}(h:WfD s d):WfD s (Ahr s d):=⟨h.hx,h.hs⟩
theorem Qi{s:Ss}:∀(m a:Nat){d:Sd},WfD s d->WfD s (Gm s m a d)
 |0,a,d,h=>by rw [Gm];split;exact h;exact A0w h
 |m+1,a,d,h=>by
  rw [Gm]
  split
  ·exact h
  ·split
   ·exact Qh (Qi m _ (Qh (Qi m _ h) _ _)) _ _
   ·exact Qi m _ (Qh (Qi m _ (Qh h _ _)) _ _)
theorem Ahs{s:Ss}{m a:Nat}{d:Sd}(h:V0 s d a=true):Gm s m a d=d:=by cases m<;>rw [Gm,if_pos h]
def A8k(s:Ss)(v f e m:Nat):Prop:=∀(a:Nat)(d:Sd),a+m=s.free.length->WfD s d->
 ACS prog 278 [.bp 22 v 17 0 0,.int .i64 a] (Z0 s d v f e) (fun r c=>r=.tup []/\c=Z0 s (Gm s m a d) v f e) (fun _ =>False)
theorem Ad5(s:Ss)(hs:WfS s)(v xq sq m:Nat)(ih:∀m',m'+1=m->A8k s v xq sq m'):A8k s v xq sq m:=by
 intro c d bi hd;have ah:=Amw s d c hs hd om;have af:=A0v s d c hs hd;have z:V0 s d c=(!Afx s d c||decide (Aqe s d c<d.least)):=rfl;generalize t:Gm s m c d=R;generalize Afx s d c=ps,Aqe s d c=bn at*;have n:=A4 d.x;have aj:=A4 d.sums;have ax:=A4 s.free;have a8:=A4 s.vals;have pb:=Abw d.best;have px:=Ag d.x;have ad:=Ag d.sums;have p1:=Ag s.vals;have p2:=Gg s.rows;have p3:=Ag s.fx;have p4:=Ag s.free;have p5:=Do s.low;have p6:=Do s.high;have p7:=Ag s.order;have hfl:=hs.hfl;have bh:=hs.hv;have a5:=fun(k:Nat)(h:k<s.free.length)=>Dd h
 have bb:=fun(k:Nat)(h:k<s.vals.length)=>Dd h
 have ay:=Fo px;have ar:=Fo ad;have bk:∀y:Option (List Int),∀u:Bool,∀w:V,(bV y=.whn u w)=False:=fun y u w=>by cases y<;>simp [bV]
 refine Gs func278 fun w0 N0 j=>?_;unfold Z0;simp only [srC]at ah af|-;refine Ab ?_;cases ps with
 |false=>
  refine Ab (Lw [2] Ds ?_);refine Ih [(0,[]),(1,[])] kr sr ?_
  refine I0 (i:=2) (ks:=[]) kr rfl sm (Uu sm ah func300 rfl kr sr rfl rfl sr (by simp [n,aj,px,ad,↓Yg]<;>rfl) rfl sr) ?_;refine Ih [(3,[]),(4,[]),(5,[]),(6,[])] kr sr ?_
  refine Ih [(7,[]),(8,[]),(9,[]),(10,[]),(11,[]),(12,[]),(13,[])] kr sr ?_
  refine Kp [0,1,19] [22,27,61] kr sr ?_;refine A7 rfl (fun h1=>?_) fun h1=>absurd h1 sm;rw [Ahs (by rw [z];rfl)]at t;subst t;exact C1 j (Dr (A8 _ _) sr ⟨rfl,rfl⟩ (fun k o a=>E9 gt gt gt a))
 |true=>
 refine Ph ⟨[(0,V.bp 22 v 17 0 0),(1,V.int .i64 c),(19,V.bool (decide (bn<d.least)))],[(22,⟨v,17,376,[V.agg [V.ro 1 (As s.vals),V.ro 3 (Gv s.rows),V.ro 1 (As s.fx),V.ro 1 (As s.free),V.bool s.one,V.bool s.once,V.sl 27 xq 1 d.x.length,V.int IntKind.i64 d.value,V.sl 61 sq 1 d.sums.length,V.ro 1 (Eb s.low),V.ro 1 (Eb s.high),V.int IntKind.i64 s.wide,V.ro 1 (As s.order),V.int IntKind.i64 d.least,bV d.best,V.int IntKind.i64 d.most,V.bool d.found]]⟩),(27,⟨xq,1,3,As d.x⟩),(61,⟨sq,1,3,As d.sums⟩)],j+14,104⟩ ?h1 ?h2
 case h1=>
  refine Lw [2,7] Ds ?_;refine Ih [(0,[]),(1,[])] kr sr ?_
  refine I0 (i:=2) (ks:=[]) kr rfl sm (Uu sm ah func300 rfl kr sr rfl rfl sr (by simp [n,aj,px,ad,↓Yg]<;>rfl) rfl sr) ?_;refine Ih [(3,[]),(4,[]),(5,[]),(6,[]),(8,[]),(9,[]),(10,[])] kr sr ?_
  refine Ur [7,11] kr ?_;intro i hi;simp only [Cj,F9,or_false]at hi
  rcases hi with rfl|rfl
  ·refine⟨_,_,rfl,Uu sm af func301 rfl kr sr rfl rfl sr (by simp [n,aj,px,ad,↓Yg]<;>rfl) rfl sr,?_⟩;refine Ih [(11,[]),(12,[]),(13,[])] kr sr ?_
   refine Kp [0,1,19] [22,27,61] kr sr ?_;exact⟨rfl,AS.le_refl _⟩
  ·refine⟨_,_,rfl,Q3 sr,?_⟩;refine I0 (i:=7) (ks:=[]) kr rfl sm (Uu sm af func301 rfl kr sr rfl rfl sr (by simp [n,aj,px,ad,↓Yg]<;>rfl) rfl sr) ?_;refine Ih [(12,[]),(13,[])] kr sr ?_
   refine Kp [0,1,19] [22,27,61] kr sr ?_;exact⟨rfl,AS.le_refl _⟩
 refine Ao (fun h1=>?_) fun h1=>Ae ?_
 ·rw [Ahs (by rw [z];simpa using h1)]at t;subst t;exact C1 j (Dr (A8 _ _) sr ⟨rfl,rfl⟩ (fun k o a=>E9 gt gt gt a))
 have al:V0 s d c=false:=by rw [z];simpa using h1
 refine Ab (Aa [0,1,26] [22,27,61] (by simp [ax]<;>rfl) ?_)
 refine Ao (fun h2=>?_) fun h2=>Ae ?_
 ·have be:c=s.free.length:=by simp at h2;omega
  have a6:m=0:=om;subst a6;rw [Gm,if_neg (by rw [al];simp)]at t;unfold Ahr at t;have ak:=Ye (As d.x) px (Rg d.x) (by rw [A4,hd.hx];omega);refine Ph ⟨[(0,V.bp 22 v 17 0 0)],[(22,⟨v,17,376,[V.agg [V.ro 1 (As s.vals),V.ro 3 (Gv s.rows),V.ro 1 (As s.fx),V.ro 1 (As s.free),V.bool s.one,V.bool s.once,V.sl 27 xq 1 d.x.length,V.int IntKind.i64 d.value,V.sl 61 sq 1 d.sums.length,V.ro 1 (Eb s.low),V.ro 1 (Eb s.high),V.int IntKind.i64 s.wide,V.ro 1 (As s.order),V.int IntKind.i64 d.least,V.sl 34 (j+14+7+7) 1 d.x.length,V.int IntKind.i64 d.value,V.bool true]]⟩),(27,⟨xq,1,3,As d.x⟩),(61,⟨sq,1,3,As d.sums⟩),(34,⟨j+14+7+7,1,3,As d.x⟩)],j+14+7+21,104⟩ ?g1 ?g2
  case g1=>
   refine Lw [7] Ds ?_;refine Ih [(0,[]),(1,[]),(2,[]),(3,[]),(4,[]),(5,[]),(6,[]),(8,[]),(9,[]),(10,[])] kr sr ?_
   refine Ur [7,11] kr ?_;intro i hi;simp only [Cj,F9,or_false]at hi
   rcases hi with rfl|rfl
   ·refine⟨_,_,rfl,Alb 34 sm ak func110 rfl kr sr rfl rfl sr (by simp [n,px]<;>rfl) sr,?_⟩;refine Ih [(11,[]),(12,[]),(13,[]),(14,[]),(15,[]),(16,[]),(17,[]),(18,[]),(19,[]),(20,[])] kr sr ?_
    refine Kp [0] [22,27,61,34] kr sr ?_;exact⟨rfl,AS.le_refl _⟩
   ·refine⟨_,_,rfl,Q3 sr,?_⟩;refine I0 (i:=7) (ks:=[]) kr rfl sm (Alb 34 sm ak func110 rfl kr sr rfl rfl sr (by simp [n,px]<;>rfl) sr) ?_;refine Ih [(12,[]),(13,[]),(14,[]),(15,[]),(16,[]),(17,[]),(18,[]),(19,[]),(20,[])] kr sr ?_
    refine Kp [0] [22,27,61,34] kr sr ?_;exact⟨rfl,AS.le_refl _⟩
  refine Bp 34 [0] [22,27,61] (by simp [px,ay,ar,n]<;>rfl) (Aa [0] [22,27,61] sr (Ab (Aa [0,56] [22,27,61] sr ?_)))
  refine Ao (fun h3=>?_) fun h3=>Ae ?_
  ·refine A3 [] [22,27,61] sr ?_;rw [if_pos (by simpa using h3)]at t;subst t;exact C1 j (Dr (A8 _ _) sr ⟨rfl,rfl⟩ (fun k o a=>E9 (by simp [Eng.get,bV]) gt gt a))
  rw [if_neg (by simpa using h3)]at t;subst t;exact C1 j (Dr (A8 _ _) sr ⟨rfl,rfl⟩ (fun k o a=>E9 (by simp [Eng.get,bV]) gt gt a))
 have bf:¬c=s.free.length:=fun e=>by simp [e]at h2
 obtain⟨m',rfl⟩:∃m',m=m'+1:=⟨m-1,by omega⟩;obtain⟨l,aq⟩:∃x:Nat,x=c+1:=⟨_,rfl⟩;have Dg:IntKind.i64.wrap ((c:Int)+1)=(l:Int):=by rw [aq];exact A6 om
 have aa:c<s.free.length:=om;have gf:=a5 c aa;obtain⟨a7,a3⟩:=Gl hs.hf aa 0;obtain⟨i,hi⟩:=Cl a7;have aw:vI s c=i:=by unfold vI;rw [hi];rfl
 have a2:Amz s c=(!s.one&&decide (s.vals.getD i 0<=0)):=by unfold Amz;rw [aw]
 rw [hi]at gf a3;have ao:i<s.vals.length:=om;have gv:=bb i ao;rw [Gm,if_neg (by rw [al];simp),a2,aw,<- aq]at t;have ab:=fun d' am=>(ih m' rfl) l d' om am
 have ai:=fun d' b am=>A48 s d' i b v xq sq hs am ao
 simp only [Z0,srC]at ab ai;generalize s.vals.getD i 0=vi at*;refine Aa [0,1,4] [22,27,61] (by simp [gf,aa,ax]<;>rfl) (Aa [0,1,4,5] [22,27,61] (by simp [gv,ao,a8]<;>rfl) (Ab (Aa [0,1,4,5,83] [22,27,61] sr ?_)))
 refine Ao (fun h4=>?_) fun h4=>Ae ?_
 ·rw [if_pos (by simpa using h4)]at t;refine Ad (Am 3 (by simp [Dg]<;>rfl) ?_);refine El (ab d hd) func278 rfl kr rfl rfl rfl sr (fun k o a=>E9 gt gt gt a) ?_ fun ch f=>f.elim;rintro r g bj⟨rfl,rfl⟩bc;refine⟨fun k a=>Kd a,_,by simp<;>rfl,?_⟩;have au:WfD s (Gm s m' l d):=Qi _ _ hd;generalize Gm s m' l d=d1 at*;refine Af [0,1,4,5] [22,27,61] sr ?_;refine Ab (Ad (Am 2 sr ?_));refine El (ai d1 1 au) func302 rfl kr rfl rfl rfl sr (fun k o a=>E9 gt gt gt a) ?_ fun ch f=>f.elim;rintro r g ba⟨rfl,rfl⟩av;refine⟨fun k a=>Kd a,_,by simp<;>rfl,?_⟩;have ae:WfD s (Hy s d1 i 1):=Qh au _ _;generalize Hy s d1 i 1=d2 at*;refine Af [0,1,4,5] [22,27,61] sr ?_;refine Ab (Ad (Am 3 (by simp [Dg]<;>rfl) ?_));refine El (ab d2 ae) func278 rfl kr rfl rfl rfl sr (fun k o a=>E9 gt gt gt a) ?_ fun ch f=>f.elim;rintro r g a4⟨rfl,rfl⟩a1;refine⟨fun k a=>Kd a,_,by simp<;>rfl,?_⟩;have ag:WfD s (Gm s m' l d2):=Qi _ _ ae;generalize Gm s m' l d2=d3 at*;refine Af [0,1,4,5] [22,27,61] sr ?_;refine Ab (Ad (Am 2 sr ?_));refine El (ai d3 0 ag) func302 rfl kr rfl rfl rfl sr (fun k o a=>E9 gt gt gt a) ?_ fun ch f=>f.elim;rintro r g a9⟨rfl,rfl⟩az;refine⟨fun k a=>Kd a,_,by simp<;>rfl,?_⟩;have an:WfD s (Hy s d3 i 0):=Qh ag _ _;generalize Hy s d3 i 0=d4 at*;refine Af [0,1,5] [22,27,61] sr ?_;refine Amx j ?_;refine Aa [0,1,99] [22,27,61] sr ?_;refine A7 rfl (fun h5=>absurd h5 (by revert h4;cases s.one<;>simp<;>omega)) (fun h5=>Ae ?_);subst t;exact⟨by simp only;omega,.tup [],_,by simp [results278],(fun k o a=>E9 gt gt gt a),rfl,rfl⟩
 rw [if_neg (by simpa using h4)]at t;refine Ab (Ad (Am 2 sr ?_));refine El (ai d 1 hd) func302 rfl kr rfl rfl rfl sr (fun k o a=>E9 gt gt gt a) ?_ fun ch f=>f.elim;rintro r g ba⟨rfl,rfl⟩av;refine⟨fun k a=>Kd a,_,by simp<;>rfl,?_⟩;have ae:WfD s (Hy s d i 1):=Qh hd _ _;generalize Hy s d i 1=d2 at*;refine Af [0,1,4,5] [22,27,61] sr ?_;refine Ab (Ad (Am 3 (by simp [Dg]<;>rfl) ?_));refine El (ab d2 ae) func278 rfl kr rfl rfl rfl sr (fun k o a=>E9 gt gt gt a) ?_ fun ch f=>f.elim;rintro r g a4⟨rfl,rfl⟩a1;refine⟨fun k a=>Kd a,_,by simp<;>rfl,?_⟩;have ag:WfD s (Gm s m' l d2):=Qi _ _ ae;generalize Gm s m' l d2=d3 at*;refine Af [0,1,4,5] [22,27,61] sr ?_;refine Ab (Ad (Am 2 sr ?_));refine El (ai d3 0 ag) func302 rfl kr rfl rfl rfl sr (fun k o a=>E9 gt gt gt a) ?_ fun ch f=>f.elim;rintro r g a9⟨rfl,rfl⟩az;refine⟨fun k a=>Kd a,_,by simp<;>rfl,?_⟩;have an:WfD s (Hy s d3 i 0):=Qh ag _ _;generalize Hy s d3 i 0=d4 at*;refine Af [0,1,5] [22,27,61] sr ?_;refine Amx j ?_;refine Aa [0,1,99] [22,27,61] sr ?_
 refine A7 rfl (fun h6=>?_) (fun h6=>absurd h4 (by revert h6;cases s.one<;>simp<;>omega))
 ·refine Ad (Am 3 (by simp [Dg]<;>rfl) ?_);refine El (ab d4 an) func278 rfl kr rfl rfl rfl sr (fun k o a=>E9 gt gt gt a) ?_ fun ch f=>f.elim;rintro r g bg⟨rfl,rfl⟩a0;refine⟨fun k a=>Kd a,_,by simp<;>rfl,?_⟩;have bd:WfD s (Gm s m' l d4):=Qi _ _ an;generalize Gm s m' l d4=d5 at*;refine Af [] [22,27,61] sr ?_;subst t;exact⟨by simp only;simp at a0;omega,.tup [],_,by simp [results278],(fun k o a=>E9 gt gt gt a),rfl,rfl⟩
theorem Aht(s:Ss)(hs:WfS s)(v c a:Nat):∀m,A8k s v c a m
 |0=>Ad5 s hs v c a 0 (fun d h=>by omega)
 |m+1=>Ad5 s hs v c a (m+1) (fun d h=>by
  have:d=m:=om;subst this;exact Aht s hs v c a d)
theorem Ahu(s:Ss)(hs:WfS s)(v e c:Nat)(d:Sd)(f:WfD s d):
  ACS prog 278 [.bp 22 v 17 0 0,.int .i64 0] (Z0 s d v e c) (fun r a=>r=.tup []/\a=Z0 s (Gm s s.free.length 0 d) v e c) (fun _ =>False):=
 Aht s hs v e c s.free.length 0 d om f
def Qj(l:List Int)(j:Nat):List Int:=(l.set (j+1) (l.getD j 0)).set j (l.getD (j+1) 0)
def bub(a:Int->Int->Int):Nat->List Int->List Int
 |0,l=>l
 |j+1,l=>if a (l.getD (j+1) 0) (l.getD j 0)<0 then bub a j (Qj l j)else l
def Yh(a:Int->Int->Int)(l:List Int):Nat->List Int
 |0=>l
 |k+1=>bub a (k+1) (Yh a l k)
def G9(a:Int->Int->Int)(l:List Int):List Int:=Yh a l (l.length-1)
theorem Ri(l:List Int)(j:Nat):(Qj l j).length=l.length:=by simp [Qj]
theorem Asi(a:Int->Int->Int):∀(j:Nat)(l:List Int),(bub a j l).length=l.length
 |0,l=>rfl
 |j+1,l=>by rw [bub];split;rw [Asi a j,Ri];rfl
theorem Og(a:Int->Int->Int)(l:List Int):∀k,(Yh a l k).length=l.length
 |0=>rfl
 |k+1=>by rw [Yh,Asi,Og a l k]
theorem Z1{l:List Int}{j:Nat}{x:Int}(a:j+1<l.length)(h:x∈Qj l j):x∈l:=by
 unfold Qj at h;rw [Cp a,Cp (show j<l.length by omega)]at h
 rcases Fg h with h|h
 ·rcases Fg h with h|h
  ·exact h
  ·rw [h];exact Az _
 ·rw [h];exact Az _
theorem Asj{a:Int->Int->Int}{x:Int}:∀(j:Nat)(l:List Int),j<l.length->x∈bub a j l->x∈l
 |0,l,_,h=>h
 |j+1,l,c,h=>by
  rw [bub]at h
  split at h
  ·exact Z1 c (Asj j _ (by rw [Ri];omega) h)
  ·exact h
theorem Yi{a:Int->Int->Int}{l:List Int}{x:Int}:∀k,k<l.length->x∈Yh a l k->x∈l
 |0,_,h=>h
 |k+1,c,h=>Yi k om (Asj (k+1) _ (by rw [Og];exact c) h)
theorem Ml(a:Int->Int->Int)(l:List Int):(G9 a l).length=l.length:=Og a l _
theorem Rj{c:Int->Int->Int}{l:List Int}{x:Int}(h:x∈G9 c l):x∈l:=by
 cases l with
 |nil=>exact h
 |cons a t=>exact Yi _ sm h
theorem Am0(d v:Nat)(l:List Int)(f:FuncId)(us vs:List V)(c:Int->Int->Int)(hl:l.length<=1000)
  (hf:∀a∈l,∀b∈l,FCQ G0 prog (.fc f us vs) [.int .i64 a,.int .i64 b] (fun r=>r=.int .i64 (c a b))):
  ACS prog 239 [.sl d v 1 l.length,.int .i64 0,.int .i64 l.length,.fc f us vs] [(d,⟨v,1,3,As l⟩)] (fun r s=>r=.tup []/\s= [(d,⟨v,1,3,As (G9 c l)⟩)]) (fun _ =>False):=by
 have am:=Og c l;have ah:∀k,k<l.length->∀x∈Yh c l k,x∈l:=fun k hk x hx=>Yi k hk hx
 have ae:∀k,Yh c l (k+1)=bub c (k+1) (Yh c l k):=fun k=>rfl
 have ad:Yh c l 0=l:=rfl;unfold G9;generalize Yh c l=ik at*;refine Gs func239 fun w0 N0 ag=>?_;refine Aa [0,1,2,3,8] [d] sr (Ar (Br (fun k nx=>⟨[(0,V.sl d v 1 l.length),(1,V.int .i64 0),(2,V.int .i64 l.length),(3,.fc f us vs),(8,.int .i64 (k+1:Nat))],[(d,⟨v,1,3,As (ik k)⟩)],nx,53⟩) (fun k=>True) (l.length-1) _ trivial (by simp only [ad];exact AS.le_refl _) ?_));intro k nx hk hI;refine Ab (Aa [0,1,2,3,8,14] [d] sr ?_)
 refine Ao (fun h1=>Ae ?_) fun h1=>?_
 ·have au:k+1<l.length:=by simp at h1;omega
  have Dg:IntKind.i64.wrap ((k:Int)+1+1)=(k:Int)+1+1:=Bh om om;have aj:=ae k;have ax:=am k;have aw:=ah k om;refine Ab (Ar (Aa [0,1,2,3,8,9] [d] sr (Ar ?_)))
  refine Di (fun x:List Int × Nat × Nat=>⟨[(0,V.sl d v 1 l.length),(1,V.int .i64 0),(2,V.int .i64 l.length),(3,.fc f us vs),(8,.int .i64 (k+1:Nat)),(9,.int .i64 x.2.1)],[(d,⟨v,1,3,As x.1⟩)],x.2.2,53⟩)
   (fun x=>x.1.length=l.length/\x.2.1<l.length/\(∀y∈x.1,y∈l)/\bub c x.2.1 x.1=ik (k+1)) (fun x=>x.2.1) (ik k,k+1,_) ⟨ax,au,aw,aj.symm⟩ (AS.le_refl _) ?_
  rintro⟨A,j,a4⟩⟨ai,aq,g,e⟩;simp only at ai aq g e|-;refine Ab ?_;have az:=A4 A;cases j with
  |zero=>
   have ao:0<l.length:=om;have w:IntKind.i64.wrap (-1)= -1:=rfl;have ab:=Dd (l:=A) (k:=0) om;have al:(As A).length=l.length:=om;refine Ab (Lw [] Ds ?_);refine Ih [(0,[]),(1,[]),(2,[]),(3,[]),(4,[]),(5,[]),(6,[]),(7,[]),(9,[]),(10,[]),(11,[]),(12,[]),(8,[]),(13,[]),(14,[]),(15,[]),(16,[])] kr (by simp [ao,ab,w]<;>rfl) ?_
   refine Kp [0,1,2,3,8,9,34] [d] kr sr ?_;refine A7 rfl (fun h2=>absurd h2 sm) fun h2=>?_;refine Bb ?_;refine A3 [0,1,2,3,8] [d] (by simp [Dg]<;>rfl) ?_;rw [bub]at e;exact⟨by omega,trivial,_,by rw [e];exact AS.le_refl _⟩
  |succ j=>
  have t:j+1<A.length:=om;have u:j<l.length:=om;have g1:=Dd t;have g0:=Dd (l:=A) (k:=j) om;have ak:A.getD (j+1) 0∈l:=g _ (by rw [Cp t];exact Az _);have an:A.getD j 0∈l:=g _ (by rw [Cp (show j<A.length by omega)];exact Az _);have hF:=hf _ ak _ an;rw [bub]at e;have ay:=Ri A j;have af:=fun(t:j+1<A.length)(x:Int)(h:x∈Qj A j)=>g x (Z1 t h)
  have n:IntKind.i64.wrap (j:Int)=(j:Int):=Bh om om;have z:(0:Int)<=(j:Int)+1/\(j:Int)+1<(l.length:Int):=om;have a3:j+1<(As A).length:=om;have a5:j<(As A).length:=om;have m:(As A).length=l.length:=om;have aa:As (Qj A j)=((As A).set (j+1) (.int .i64 (A.getD j 0))).set j (.int .i64 (A.getD (j+1) 0)):=by unfold Qj;rw [T3,T3]
  generalize A.getD (j+1) 0=a1,A.getD j 0=a0 at*;obtain⟨i1,a2⟩:∃i1:Int,i1=((j+1:Nat):Int):=⟨_,rfl⟩;refine Ab (Lw [14] Ds ?_);refine Ih [(0,[]),(1,[]),(2,[]),(3,[]),(4,[]),(5,[]),(6,[]),(7,[]),(8,[]),(9,[]),(10,[]),(11,[]),(12,[]),(13,[])] kr (by simp [n,g1,g0,z,u]<;>rfl) ?_
  refine I0 (i:=14) (ks:=[]) kr rfl sm (Ax6 sm (A8i _) hF sr rfl sr sr sm sr) ?_;refine Ih [(15,[]),(16,[])] kr sr ?_
  refine Kp [0,1,2,3,8,9,34] [d] kr sr ?_
  refine Ao (fun h2=>Ae ?_) fun h2=>?_
  ·refine Ab ?_;rw [if_pos (by simpa using h2)]at e;have av:∀x,G8 ((As A).set (j+1) x) j=some (.int .i64 a0):=fun x=>by rw [C0,Hw om,<- C0];exact g0
   refine Ar (Rr [(0,[]),(1,[]),(2,[]),(3,[]),(4,[]),(5,[]),(6,[]),(7,[]),(8,[]),(10,[]),(11,[]),(12,[]),(9,[]),(13,[]),(14,[]),(15,[]),(16,[]),(17,[])] [0,1,2,3,8,9] [d] Ds kr (by simp [n,g1,g0,z,u,av]<;>rfl) ?_);refine A3 [0,1,2,3,8,9] [d] (by simp [n]<;>rfl) ?_;exact⟨(Qj A j,j,_),⟨by simp only;omega,by simp only;omega,af t,e⟩,by simp only;omega,by simp only [aa];exact AS.le_refl _⟩
  ·rw [if_neg (by simpa using h2)]at e;refine Bb ?_;refine A3 [0,1,2,3,8] [d] (by simp [Dg]<;>rfl) ?_;exact⟨by omega,trivial,_,by rw [<- e];exact AS.le_refl _⟩
 ·have ar:k=l.length-1:=by simp at h1;omega
  subst ar;refine Amx ag ?_;refine Bb ?_;exact⟨by simp only;omega,.tup [],_,by simp [results239],fun k o hk=>Dk gt hk,rfl,rfl⟩
theorem A0x(d v:Nat)(l:List Int)(f:FuncId)(us vs:List V)(c:Int->Int->Int)(hl:l.length<20)
  (u:∀a∈l,∀b∈l,FCQ G0 prog (.fc f us vs) [.int .i64 a,.int .i64 b] (fun r=>r=.int .i64 (c a b))):
  ACS prog 296 [.sl d v 1 l.length,.int .i64 l.length,.fc f us vs] [(d,⟨v,1,3,As l⟩)] (fun r e=>r=.tup []/\e= [(d,⟨v,1,3,As (G9 c l)⟩)]) (fun _ =>False):=by
 have i:=Am0 d v l f us vs c om u;have n:¬(20:Int)<=l.length:=om;have h:¬(20:Int)<l.length:=om;have g:=Ml c l;refine Gs func296 fun w0 N0 m=>?_;refine Aa [0,1,2,6] [d] sr (Aa [0,1,2,6,7,8] [d] sr (Ab (Ar (Di (fun nx:Nat=>⟨[(0,V.sl d v 1 l.length),(1,V.int .i64 l.length),(2,.fc f us vs),(6,V.int .i64 20),(7,V.int .i64 0),(8,V.int .i64 20)],[(d,⟨v,1,3,As l⟩)],nx,63⟩) (fun _ =>True) (fun _ =>0) _ trivial (AS.le_refl _) ?_))));intro nx _;refine Ab (Aa [0,1,2,6,7,8,13] [d] sr ?_)
 refine A7 rfl (fun h1=>absurd h1 (by simp [n])) fun h1=>?_
 ·refine Bb ?_;refine Ab (Ad (Am 4 sr ?_));refine El i func239 rfl kr rfl rfl rfl sr (fun k o g=>Dk gt g) ?_ fun ch j=>j.elim;rintro r e w⟨rfl,rfl⟩s;refine⟨fun k g=>L3 g,_,by simp<;>rfl,?_⟩;refine Af [0,1,2,6] [d] sr ?_;refine Ar (Di (fun nx:Nat=>⟨[(0,V.sl d v 1 l.length),(1,V.int .i64 l.length),(2,.fc f us vs),(6,V.int .i64 20)],[(d,⟨v,1,3,As (G9 c l)⟩)],nx,63⟩) (fun _ =>True) (fun _ =>0) _ trivial (AS.le_refl _) ?_);intro t _;refine Ab (Aa [0,1,2,6,30] [d] sr ?_)
  refine A7 rfl (fun h2=>absurd h2 (by simp [h])) fun h2=>?_
  ·refine Amx m ?_;refine Bb ?_;exact⟨by simp only;omega,.tup [],_,by simp [results296],fun k o g=>Dk gt g,rfl,rfl⟩
theorem Ahv(d v:Nat)(l:List Int)(f:FuncId)(us vs:List V)(e:Int->Int->Int)(n:l.length<20)
  (s:∀a∈l,∀b∈l,FCQ G0 prog (.fc f us vs) [.int .i64 a,.int .i64 b] (fun r=>r=.int .i64 (e a b))):
  ACS prog 275 [.sl d v 1 l.length,.fc f us vs] [(d,⟨v,1,3,As l⟩)] (fun r c=>r=.tup []/\c= [(d,⟨v,1,3,As (G9 e l)⟩)]) (fun _ =>False):=by
 have h:=A0x d v l f us vs e n s;refine Gs func275 fun w0 N0 m=>?_;refine Ad (Am 4 sr ?_);refine El h func296 rfl kr rfl rfl rfl sr (fun k o i=>Dk gt i) ?_ fun ch j=>j.elim;rintro r c t⟨rfl,rfl⟩g;refine⟨fun k i=>L3 i,_,by simp<;>rfl,?_⟩;refine Af [] [d] sr ?_;exact⟨by simp only;simp at g;omega,.tup [],_,by simp [results275],fun k o i=>Dk gt i,rfl,rfl⟩
def R5(c:List Int)(a b:Int):Int:=IntKind.i64.wrap (c.getD b.toNat 0-c.getD a.toNat 0)
theorem A49(c:List Int)(i k:List V)(pr:i.all V.pureE=true)(pf:k.all V.pureE=true)(a b:Int)(m:0<=a/\a<c.length)(o:0<=b/\b<c.length):
  AC prog 276 [.int .i64 a,.int .i64 b,.rp (.agg [.ro 1 (As c),.ro 3 i,.ro 1 k])] (fun r=>r=.int .i64 (R5 c a b)):=by
 obtain⟨h,rfl⟩:=Cl m.1;obtain⟨b',rfl⟩:=Cl o.1;have d:h<c.length:=om;have g:b'<c.length:=om;have l:=Dd d;have n:=Dd g;have lv:=A4 c;have pv:=Ag c;unfold R5;simp only [Dn];generalize c.getD h 0=va,c.getD b' 0=vb,As c=j at*;have e:h<j.length:=om;have f:b'<j.length:=om;refine Ax func276 fun w0 N0=>?_;refine Aa [0,1,2] [] sr ?_;refine Dq [(0,[]),(2,[]),(5,[]),(7,[]),(1,[]),(3,[]),(4,[]),(6,[]),(8,[]),(9,[]),(10,[]),(11,[])] [5] [] Ds kr (by simp [l,n,e,f]<;>rfl) ?_;exact Aj (Ac sr (rfl))
def Afy(c free:List Int)(a b:Int):Int:=IntKind.i64.wrap (c.getD (free.getD b.toNat 0).toNat 0-c.getD (free.getD a.toNat 0).toNat 0)
theorem A5a(c:List Int)(x fv:List V)(free:List Int)(pr:x.all V.pureE=true)(pf:fv.all V.pureE=true)(hf:∀i∈free,0<=i/\i<c.length)(a b:Int)(ha:0<=a/\a<free.length)(hb:0<=b/\b<free.length):
  AC prog 299 [.int .i64 a,.int .i64 b,.rp (.agg [.ro 1 (As c),.ro 3 x,.ro 1 fv]),.rp (.ro 1 (As free))] (fun r=>r=.int .i64 (Afy c free a b)):=by
 obtain⟨s,rfl⟩:=Cl ha.1;obtain⟨b',rfl⟩:=Cl hb.1;have f:s<free.length:=om;have d:b'<free.length:=om;have ga:=Dd f;have gb:=Dd d;obtain⟨o,ad⟩:=Gl hf f 0;obtain⟨l,ab⟩:=Gl hf d 0;unfold Afy;simp only [Dn];generalize free.getD s 0=fa,free.getD b' 0=fb at*;obtain⟨n,rfl⟩:=Cl o;obtain⟨t,rfl⟩:=Cl l;have k:n<c.length:=om;have h:t<c.length:=om;have m:=Dd k;have w:=Dd h;have lv:=A4 c;have pv:=Ag c;have lf:=A4 free;have aa:=Ag free;simp only [Dn];generalize c.getD n 0=va,c.getD t 0=vb,As c=y,As free=z at*;have j:n<y.length:=om;have u:t<y.length:=om;have g:s<z.length:=om;have e:b'<z.length:=om;refine Ax func299 fun w0 N0=>?_;refine Aa [0,1,2,3] [] sr ?_;refine Dq [(0,[]),(3,[]),(8,[]),(11,[]),(1,[]),(2,[]),(4,[]),(5,[]),(6,[]),(7,[]),(9,[]),(10,[]),(12,[]),(13,[]),(14,[]),(15,[]),(16,[]),(17,[])] [6] [] Ds kr (by simp [ga,gb,j,u,m,w,g,e]<;>rfl) ?_;exact Aj (Ac sr (rfl))
def N9(f:Int):Int:=if f<0 then 0 else f
def Yj(c:Int):Int:=if 0<c then 0 else c
def xP(a:List Int):List Int:=a.map N9
def smP(a:List Rw)(x:List Int):List Int:=a.map fun r=>Vz r.coef x
def Wo(g:Int->Int)(a:List Rw)(free:List Int):Nat->List Int
 |0=>List.replicate a.length 0
 |m+1=>(List.range a.length).map fun r=>IntKind.i64.wrap ((Wo g a free m).getD r 0+g ((a.getD r default).coef.getD (free.getD (free.length-(m+1)) 0).toNat 0))
theorem Yk(g:Int->Int)(a:List Rw)(free:List Int):∀m,(Wo g a free m).length=a.length
 |0=>by simp [Wo]
 |m+1=>by simp [Wo]
def loL(g:Int->Int)(a:List Rw)(free:List Int):Mo:=(List.range (free.length+1)).map fun d=>Wo g a free (free.length-d)
theorem Qk(g:Int->Int)(a:List Rw)(free:List Int):(loL g a free).length=free.length+1:=by simp [loL]
theorem Asm(g:Int->Int)(a:List Rw)(free:List Int):∀l∈loL g a free,l.length=a.length:=by
 intro l c;simp only [loL,Bm]at c;obtain⟨d,_,rfl⟩:=c;exact Yk g a free _
theorem Aqg(g:Int->Int)(a:List Rw)(free:List Int){d:Nat}(h:d<=free.length):(loL g a free).getD d []=Wo g a free (free.length-d):=by
 rw [Cp (by rw [Qk];omega)];simp [loL]
def Rk(a free:List Int):Nat->List Int
 |0=>[]
 |k+1=>if 0<a.getD (free.getD k 0).toNat 0 then Rk a free k++[(k:Int)]else Rk a free k
theorem Yl(a free:List Int):∀k,(Rk a free k).length<=k
 |0=>A9 _
 |k+1=>by have:=Yl a free k;rw [Rk];split<;>simp<;>omega
theorem Ym(a free:List Int):∀k,∀i∈Rk a free k,0<=i/\i<k
 |0=>fun i c=>by cases c
 |k+1=>fun i c=>by
  have ih:=Ym a free k;rw [Rk]at c
  split at c
  ·rcases Cc.1 c with h1|h1
   ·have:=ih i h1;omega
   ·have:=Bz.1 h1;omega
  ·have:=ih i c;omega
def nwS(c:List Int)(a:List Rw)(d free:List Int):Ss:=
 ⟨c,a,d,free,false,false,loL Yj a free,loL N9 a free,A0t a,G9 (Afy c free) (Rk c free free.length)⟩
def nwD(a:List Int)(c:List Rw)(d:List Int):Sd:=⟨xP d,Vz a (xP d),smP c (xP d),0,none,0,false⟩
theorem Abx(a:List Rw):∀k,k<=a.length-> -1<=(Qs a k).1/\(Qs a k).1<a.length
 |0,_ =>by simp only [Qs];omega
 |k+1,h=>by
  have:=Abx a k om;rw [Qs]
  split
  ·simp only;omega
  ·exact this
structure WfP(vals:List Int)(rows:List Rw)(fx free:List Int):Prop where
 hr:rows.length<=1000
 hv:vals.length<=1000
 hx:fx.length=vals.length
 hc:∀r∈rows,r.coef.length=vals.length
 hf:∀i∈free,0<=i/\i<vals.length
 hfl:free.length<20
theorem A0y{a:List Int}{c:List Rw}{d free:List Int}(h:WfP a c d free):WfS (nwS a c d free)where
 hr:=h.hr
 hv:=h.hv
 hc:=h.hc
 hf:=h.hf
 hfl:=by have:=h.hfl;simp only [nwS];omega
 hl:=Qk _ _ _
 hh:=Qk _ _ _
 hlr:=Asm _ _ _
 hhr:=Asm _ _ _
 hw:=Abx c c.length (A9 _)
 ho:=fun e f=>Ym a free free.length e (Rj f)
 hol:=by have:=h.hfl;have:=Yl a free free.length;simp only [nwS,Ml];omega
theorem A0z{a:List Int}{c:List Rw}{d free:List Int}(h:WfP a c d free):WfD (nwS a c d free) (nwD a c d):=
 ⟨by simp [nwD,nwS,xP,h.hx],by simp [nwD,nwS,smP]⟩
theorem A8l{P:Program}{w0:Bs}{N0:Nat->Prop}{Q:Exit->AS->Prop}{S:AS}{x:Code}(a:AS)(h1:AW P w0 N0 x (fun e T=>e=.normal/\T.le a) S)(h2:∀T,T.le a->Q .normal T):AW P w0 N0 x Q S:=
 h1.mono fun e T⟨he,hT⟩=>by subst he;exact h2 T hT
def loE(g:Int->Int)(a:List Rw)(free:List Int)(u:Nat):List V:=List.replicate u .nils++(Eb (loL g a free)).drop u
theorem A5b(g:Int->Int)(a:List Rw)(free:List Int):loE g a free (free.length+1)=List.replicate (free.length+1) .nils:=by
 unfold loE;rw [Fj (by rw [K9,Qk];omega),Eo]
theorem A00(g:Int->Int)(a:List Rw)(free:List Int):loE g a free 0=Eb (loL g a free):=by simp [loE]
theorem Ajt(g:Int->Int)(a:List Rw)(free:List Int){u:Nat}(h:u<=free.length+1):(loE g a free u).length=free.length+1:=by
 simp [loE,Qk];omega
theorem Aso(g:Int->Int)(a:List Rw)(free:List Int){u d:Nat}(h:d<u):G8 (loE g a free u) d=some .nils:=by
 rw [C0,loE,Bn (by simpa using h)];simp [h]
theorem A5c(g:Int->Int)(a:List Rw)(free:List Int){d:Nat}(h:d<=free.length):(Eb (loL g a free))[d]? =some (.ro 1 (As (Wo g a free (free.length-d)))):=by
 rw [<- C0,Ad3 (by rw [Qk];omega),Aqg g a free h]
theorem Aju(g:Int->Int)(a:List Rw)(free:List Int){d:Nat}(h:d<=free.length):G8 (loE g a free d) d=some (.ro 1 (As (Wo g a free (free.length-d)))):=by
 rw [C0,loE,Be sm,Cy];simp only [List.length_replicate,Fv,Dy];exact A5c g a free h
theorem Asp(g:Int->Int)(a:List Rw)(free:List Int){d:Nat}(h:d<=free.length):(loE g a free (d+1)).set d (.ro 1 (As (Wo g a free (free.length-d))))=loE g a free d:=by
 apply Km;intro i;rw [Kn,Ajt g a free Go.om]
 by_cases e:d=i
 ·subst e;rw [if_pos rfl,if_pos om,<- C0,Aju g a free h]
 ·rw [if_neg e];unfold loE
  by_cases c:i<d
  ·rw [Bn so,Bn (by simp;omega)];simp [c,show i<d+1 by omega]
  ·rw [Be so,Be so,Cy,Cy];simp only [List.length_replicate]
   congr 1;omega
theorem Am1(g:Int->Int)(a:List Rw)(free:List Int)(u:Nat):(loE g a free u).all V.pureE=true:=by
 rw [Aw];intro x c
 rcases Cc.1 c with h|h
 ·have:=Jc h;subst this;rfl
 ·exact Aw.1 (Do _) x (Cx h)
theorem Asq(g:Int->Int)(a:List Rw)(free:List Int){d r:Nat}(hd:d<free.length)(e:r<a.length):
  (As (Wo g a free (free.length-d)))[r]? =some (.int .i64 (IntKind.i64.wrap ((Wo g a free (free.length-(d+1))).getD r 0+g ((a.getD r default).coef.getD (free.getD d 0).toNat 0)))):=by
 obtain⟨m,c⟩:∃m,free.length-d=m+1:=⟨free.length-(d+1),by omega⟩;have h1:free.length-(d+1)=m:=om;have h2:free.length-(m+1)=d:=om;rw [c,h1,Wo,h2];simp [As,e]
theorem V1(g:List Int)(e:List Rw)(w free:List Int)(h:WfP g e w free):
  ACS prog 277 [.agg [.ro 1 (As g),.ro 3 (Gv e),.ro 1 (As w)],.ro 1 (As free)] []
   (fun r a7=>∃v xq sq,r=.bp 22 v 17 0 0/\a7=Z0 (nwS g e w free) (nwD g e w) v xq sq) (fun _ =>False):=by
 have hfl:=h.hfl;have e0:=h.hr;have ex:=h.hv;have cm:=h.hx;have bo:=Avm (As g) e (As w) (Ag _) (Ag _) h.hr (fun r hr=>by rw [h.hc r hr];exact h.hv);have lv:=A4 g;have lr:=M2 e;have lf:=A4 w;have ay:=A4 free;have pv:=Ag g;have pr:=Gg e;have pf:=Ag w;have c1:=Ag free;have d6:=fun(k:Nat)(h:k<w.length)=>Dd h
 have b1:=fun(k:Nat)(h:k<e.length)=>Yd h
 have a4:=fun(k:Nat)(h:k<free.length)=>Dd h
 have ei:=fun(k:Nat)(h:k<g.length)=>Dd h
 have dr:(g.length:Int)<=9223372036854775807:=om;have da:8*(g.length:Int)<=281474976710656:=om;have bf:(e.length:Int)<=9223372036854775807:=om;have bi:8*(e.length:Int)<=281474976710656:=om;have a1:(As (xP w)).length=g.length:=by rw [A4,xP,Eg];exact cm
 have ck:(xP w).length=g.length:=by rw [xP,Eg];exact cm
 have de:∀k,k<w.length->(As (xP w))[k]? =some (.int .i64 (N9 (w.getD k 0))):=fun k hk=>by rw [Cp hk];simp [As,xP,hk]
 have cc:=Ad1 g (xP w) om om;have d7:=fun(k:Nat)(hk:k<e.length)=>Ad1 (e.getD k default).coef (xP w) (by rw [Gl h.hc hk default];omega) (by rw [Gl h.hc hk default];omega)
 have dl:=fun(k:Nat)=>Ag (e.getD k default).coef
 have bk:=Ag (xP w);have cx:=Ag (xP w);have ef:(As (smP e (xP w))).length=e.length:=by rw [A4,smP,Eg]
 have ca:(smP e (xP w)).length=e.length:=by rw [smP,Eg]
 have dq:∀k,k<e.length->(As (smP e (xP w)))[k]? =some (.int .i64 (Vz (e.getD k default).coef (xP w))):=fun k hk=>by rw [Cp hk];simp [As,smP,hk]
 have cq:IntKind.i64.wrap ((free.length:Int)+1)=(free.length:Int)+1:=Bh om om;have b3:(free.length:Int)+1<=9223372036854775807:=om;have bv:24*((free.length:Int)+1)<=281474976710656:=om;have bq:(0:Int)<=(free.length:Int)+1:=om;have df:∀m,(As (Wo Yj e free m)).all V.pureE=true:=fun m=>Ag _
 have dh:∀m,(As (Wo N9 e free m)).all V.pureE=true:=fun m=>Ag _
 have ce:∀m,(As (Wo Yj e free m)).length=e.length:=fun m=>by rw [A4,Yk]
 have bs:∀m,(As (Wo N9 e free m)).length=e.length:=fun m=>by rw [A4,Yk]
 have b4:=Ag (smP e (xP w));have dm:∀a,Yj a=if 0<a then 0 else a:=fun a=>rfl
 have co:∀a,N9 a=if a<0 then 0 else a:=fun a=>rfl
 have ar:=Ym g free free.length;generalize al:Rk g free=ok at*;unfold Z0 srC nwS nwD;simp only [ck,ca,al];generalize A0t e=wd at*;generalize bm:As g=vv at*;generalize Gv e=rw,As w=fv at*;generalize b6:As free=s at*;refine Gs func277 fun w0 N0 j=>?_;refine Aa [2,3] [2,3] sr (Ab (C5 [(0,[22]),(1,[22]),(2,[22]),(3,[]),(4,[]),(5,[]),(6,[])] Ds kr ?_));refine Cf 3 sr ?_;refine Bu (fun hg=>bo) func297 rfl kr rfl rfl sr rfl rfl sr (by simp) sr ?_;refine C6 [2,3,5] [2,3,22] sr ?_;refine Aa [2,3,5] [2,3,22,27] (by simp [dr,da,lv]<;>rfl) (Ab (Aa [2,3,5,31,32,33] [2,3,22,27] sr (Ar ?_)));generalize e4:As (xP w)=xv at*;refine Br (fun k nx=>⟨[(2,V.bp 2 j 3 0 0),(3,V.bp 3 (j+1) 1 0 0),(5,V.bp 22 (j+8) 17 0 0),(31,V.ro 1 fv),(32,V.int .i64 fv.length),(33,V.int .i64 k)],[(2,⟨j,3,257,[V.agg [V.ro 1 vv,V.ro 3 rw,V.ro 1 fv]]⟩),(3,⟨j+1,1,25,[V.ro 1 s]⟩),(22,⟨j+8,17,376,[V.agg [V.ro 1 vv,V.ro 3 rw,V.ro 1 fv,V.ro 1 s,V.bool false,V.bool false,V.sl 27 (j+14) 1 g.length,V.int .i64 0,V.nils,V.nils,V.nils,V.int .i64 wd,V.nils,V.int .i64 0,V.nils,V.int .i64 0,V.bool false]]⟩),(27,⟨j+14,1,3,Fk xv (.int .i64 0) k⟩)],nx,222⟩) (fun k=>True) g.length _ trivial (by rw [Ik,a1];exact AS.le_refl _) ?_;intro k nx hk hI;have bb:=Jk xv (.int .i64 0) k om;refine Aa [2,3,5,31,32,33,34] [2,3,22,27] sr (Ab ?_)
 refine Ao (fun h1=>Ae ?_) fun h1=>?_
 ·have n:k<w.length:=by simp at h1;omega
  have aa:k<fv.length:=om;have a8:k<g.length:=om;have ga:=d6 k n;have Dg:=A6 (k:=k) om;have aw:=de k n;have eh:=co (w.getD k 0);generalize w.getD k 0=f at*;rw [eh]at aw;have ag:=Jm xv (.int .i64 0) k om aw;have ao:G8 (Fk xv (.int .i64 0) k) k=some (.int .i64 0):=Jl xv _ k om;have af:(Fk xv (.int .i64 0) k).length=g.length:=om;generalize Fk xv (.int .i64 0) k=row at ao ag bb af|-;refine Ab (Ar (Aa [2,3,5,6,7,31,32,33] [2,3,22,27] (by simp [ga,aa]<;>rfl) (A3 [2,3,5,31,32,33] [2,3,22,27] (by simp [a8,ao,ag]<;>rfl) (A3 [2,3,5,31,32,33] [2,3,22,27] (by simp [Dg]<;>rfl) ?_))));exact⟨a8,trivial,_,AS.le_refl _⟩
 ·refine Bb ?_;have aj:k=g.length:=by simp at h1;omega
  rw [aj,Ka xv (.int .i64 0) g.length Go.om];generalize Vz g (xP w)=ah at*;refine Ab (Lw [7] Ds ?_);refine Ih [(0,[]),(1,[]),(3,[]),(4,[]),(5,[]),(2,[]),(6,[])] kr sr ?_
  refine I0 (i:=7) (ks:=[]) kr rfl sm (Il sm cc func298 rfl kr sr rfl rfl sr (by simp [a1,bk]<;>rfl) rfl sr) ?_;refine Ih [(8,[]),(9,[]),(10,[])] kr sr ?_
  refine Kp [2,3,5] [2,3,22,27] kr sr ?_;refine Aa [2,3,5] [2,3,22,27,61] (by simp [bf,bi,lr]<;>rfl) (Ab (Aa [2,3,5,65,66,67] [2,3,22,27,61] sr (Ar ?_)));generalize er:As (smP e (xP w))=z at*;refine Br (fun k2 t=>⟨[(2,V.bp 2 j 3 0 0),(3,V.bp 3 (j+1) 1 0 0),(5,V.bp 22 (j+8) 17 0 0),(65,.ro 3 rw),(66,.int .i64 rw.length),(67,.int .i64 k2)],[(2,⟨j,3,257,[V.agg [V.ro 1 vv,V.ro 3 rw,V.ro 1 fv]]⟩),(3,⟨j+1,1,25,[V.ro 1 s]⟩),(22,⟨j+8,17,376,[V.agg [V.ro 1 vv,V.ro 3 rw,V.ro 1 fv,V.ro 1 s,V.bool false,V.bool false,V.sl 27 (j+14) 1 g.length,V.int .i64 ah,V.sl 61 (nx+1+11+4) 1 e.length,V.nils,V.nils,V.int .i64 wd,V.nils,V.int .i64 0,V.nils,V.int .i64 0,V.bool false]]⟩),(27,⟨j+14,1,3,xv⟩),(61,⟨(nx+1+11+4),1,3,Fk z (.int .i64 0) k2⟩)],t,222⟩) (fun k=>True) e.length _ trivial (by rw [Ik,ef];exact AS.le_refl _) ?_;intro k2 t eu ew;have bb:=Jk z (.int .i64 0) k2 om;refine Aa [2,3,5,65,66,67,68] [2,3,22,27,61] sr (Ab ?_)
  refine Ao (fun h2=>Ae ?_) fun h2=>?_
  ·have n:k2<e.length:=by simp at h2;omega
   have aa:k2<rw.length:=om;have ga:=b1 k2 n;have Dg:=A6 (k:=k2) om;have aw:=dq k2 n;have ai:=d7 k2 n;have bj:=dl k2;generalize e.getD k2 default=r at*;obtain⟨cf,eb,cz⟩:=r;simp only at ga aw ai bj;generalize As cf=cv,Vz cf (xP w)=e3 at*;have ag:=Jm z (.int .i64 0) k2 om aw;have ao:G8 (Fk z (.int .i64 0) k2) k2=some (.int .i64 0):=Jl z _ k2 om;have af:(Fk z (.int .i64 0) k2).length=e.length:=om;refine Ab (Ar (Aa [2,3,5,8,9,65,66,67] [2,3,9,22,27,61] (by simp [ga,aa]<;>rfl) ?_));refine A8l ⟨[(2,V.bp 2 j 3 0 0),(3,V.bp 3 (j+1) 1 0 0),(5,V.bp 22 (j+8) 17 0 0),(65,.ro 3 rw),(66,.int .i64 rw.length),(67,.int .i64 k2)],[(2,⟨j,3,257,[V.agg [V.ro 1 vv,V.ro 3 rw,V.ro 1 fv]]⟩),(3,⟨j+1,1,25,[V.ro 1 s]⟩),(22,⟨j+8,17,376,[V.agg [V.ro 1 vv,V.ro 3 rw,V.ro 1 fv,V.ro 1 s,V.bool false,V.bool false,V.sl 27 (j+14) 1 g.length,V.int .i64 ah,V.sl 61 (nx+1+11+4) 1 e.length,V.nils,V.nils,V.int .i64 wd,V.nils,V.int .i64 0,V.nils,V.int .i64 0,V.bool false]]⟩),(27,⟨j+14,1,3,xv⟩),(61,⟨(nx+1+11+4),1,3,Fk z (.int .i64 0) (k2+1)⟩)],t+1+6+14,222⟩ ?g1 fun T hT=>S7 hT ?g2
   case g1=>
    rw [<- ag];generalize Fk z (.int .i64 0) k2=row at ao ag bb af|-;refine Lw [11] Ds ?_;refine Ih [(0,[]),(1,[]),(2,[]),(4,[]),(5,[]),(7,[]),(8,[]),(9,[]),(6,[]),(10,[])] kr sr ?_
    refine Ur [3,11] kr ?_;intro i hi;simp only [Cj,F9,or_false]at hi
    rcases hi with rfl|rfl
    ·refine⟨_,_,rfl,Q3 sr,?_⟩;refine I0 (i:=11) (ks:=[]) kr rfl sm (Il sm ai func298 rfl kr sr rfl rfl sr (by simp [a1,bk]<;>rfl) rfl sr) ?_;refine Ih [(12,[]),(13,[])] kr (by simp [n,ao]<;>rfl) ?_
     refine Kp [2,3,5,65,66,67] [2,3,22,27,61] kr sr ?_;exact⟨rfl,AS.le_refl _⟩
    ·refine⟨_,_,rfl,Il sm ai func298 rfl kr sr rfl rfl sr (by simp [a1,bk]<;>rfl) rfl sr,?_⟩;refine Ih [(3,[]),(12,[]),(13,[])] kr (by simp [n,ao]<;>rfl) ?_
     refine Kp [2,3,5,65,66,67] [2,3,22,27,61] kr sr ?_;exact⟨rfl,AS.le_refl _⟩
   refine A3 [2,3,5,65,66,67] [2,3,22,27,61] (by simp [Dg]<;>rfl) ?_;exact⟨n,trivial,_,AS.le_refl _⟩
  ·refine Bb ?_;have aj:k2=e.length:=by simp at h2;omega
   rw [aj,Ka z (.int .i64 0) e.length Go.om];refine Aa [2,3,5,10] [2,3,22,27,61] (by simp [ay]<;>rfl) (Aa [2,3,5,10] [2,3,22,27,61,91] (by simp [cq,b3,bv,bq]<;>rfl) (Aa [2,3,5,10] [2,3,22,27,61,91,97] (by simp [cq,b3,bv,bq]<;>rfl) (Ab (Aa [2,3,5,10,11] [2,3,22,27,61,91,97] sr (Ar ?_)))));have c6:((free.length+1:Nat):Int)-1=free.length:=om;refine Di (fun x:Nat × Nat=>⟨[(2,V.bp 2 j 3 0 0),(3,V.bp 3 (j+1) 1 0 0),(5,V.bp 22 (j+8) 17 0 0),(10,.int .i64 free.length),(11,.int .i64 ((x.1:Int)-1))],[(2,⟨j,3,257,[V.agg [V.ro 1 vv,V.ro 3 rw,V.ro 1 fv]]⟩),(3,⟨j+1,1,25,[V.ro 1 s]⟩),(22,⟨j+8,17,376,[V.agg [V.ro 1 vv,V.ro 3 rw,V.ro 1 fv,V.ro 1 s,V.bool false,V.bool false,V.sl 27 (j+14) 1 g.length,V.int .i64 ah,V.sl 61 (nx+1+11+4) 1 e.length,V.sl 91 (t+1+3+3) 1 (free.length+1),V.sl 97 (t+1+3+7+3) 1 (free.length+1),V.int .i64 wd,V.nils,V.int .i64 0,V.nils,V.int .i64 0,V.bool false]]⟩),(27,⟨j+14,1,3,xv⟩),(61,⟨(nx+1+11+4),1,3,z⟩),(91,⟨(t+1+3+3),1,25,loE Yj e free x.1⟩),(97,⟨(t+1+3+7+3),1,25,loE N9 e free x.1⟩)],x.2,222⟩) (fun x=>x.1<=free.length+1) (fun x=>x.1) (free.length+1,_) (A9 _) (by simp only [A5b,c6];exact AS.le_refl _) ?_;rintro⟨u,az⟩hu;simp only at hu|-;refine Ab (Aa [2,3,5,10,11,102] [2,3,22,27,61,91,97] sr ?_)
   refine Ao (fun h3=>Ae ?_) fun h3=>?_
   ·obtain⟨d,rfl⟩:∃d,u=d+1:=⟨u-1,by simp at h3;omega⟩;have ds:((d+1:Nat):Int)-1=(d:Int):=om;have cr:IntKind.i64.wrap ((d:Int)-1)=(d:Int)-1:=Bh om om;have cg:d<=free.length:=om;have bc:=Asp Yj e free cg;have ba:=Asp N9 e free cg;have cu:=Ajt Yj e free hu;have cp:=Ajt N9 e free hu;have d8:=Aso Yj e free (show d<d+1 by omega);have dx:=Aso N9 e free (show d<d+1 by omega);have d0:=Fo (Am1 Yj e free (d+1));have du:=Fo (Am1 N9 e free (d+1));have ed:=fun(h:d+1<=free.length)=>Aju Yj e free h
    have d9:=fun(h:d+1<=free.length)=>Aju N9 e free h
    have a0:(d:Int)<(free.length:Int)+1:=om;have an:∀(a b:Nat)es y,((loE Yj e free (d+1)).set d y).map (V.frz a b 1 es)=(loE Yj e free (d+1)).set d (V.frz a b 1 es y):=fun a b es y=>by rw [M9,d0]
    have am:∀(a b:Nat)es y,((loE N9 e free (d+1)).set d y).map (V.frz a b 1 es)=(loE N9 e free (d+1)).set d (V.frz a b 1 es y):=fun a b es y=>by rw [M9,du]
    have ae:=Fo cx;have ad:=Fo b4;simp only [ds];generalize loE Yj e free (d+1)=E1,loE N9 e free (d+1)=E2 at*;refine Ab (Ar (Dq [(0,[]),(1,[]),(2,[]),(4,[]),(5,[]),(3,[113]),(6,[113]),(7,[]),(8,[]),(9,[]),(10,[])] [2,3,5,10,11] [2,3,22,27,61,91,97,113] Ds kr (by simp [lr,bf,bi,d8,a0]<;>rfl) ?_));refine Dq [(0,[]),(1,[]),(2,[]),(4,[]),(5,[]),(3,[123]),(6,[123]),(7,[]),(8,[]),(9,[]),(10,[])] [2,3,5,10,11] [2,3,22,27,61,91,97,113,123] Ds kr (by simp [lr,bf,bi,dx,a0]<;>rfl) ?_;refine Ab (Aa [2,3,5,10,11,127] [2,3,22,27,61,91,97,113,123] sr ?_)
    refine Ao (fun h4=>?_) fun h4=>Ae ?_
    ·refine Bb ?_;have ab:d=free.length:=by simp at h4;omega
     have d5:As (Wo Yj e free (free.length-d))=List.replicate e.length (.int .i64 0):=by rw [ab,Fv];simp [Wo,As]
     have dd:As (Wo N9 e free (free.length-d))=List.replicate e.length (.int .i64 0):=by rw [ab,Fv];simp [Wo,As]
     rw [d5]at bc;rw [dd]at ba;refine Bp 113 [2,3,5,10,11] [2,3,22,27,61,91,97,123] (by simp [an,am,ae,ad]<;>rfl) (Bp 123 [2,3,5,10,11] [2,3,22,27,61,91,97] (by simp [an,am,ae,ad]<;>rfl) (A3 [2,3,5,10,11] [2,3,22,27,61,91,97] (by simp [cr]<;>rfl) ?_));exact⟨(d,_),by simp only;omega,by simp only;omega,by simp only [<- bc,<- ba];exact AS.le_refl _⟩
    have ab:d<free.length:=by simp at h4;omega
    have b2:=fun(r:Nat)(hr:r<e.length)=>Asq Yj e free ab hr
    have b5:=fun(r:Nat)(hr:r<e.length)=>Asq N9 e free ab hr
    have b8:=ed om;have b9:=d9 om;have bl:=df (free.length-d);have ct:=dh (free.length-d);have bu:=ce (free.length-d);have b7:=bs (free.length-d);have ek:=ce (free.length-(d+1));have ej:=bs (free.length-(d+1));have bx:=fun(r:Nat)(hr:r<e.length)=>Dd (l:=Wo Yj e free (free.length-(d+1))) (k:=r) (by rw [Yk];exact hr)
    have bt:=fun(r:Nat)(hr:r<e.length)=>Dd (l:=Wo N9 e free (free.length-(d+1))) (k:=r) (by rw [Yk];exact hr)
    have dz:=a4 d ab;obtain⟨bh,d3⟩:=Gl h.hf ab 0;generalize Wo Yj e free (free.length-(d+1))=bd at*;generalize Wo N9 e free (free.length-(d+1))=ax at*;generalize As (Wo Yj e free (free.length-d))=lo,As (Wo N9 e free (free.length-d))=hi,free.getD d 0=dt at*;obtain⟨fi,rfl⟩:=Cl bh;simp only [Dn]at b2 b5;have a9:IntKind.i64.wrap ((d:Int)+1)=(d:Int)+1:=Bh om om;have bg:(0:Int)<=(d:Int)+1/\d<free.length:=om;have dy:∀y,G8 (E1.set d y) d=some y:=fun y=>by rw [C0,List.getElem?_set_self Go.om]
    have dn:∀y,G8 (E2.set d y) d=some y:=fun y=>by rw [C0,List.getElem?_set_self Go.om]
    have dj:∀y,G8 (E1.set d y) (d+1)=some (.ro 1 (As bd)):=fun y=>by rw [C0,Hw om,<- C0];exact b8
    have dw:∀y,G8 (E2.set d y) (d+1)=some (.ro 1 (As ax)):=fun y=>by rw [C0,Hw om,<- C0];exact b9
    refine Aa [2,3,5,10,11,129,130,131] [2,3,22,27,61,91,97,113,123] sr (Ar (Br (fun r ci=>⟨[(2,V.bp 2 j 3 0 0),(3,V.bp 3 (j+1) 1 0 0),(5,V.bp 22 (j+8) 17 0 0),(10,.int .i64 free.length),(11,.int .i64 d),(129,.ro 3 rw),(130,.int .i64 rw.length),(131,.int .i64 r)],[(2,⟨j,3,257,[V.agg [V.ro 1 vv,V.ro 3 rw,V.ro 1 fv]]⟩),(3,⟨j+1,1,25,[V.ro 1 s]⟩),(22,⟨j+8,17,376,[V.agg [V.ro 1 vv,V.ro 3 rw,V.ro 1 fv,V.ro 1 s,V.bool false,V.bool false,V.sl 27 (j+14) 1 g.length,V.int .i64 ah,V.sl 61 (nx+1+11+4) 1 e.length,V.sl 91 (t+1+3+3) 1 (free.length+1),V.sl 97 (t+1+3+7+3) 1 (free.length+1),V.int .i64 wd,V.nils,V.int .i64 0,V.nils,V.int .i64 0,V.bool false]]⟩),(27,⟨j+14,1,3,xv⟩),(61,⟨(nx+1+11+4),1,3,z⟩),(91,⟨(t+1+3+3),1,25,E1.set d (.sl 113 (az+2+8) 1 e.length)⟩),(97,⟨(t+1+3+7+3),1,25,E2.set d (.sl 123 (az+2+11+8) 1 e.length)⟩),(113,⟨(az+2+8),1,3,Fk lo (.int .i64 0) r⟩),(123,⟨(az+2+11+8),1,3,Fk hi (.int .i64 0) r⟩)],ci,222⟩) (fun k=>True) e.length _ trivial (by rw [Ik,Ik,bu,b7];exact AS.le_refl _) ?_));intro r ci hr ey;refine Aa [2,3,5,10,11,129,130,131,132] [2,3,22,27,61,91,97,113,123] sr (Ab ?_)
    refine Ao (fun h5=>Ae ?_) fun h5=>?_
    ·have n:r<e.length:=by simp at h5;omega
     have aa:r<rw.length:=om;have ga:=b1 r n;have Dg:=A6 (k:=r) om;have c5:=Gl h.hc n default;have aq:=b2 r n;have au:=b5 r n;have ee:=bx r n;have c0:=bt r n;generalize e.getD r default=rr at*;obtain⟨cf,eb,cz⟩:=rr;simp only at ga aq au c5;have a2:fi<cf.length:=om;have gc:=Dd a2;have ez:=A4 cf;have ep:=Ag cf;generalize As cf=cv at*;have cd:fi<cv.length:=om;generalize cf.getD fi 0=c,bd.getD r 0=l0,ax.getD r 0=h0,As bd=d1,As ax=c9 at*;rw [dm]at aq;rw [co]at au;have c8:=Jm lo (.int .i64 0) r om aq;have ec:=Jm hi (.int .i64 0) r om au;have db:G8 (Fk lo (.int .i64 0) r) r=some (.int .i64 0):=Jl lo _ r om;have dg:G8 (Fk hi (.int .i64 0) r) r=some (.int .i64 0):=Jl hi _ r om;have ea:(Fk lo (.int .i64 0) r).length=e.length:=by rw [Jk lo _ r Go.om];omega
     have c4:(Fk hi (.int .i64 0) r).length=e.length:=by rw [Jk hi _ r Go.om];omega
     generalize Fk lo (.int .i64 0) r=em,Fk hi (.int .i64 0) r=en at*;have c2:r<d1.length:=om;have dp:r<c9.length:=om;refine Ab (Ar (Aa [2,3,5,10,11,12,13,129,130,131] [2,3,13,22,27,61,91,97,113,123] (by simp [ga,aa]<;>rfl) ?_));refine Dq [(0,[]),(3,[]),(1,[]),(2,[]),(4,[]),(5,[]),(6,[]),(7,[]),(8,[])] [2,3,5,10,11,12,14,129,130,131] [2,3,22,27,61,91,97,113,123] Ds kr (by simp [dz,gc,cd,bg,ay]<;>rfl) ?_;refine Dq [(0,[]),(1,[]),(2,[]),(4,[]),(7,[]),(8,[]),(9,[]),(10,[]),(12,[]),(13,[]),(16,[]),(19,[]),(20,[]),(3,[]),(5,[]),(6,[]),(11,[]),(14,[]),(15,[]),(17,[]),(18,[]),(21,[]),(22,[]),(23,[])] [2,3,5,10,11,12,14,129,130,131] [2,3,22,27,61,91,97,113,123] Ds kr (by simp [dy,dj,a0,bg,a9,ee,c2,n,db,c8]<;>rfl) ?_;refine Rr [(0,[]),(1,[]),(2,[]),(4,[]),(7,[]),(8,[]),(9,[]),(10,[]),(12,[]),(13,[]),(16,[]),(19,[]),(20,[]),(3,[]),(5,[]),(6,[]),(11,[]),(14,[]),(15,[]),(17,[]),(18,[]),(21,[]),(22,[]),(23,[])] [2,3,5,10,11,129,130,131] [2,3,22,27,61,91,97,113,123] Ds kr (by simp [dn,dw,a0,bg,a9,c0,dp,n,dg,ec]<;>rfl) ?_;refine A3 [2,3,5,10,11,129,130,131] [2,3,22,27,61,91,97,113,123] (by simp [Dg]<;>rfl) ?_;exact⟨n,trivial,_,AS.le_refl _⟩
    ·refine Bb ?_;have aj:r=e.length:=by simp at h5;omega
     rw [aj,Ka lo (.int .i64 0) e.length om,Ka hi (.int .i64 0) e.length Go.om];have c7:=Fo bl;have cb:=Fo ct;refine Bp 113 [2,3,5,10,11] [2,3,22,27,61,91,97,123] (by simp [an,am,ae,ad,cb,bl,bu]<;>rfl) (Bp 123 [2,3,5,10,11] [2,3,22,27,61,91,97] (by simp [an,am,ae,ad,ct,b7]<;>rfl) (A3 [2,3,5,10,11] [2,3,22,27,61,91,97] (by simp [cr]<;>rfl) ?_));exact⟨(d,_),by simp only;omega,by simp only;omega,by simp only [<- bc,<- ba];exact AS.le_refl _⟩
   ·refine Bb ?_;have d4:u=0:=by simp at h3;omega
    subst d4;simp only [A00];have a3:=Do (loL Yj e free);have a6:=Do (loL N9 e free);have bz:(Eb (loL Yj e free)).length=free.length+1:=by rw [K9,Qk]
    have bw:(Eb (loL N9 e free)).length=free.length+1:=by rw [K9,Qk]
    have cj:∀k,ok (k+1)=if 0<g.getD (free.getD k 0).toNat 0 then ok k++[(k:Int)]else ok k:=fun k=>by rw [<- al];rfl
    have cn:ok 0= []:=by rw [<- al];rfl
    have a5:∀k,(ok k).length<=k:=fun k=>by rw [<- al];exact Yl g free k
    generalize di:Eb (loL Yj e free)=cl at*;generalize cy:Eb (loL N9 e free)=be at*;refine Uo 22 12 100 1 3 [2,3,5] [2,3,22,27,61,91,97,100] sr ?_;refine Ab (Aa [2,3,5,191,192,193] [2,3,22,27,61,91,97,100] (by simp [ay]<;>rfl) (Ar (Di (fun x:Nat × Nat × Nat=>⟨[(2,V.bp 2 j 3 0 0),(3,V.bp 3 (j+1) 1 0 0),(5,V.bp 22 (j+8) 17 0 0),(191,.ro 1 s),(192,.int .i64 s.length),(193,.int .i64 (x.1:Nat))],[(2,⟨j,3,257,[V.agg [V.ro 1 vv,V.ro 3 rw,V.ro 1 fv]]⟩),(3,⟨j+1,1,25,[V.ro 1 s]⟩),(22,⟨j+8,17,376,[V.agg [V.ro 1 vv,V.ro 3 rw,V.ro 1 fv,V.ro 1 s,V.bool false,V.bool false,V.sl 27 (j+14) 1 g.length,V.int .i64 ah,V.sl 61 (nx+1+11+4) 1 e.length,V.sl 91 (t+1+3+3) 1 (free.length+1),V.sl 97 (t+1+3+7+3) 1 (free.length+1),V.int .i64 wd,.sl 100 x.2.1 1 (ok x.1).length,V.int .i64 0,V.nils,V.int .i64 0,V.bool false]]⟩),(27,⟨j+14,1,3,xv⟩),(61,⟨(nx+1+11+4),1,3,z⟩),(91,⟨(t+1+3+3),1,25,cl⟩),(97,⟨(t+1+3+7+3),1,25,be⟩),(100,⟨x.2.1,1,3,As (ok x.1)⟩)],x.2.2,222⟩) (fun x=>x.1<=free.length) (fun x=>free.length-x.1) (0,_,_) (B4 _) (by simp only [cn,ay];exact AS.le_refl _) ?_)));rintro⟨k,qv,et⟩eg;simp only at eg|-;refine Aa [2,3,5,191,192,193,194] [2,3,22,27,61,91,97,100] sr (Ab ?_)
    refine Ao (fun h6=>Ae ?_) fun h6=>?_
    ·have n:k<free.length:=by simp at h6;omega
     have aa:k<s.length:=om;have ga:=a4 k n;have Dg:=A6 (k:=k) om;have hs:=cj k;have e1:=a5 k;obtain⟨bh,d3⟩:=Gl h.hf n 0;generalize free.getD k 0=dt at*;obtain⟨fi,rfl⟩:=Cl bh;simp only [Dn]at hs;have a2:fi<g.length:=om;have gv:=ei fi a2;have cw:fi<vv.length:=om;generalize ok k=Lk at*;have c3:Lk.length+1<=maxLen/\(Lk.length+1)*8<=140737488355328:=⟨Ai (show Lk.length+1<=20 by omega) dc,by omega⟩;refine Ab (Ar (Aa [2,3,5,15,16,191,192,193] [2,3,22,27,61,91,97,100] (by simp [ga,aa]<;>rfl) (Aa [2,3,5,15,191,192,193,203] [2,3,22,27,61,91,97,100] (by simp [gv,cw]<;>rfl) ?_)))
     refine Ao (fun h7=>?_) fun h7=>Ae ?_
     ·rw [if_pos (by simpa using h7)]at hs;refine A3 [2,3,5,191,192,193] [2,3,22,27,61,91,97,100] (by simp [c3]<;>rfl) (A3 [2,3,5,191,192,193] [2,3,22,27,61,91,97,100] (by simp [Dg]<;>rfl) ?_);exact⟨(k+1,_,_),n,by simp only;omega,by simp only [hs,U1,Bf,Ba,Bx];exact AS.le_refl _⟩
     rw [if_neg (by simpa using h7)]at hs;refine A3 [2,3,5,191,192,193] [2,3,22,27,61,91,97,100] (by simp [Dg]<;>rfl) ?_;exact⟨(k+1,_,_),n,by simp only;omega,by simp only [hs];exact AS.le_refl _⟩
    ·refine Bb ?_;have aj:k=free.length:=by simp at h6;omega
     subst aj;have av:=Fo a3;have ak:=Fo a6;have dk:=Ag (ok free.length);have b0:=Fo dk;have ae:=Fo cx;have ad:=Fo b4
     have bn:=Ahv 100 qv (ok free.length) 299 [] [V.rp (V.agg [V.ro 1 vv,V.ro 3 rw,V.ro 1 fv]),V.rp (V.ro 1 s)] (Afy g free) (by have:=a5 free.length;omega) (fun a ha b hb=>X7 (args:=[.int .i64 a,.int .i64 b]) (us:=[]) (vs:=[V.rp (V.agg [V.ro 1 vv,V.ro 3 rw,V.ro 1 fv]),V.rp (V.ro 1 s)]) (r:=.int .i64 (Afy g free a b)) (by
      rw [<- bm,<- b6];exact A5a g rw fv free pr pf h.hf a b (ar a ha) (ar b hb)) func299 kr rfl)
     have br:=Ag (G9 (Afy g free) (ok free.length));have dv:(As (G9 (Afy g free) (ok free.length))).length=(ok free.length).length:=by rw [A4,Ml]
     refine Bp 2 [2,3,5] [3,22,27,61,91,97,100] (by simp [ae,ad,av,ak,b0]<;>rfl) (Bp 3 [2,3,5] [22,27,61,91,97,100] (by simp [ae,ad,av,ak,b0]<;>rfl) (Ab (Ad (Am 5 sr ?_))));refine El bn func275 rfl kr rfl rfl rfl sr (fun k o hk=>Dk gt hk) ?_ fun ch d2=>d2.elim;rintro r a7 e2⟨rfl,rfl⟩el;refine⟨fun k hk=>L3 hk,_,by simp<;>rfl,?_⟩;refine Af [5] [22,27,61,91,97,100] sr ?_;have eo:=Fo br;refine Bp 100 [5] [22,27,61,91,97] (by simp [ae,ad,av,ak,br,dv]<;>rfl) (Bp 91 [5] [22,27,61,97] (by simp [ae,ad,ak,a3,bz]<;>rfl) (Bp 97 [5] [22,27,61] (by simp [ae,ad,a6,bw]<;>rfl) (Aa [4] [22,27,61] sr ?_)));exact C1 j (Dr (A8 _ _) sr ⟨j+8,j+14,nx+1+11+4,rfl,rfl⟩ (fun k o hk=>E9 (by simp [Eng.get,bV]) gt gt hk))
theorem A01{a:List Int}{c:List Rw}{d:List Int}(e:c.length<=1000)(hv:a.length<20)(f:d.length=a.length)(g:∀r∈c,r.coef.length=a.length):WfP a c d (Fc d):=
 ⟨e,by omega,f,g,fun i h=>by have:=Yc d d.length i h;omega,by have:=U2 d d.length;unfold Fc;omega⟩
theorem A02{a:List Int}{c:List Rw}{e free:List Int}(d:Int->Int->Int)(h:WfP a c e free):WfP a c e (G9 d free):=
 ⟨h.hr,h.hv,h.hx,h.hc,fun i f=>h.hf i (Rj f),by rw [Ml];exact h.hfl⟩
def Ad7(a:List Int)(c:List Rw)(d:List Int):Ss:={ nwS a c d (Fc d)with one:=true,once:=true}
def Avn(a:List Int)(c:List Rw)(d:List Int)(least:Int):Sd:=Gm (Ad7 a c d) (Fc d).length 0 { nwD a c d with least:=least}
theorem A5d{a:List Int}{c:List Rw}{d:List Int}(h:WfP a c d (Fc d)):WfS (Ad7 a c d):=
 have w:=A0y h
 ⟨w.hr,w.hv,w.hc,w.hf,w.hfl,w.hl,w.hh,w.hlr,w.hhr,w.hw,w.ho,w.hol⟩
theorem A03(a:List Int)(c:List Rw)(d:List Int)(least:Int)(h:WfP a c d (Fc d)):
  AC prog 238 [.agg [.ro 1 (As a),.ro 3 (Gv c),.ro 1 (As d)],.int .i64 least] (fun r=>r=bV (Avn a c d least).best):=by
 have hfl:=h.hfl;have al:=h.hv;have ak:=h.hx;have pv:=Ag a;have z:=Gg c;have pf:=Ag d;have f:=A47 (As a) (Gv c) d pv z om;have i:=(V1 a c d (Fc d) h).q G0;have ab:=A5d h;have s:=A0z h;have e:=fun v y t=>Ahu (Ad7 a c d) ab v y t { nwD a c d with least:=least} ⟨s.hx,s.hs⟩
 have aj:=Ag (Fc d);have j:(Ad7 a c d).free=Fc d:=rfl;rw [j]at e;unfold Avn;generalize am:Gm (Ad7 a c d) (Fc d).length 0 { nwD a c d with least:=least}=VR at*;obtain⟨vx,ah,ae,u,m,ad,w⟩:=VR;have ar:=Ag (nwD a c d).x;have ao:=Ag (nwD a c d).sums;unfold Ad7 at e;simp only [Z0,srC]at i e;generalize nwD a c d=nd,nwS a c d (Fc d)=ns,As (Fc d)=ai,As a=vv,Gv c=rw,As d=fv at*;refine Ax func238 fun w0 N0=>?_;refine Aa [1,2] [2] sr (Ab (Ax9 Ds ?_));refine Ax8 0 1 kr rfl rfl (Q3 sr) (Q3 sr) (Acz 1 kr rfl (Q3 sr) (Acz 2 kr rfl (Ait (fun _ =>f) func274 rfl kr sr rfl rfl sr (by simp) sr) ?_)) (Ax8 0 2 kr rfl rfl (Q3 sr) (Ait (fun _ =>f) func274 rfl kr sr rfl rfl sr (by simp) sr) (Acz 2 kr rfl (Ait (fun _ =>f) func274 rfl kr sr rfl rfl sr (by simp) sr) ?_) (Acz 0 kr rfl (Q3 sr) ?_))
 all_goals
  refine A3i 3 kr rfl (Auc (A8i _) i func277 rfl kr sr rfl rfl sr (fun k o n=>by cases n) (fun r g nx hR af=>?_)) ?_
  ·obtain⟨v,y,t,rfl,rfl⟩:=hR;exact⟨fun k n=>rfl,_,by simp<;>rfl⟩
  rintro S'⟨r,g,an,⟨v,y,t,rfl,rfl⟩,af,hS⟩;simp at hS;subst hS;refine Acz 4 kr rfl (Q3 sr) ?_;refine A7n [1,5] [22,27,61] kr sr ?_;refine Aa [5] [22,27,61] sr (Ab (Ad (Am 1 sr ?_)));refine El (e v y t) func278 rfl kr rfl rfl rfl sr (fun k o n=>E9 gt gt gt n) ?_ fun ch aa=>aa.elim;rintro r g aq⟨rfl,rfl⟩ag;refine⟨fun k n=>Kd n,_,by simp<;>rfl,?_⟩;refine Af [5] [22,27,61] sr ?_;cases m with
  |none=>
   exact Aa [4] [] (by simp [bV]<;>rfl) (Aj (Ac sr rf))
  |some l=>
   have pl:=Ag l;refine Aa [4] [] (by simp [bV]<;>rfl) ?_;exact Aj (Ac (by simp [results238]<;>rfl) rfl)
def grS(a:List Int)(c:List Rw)(d:List Int):Ss:=nwS a c d (G9 (R5 a) (Fc d))
def grD(a:List Int)(c:List Rw)(d:List Int):Sd:=Gm (grS a c d) (G9 (R5 a) (Fc d)).length 0 { nwD a c d with least:= -24000000}
theorem Am2(c:List Int)(d:List Rw)(e:List Int)(h:WfP c d e (Fc e)):
  AC prog 237 [.agg [.ro 1 (As c),.ro 3 (Gv d),.ro 1 (As e)]] (fun r=>r=.tup [.int .i64 (grD c d e).most,.bool (grD c d e).found]):=by
 have hfl:=h.hfl;have au:=h.hv;have ar:=h.hx;have pv:=Ag c;have z:=Gg d;have pf:=Ag e;have w:=Amt (As c) (Gv d) e pv z om;have n:=A02 (R5 c) h;have l:=V1 c d e _ n;have ab:=A0y n;have u:=A0z n;have f:=fun v xq sq=>Ahu (grS c d e) ab v xq sq { nwD c d e with least:= -24000000} ⟨u.hx,u.hs⟩
 have aj:=Rg (Fc e);have ag:=Ag (G9 (R5 c) (Fc e));have ai:(As (G9 (R5 c) (Fc e))).length=(Fc e).length:=by rw [A4,Ml]
 have m:(grS c d e).free=G9 (R5 c) (Fc e):=rfl;rw [m]at f;have s:=fun q=>Ahv 100 q (Fc e) 276 [] [V.rp (V.agg [.ro 1 (As c),.ro 3 (Gv d),.ro 1 (As e)])] (R5 c) h.hfl (fun a ha b hb=>X7 (args:=[.int .i64 a,.int .i64 b]) (us:=[]) (vs:=[V.rp (V.agg [.ro 1 (As c),.ro 3 (Gv d),.ro 1 (As e)])]) (r:=.int .i64 (R5 c a b)) (A49 c (Gv d) (As e) z pf a b (h.hf a ha) (h.hf b hb)) func276 kr rfl)
 unfold grD;generalize av:Gm (grS c d e) (G9 (R5 c) (Fc e)).length 0 { nwD c d e with least:= -24000000}=VR at*;obtain⟨vx,al,af,x,ah,ad,y⟩:=VR;unfold grS at f;simp only [Z0,srC]at l f;generalize nwD c d e=nd,nwS c d e (G9 (R5 c) (Fc e))=ns,As (G9 (R5 c) (Fc e))=ao at*;have ay:=A4 (Fc e);generalize t:As (Fc e)=aa at*;generalize As c=vv,Gv d=rw,As e=fv at*;refine Ax func237 fun w0 N0=>?_;refine Aa [1] [1] sr (Ab (Ad (Am 1 sr ?_)));refine L7 100 w func274 rfl kr rfl rfl rfl sr (by simp [AS.views,AS.view,AS.viewL,AS.viewC]<;>rfl) sr ?_;refine Af [1,4] [1,100] sr ?_;have ae:=Fo (show aa.all V.pureE=true by rw [<- t];exact Ag _);refine Bp 1 [1,4] [100] (by simp [ae]<;>rfl) (Ab (Ad (Am 2 sr ?_)));refine El (s _) func275 rfl kr rfl rfl rfl sr (fun k o i=>Dk gt i) ?_ fun ch g=>g.elim;rintro r j aw⟨rfl,rfl⟩am;refine⟨fun k i=>L3 i,_,by simp<;>rfl,?_⟩;refine Af [1,4] [1,100] sr ?_;refine Bp 100 [1,4] [] (by simp [ag,ai]<;>rfl) (Ab (Ad (Am 2 sr ?_)));refine El l func277 rfl kr rfl rfl rfl sr (fun k o i=>by cases i) ?_ fun ch g=>g.elim;rintro r j ax⟨v,xq,sq,rfl,rfl⟩ak;refine⟨fun k i=>rfl,_,by simp<;>rfl,?_⟩;refine Af [5] [22,27,61] sr ?_;refine Aa [5] [22,27,61] sr (Ab (Ad (Am 1 sr ?_)));refine El (f v xq sq) func278 rfl kr rfl rfl rfl sr (fun k o i=>E9 gt gt gt i) ?_ fun ch g=>g.elim;rintro r j aq⟨rfl,rfl⟩an;refine⟨fun k i=>Kd i,_,by simp<;>rfl,?_⟩;refine Af [5] [22,27,61] sr ?_;refine Dq [(0,[]),(1,[]),(2,[]),(4,[]),(5,[]),(6,[]),(3,[]),(8,[]),(7,[]),(9,[])] [2,3] [] Ds kr sr ?_;exact Aj (Ac sr (rfl))
def A04(c:List Int)(a:List Rw)(d:List Int):V:=
 if Zz c a d≠0 then .tup [.nils,.int .i64 0,.int .i64 (Zz c a d)]
 else if a.any (fun r=>decide (r.mx<r.mn))=true then .tup [.nils,.int .i64 0,.int .i64 14]
 else if(grD c a d).found=false then .tup [.nils,.int .i64 0,.int .i64 14]
 else .tup [bV (Avn c a d (grD c a d).most).best,.int .i64 (grD c a d).most,.int .i64 0]
theorem A05{a:List Int}{c:List Rw}{d:List Int}(h:Zz a c d=0)(f:a.length<20):WfP a c d (Fc d):=by
 unfold Zz at h
 split at h
 ·omega
 ·rename_i h1
  split at h
  ·omega
  ·rename_i h2
   split at h
   ·omega
   ·rename_i g
    exact A01 om f om (fun r i=>by
     by_cases e:r.coef.length=a.length
     ·exact e
     ·exact absurd (Dz.2 ⟨r,i,by simpa using e⟩) g)
theorem Avo(c:List Int)(a:List Rw)(e:List Int)(hv:c.length<20)(hz:a.length<=1000/\e.length<=1000):
  Hp gv prog 202 [.agg [.ro 1 (As c),.ro 3 (Gv a),.ro 1 (As e)]] (fun r=>r=A04 c a e):=by
 have t:=A46 c a e ⟨by omega,hz.1,hz.2⟩;have i:=fun h=>Am2 c a e (A05 h hv)
 have d:=fun h=>A03 c a e (grD c a e).most (A05 h hv)
 have pv:=Ag c;have o:=Gg a;have n:=Ag e;have aa:=fun(k:Nat)(h:k<a.length)=>Yd h
 have ak:=M2 a;unfold A04;generalize Zz c a e=ze at*;generalize(Avn c a e (grD c a e).most).best=fb at*;generalize grD c a e=gd at*;have pb:=Abw fb;obtain⟨gx,ag,ab,w,ad,ae,x⟩:=gd;simp only at i d|-;generalize As c=vv at*;generalize Gv a=rw at*;generalize As e=fv at*;refine By func202 fun w0 N0 hG=>?_;refine Aa [1] [1] sr (Ab (Ab (Ad (Am 1 sr ?_))));refine Gt hG t func236 rfl kr (by simp) rfl rfl rfl sr (by simp) sr ?_;refine Af [1,5] [1] sr ?_;refine Aa [1,5,13] [1] sr ?_
 refine Ao (fun h1=>?_) fun h1=>Ae ?_
 ·exact Aa [2,3,4] [] sr (Aj (Ac sr (by rw [if_pos (by simpa using h1)])))
 have j:ze=0:=by simpa using h1
 rw [if_neg (by simpa using j)];refine Ab (Aa [1,16,17,18] [1] sr (Ar (Br (fun k nx=>⟨[(1,V.bp 1 (0) 3 0 0),(16,V.ro 3 rw),(17,V.int .i64 rw.length),(18,V.int .i64 k)],[(1,{ v:=0,sz:=3,ty:=257,es:=[V.agg [V.ro 1 vv,V.ro 3 rw,V.ro 1 fv]]})],nx,39⟩) (fun k=>(a.take k).any (fun r=>decide (r.mx<r.mn))=false) a.length _ rfl (AS.le_refl _) ?_)));intro k nx hk hI;refine Aa [1,16,17,18,19] [1] sr (Ab ?_)
 refine Ao (fun h2=>Ae ?_) fun h2=>?_
 ·have g:k<a.length:=by simp at h2;omega
  have u:k<rw.length:=om;have ga:=aa k g;have Dg:=A6 (k:=k) om;have s:=fun h=>M4 (f:=fun r:Rw=>decide (r.mx<r.mn)) g hI h
  have m:=fun h=>Qg (f:=fun r:Rw=>decide (r.mx<r.mn)) g h
  rw [Cp g]at ga;generalize a[k]=r at*;obtain⟨cf,aj,ai⟩:=r;simp only at ga s m;have ah:=Ag cf;generalize As cf=cv at*;refine Ab (Ar (Aa [1,7,16,17,18] [1,7] (by simp [ga,u]<;>rfl) (Aa [1,16,17,18,26] [1] sr ?_)))
  refine Ao (fun z=>?_) fun z=>Ae ?_
  ·exact Aa [2,3,4] [] sr (Aj (Ac sr (by rw [if_pos (m (by simpa using z))])))
  refine A3 [1,16,17,18] [1] (by simp [Dg]<;>rfl) ?_;exact⟨g,s (by simpa using z),_,AS.le_refl _⟩
 ·refine Bb ?_;have af:k=a.length:=by simp at h2;omega
  rw [af,Bl]at hI;rw [if_neg (by rw [hI];simp)];refine Ab (Ad (Am 1 sr ?_));refine Ah (i j) func237 ?_;refine Af [1,8,9] [1] sr ?_;refine Ab (Aa [1,8,34] [1] sr ?_)
  refine Ao (fun y=>?_) fun y=>Ae ?_
  ·exact Aa [2,3,4] [] sr (Aj (Ac sr (by rw [if_pos (by simpa using y)])))
  rw [if_neg (by simpa using y)];replace d:=d j;cases fb with
  |none=>
   simp only [bV]at d|-;refine Ab (Ad (Am 2 sr ?_));refine Ah d func238 ?_;refine Af [2,3,4] [] sr ?_;exact Aj (Ac sr rfl)
  |some l=>
   have pl:=Ag l;simp only [bV]at d|-;refine Ab (Ad (Am 2 sr ?_));refine Ah d func238 ?_;refine Af [2,3,4] [] sr ?_;exact Aj (Ac (by simp [results202]<;>rfl) rfl)
theorem Ht(n k:Nat)(f:Nat->Bool)(a:k<n)(c:((List.range n).take k).any f=false)(d:f k=false):((List.range n).take (k+1)).any f=false:=
 M4 (by simpa using a) c (by simpa using d)
theorem Mm{n k:Nat}{f:Nat->Bool}(a:k<n)(c:f k=true):(List.range n).any f=true:=Dz.2 ⟨k,Hv.2 a,c⟩
def Afz(pool:List Pit)(id:Int):Int:=Hs (fun p=>decide (p.id=id)) pool 0
def Avp(giv:List Int):Bool:=(List.range giv.length).any fun i=>decide (giv.getD i 0∈giv.take i)
def Ad8(len:Int)(rs:List Ru)(pool:List Pit)(en:List (Int × Int))(giv:List Int):Int:=
 if Amr len rs pool en≠0 then Amr len rs pool en else if giv.any (fun id=>decide (Afz pool id<0))=true then 6 else if Avp giv=true then 7 else 0
theorem Ajw(len:Int)(rs:List Ru)(pool:List Pit)(en:List (Int × Int))(giv a:List Int)(n:Int)(hs:Rf len rs=0)(hp:Jp pool n=0)(aq:pool.length<=18)(he:en.length<=400)(hg:giv.length<=1000)
  (an:a.length=pool.length)(al:∀v∈a,-1000000<=v/\v<=1000000):
  U9 gv prog 154 [Pq len rs,.ro 9 (Ce pool),.ro 2 (A2 en),.ro 1 (As giv),.ro 1 (As a)] [] (Aho (Ad8 len rs pool en giv) (Wm a rs) (St len rs pool en (pool.length+Fa rs)) (O2 rs pool)):=by
 have e:=Ajo len rs pool en a n hs hp aq he an al;have u:=X5 pool;have ak:=fun k x=>Qd (giv.take k) x
 have pl:=Ca pool;have pr:=C2 rs;have pe:=A5 en;have pv:=Ag a;have pg:=Ag giv;have ai:=fun(k:Nat)(h:k<giv.length)=>Dd h
 have aw:=A4 giv;have ao:=fun k=>(show As (giv.take k)=(As giv).take k by simp [As,Ke])
 have ah:=fun k=>Ag (giv.take k)
 have pX:=Ag (Wm a rs);have pR:=Gg (St len rs pool en (pool.length+Fa rs));have pF:=Ag (O2 rs pool);have lF:=A4 (O2 rs pool);unfold Pq at e|-;unfold Aho Ams Ash Ad8;unfold Aho Ams Ash at e;simp only [ao]at ak ah;change∀id,Hp gv prog 201 [.ro 9 (Ce pool),.int .i64 id] (fun r=>r=.int .i64 (Afz pool id))at u;generalize As (Wm a rs)=xv at*;generalize Gv (St len rs pool en (pool.length+Fa rs))=cv at*;generalize As (O2 rs pool)=fv at*;generalize(O2 rs pool).length=fl at*;generalize Amr len rs pool en=am at*;generalize Afz pool=pX at*;generalize As a=vv at*;generalize az:As giv=c at*;generalize A2 en=ev at*;generalize Ce pool=ar at*;generalize Ey rs=rv at*
 by_cases hE:am=0
 ·subst hE;simp only [if_true,ne_eq,not_true_eq_false,if_false]at e|-;generalize l:(if(giv.any fun id=>decide (pX id<0))=true then(6:Int)else if Avp giv=true then 7 else 0)=ee;refine Hr func154 fun w0 N0 g hG=>?_;refine Aa [1,2,3,4,5,10] [5,10] sr (Ab (Ad (Am 4 sr ?_)));refine Pj hG e func200 rfl kr rfl rfl rfl sr (fun k o j=>by cases j) ?_;rintro r ae s⟨v,rfl,rfl⟩aj;refine⟨fun k j=>rfl,_,by simp<;>rfl,?_⟩;refine Af [1,3,10,12,13] [10,12,78] sr ?_;refine Ab (Aa [1,3,10,12,13,27] [10,12,78] sr ?_);refine A7 rfl (fun h1=>absurd h1 sm) (fun h1=>Ae (Ab (Aa [1,3,10,12,30,31,32] [10,12,78] sr (Ar (Br (fun k nx=>⟨[(1,V.ro 9 ar),(3,V.ro 1 c),(10,V.bp 10 (g+1) 3 0 0),(12,V.bp 12 (s+8) 3 0 0),(30,V.ro 1 c),(31,.int .i64 c.length),(32,.int .i64 k)],[(10,⟨g+1,3,257,[V.agg [.nils,.nils,.nils]]⟩),(12,⟨s+8,3,257,[V.agg [.ro 1 xv,.ro 3 cv,.sl 78 v 1 fl]]⟩),(78,⟨v,1,3,fv⟩)],nx,57⟩) (fun k=>(giv.take k).any (fun id=>decide (pX id<0))=false) giv.length _ rfl (AS.le_refl _) ?_)))));intro k nx j hI;refine Aa [1,3,10,12,30,31,32,33] [10,12,78] sr (Ab ?_)
  refine Ao (fun h2=>Ae ?_) fun h2=>?_
  ·have d:k<giv.length:=by simp at h2;omega
   have t:k<c.length:=om;have ga:=ai k d;have Dg:=A6 (k:=k) om;have z:=fun h=>M4 (f:=fun id=>decide (pX id<0)) d hI h
   have y:=fun h=>Qg (f:=fun id=>decide (pX id<0)) d h
   rw [Cp d]at ga;generalize giv[k]=id at*;have aa:=u id;refine Ab (Ar (Aa [1,3,10,12,15,30,31,32] [10,12,78] (by simp [ga,t]<;>rfl) (Ab (Ad (Am 2 sr ?_)))));refine Gt hG aa func201 rfl kr (by simp) rfl rfl rfl sr (by simp) sr ?_;refine Af [1,3,10,12,30,31,32,39] [10,12,78] sr ?_
   refine Ao (fun h3=>?_) fun h3=>Ae ?_
   ·refine Aa [10,11] [10] sr ?_;rw [if_pos (y (by simpa using h3))]at l;subst l;exact C1 g (Dr (A8 _ _) sr (outs0:=[]) (by rw [if_neg Go.dc];exact⟨rfl,rfl⟩) (fun k o j=>by cases j))
   refine A3 [1,3,10,12,30,31,32] [10,12,78] (by simp [Dg]<;>rfl) ?_;exact⟨d,z (by simpa using h3),_,AS.le_refl _⟩
  ·refine Bb ?_;have ab:k=giv.length:=by simp at h2;omega
   rw [ab,Bl]at hI;rw [if_neg (by rw [hI];simp)]at l;refine Ab (Aa [3,10,12,42,43,44] [10,12,78] sr (Ar (Br (fun k nx=>⟨[(3,V.ro 1 c),(10,V.bp 10 (g+1) 3 0 0),(12,V.bp 12 (s+8) 3 0 0),(42,V.ro 1 c),(43,.int .i64 c.length),(44,.int .i64 k)],[(10,⟨g+1,3,257,[V.agg [.nils,.nils,.nils]]⟩),(12,⟨s+8,3,257,[V.agg [.ro 1 xv,.ro 3 cv,.sl 78 v 1 fl]]⟩),(78,⟨v,1,3,fv⟩)],nx,57⟩) (fun k=>((List.range giv.length).take k).any (fun i=>decide (giv.getD i 0∈giv.take i))=false) giv.length _ rfl (AS.le_refl _) ?_)));intro m ay ax w;refine Aa [3,10,12,42,43,44,45] [10,12,78] sr (Ab ?_)
   refine Ao (fun h4=>Ae ?_) fun h4=>?_
   ·have d:m<giv.length:=by simp at h4;omega
    have t:m<c.length:=om;have ga:=ai m d;have Dg:=A6 (k:=m) om;have z:=fun h=>Ht giv.length m (fun i=>decide (giv.getD i 0∈giv.take i)) d w h
    have y:=fun h=>Mm (f:=fun i=>decide (giv.getD i 0∈giv.take i)) d h
    have ad:=ak m (giv.getD m 0);have ag:=ah m;have af:m<=c.length:=om;generalize av:giv.getD m 0=id at*;have au:min m c.length=m:=om;refine Ab (Ar (Aa [3,10,12,16,17,42,43,44] [10,12,78] (by simp [ga,t]<;>rfl) (Ab (Ad (Am 4 (by simp [af]<;>rfl) ?_)))));refine Ah ad func64 ?_;refine Af [3,10,12,42,43,44,53] [10,12,78] sr ?_
    refine Ao (fun h5=>?_) fun h5=>Ae ?_
    ·refine Aa [10,11] [10] sr ?_;have hD:Avp giv=true:=by unfold Avp;exact y (by simpa using h5)
     rw [if_pos hD]at l;subst l;exact C1 g (Dr (A8 _ _) sr (outs0:=[]) (by rw [if_neg Go.dc];exact⟨rfl,rfl⟩) (fun k o j=>by cases j))
    refine A3 [3,10,12,42,43,44] [10,12,78] (by simp [Dg]<;>rfl) ?_;exact⟨d,z (by simpa using h5),_,AS.le_refl _⟩
   ·refine Bb ?_;have ab:m=giv.length:=by simp at h4;omega
    rw [ab,Bg (by simp)]at w;have hD:Avp giv=false:=by unfold Avp;exact w
    rw [if_neg (by rw [hD];simp)]at l;subst l;refine Aa [10,11] [10,78] sr ?_;exact C1 g (Dr (A8 _ _) sr (outs0:=[(78,⟨v,1,3,fv⟩)]) (by rw [if_pos rfl];exact⟨v,rfl,rfl⟩) (fun k o j=>Dk gt j))
 ·simp only [if_neg hE]at e;simp only [ne_eq,hE,not_false_eq_true,if_true,if_false];refine Hr func154 fun w0 N0 g hG=>?_;refine Aa [1,2,3,4,5,10] [5,10] sr (Ab (Ad (Am 4 sr ?_)));refine Pj hG e func200 rfl kr rfl rfl rfl sr (fun k o j=>by cases j) ?_;rintro r ae s⟨rfl,rfl⟩aj;refine⟨fun k j=>j,_,by simp<;>rfl,?_⟩;refine Af [1,3,10,12,13] [10,12] sr ?_;refine Ab (Aa [1,3,10,12,13,27] [10,12] sr ?_)
  refine A7 rfl (fun h1=>?_) (fun h1=>absurd h1 (by simpa using hE))
  ·refine Aa [10,11] [10] sr ?_;exact C1 g (Dr (A8 _ _) sr (outs0:=[]) ⟨rfl,rfl⟩ (fun k o j=>by cases j))
instance:Inhabited Pit:=⟨⟨0,[],0,0,0,0,0,0,[]⟩⟩
theorem Am3{l:List Pit}{k:Nat}(h:k<l.length):G8 (Ce l) k=some (.agg (l.getD k default).cs):=by rw [Cp h];exact Ij h
def A06(pool:List Pit)(id:Int):Nat:=(Afz pool id).toNat
def Wp(pool:List Pit)(a giv:List Int):Nat->List Int
 |0=>a
 |k+1=>(Wp pool a giv k).set (A06 pool (giv.getD k 0)) 1
theorem Ad9(pool:List Pit)(a giv:List Int):∀k,(Wp pool a giv k).length=a.length
 |0=>rfl
 |k+1=>by rw [Wp,Ha,Ad9 pool a giv k]
def A8m(pool:List Pit)(a giv:List Int)(k:Nat):Bool:=decide ((Wp pool a giv k).getD (A06 pool (giv.getD k 0)) 0=0)
def Z2(x:List Int)(pool:List Pit):Nat->List Int
 |0=>[]
 |k+1=>if x.getD k 0=1 then Z2 x pool k++[(pool.getD k default).id]else Z2 x pool k
theorem Aea(x:List Int)(pool:List Pit):∀k,(Z2 x pool k).length<=k
 |0=>A9 _
 |k+1=>by have:=Aea x pool k;rw [Z2];split<;>simp<;>omega
theorem Ahw{P:Program}{w0:Bs}{N0:Nat->Prop}{Q:Exit->AS->Prop}{S:AS}{c:Code}(d sz:Nat)(ty:TypeId)(h:AW P w0 N0 c Q { S with objs:=(d,⟨S.nx,sz,ty,[]⟩)::S.objs,nx:=S.nx+1}):AW P w0 N0 c Q S:=
 S7 (fun _ _ _ _⟨_,hr⟩=>⟨_,hr.addRow d sz ty⟩) h
def A07(c:List Int)(a:List Rw)(d:List Int):Int:=
 if Zz c a d≠0 then Zz c a d
 else if a.any (fun r=>decide (r.mx<r.mn))=true then 14
 else if(grD c a d).found=false then 14 else 0
def Vf(a:List Int)(c:List Rw)(d:List Int):List Int:=((Avn a c d (grD a c d).most).best).getD []
def Asr(a:List Int)(c:List Rw)(d:List Int):Prop:=
 Zz a c d=0->c.any (fun r=>decide (r.mx<r.mn))=false->(grD a c d).found=true->∃b,(Avn a c d (grD a c d).most).best=some b/\b.length=a.length
theorem Aqh(a:List Int)(c:List Rw)(d:List Int)(h:Asr a c d):
  (A07 a c d≠0/\A04 a c d=.tup [.nils,.int .i64 0,.int .i64 (A07 a c d)])\/
  (A07 a c d=0/\(Vf a c d).length=a.length/\A04 a c d=.tup [.ro 1 (As (Vf a c d)),.int .i64 (grD a c d).most,.int .i64 0]):=by
 unfold A07 A04
 by_cases h1:Zz a c d≠0
 ·left;simp only [if_pos h1];exact⟨h1,trivial⟩
 ·simp only [if_neg h1]
  by_cases h2:c.any (fun r=>decide (r.mx<r.mn))=true
  ·left;simp only [if_pos h2];exact⟨by decide,trivial⟩
  ·simp only [if_neg h2]
   by_cases e:(grD a c d).found=false
   ·left;simp only [if_pos e];exact⟨by decide,trivial⟩
   ·right
    obtain⟨b,g,f⟩:=h (by simpa using h1) (by simpa using h2) (by simpa using e);simp only [if_neg e];unfold Vf;rw [g];exact⟨trivial,f,rfl⟩
def shE(a:List Int)(c:List Rw)(pool:List Pit)(d giv:List Int):Int:=
 if(List.range giv.length).any (A8m pool d giv)=true then 14 else A07 a c (Wp pool d giv giv.length)
def shT(a:List Int)(c:List Rw)(pool:List Pit)(d giv:List Int):List Int:=Z2 (Vf a c (Wp pool d giv giv.length)) pool pool.length
def Aeb(e:Int)(l:List Int):V:=if e=0 then .tup [.ro 1 (As l),.int .i64 0]else .tup [.nils,.int .i64 e]
theorem Aqi(a:List Int)(c:List Rw)(d:List Int)(pool:List Pit)(giv:List Int)(v:Nat)(hv:a.length<20)(hr:c.length<=1000)(hx:d.length=a.length)(bh:pool.length<=a.length)(hg:giv.length<=1000)
  (af:∀id∈giv,0<=Afz pool id)(ao:Asr a c (Wp pool d giv giv.length)):
  U9 gv prog 155 [.agg [.ro 1 (As a),.ro 3 (Gv c),.sl 78 v 1 d.length],.ro 9 (Ce pool),.ro 1 (As giv)] [(78,⟨v,1,3,As d⟩)]
   (fun r aj=>r=Aeb (shE a c pool d giv) (shT a c pool d giv)/\∃q es,aj= [(78,⟨q,1,3,es⟩)]):=by
 have z:=X5 pool;change∀id,Hp gv prog 201 [.ro 9 (Ce pool),.int .i64 id] (fun r=>r=.int .i64 (Afz pool id))at z;have y:=fun id=>(Asb (fun p:Pit=>decide (p.id=id)) pool 0).2.1
 change∀id,Afz pool id<_ at y;have i:=Avo a c (Wp pool d giv giv.length) hv ⟨hr,by rw [Ad9];omega⟩;have an:=Aqh a c _ ao;have al:=Ad9 pool d giv;have a6:∀k,Wp pool d giv (k+1)=(Wp pool d giv k).set (A06 pool (giv.getD k 0)) 1:=fun k=>rfl
 have ay:Wp pool d giv 0=d:=rfl;have a9:∀k,A8m pool d giv k=decide ((Wp pool d giv k).getD (A06 pool (giv.getD k 0)) 0=0):=fun k=>rfl
 unfold Aeb shE shT;generalize bd:Wp pool d giv=g at*;generalize A8m pool d giv=bg at*;have pl:=Ca pool;have pv:=Ag a;have pr:=Gg c;have pg:=Ag giv;have a1:=fun(k:Nat)(h:k<giv.length)=>Dd h
 have bn:=A4 giv;have a2:=fun(k:Nat)(h:k<pool.length)=>Am3 h
 have bi:=Dx pool;generalize As a=vv at*;generalize Gv c=rw at*;generalize As giv=ab at*;generalize bj:Ce pool=t at*;refine Hr func155 fun w0 N0 s hG=>?_;refine Aa [1,2,3] [3,78] sr (Ab (Aa [1,3,17,18,19] [3,78] sr (Ar (Br (fun k nx=>⟨[(1,V.ro 9 t),(3,V.bp 3 s 3 0 0),(17,.ro 1 ab),(18,.int .i64 ab.length),(19,V.int .i64 k)],[(3,⟨s,3,257,[V.agg [V.ro 1 vv,V.ro 3 rw,V.sl 78 v 1 d.length]]⟩),(78,⟨v,1,3,As (g k)⟩)],nx,65⟩) (fun k=>((List.range giv.length).take k).any bg=false) giv.length _ rfl (by simp only [ay];exact AS.le_refl _) ?_))));intro k nx hk hI;refine Aa [1,3,17,18,19,20] [3,78] sr (Ab ?_)
 refine Ao (fun h1=>Ae ?_) fun h1=>?_
 ·have e:k<giv.length:=by simp at h1;omega
  have n:k<ab.length:=om;have ga:=a1 k e;have Dg:=A6 (k:=k) om;have au:=fun h=>Ht giv.length k bg e hI h
  have az:=fun h=>Mm (f:=bg) e h
  have a5:=Gl af e 0;have ad:=a6 k;have u:=a9 k;unfold A06 at ad u;have ae:=z (giv.getD k 0);have bf:=y (giv.getD k 0);generalize giv.getD k 0=id at*;generalize Afz pool id=px at*;obtain⟨pn,rfl⟩:=Cl a5;simp only [Dn]at ad u;have bc:=al k;have a4:pn<(g k).length:=om;have am:pn<d.length:=om;have gp:=Dd a4;have ah:=A4 (g k);have aw:=T3 (g k) pn 1;generalize bb:As (g k)=ag at*;have ak:ag.length=d.length:=om;refine Ab (Ar (Aa [1,3,9,17,18,19] [3,78] (by simp [ga,n]<;>rfl) (Ab (Ad (Am 2 sr ?_)))));refine Gt hG ae func201 rfl kr (by simp) rfl rfl rfl sr (by simp) sr ?_;refine Af [1,3,10,17,18,19] [3,78] sr ?_;refine Ab (Aa [1,3,10,17,18,19,31] [3,78] (by simp [gp,am]<;>rfl) ?_)
  refine Ao (fun h2=>?_) fun h2=>Ae ?_
  ·refine Aa [6,7] [78] sr ?_;have hA:=az (by rw [u];simpa using h2);simp only [hA,if_true];exact C1 s (Dr (A8 _ _) sr ⟨by simp,v,ag,rfl⟩ (fun k o hk=>Dk gt hk))
  refine A3 [1,3,17,18,19] [3,78] (by simp [gp,am]<;>rfl) (A3 [1,3,17,18,19] [3,78] (by simp [Dg]<;>rfl) ?_);exact⟨e,au (by rw [u];simpa using h2),_,by rw [ad,aw];exact AS.le_refl _⟩
 ·refine Bb ?_;have w:k=giv.length:=by simp at h1;omega
  rw [w,Bg (by simp)]at hI;simp only [hI,Fh,if_false];rw [w];have l:=Ag (g giv.length);have ah:(As (g giv.length)).length=d.length:=by rw [A4];exact al _
  generalize a0:As (g giv.length)=bk at*;refine Bp 78 [1,3] [3] (by simp [l,ah]<;>rfl) ?_
  rcases an with⟨ai,aa⟩|⟨he,be,aa⟩
  ·rw [aa]at i;refine Ab (Ad (Am 1 sr ?_));refine Gt hG i func202 rfl kr (by simp) rfl rfl rfl sr (by simp) sr ?_;refine Af [1,11,13] [] sr ?_;refine Ab (Aa [1,11,13,44] [] sr ?_);refine A7 rfl (fun h3=>?_) (fun h3=>absurd h3 (by simpa using ai));refine Aa [6,7] [] sr ?_;refine Ahw 78 1 3 ?_;exact C1 s (Dr (A8 _ _) sr ⟨by rw [if_neg ai],_,[],rfl⟩ (fun k o hk=>Dk (by simp [Eng.get];rfl) hk))
  rw [aa]at i;have a8:=fun(k:Nat)(h:k<(Vf a c (g giv.length)).length)=>Dd h
  have bm:=A4 (Vf a c (g giv.length));have bq:=Ag (Vf a c (g giv.length));have ar:∀k,Z2 (Vf a c (g giv.length)) pool (k+1)=if(Vf a c (g giv.length)).getD k 0=1 then Z2 (Vf a c (g giv.length)) pool k++[(pool.getD k default).id]else Z2 (Vf a c (g giv.length)) pool k:=fun k=>rfl
  have a3:=Aea (Vf a c (g giv.length)) pool;have av:Z2 (Vf a c (g giv.length)) pool 0= []:=rfl;simp only [he,if_true];generalize Z2 (Vf a c (g giv.length)) pool=tk at*;generalize Vf a c (g giv.length)=xb at*;generalize As xb=xv at*;refine Ab (Ad (Am 1 sr ?_));refine Gt hG i func202 rfl kr (by simp) rfl rfl rfl sr (by simp) sr ?_;refine Af [1,11,13] [] sr ?_;refine Ab (Aa [1,11,13,44] [] sr ?_);refine A7 rfl (fun h3=>absurd h3 sm) (fun h3=>Ae (Aa [1,11,14] [] sr (Ab (Aa [11,14,46,47,48] [] sr ?_))));refine Fp 14 100 1 3 [11,14,46,47,48] [100] sr sr ?_;refine Ar ?_
  refine Di (fun x:Nat × Nat × Nat=>⟨[(11,.ro 1 xv),(14,.sl 100 x.2.1 1 (tk x.1).length),(46,.ro 9 t),(47,.int .i64 t.length),(48,V.int .i64 (x.1:Nat))],[(100,⟨x.2.1,1,3,As (tk x.1)⟩)],x.2.2,65⟩)
   (fun x=>x.1<=pool.length) (fun x=>pool.length-x.1) (0,_,_) (B4 _) (by simp only [av];exact AS.le_refl _) ?_
  rintro⟨j,qv,bl⟩ax;simp only at ax|-;refine Aa [11,14,46,47,48,49] [100] sr (Ab ?_)
  refine Ao (fun h4=>Ae ?_) fun h4=>?_
  ·have e:j<pool.length:=by simp at h4;omega
   have n:j<t.length:=om;have ga:=a2 j e;have Dg:=A6 (k:=j) om;have hs:=ar j;have bo:=a3 j;have a7:j<xb.length:=om;have gx:=a8 j a7;have ba:j<xv.length:=om;unfold Pit.cs at ga;generalize pool.getD j default=p at*;have pm:=Do p.m;generalize tk j=Lk at*;have aq:Lk.length+1<=maxLen/\(Lk.length+1)*8<=140737488355328:=⟨Ai (show Lk.length+1<=30 by omega) dc,by omega⟩;refine Ab (Ar (Aa [11,14,15,16,46,47,48] [16,100] (by simp [ga,n]<;>rfl) (Aa [11,14,16,46,47,48,57] [16,100] (by simp [gx,ba]<;>rfl) ?_)))
   refine Ao (fun h5=>?_) fun h5=>Ae ?_
   ·rw [if_pos (by simpa using h5)]at hs;refine A3 [11,14,46,47,48] [100] (by simp [aq]<;>rfl) (A3 [11,14,46,47,48] [100] (by simp [Dg]<;>rfl) ?_);exact⟨(j+1,_,_),e,by simp only;omega,by simp only [hs,U1,Bf,Ba,Bx];exact AS.le_refl _⟩
   rw [if_neg (by simpa using h5)]at hs;refine A3 [11,14,46,47,48] [100] (by simp [Dg]<;>rfl) ?_;exact⟨(j+1,_,_),e,by simp only;omega,by simp only [hs];exact AS.le_refl _⟩
  ·refine Bb ?_;have w:j=pool.length:=by simp at h4;omega
   subst w;have pL:=Ag (tk pool.length);have lL:=A4 (tk pool.length);refine Bp 100 [14] [] (by simp [pL,lL]<;>rfl) (Aa [6,7] [] sr ?_);refine Ahw 78 1 3 ?_;exact C1 s (Dr (A8 _ _) sr ⟨rfl,_,[],rfl⟩ (fun k o hk=>Dk (by simp [Eng.get];rfl) hk))
end Go.Proofs.YtpaccopbbffkaaaGreatDoor
