/- Sessions: part 4 of the proof. No condition. -/
import Derived.Test.YtpaccopbbffkaaaGreatDoorB3
import Derived.Shelf.Slices.In.SortNone
import Derived.Shelf.SlGeneric
import Derived.Shelf.SlSortCmp.WholeK
import Derived.Shelf.SlicesG.Cmp
import Derived.Ground.SlsfProg
import Derived.Ground.SlgcProg
import Derived.Test.YtpaccopbbffkaaaGreatDoorProg
import Derived.WalkKit
import Derived.LoopTactic
import Derived.Tactics2
import Derived.WalkSpells
import Derived.StillTactics
import Derived.Laws.Pointers
import Derived.Deep.RegionHeld3
import Derived.Sort.Grow
import Derived.Shelf.SlSortCmp.NoneTotal
set_option maxHeartbeats 8000000
set_option linter.all false
open Go.Proofs.Tryz
set_option maxRecDepth 4000
namespace Go.Proofs.YtpaccopbbffkaaaGreatDoor
open Go.Eng Go.Eng.Limb
def Wy(w:List Nat):Nat:=w.foldl Nat.gcd 0
def Qx(w:List Nat):List Nat:=w.map (· / Wy w)
def P6(w:List Nat)(m:Mo)(k:Nat):List Nat:=List.zipWith (fun x(r:List Int)=>x*(r.getD k 0).toNat) w m
theorem Ajc{w:List Nat}{k:Nat}(h:k<w.length):Wy (w.take (k+1))=Nat.gcd (Wy (w.take k)) w[k]:=by
 unfold Wy;rw [A3 h,List.foldl_append];rfl
theorem A7p{a b m:Nat}(h1:(B1 a).length<=m)(h2:(B1 b).length<=m):(B1 (Nat.gcd a b)).length<=m:=by
 by_cases c:b=0
 ·rw [c,Nat.gcd_zero_right];exact h1
 ·exact Aj (Abj (Nat.gcd_le_right a om)) h2
theorem Aor{w:List Nat}{m:Nat}(h:Ks w m):∀k,k<=w.length->(B1 (Wy (w.take k))).length<=m
 |0,_ =>by simp [Wy,Ei]
 |k+1,hk=>by
  rw [Ajc (by omega)];exact A7p (Aor h k om) (h _ (Aw _))
theorem Afn(w:List Nat)(hw:Ks w 1000000)(af:w.length<=1000000):AC prog 67 [.ro 1 (Bv w)] (fun r=>r=.ro 1 (Bv (Qx w))):=by
 have hq:∀(k:Nat)(h:k<w.length),Hs (Bv w) k=some (.ro 1 (Fo w[k])):=fun k h=>Kb h
 have lq:=H2 w;have hn:∀(k:Nat)(h:k<w.length),(Bv (Qx w))[k]? =some (.ro 1 (Fo (w[k]/Wy w))):=fun k h=>by rw [Qh (by simp [Qx,h])];simp [Qx]
 have u:(Bv (Qx w)).length=w.length:=by simp [Qx]
 have ad:=Br (Qx w);have o:=Aor hw;generalize Bv (Qx w)=j,Bv w=i at*;refine Ay func67 (fun w0 N0=>?_);refine Aa [0] [] sr (Aa [0,3] [] sr ?_);refine Anq 3 (.ro 1 (Fo (Wy (w.take 0)))) [0,3] [] rfl rfl (by rw [H0,Wy,List.foldl_nil,Fo,Ei];exact Bl.nils 1) sr ?_;refine Ab (Aa [0,3,9,10,11] [] sr (Ap (Bq (fun k nx=>⟨[(0,V.ro 1 i),(3,V.ro 1 (Fo (Wy (w.take k)))),(9,V.ro 1 i),(10,V.int .i64 i.length),(11,V.int .i64 k)],[],nx,41⟩) (fun k=>True) w.length _ trivial (by simp only [H0];exact AS.le_refl _) ?_)));intro k nx hk hI;refine Aa [0,3,9,10,11,12] [] sr (Ab ?_)
 refine Ao (fun h1=>Ae ?_) (fun h1=>?_)
 ·have a:k<w.length:=by simp at h1;omega
  have d:k<i.length:=om;have n:=hq k a;have C9:=A7 (k:=k) om;have hs:=Ajc a;have hx:=hw _ (Aw a);have hg:=o k om;generalize w[k]=x at n hs hx;generalize Wy (w.take k)=g at hs hg|-;have f:=A16 (B1 g) (B1 x) (Cr _) (Cr _) om om;rw [C2,C2,<- hs]at f;change AC _ _ [.ro 1 (Fo g),.ro 1 (Fo x)] (fun r=>r=.ro 1 (Fo (Wy (w.take (k+1)))))at f;have p1:=Ex g;have p2:=Ex x;refine Ab (Ap (Aa [0,3,5,9,10,11] [] (by simp [n,d]<;>rfl) (Ac (Am 2 sr ?_))));refine Ai f func103 ?_ (hp:=by simp);refine Ag [0,3,9,10,11] [] sr ?_;refine A2 [0,3,9,10,11] [] (by simp [C9]<;>rfl) ?_;exact⟨a,trivial,_,AS.le_refl _⟩
 ·refine A9 ?_;have t:k=w.length:=by simp at h1;omega
  subst t;have ae:=o w.length om;rw [Bo]at ae|-;generalize Wy w=G at*;have pG:=Ex G;have aa:(i.length:Int)<=9223372036854775807:=om;have ab:24*(i.length:Int)<=281474976710656:=om;refine Aa [0,3,6] [21] (by simp [aa,ab]<;>rfl) (Ab (Aa [3,6,22,23,24] [21] sr (Ap (Bq (fun k s=>⟨[(3,V.ro 1 (Fo G)),(6,V.sl 21 (nx+3) 1 i.length),(22,V.ro 1 i),(23,V.int .i64 i.length),(24,V.int .i64 k)],[(21,{ v:=nx+3,sz:=1,ty:=30,es:=Fy j .nils k})],s,41⟩) (fun k=>True) w.length _ trivial (by rw [I8,u,<- lq];exact AS.le_refl _) ?_))));intro k s hk hI;have y:=J6 j .nils k om;refine Aa [3,6,22,23,24,25] [21] sr (Ab ?_)
  refine Ao (fun h2=>Ae ?_) (fun h2=>?_)
  ·have a:k<w.length:=by simp at h2;omega
   have d:k<i.length:=om;have l:k<j.length:=om;have n:=hq k a;have e:=J8 j .nils k l (hn k a);have m:Hs (Fy j .nils k) k=some .nils:=J7 j .nils k l;have C9:=A7 (k:=k) om;have hx:=hw _ (Aw a);generalize w[k]=x at n hx e;have c:=Sj (B1 x) (B1 G) (Cr _) (Cr _) om;rw [C2,C2]at c
   obtain⟨z,r2,hr⟩:∃z r2,Alb x G=.tup [.ro 1 (Fo (x/G)),z,r2]/\z.pureV=true/\r2.pureV=true:=by
    unfold Alb;split
    ·rename_i h;rw [h,Nat.div_zero];exact⟨_,_,by rw [Fo,Ei];rfl,rfl,rfl⟩
    ·exact⟨_,_,rfl,Axf _,rfl⟩
   rw [hr.1]at c;have q1:=hr.2.1;have q2:=hr.2.2;change AC _ _ [.ro 1 (Fo x),.ro 1 (Fo G)] _ at c;have p2:=Ex x;generalize Fy j .nils k=row at m e y|-;refine Ab (Ap (Aa [3,6,7,8,22,23,24] [21] (by simp [n,d]<;>rfl) (Ac (Am 4 sr ?_))));refine Ai c func104 ?_ (hp:=by simp);refine Ag [3,6,22,23,24] [21] (by simp [d,m,e]<;>rfl) ?_;refine A2 [3,6,22,23,24] [21] (by simp [C9]<;>rfl) ?_;exact⟨a,trivial,_,AS.le_refl _⟩
  ·refine A9 ?_;have t:k=w.length:=by simp at h2;omega
   rw [K1 j .nils k (by omega)];refine Bt 21 [6] [] (by simp [ad,u,lq]<;>rfl) ?_;exact Aa [2] [] sr (Ak (Ad sr rf))
theorem Afo{w:List Nat}{m:Mo}(k:Nat)(h:m.length=w.length):(P6 w m k).length=w.length:=by simp [P6,h]
theorem A2h{w:List Nat}{m:Mo}{k i:Nat}(h:m.length=w.length)(a:i<w.length):(P6 w m k)[i]'(by rw [Afo k h];exact a)=w[i]*((m[i]'(by omega)).getD k 0).toNat:=by simp [P6]
theorem Axo(w:List Nat)(m:Mo)(d:Nat)(hm:Ln m w.length=0)(hk:d<Wv m)(hw:Ks w 1000000):
  AC prog 165 [.ro 1 (Bv w),moV m,.int .i64 d] (fun r=>r=.tup [.ro 1 (Bv (P6 w m d)),.int .i64 0]):=by
 have g:=Rz m w.length;rw [hm]at g;have ab:=Ali m;obtain⟨ml,mp,ao,-,m6,mrow⟩:=Ze hm;have hq:∀(k:Nat)(h:k<w.length),Hs (Bv w) k=some (.ro 1 (Fo w[k])):=fun k h=>Kb h
 have lq:=H2 w;have hr:∀(k:Nat)(h:k<m.length),Hs (Ek m) k=some (.ro 1 (As m[k])):=fun k h=>Sg h
 have lr:=Lz m;have pm:=Dw m
 have hn:∀(k:Nat)(h:k<w.length)(h2:k<m.length),(Bv (P6 w m d))[k]? =some (.ro 1 (Fo (w[k]*(m[k].getD d 0).toNat))):=fun k h h2=>by
  rw [Qh (by rw [Afo d ml];exact h),A2h ml h]
 have ad:(Bv (P6 w m d)).length=w.length:=by rw [H2,Afo d ml]
 have ai:=Br (P6 w m d);have ev:moV m=.agg [.ro 1 (Ek m)]:=rfl;rw [ev]at g ab|-;generalize Bv (P6 w m d)=l,Bv w=y,Ek m=mv at*;rw [<- lq]at g;refine Ay func165 (fun w0 N0=>?_);refine Aa [0,2,4] [4] sr (Ab (Aa [0,2,4,15] [4] sr ?_));refine A6 rfl (fun h1=>by simp at h1;omega) (fun h1=>Ae (Ab (Ab (Ac (Am 3 sr ?_)))));refine Ai g func91 ?_ (hp:=by simp);refine Ag [0,2,4,8] [4] sr ?_;refine Aa [0,2,4,8,21] [4] sr ?_;refine A6 rfl (fun h2=>by simp at h2) (fun h2=>Ae (Aa [0,2,4,9] [4] sr (Ab (Ab (Ac (Am 7 sr ?_))))));refine De (c:=true) (fun hg=>ab) func63 rfl kr sr rfl rfl sr (by simp) sr ?_;refine Ag [0,2,4,9,39] [4] sr ?_;refine A6 rfl (fun h3=>by simp at h3;omega) (fun h3=>Ae ?_);have af:(y.length:Int)<=9223372036854775807:=om;have ag:24*(y.length:Int)<=281474976710656:=om;refine Aa [0,2,4,9,10] [4,42] (by simp [af,ag]<;>rfl) (Ab (Aa [2,4,9,10,43,44,45] [4,42] sr (Ap (Bq (fun k nx=>⟨[(2,V.int .i64 d),(4,V.bp 4 (0) 1 0 0),(9,V.bool true),(10,V.sl 42 (33) 1 y.length),(43,V.ro 1 y),(44,V.int .i64 y.length),(45,V.int .i64 k)],[(4,{ v:=0,sz:=1,ty:=113,es:=[V.agg [V.ro 1 mv]]}),(42,{ v:=33,sz:=1,ty:=30,es:=Fy l .nils k})],nx,73⟩) (fun k=>True) w.length _ trivial (by rw [I8,ad,<- lq];exact AS.le_refl _) ?_))));intro k nx hk hI;have ae:=J6 l .nils k om;refine Aa [2,4,9,10,43,44,45,46] [4,42] sr (Ab ?_)
 refine Ao (fun h4=>Ae ?_) (fun h4=>?_)
 ·have i:k<w.length:=by simp at h4;omega
  have o:k<y.length:=om;have s:k<l.length:=om;have e:k<m.length:=om;have t:k<mv.length:=om;have ga:=hq k i;have gr:=hr k e;have a:=J8 l .nils k s (hn k i e);have z:Hs (Fy l .nils k) k=some .nils:=J7 l .nils k s;have C9:=A7 (k:=k) om;have hx:=hw _ (Aw i);obtain⟨ah,aa,-⟩:=mrow _ (Aw e);generalize w[k]=x at ga a hx;generalize m[k]=rw at gr a ah aa;have u:d<rw.length:=om;have gi:=Fj u;have li:=A5 rw;have ak:rw.getD d 0=rw[d]:=by simp [List.getD,u]
  rw [ak]at a;have hp:=aa _ (Aw u);generalize rw[d]=p at gi a hp;generalize As rw=iv at gr gi li;have al:d<iv.length:=om;obtain⟨n,rfl⟩:∃n:Nat,p=n:=⟨p.toNat,by omega⟩;rw [Dv]at a;have j:=Afh n om;change AC _ _ _ (fun r=>r=.ro 1 (Fo n))at j;have aj:=wrap_u64 (n:=n) om;have an:(B1 n).length<=1:=E0 om;have f:=Ala (B1 x) (B1 n) (Cr _) (Cr _) om om;rw [C2,C2]at f;change AC _ _ [.ro 1 (Fo x),.ro 1 (Fo n)] (fun r=>r=.ro 1 (Fo (x*n)))at f;have pn:=Ex n;have px:=Ex x;have am:=Ex (x*n);generalize Fy l .nils k=row at z a ae|-;refine Ab (Ap (Aa [2,4,9,10,11,12,43,44,45] [4,42] (by simp [ga,o]<;>rfl) (Aa [2,4,9,10,11,12,43,44,45,50] [4,42] sr ?_)))
  refine A6 rfl (fun h5=>?_) (fun h5=>by simp at h5)
  ·refine Ac (Am 12 (by simp [gr,t,gi,al,aj]<;>rfl) ?_);refine Ai j func129 ?_;refine Ai f func172 ?_ (hp:=by simp);refine Ag [2,4,9,10,43,44,45] [4,42] (by simp [o,z,a]<;>rfl) ?_;refine A2 [2,4,9,10,43,44,45] [4,42] (by simp [C9]<;>rfl) ?_;exact⟨i,trivial,_,AS.le_refl _⟩
 ·refine A9 ?_;have aq:k=w.length:=by simp at h4;omega
  rw [K1 l .nils k (by omega)];refine Bt 42 [10] [] (by simp [ai,ad,lq]<;>rfl) ?_;exact Aa [6,7] [] sr (Ak (Ad sr rf))
set_option linter.unusedSimpArgs false
def T7(s:Int):Int:=IntKind.u64.wrap (IntKind.u64.wrap (s*6364136223846793005)+1442695040888963407)
def hiD(s:Int):Nat:=((T7 s/4294967296)%4294967296).toNat
def Nu(s:Int)(n:Nat):Nat:=hiD s*n/4294967296
theorem Au2(s:Int):0<=T7 s/\T7 s<18446744073709551616:=by unfold T7;rw [IntKind.wrap_u64];omega
theorem A2i(s:Int):hiD s<4294967296:=by have:=Au2 s;unfold hiD;omega
theorem We(s:Int){n:Nat}(h:0<n):Nu s n<n:=by
 have:=A2i s;unfold Nu;rw [C6 om,Bn];exact Nat.mul_lt_mul_of_pos_left this h
theorem A2j(s:Int):AC prog 68 [.int .u64 s] (fun r=>r=.int .u64 (T7 s)):=by
 refine Ay func68 (fun w0 N0=>?_);refine Aa [0] [] sr ?_;exact Aa [2] [] sr (Ak (Ad sr rf))
theorem A7q(s:Int):AC prog 162 [.int .u64 s] (fun r=>r=.tup [.int .u32 (hiD s:Nat),.int .u64 (T7 s)]):=by
 have a:=A2j s;have hr:=Au2 s;unfold hiD;generalize T7 s=z at*
 have c:IntKind.u32.wrap (z.fdiv (2^min 32 IntKind.u64.bits))=(((z/4294967296)%4294967296).toNat:Int):=by
  rw [IntKind.wrap_u32];have:z.fdiv (2^min 32 IntKind.u64.bits)=z/4294967296:=H1 _ dc;rw [this];omega
 refine Ay func162 (fun w0 N0=>?_);refine Aa [0] [] sr (Ab (Ac (Am 1 sr ?_)));refine Ai a func68 ?_;refine Ag [0] [] sr ?_;exact Aa [2,3] [] sr (Ak (Ad sr (by rw [<- c])))
theorem A2k(s:Int)(n:Nat)(h1:1<=n)(h2:n<=2147483648):AC prog 116 [.int .u64 s,.int .i64 n] (fun r=>r=.tup [.int .i64 (Nu s n:Nat),.int .u64 (T7 s)]):=by
 have a:=A7q s;have f:=A2i s;unfold Nu;generalize hiD s=x,T7 s=z at*;have j:IntKind.u64.wrap (x:Int)=x:=wrap_u64 om;have i:IntKind.u64.wrap (n:Int)=n:=wrap_u64 om
 have d:x*n<18446744073709551616:=by
  have:=Il (Ie f) h2;omega
 obtain⟨y,c⟩:∃y,y=x*n:=⟨_,rfl⟩;rw [<- c]at d|-;have g:IntKind.u64.wrap ((x:Int)*n)=(y:Nat):=by rw [c,<- Fi];rw [c]at d;exact wrap_u64 d
 have h:(y:Int).fdiv (2^min 32 IntKind.u64.bits)=((y/4294967296:Nat):Int):=Y8 y;have e:IntKind.i64.wrap ((y:Int)/4294967296)=(y:Int)/4294967296:=Bb om om;refine Ay func116 (fun w0 N0=>?_);refine Aa [0,1] [] sr (Ab (Aa [0,1,12] [] sr ?_));refine A6 rfl (fun h1=>by simp at h1;omega) (fun h1=>Ae (Ab (Ac (Am 1 sr ?_))));refine Ai a func162 ?_;refine Ag [0,1,6] [] sr ?_;exact Aa [4,5] [] (by simp [j,i,g,h,e]<;>rfl) (Ak (Ad sr rf))
def U1(n:Int):Int:=if n<0 then 0 else if 1000000<n then 1000000 else n
theorem Zl(n:Int):0<=U1 n/\U1 n<=1000000:=by unfold U1;(repeat' split)<;>omega
theorem Afp(n:Int):AC prog 142 [.int .i64 n] (fun r=>r=.int .i64 (U1 n)):=by
 refine Ay func142 (fun w0 N0=>?_);refine Aa [0] [] sr ?_;exact Aa [2] [] sr (Ak (Ad sr (by unfold U1;(repeat' split)<;>first|rfl|omega|skip)))
theorem Ajd(n:Int)(h1: -9223372036854775808<=n)(h2:n<9223372036854775808):AC prog 144 [.int .i64 n] (fun r=>r=(nR (n:Rat)).v):=by
 have a:=Ux n 1 h1 h2 dc dc;rw [Qu]at a;simp only [Ww]at a|-;have p1:=Jb;have p2:=Jc;refine Ay func144 (fun w0 N0=>?_);refine Aa [0,2] [2] sr (Ab (Ac (Am 1 sr ?_)));refine Ai a func88 ?_;refine Ag [2,3] [2,3] sr ?_;exact Aa [2] [2] sr (Ak (Ad sr rf))
end Go.Proofs.YtpaccopbbffkaaaGreatDoor
set_option linter.unusedSimpArgs false
set_option maxRecDepth 4000
namespace Go.Proofs.YtpaccopbbffkaaaGreatDoor
open Go.Eng Go.Eng.Limb Go.RowKit Go.Sort
theorem Sq(l:List Int):(As l).all Ml=true:=by
 rw [Ax];intro x a;simp only [As,Bk]at a;obtain⟨n,_,rfl⟩:=a;rfl
theorem Xi(p:Option Addr)(a:Nat)(w:World):Calls prog 101 #[.slice p 0 a] w fun e w'=>e=.returned (.tuple #[])/\w'=w:=Any.slices_Sort_int_none lays189 p a w
theorem Aje(c:List Int):∀e∈As c,e.fits 1:=by
 intro x a;simp only [As,Bk]at a;obtain⟨h,_,rfl⟩:=a;exact⟨rfl,by simp [V.cells,V.isCell]⟩
theorem Ajf{w:World}{g c:Nat}{ty:TypeId}{e:List Int}(h:Ack w g ty 1 c (As e)):Holds (Value.int .i64) w g 0 e.toArray/\g<w.heap.size/\∃a,w.heap[g]? =some (.cells a ty (0,0))/\a.size=c:=by
 obtain⟨h1,h2,a,d,h4,k⟩:=h;refine⟨fun j f=>?_,(B5.1 d).1,a,d,by omega⟩;simp only [C8]at f;obtain⟨x,i,hp⟩:=k j (.int .i64 e[j]) 0 (.int .i64 e[j]) (by simp [As,f]) rfl;simp only [Gn,Ea]at i;cases hp
 constructor
 ·simp [World.cell?,d,i,f]
 ·simp [World.frozen?,d]
theorem Au3{w:World}{g d n:Nat}{ty:TypeId}{t:Array Obj}{a:Array Value}{ts us:List Int}(x:w.heap[g]? =some (.cells a ty (0,0)))(hs:a.size=d)(hl:us.length<=ts.length)(ht:ts.length<=d)(f:ts.take us.length=us):
  Ack (grow (putRow (Value.int .i64) (Go.Sort.ahead w n) g 0 ts.toArray) t) g ty 1 d (As us):=by
 refine⟨by rw [A5];omega,Aje us,_,heap_sortedI _ x,by simp [putCells,hs],fun k e j c s m=>?_⟩;simp only [As,Bd,A1]at s;obtain⟨z,h,rfl⟩:=s
 have o:j=0:=by
  rcases j with _ |j
  ·rfl
  ·simp [V.cells]at m
 subst o;simp only [V.cells,Dg,Av]at m;subst m;have u:k<us.length:=(Aq.1 h).1
 have r:ts[k]? =some z:=by
  rw [<- f]at h;rw [Cl u]at h;exact h
 refine⟨.int .i64 z,?_,.int _ _⟩;have l:k<a.size:=om;have i:k<ts.length:=om;simp [putCells,l,i];exact(Aq.1 r).2
def Kw(a:List Int):List Int:=a.mergeSort fun x y=>decide (x<=y)
theorem Afq(f:List Int)(hz:f.length<=17592186044416):ACI prog 101 1 3 (As f) (As (Kw f)) (fun _ _ =>.tup []):=by
 refine⟨fun w g h i a=>?_,fun m=>?_⟩
 ·obtain⟨j,k,l,o,hs⟩:=Ajf a;have c:=a.1;rw [A5]at c|-;refine(slices_Sort_int g 0 h f w j k om).mono ?_;rintro e w'⟨rfl,n,os,rfl⟩;exact⟨_,rfl,grownBy_sortedI _,Au3 (us:=Kw f) o hs (A8 _) (by simpa using c) Bo,fun d v μ N' _ =>.pur (.tup [] [] rfl sm)⟩
 ·have:f= []:=by simpa [As]using m
  subst this;refine⟨by simp [Kw,As],fun w A=>(Xi A 0 w).mono ?_⟩;rintro e w'⟨rfl,rfl⟩;exact⟨_,rfl,⟨rfl,rfl,rfl,A8 _,fun _ _ _ =>rfl⟩,fun d v μ N' _ =>.pur (.tup [] [] rfl sm)⟩
theorem Asa(a:List Int):(Lib.compact a).length<=a.length:=by
 have c:∀m,(Lib.compactUpTo a.toArray m).length<=m:=by
  intro m
  induction m with
  |zero=>simp [Lib.compactUpTo]
  |succ m ih=>
   rw [Lib.compactUpTo_succ,Bi];split<;>simp<;>omega
 exact c a.length
theorem Aos(f:List Int)(hz:f.length<=17592186044416):ACI prog 102 1 3 (As f) (As (Lib.compact f)) (fun d v=>.sl d v 1 (Lib.compact f).length):=by
 have o:=Asa f
 refine⟨fun w g i h a=>?_,fun n=>?_⟩
 ·obtain⟨k,hg,m,r,hs⟩:=Ajf a;have c:=a.1;rw [A5]at c|-;refine(slices_Compact_int g 0 i f w k om c).mono ?_;rintro e w'⟨rfl,q,rfl⟩;have l:∀d:Array Int,putRow (Value.int .i64) (Go.Sort.ahead w q) g 0 d=grow (putRow (Value.int .i64) (Go.Sort.ahead w q) g 0 d) #[]:=fun d=>by simp
  rw [l];exact⟨_,rfl,grownBy_sortedI _,Au3 r hs sm so sm,fun d v μ N' j=>.slr d v 1 _ g i j om h⟩
 ·have:f= []:=by simpa [As]using n
  subst this;refine⟨by simp [Lib.compact,Lib.compactUpTo,As],fun w A=>(slices_Compact_int_empty A 0 w).mono ?_⟩;rintro e w'⟨rfl,rfl⟩;exact⟨_,rfl,⟨rfl,rfl,rfl,A8 _,fun _ _ _ =>rfl⟩,fun d v μ N' j=>.slv d v 1 A j⟩
end Go.Proofs.YtpaccopbbffkaaaGreatDoor
set_option maxRecDepth 4000
namespace Go.Proofs.YtpaccopbbffkaaaGreatDoor
open Go.Eng Go.Eng.Limb
def T2(c d:Int)(a:Rat)(sl:Int):Bool:=decide (((U1 c+1:Int):Rat)<=a*((U1 d+1+U1 sl:Int):Rat))
theorem A7r(m s:Int)(r:RR)(sl:Int)(n:r.ok 34359738368):AC prog 100 [.int .i64 m,.int .i64 s,r.v,.int .i64 sl] (fun x=>x=.bool (T2 m s r.val sl)):=by
 have h:=Afp s;have j:=Afp sl;have i:=Afp m;have r1:=Zl s;have r2:=Zl sl;have r3:=Zl m;unfold T2;generalize U1 s=a,U1 sl=b,U1 m=c at*;have e:=Ajd (a+1+b) om om;have f:=Ajd (c+1) om om;have u:P1 ((a+1+b:Int):Rat)<=3:=P4 om om;have y:P1 ((c+1:Int):Rat)<=3:=P4 om om;have d:=Auv r (nR ((a+1+b:Int):Rat)) ⟨⟨n.num.lim,Aj n.num.len dc⟩,n.lim,Aj n.len dc⟩ (Na (Aj u dc));rw [Me]at d;have z3:P1 (r.val*((a+1+b:Int):Rat))<=34359738371:=Auy (RR.sz n dc) u;have g:=Rg (nR ((c+1:Int):Rat)) (nR (r.val*((a+1+b:Int):Rat))) (Na (Aj y dc)) (Na (Aj z3 dc));rw [Me,Me]at g;have t:=Au1 (a:=((c+1:Int):Rat)) (b:=r.val*((a+1+b:Int):Rat));generalize Nt ((c+1:Int):Rat) (r.val*((a+1+b:Int):Rat))=z at g t;have w:decide (((c+1:Int):Rat)<=r.val*((a+1+b:Int):Rat))=decide (z<=0):=by simp only [t]
 rw [w];clear w t z3 y u;generalize((a+1+b:Int):Rat)=A,((c+1:Int):Rat)=C at*;generalize r.val*A=M at*;have er:r.v=.agg [.bool r.num.neg,.ro 1 (Au r.num.mag),.ro 1 (Au r.den)]:=rfl;rw [er]at d|-;have o:=Ah r.num.mag;have l:=Ah r.den;generalize Au r.num.mag=am,Au r.den=ad at*;simp only [Ww]at e f d g;have p1:=Jb;have p2:=Jc;have w1:IntKind.i64.wrap (a+1)=a+1:=Bb om om;have w2:IntKind.i64.wrap (a+1+b)=a+1+b:=Bb om om;have w3:IntKind.i64.wrap (c+1)=c+1:=Bb om om;refine Ay func100 (fun w0 N0=>?_);refine Aa [0,1,3,6] [6] sr (Ab (C4 [(1,[]),(2,[]),(3,[]),(4,[]),(5,[]),(6,[]),(7,[]),(0,[9]),(8,[]),(9,[]),(10,[])] Dm kr ?_));refine Ch 1 sr ?_;refine Bw (fun k=>h) func142 rfl kr rfl rfl sr rfl rfl sr sm sr ?_;refine Ch 2 (by simp [w1]<;>rfl) ?_;refine Bw (fun k=>j) func142 rfl kr rfl rfl sr rfl rfl sr sm sr ?_;refine Ch 1 (by simp [w2]<;>rfl) ?_;refine Bw (fun k=>e) func144 rfl kr rfl rfl sr rfl rfl sr sm sr ?_;refine Ch 1 sr ?_;refine Bw (fun k=>d) func143 rfl kr rfl rfl sr rfl rfl sr (by simp) sr ?_;refine C5 [0,9] [9] sr ?_;refine Ab (C4 [(0,[]),(1,[]),(2,[]),(3,[]),(4,[]),(5,[]),(6,[]),(7,[])] Dm kr ?_);refine Ch 1 sr ?_;refine Bw (fun k=>i) func142 rfl kr rfl rfl sr rfl rfl sr sm sr ?_;refine Ch 1 (by simp [w3]<;>rfl) ?_;refine Bw (fun k=>f) func144 rfl kr rfl rfl sr rfl rfl sr sm sr ?_;refine Ch 1 sr ?_;refine Bw (fun k=>g) func89 rfl kr rfl rfl sr rfl rfl sr (by simp) sr ?_;refine C5 [8] [] sr ?_;exact Ak (Ad sr (rfl))
def Fc(m:List (Int × Int))(a:Int):Int:=match m with
 | []=>0
 |(x,v)::r=>if x=a then v else Fc r a
def Zm(l:List (Int × Int))(m:List (Int × Int)):List (Int × Int):=match l with
 | []=>m
 |u::r=>Zm r ((u.1,U1 (Fc m u.1+U1 u.2))::m)
def mV(m:List (Int × Int)):List (Int × V):=m.map fun p=>(p.1,.int .i64 p.2)
theorem Adw(m:List (Int × Int))(a:Int):Nj false (.int .i64 0) (G8 a (mV m))=.int .i64 (Fc m a):=by
 induction m with
 |nil=>rfl
 |cons p r ih=>
  obtain⟨x,v⟩:=p;simp only [mV,Cw,G8,Fc]at ih|-
  split
  ·rfl
  ·exact ih
theorem Axp{l m:List (Int × Int)}{k:Nat}(h:k<l.length):Zm (l.drop k) m=Zm (l.drop (k+1)) ((l[k].1,U1 (Fc m l[k].1+U1 l[k].2))::m):=by
 rw [Bu h,Zm]
theorem A2l{m:List (Int × Int)}(h:∀p∈m,0<=p.2/\p.2<=1000000)(a:Int):0<=Fc m a/\Fc m a<=1000000:=by
 induction m with
 |nil=>simp [Fc]
 |cons p r ih=>
  rw [Fc]
  split
  ·exact h _ (Fa ..)
  ·exact ih fun q c=>h q (D7 _ c)
@[simp]theorem Asb:Yn prog 180=some (.i64,3):=by kernel_rfl
theorem Axq(l:List (Int × Int)):AC prog 99 [.ro 2 (A0 l)] (fun r=>∃b,r=.mp b .i64 (mV (Zm l []))):=by
 have hq:∀(k:Nat)(h:k<l.length),Hs (A0 l) k=some (.agg [.int .i64 l[k].1,.int .i64 l[k].2]):=fun k h=>Hu h
 have lq:=Dq l;refine Td 0 rfl (fun i=>?_);rw [lq]at i;have ad:l.length<=maxLen:=i
 have ab:(l.length:Int)<=9223372036854775807:=by
  have:maxLen<=9223372036854775807:=dc;omega
 generalize A0 l=w at*;refine Awt func99 rfl (by show(1:Nat)<=27;omega) (fun w0 N0=>?_);refine Ab (Ac (A00 rfl rfl rfl (by simp [ntmps99]) (by simp [J9]<;>rfl) ?_));refine Ag [0] [] sr ?_;refine Ab (Ac (Re .i64 rfl rfl (fun b hb _ =>⟨_,rfl,?_⟩)));refine Ag [0,3] [] sr ?_;refine Ab (Aa [3,7,8,9] [] sr ?_);refine Ap (Dr (fun x:Nat × Nat × List (Int × Int)=>⟨[(3,.mp b .i64 (mV x.2.2)),(7,V.ro 2 w),(8,V.int .i64 w.length),(9,V.int .i64 (x.1:Nat))],[],x.2.1,27⟩) (fun x=>x.1<=l.length/\Zm (l.drop x.1) x.2.2=Zm l []/\∀p∈x.2.2,0<=p.2/\p.2<=1000000) (fun x=>l.length-x.1) (0,_,[]) ⟨B6 _,rfl,by simp⟩ (AS.le_refl _) ?_);rintro⟨k,nx,m⟩⟨hk,d,t⟩;simp only at hk d t|-;refine Aa [3,7,8,9,10] [] sr ?_;refine Ab ?_
 refine Ao (fun h1=>Ae ?_) (fun h1=>?_)
 ·have f:k<l.length:=by simp at h1;omega
  have n:k<w.length:=om;have y:=hq k f;have C9:=A7 (k:=k) om;rw [Axp f]at d;generalize l[k]=u at y d;obtain⟨s,z⟩:=u;simp only at y d;have a:=Afp z;have hc:=Zl z;generalize U1 z=g at a hc d;have hl:=A2l t s;have j:=Adw m s;generalize Fc m s=la at hl j d;have Pq:IntKind.i64.wrap (la+g)=la+g:=Bb om om;have c:=Afp (la+g);have o:=Zl (la+g);generalize U1 (la+g)=nn at c o d;refine Ab (Ap (Aa [3,5,7,8,9] [5] (by simp [y,n]<;>rfl) ?_));refine C4 [(0,[]),(1,[]),(3,[]),(4,[]),(7,[]),(2,[]),(5,[]),(6,[]),(8,[]),(9,[]),(10,[]),(11,[]),(12,[])] Dm kr ?_;refine Ch 9 (by simp [j,-Nj]<;>rfl) ?_;refine Bw (fun hg=>a) func142 rfl kr rfl rfl sr rfl rfl sr sm sr ?_;refine Ch 1 (by simp [Pq]<;>rfl) ?_;refine Bw (fun hg=>c) func142 rfl kr rfl rfl sr rfl rfl sr sm sr ?_;refine Xb (b:=b) hb rfl sm rfl rfl rfl sr sr sr rfl Asb rfl sr ?_;refine C5 [3,7,8,9] [] sr ?_;refine A2 [3,7,8,9] [] (by simp [C9]<;>rfl) ?_;exact⟨(k+1,_,(s,nn)::m),⟨f,d,fun p hp=>(Cg.1 hp).elim (fun e=>e▸o) (t p)⟩,by simp only;omega,AS.le_refl _⟩
 ·refine A9 ?_;have aa:k=l.length:=by simp at h1;omega
  rw [aa,Ca,Zm]at d;subst d;refine Aa [2] [] sr ?_;exact Ak (Aws rfl rfl rfl ⟨b,rfl⟩)
theorem Alm{l:List Int}(h:l.Pairwise (·< ·)):Kw l=l:=
 List.mergeSort_of_pairwise (h.imp (fun a=>by simp only [decide_eq_true_eq];exact Int.le_of_lt a))
theorem Afr{l:List Int}(h:l.Pairwise (·< ·)):Lib.compact l=l:=by
 refine Lib.compact_all l (fun j a=>?_);unfold Lib.keeps;rw [decide_eq_true_iff]
 by_cases c:j=0
 ·exact .inl c
 ·right
  have:=G6.1 h (j-1) j om a om;have e:l.toArray[j]! =l[j]:=by simp [a]
  have d:l.toArray[j-1]! =l[j-1]'(by omega):=by simp [show j-1<l.length by omega]
  rw [e,d];omega
theorem Adx:∀ {l:List Int}{p:Int},Sm p l=true->(∀x∈l,p<x/\1<=x/\x<=9999999)/\l.Pairwise (·< ·)
 | [],_,_ =>by simp
 |y::r,p,h=>by
  simp only [Sm,Bm,decide_eq_true_eq,Wx]at h;obtain⟨h1,h2⟩:=Adx h.2;refine⟨fun x a=>?_,M4.2 ⟨fun x a=>(h1 x a).1,h2⟩⟩
  rcases Cg.1 a with e|e
  ·subst e;omega
  ·have:=h1 x e;omega
theorem Qy(a b:List Int):As (a++b)=As a++As b:=Ck
theorem Zn(x:Int):As [x]= [.int .i64 x]:=rfl
def T3(f:Int->Bool)(l:List Pit):List Int:=(l.filter fun p=>f p.id).map Pit.id
theorem Asc(f:Int->Bool){l:List Pit}{k:Nat}(h:k<l.length):T3 f (l.take (k+1))=T3 f (l.take k)++(if f l[k].id=true then [l[k].id]else []):=by
 unfold T3;rw [A3 h,M5,Ck]
 congr 1
 by_cases a:f l[k].id=true
 ·rw [if_pos a,Ki (by exact a)];rfl
 ·rw [if_neg a,Kj (by exact a)];rfl
theorem Ajg(f:Int->Bool)(l:List Pit):(T3 f l).length<=l.length:=by unfold T3;rw [Eo];exact Gd _ _
theorem Aln(f:Int->Bool){l:List Pit}(h:(I3 l).Pairwise (·< ·)):(T3 f l).Pairwise (·< ·):=
 List.Pairwise.sublist ((List.filter_sublist (l:=l)).map Pit.id) h
def Zo(pool:List Pit)(c:List (Int × Int))(d:Int)(a:Rat)(sl:Int):List Int:=T3 (fun id=>T2 (Fc (Zm c []) id) d a sl) pool
theorem G9(p:Pit):p.v=.agg [.int .i64 p.id,.str p.code,.int .i64 p.fam,.int .i64 p.st,.int .i64 p.wo,.int .i64 p.se,.int .i64 p.pt,.int .i64 p.ky,.ro 1 (Ek p.m)]:=rfl
theorem Axr(pool:List Pit)(a:List (Int × Int))(i:Int)(r:RR)(sl:Int)(hr:r.ok 34359738368)(hp:(I3 pool).Pairwise (·< ·))(am:pool.length<=18):
  AC prog 66 [.ro 9 (B8 pool),.ro 2 (A0 a),.int .i64 i,r.v,.int .i64 sl] (fun x=>x=.ro 1 (As (Zo pool a i r.val sl))):=by
 have aj:=Axq a;have hq:=fun(k:Nat)(h:k<pool.length)=>I7 h
 have lq:=Da pool;have j:=fun(ct:Int)=>A7r ct i r sl hr
 have g:=Aln (fun id=>T2 (Fc (Zm a []) id) i r.val sl) hp;have w:=Ajg (fun id=>T2 (Fc (Zm a []) id) i r.val sl);have af:=fun(k:Nat)(h:k<pool.length)=>Asc (fun id=>T2 (Fc (Zm a []) id) i r.val sl) h
 have o:=Adw (Zm a []);have pu:=A4 a;unfold Zo;generalize Zm a []=m,r.val=q at*;have er:r.v=.agg [.bool r.num.neg,.ro 1 (Au r.num.mag),.ro 1 (Au r.den)]:=rfl;rw [er]at j|-;have ad:=Ah r.num.mag;have ah:=Ah r.den;generalize r.num.neg=rb,Au r.num.mag=rm,Au r.den=rd,A0 a=uv,B8 pool=pv,mV m=mv at*;refine Ay func66 (fun w0 N0=>?_);refine Aa [0,1,2,4,8] [8] sr (Ab (Ac (Am 1 sr ?_)));refine Anh rfl rfl rfl func99 kr rfl sr (by simp) aj ?_;rintro _⟨b,rfl⟩;refine⟨_,rfl,?_⟩;refine Ag [0,2,4,8,11] [8] sr ?_;refine Aa [0,2,4,8,11,12] [8] sr (Ab (Aa [2,4,8,11,12,17,18,19] [8] sr ?_));refine F5 12 100 1 3 [2,4,8,11,12,17,18,19] [8,100] sr sr ?_;refine Ap ?_
 refine Dr (fun x:Nat × Nat × Nat=>⟨[(2,V.int .i64 i),(4,V.int .i64 sl),(8,V.bp 8 (0) 3 0 0),(11,.mp b .i64 mv),(12,.sl 100 x.2.1 1 (T3 (fun id=>T2 (Fc m id) i q sl) (pool.take x.1)).length),(17,V.ro 9 pv),(18,V.int .i64 pv.length),(19,V.int .i64 (x.1:Nat))],[(8,{ v:=0,sz:=3,ty:=34,es:=[V.agg [V.bool rb,V.ro 1 rm,V.ro 1 rd]]}),(100,⟨x.2.1,1,3,As (T3 (fun id=>T2 (Fc m id) i q sl) (pool.take x.1))⟩)],x.2.2,41⟩)
  (fun x=>x.1<=pool.length) (fun x=>pool.length-x.1) (0,_,_) (B6 _) (AS.le_refl _) ?_
 rintro⟨k,qv,nx⟩hk;simp only at hk|-;refine Aa [2,4,8,11,12,17,18,19,20] [8,100] sr (Ab ?_)
 refine Ao (fun h1=>Ae ?_) (fun h1=>?_)
 ·have l:k<pool.length:=by simp at h1;omega
  have z:k<pv.length:=om;have ga:=hq k l;have C9:=A7 (k:=k) om;have c:=af k l;have ab:=w (pool.take k);rw [G9]at ga;generalize pool[k]=p at ga c;obtain⟨id,ak,al,st,wo,se,pt,ky,mo⟩:=p;simp only at ga c;have y:=o id;generalize Fc m id=ct at y c;have n:=j ct;have aa:(T3 (fun id=>T2 (Fc m id) i q sl) (pool.take k)).length<=18:=by simp only [B9]at ab;omega
  generalize T3 (fun id=>T2 (Fc m id) i q sl) (pool.take k)=Lk at c aa|-;have ae:Lk.length+1<=maxLen/\(Lk.length+1)*8<=140737488355328:=⟨Aj (show Lk.length+1<=19 by omega) dc,by omega⟩;generalize T2 ct i q sl=e at n c;refine Ab (Ap (Aa [2,4,8,11,12,14,17,18,19] [8,14,100] (by simp [ga,z]<;>rfl) (Ab (Ac (Am 7 (by simp [y,-Nj]<;>rfl) ?_)))));refine Ai n func100 ?_ (hp:=by simp);refine Ag [2,4,8,11,12,14,17,18,19,30] [8,14,100] sr ?_
  refine Ao (fun h2=>?_) (fun h2=>Ae ?_)
  ·refine A2 [2,4,8,11,12,17,18,19] [8,100] (by simp [ae]<;>rfl) (A2 [2,4,8,11,12,17,18,19] [8,100] (by simp [C9]<;>rfl) ?_);rw [if_pos h2]at c;exact⟨(k+1,_,_),l,by simp only;omega,by simp only [c,Qy,Zn,Bi,Bc,B0];exact AS.le_refl _⟩
  refine A2 [2,4,8,11,12,17,18,19] [8,100] (by simp [C9]<;>rfl) ?_;rw [if_neg (by rw [h2];simp),Dx]at c;exact⟨(k+1,_,_),l,by simp only;omega,by simp only [c];exact AS.le_refl _⟩
 ·refine A9 ?_;have ai:k=pool.length:=by simp at h1;omega
  subst ai;have ag:=w pool;simp only [Bo];generalize T3 (fun id=>T2 (Fc m id) i q sl) pool=L at g ag|-;have t:=Afq L om;rw [Alm g]at t;have s:=Aos L om;rw [Afr g]at s;have hf:=Sq L;have u:=Af L;have f:=A5 L;generalize As L=r1 at t s hf u f|-;refine Ab (Ac (Am 1 sr ?_));refine V2 (d:=100) (v:=qv) t hf hf func101 rfl kr rfl rfl rfl (by simp [f]<;>rfl) (by simp<;>rfl) (by simp<;>rfl) ?_;refine Ag [12] [100] sr ?_;refine Ab (Ac (Am 1 sr ?_));refine V2 (d:=100) (v:=qv) s hf hf func102 rfl kr rfl rfl rfl (by simp [f]<;>rfl) (by simp<;>rfl) (by simp<;>rfl) ?_;refine Ag [10] [100] sr ?_;exact Ak (Ad (by simp [results66,u,f]<;>rfl) (rfl))
def Oh(d:Int):List Int->List Int->List Int->Rat->Rat
 |a::l,b::e,w::c,t=>Oh d l e c (t+mkRat ((b-a)*(b-a)) (1000*d*d*w).natAbs)
 |_,_,_,t=>t
def Pv(a:List Int)(m:Mo)(q:Nat):Rat:=
 if q-1=min (q+1) (a.length-1)then 0
 else Oh (a.getD (min (q+1) (a.length-1)) 0-a.getD (q-1) 0) (m.getD (q-1) []) (m.getD (min (q+1) (a.length-1)) []) (m.getD q []) 0
theorem Asd(d:Int){a b w:List Int}{k:Nat}(h1:k<a.length)(h2:k<b.length)(c:k<w.length)(t:Rat):
  Oh d (a.drop k) (b.drop k) (w.drop k) t=Oh d (a.drop (k+1)) (b.drop (k+1)) (w.drop (k+1)) (t+mkRat ((b[k]-a[k])*(b[k]-a[k])) (1000*d*d*w[k]).natAbs):=by
 rw [Bu h1,Bu h2,Bu c,Oh]
theorem Afs:∀ {l:List Int},Uu l=true->l.Pairwise (·< ·)
 | [],_ =>.nil
 | [_],_ =>by simp
 |a::b::r,h=>by
  simp only [Uu,Bm,decide_eq_true_eq]at h;have ih:=Afs h.2;refine M4.2 ⟨fun x c=>?_,ih⟩
  rcases Cg.1 c with e|e
  ·subst e;exact h.1
  ·have:=(M4.1 ih).1 x e;omega
theorem Aot{x:Int}{n:Nat}(h1: -(n:Int)<=x)(h2:x<=n):0<=x*x/\x*x<=(n*n:Nat):=by
 rw [<- Int.natAbs_mul_self (a:=x)];have:=Il (show x.natAbs<=n by omega) (show x.natAbs<=n by omega);omega
theorem Ajh{d w:Int}(h1:0<d)(h2:d<=2000)(h3:1<=w)(h4:w<=1000):∃n:Nat,1000*d*d*w=n/\n≠0/\n<=4000000000000/\0<=1000*d/\1000*d<=2000000/\0<=1000*d*d/\1000*d*d<=4000000000:=by
 obtain⟨a,rfl⟩:∃a:Nat,d=a:=⟨d.toNat,by omega⟩;obtain⟨b,rfl⟩:∃b:Nat,w=b:=⟨w.toNat,by omega⟩;have e:a*a<=2000*2000:=Il om om;have g:0<a*a:=Nat.mul_pos om om;have k3:a*a*b<=2000*2000*1000:=Il e om;have k4:0<a*a*b:=Nat.mul_pos g om;have c:1000*(a:Int)*a=1000*(a*a:Nat):=by rw [Fi,Int.mul_assoc]
 have f:1000*(a:Int)*a*b=(1000*(a*a*b):Nat):=by rw [c,Int.mul_assoc,<- Fi];rfl
 refine⟨1000*(a*a*b),f,by omega,by omega,by omega,by omega,?_,?_⟩
 ·rw [c];omega
 ·rw [c];omega
theorem A7s(g:Gr)(m:Mo)(q:Nat)(hg:Lm g=0)(hm:Ln m g.pts.length=0)(hq:q<g.pts.length):
  AC prog 261 [g.v,moV m,.int .i64 q] (fun r=>r=(nR (Pv g.pts m q)).v):=by
 have l:=Ux 0 1 dc dc dc dc;rw [Qu]at l;obtain⟨bk,bh,bc,ad,-,hri⟩:=J3 hg;obtain⟨ml,mp,a6,-,m6,mrow⟩:=Ze hm;have c:=Afs hri;obtain⟨pts,ae⟩:=g;simp only at bk bh bc ad hq ml a6 c|-;have ev:(Gr.mk pts ae).v=.agg [.ro 1 (As pts),.ro 1 (As ae)]:=rfl;have em:moV m=.agg [.ro 1 (Ek m)]:=rfl;rw [ev,em];unfold Pv;have hr:∀(k:Nat)(h:k<m.length),Hs (Ek m) k=some (.ro 1 (As m[k])):=fun k h=>Sg h
 have lr:=Lz m;have gp:∀(k:Nat)(h:k<pts.length),Hs (As pts) k=some (.int .i64 pts[k]):=fun k h=>Fj h
 have lp:=A5 pts;obtain⟨A,hA⟩:∃A,A=q-1:=⟨_,rfl⟩;obtain⟨B,hB⟩:∃B,B=min (q+1) (pts.length-1):=⟨_,rfl⟩;rw [<- hA,<- hB];have o:A<pts.length:=om;have s:B<pts.length:=om;have gA:=gp A o;have gB:=gp B s;have rA:=hr A om;have rB:=hr B om;have rQ:=hr q om;have eA:pts.getD A 0=pts[A]:=by simp [List.getD,o]
 have eB:pts.getD B 0=pts[B]:=by simp [List.getD,s]
 have a3:m.getD A []=m[A]'(by omega):=by simp [List.getD,show A<m.length by omega]
 have bi:m.getD B []=m[B]'(by omega):=by simp [List.getD,show B<m.length by omega]
 have a1:m.getD q []=m[q]'(by omega):=by simp [List.getD,show q<m.length by omega]
 rw [eA,eB,a3,bi,a1];have xA:=mrow _ (Aw (show A<m.length by omega));have xB:=mrow _ (Aw (show B<m.length by omega));have xQ:=mrow _ (Aw (show q<m.length by omega));have pA:=ad _ (Aw o);have pB:=ad _ (Aw s);have ar:A≠B->pts[A] <pts[B]:=fun h=>G6.1 c A B o s om
 generalize m[A]'(by omega)=y,m[B]'(by omega)=z,m[q]'(by omega)=e,pts[A]=pa,pts[B]=pb at*;simp only [Ww]at l|-;have au:nRb ((0:Int):Rat)=nRb 0:=rfl;have a2:nRl ((0:Int):Rat)=nRl 0:=rfl;have ao:nRd ((0:Int):Rat)=nRd 0:=rfl;rw [au,a2,ao]at l;have p1:=Jb;have p2:=Jc;generalize As pts=pv,As ae=qv,Ek m=mv at*
 have bg:(if IntKind.i64.wrap ((q:Int)-1)<0 then 0 else IntKind.i64.wrap ((q:Int)-1))=(A:Int):=by
  rw [Bb om (by omega)];split<;>omega
 have be:(if IntKind.i64.wrap ((pv.length:Int)-1)<IntKind.i64.wrap ((q:Int)+1)then IntKind.i64.wrap ((pv.length:Int)-1)else IntKind.i64.wrap ((q:Int)+1))=(B:Int):=by
  rw [Bb om om,Bb om (by omega)];split<;>omega
 have a4:A<pv.length:=om;have a7:B<pv.length:=om;have aw:A<mv.length:=om;have a0:B<mv.length:=om;have bf:q<mv.length:=om;have ax:=A5 y;have a8:=A5 z;have bd:=A5 e;obtain⟨wa,al⟩:∃wa,As y=wa:=⟨_,rfl⟩;obtain⟨wb,ai⟩:∃wb,As z=wb:=⟨_,rfl⟩;obtain⟨wq,af⟩:∃wq,As e=wq:=⟨_,rfl⟩;rw [al]at rA ax;rw [ai]at rB a8;rw [af]at rQ bd;refine Ay func261 (fun w0 N0=>?_);refine Aa [2,3,4,6] [3,4,6] sr ?_;refine Di [(0,[]),(1,[]),(2,[]),(3,[]),(4,[]),(5,[]),(10,[]),(6,[]),(7,[]),(8,[]),(9,[]),(11,[])] [2,3,4,6,7,8] [3,4,6] Dm kr (by simp [bg,be]<;>rfl) ?_;refine Ab (Ac (Ai l func88 ?_));refine Ag [2,3,4,6,7,8,9] [3,4,6,9] sr ?_;refine Ab (Aa [2,3,4,6,7,8,9,33] [3,4,6,9] sr ?_)
 refine Ao (fun h1=>?_) (fun h1=>Ae ?_)
 ·have bo:(A:Int)=B:=by simpa using h1
  have a:A=B:=om;exact Aa [6] [6] sr (Ak (Ad sr (by rw [if_pos a])))
 have a:A≠B:=fun h=>by rw [h]at h1;simp at h1
 rw [if_neg a];have bm:=ar a;obtain⟨d,hd⟩:∃d,d=pb-pa:=⟨_,rfl⟩;rw [<- hd];have bj:IntKind.i64.wrap (pb-pa)=d:=by rw [hd];exact Bb om om
 refine Di [(0,[]),(2,[]),(5,[]),(7,[]),(1,[]),(3,[]),(4,[]),(6,[]),(8,[]),(9,[]),(10,[]),(11,[])] [2,4,6,7,8,9,11] [4,6,9] Dm kr (by simp [gA,gB,a4,a7,bj]<;>rfl) ?_;refine Ab (Aa [4,6,7,8,9,11,50,51,52] [4,6,9] (by simp [rQ,bf]<;>rfl) (Ap ?_))
 refine Dr (fun x:Nat × Nat × Rat=>⟨[(4,V.bp 4 (1) 1 0 0),(6,V.bp 6 (2) 3 0 0),(7,.int .i64 A),(8,.int .i64 B),(9,V.bp 9 (19) 3 0 0),(11,.int .i64 d),(50,.ro 1 wq),(51,.int .i64 wq.length),(52,V.int .i64 (x.1:Nat))],[(4,{ v:=1,sz:=1,ty:=113,es:=[V.agg [V.ro 1 mv]]}),(6,{ v:=2,sz:=3,ty:=34,es:=[V.agg [V.bool false,V.nils,V.nils]]}),(9,{ v:=19,sz:=3,ty:=34,es:=[V.agg [V.bool (nRb x.2.2),V.ro 1 (nRl x.2.2),V.ro 1 (nRd x.2.2)]]})],x.2.1,92⟩)
  (fun x=>x.1<=e.length/\P1 x.2.2<=3+4*x.1/\Oh d (y.drop x.1) (z.drop x.1) (e.drop x.1) x.2.2=Oh d y z e 0) (fun x=>e.length-x.1) (0,_,0) ⟨B6 _,P4 (x:=0) dc dc,rfl⟩ (AS.le_refl _) ?_
 rintro⟨k,nx,t⟩⟨hk,ag,j⟩;simp only at hk ag j|-;refine Aa [4,6,7,8,9,11,50,51,52,53] [4,6,9] sr (Ab ?_)
 refine Ao (fun h2=>Ae ?_) (fun h2=>?_)
 ·have c:k<e.length:=by simp at h2;omega
  have ab:k<y.length:=om;have aa:k<z.length:=om;have ah:k<wa.length:=om;have aj:k<wb.length:=om;have am:k<wq.length:=om;have ga:=Fj ab;have gb:=Fj aa;have gq:=Fj c;rw [al]at ga;rw [ai]at gb;rw [af]at gq;have C9:=A7 (k:=k) om;have ba:=xA.2.1 _ (Aw ab);have bb:=xB.2.1 _ (Aw aa);have bq:=xQ.2.1 _ (Aw c);rw [Asd d ab aa c]at j;generalize y[k]=ka at ga ba j;generalize z[k]=kb at gb bb j;generalize e[k]=kq at gq bq j;obtain⟨ch,ak⟩:∃ch,ch=kb-ka:=⟨_,rfl⟩;have a9:IntKind.i64.wrap (kb-ka)=ch:=by rw [ak];exact Bb om om
  rw [<- ak]at j;have aq:=Aot (x:=ch) (n:=1000) om om;obtain⟨E,hE,an,br,e1,e2,e3,e4⟩:=Ajh (d:=d) (w:=kq) om om om om;rw [hE,Es]at j;have av:IntKind.i64.wrap (1000*d)=1000*d:=Bb om om;have az:IntKind.i64.wrap (1000*d*d)=1000*d*d:=Bb om om;have a5:IntKind.i64.wrap (1000*d*d*kq)=(E:Nat):=by rw [hE];exact Bb om om
  clear e1 e2 e3 e4 hE;obtain⟨sq,hs⟩:∃sq,sq=ch*ch:=⟨_,rfl⟩;have ay:IntKind.i64.wrap (ch*ch)=sq:=by rw [hs];exact Bb om om
  rw [<- hs]at aq j;have i:=Ux sq E om om om om;rw [Tk _ an]at i;have z1:P1 (mkRat sq E)<=3:=Tj an (L0 om om) (Abl (L0 om om));have bn:k<6:=om;have f:=Auw (nR t) (nR (mkRat sq E)) (Na om) (Na om);rw [Me,Me]at f;have z2:=Alh ag z1;generalize mkRat sq E=u at*;simp only [Ww]at i f;refine Ab (Ap (Aa [4,6,7,8,9,11,12,13,50,51,52] [4,6,9] (by simp [gq,am]<;>rfl) ?_));refine Di [(0,[]),(2,[]),(5,[]),(8,[]),(10,[]),(13,[]),(1,[]),(3,[]),(4,[]),(6,[]),(7,[]),(9,[]),(11,[]),(12,[]),(14,[]),(15,[]),(16,[]),(17,[])] [4,6,7,8,9,11,13,14,50,51,52] [4,6,9] Dm kr (by simp [rA,rB,aw,a0,ga,gb,ah,aj,a9]<;>rfl) ?_;refine Ab (Ac (Am 9 (by simp [ay,av,az,a5]<;>rfl) ?_));refine Ai i func88 ?_;refine Ag [4,6,7,8,9,11,15,50,51,52] [4,6,9,15] sr ?_;refine Ac (Am 2 sr ?_);refine Ai f func259 ?_ (hp:=by simp);refine Ag [4,6,7,8,9,11,50,51,52] [4,6,9] sr ?_;refine A2 [4,6,7,8,9,11,50,51,52] [4,6,9] (by simp [C9]<;>rfl) ?_;exact⟨(k+1,_,t+u),⟨by simp only;omega,by simp only;omega,j⟩,by simp only;omega,AS.le_refl _⟩
 ·refine A9 ?_;have bl:k=e.length:=by simp at h2;omega
  have hn:∀t,Oh d (y.drop k) (z.drop k) (e.drop k) t=t:=fun t=>by rw [bl,Ca];cases y.drop e.length<;>cases z.drop e.length<;>rfl
  rw [hn]at j;exact Aa [6] [6] sr (Ak (Ad sr (by rw [j])))
theorem Aou{d:Int}(h1:0<d)(h2:d<=2000):∀ {a b w:List Int}{t:Rat}{s:Nat},(∀x∈a,1<=x/\x<=1000)->(∀x∈b,1<=x/\x<=1000)->(∀x∈w,1<=x/\x<=1000)->P1 t<=s->P1 (Oh d a b w t)<=s+4*w.length
 | [],b,w,t,s,_,_,_,e=>by cases b<;>cases w<;>simp only [Oh]<;>omega
 |_ ::_,[],w,t,s,_,_,_,e=>by cases w<;>simp only [Oh]<;>omega
 |_ ::_,_ ::_,[],t,s,_,_,_,e=>by simp only [Oh];omega
 |x::a,y::b,z::w,t,s,j,l,k,e=>by
  have c:=j x (Fa ..);have hy:=l y (Fa ..);have i:=k z (Fa ..);obtain⟨E,m,g,u,-⟩:=Ajh h1 h2 i.1 i.2;have f:=Aot (x:=y-x) (n:=1000) om om;obtain⟨q,h⟩:∃q,q=(y-x)*(y-x):=⟨_,rfl⟩;rw [Oh,m,Es,<- h];rw [<- h]at f;have o:P1 (mkRat q E)<=3:=Tj g (L0 om om) (Abl (L0 om om));have r:=Alh e o;have:=Aou h1 h2 (fun x c=>j x (D7 _ c)) (fun x c=>l x (D7 _ c)) (fun x c=>k x (D7 _ c)) r;simp only [Bc];omega
theorem U2{α:Type}{l:List α}{i:Nat}{d:α}(h:i<l.length):l.getD i d∈l:=by
 rw [show l.getD i d=l[i]by simp [List.getD,h]];exact Aw h
theorem A7t{g:Gr}{m:Mo}{q:Nat}(h:Lm g=0)(o:Ln m g.pts.length=0)(hq:q<g.pts.length):P1 (Pv g.pts m q)<=27:=by
 obtain⟨k,r,n,a,-,hri⟩:=J3 h;obtain⟨ml,mp,i,-,m6,mrow⟩:=Ze o;have f:=Afs hri;unfold Pv
 split
 ·exact Aj (P4 (x:=0) dc dc) dc
 ·rename_i l;have c:min (q+1) (g.pts.length-1)<g.pts.length:=om;have e:q-1<g.pts.length:=om;have pA:=a _ (U2 (d:=0) e);have pB:=a _ (U2 (d:=0) c)
  have hd:g.pts.getD (q-1) 0<g.pts.getD (min (q+1) (g.pts.length-1)) 0:=by
   have:=G6.1 f (q-1) _ e c om;simpa [List.getD,e,c]using this
  have j:=mrow _ (U2 (d:=[]) (show q<m.length by omega))
  have:=Aou (t:=0) (s:=3) (show 0<g.pts.getD (min (q+1) (g.pts.length-1)) 0-g.pts.getD (q-1) 0 by omega) om (mrow _ (U2 (d:=[]) (show q-1<m.length by omega))).2.1
   (mrow _ (U2 (d:=[]) (show min (q+1) (g.pts.length-1)<m.length by omega))).2.1 j.2.1 (P4 (x:=0) dc dc)
  omega
theorem A7u(g:Gr)(m:Mo)(q:Nat)(f:Lm g=0)(k:Ln m g.pts.length=0)(i:q<g.pts.length):
  AC prog 228 [g.v,moV m,.int .i64 q] (fun r=>r=.tup [(nR (Pv g.pts m q)).v,.int .i64 0]):=by
 have a:=A7s g m q f k i;have e:=L1 g;rw [f]at e;have c:=Rz m g.pts.length;rw [k]at c;obtain⟨pts,d⟩:=g;simp only at i c a|-;generalize Pv pts m q=u at*;have ev:(Gr.mk pts d).v=.agg [.ro 1 (As pts),.ro 1 (As d)]:=rfl;have j:moV m=.agg [.ro 1 (Ek m)]:=rfl;rw [ev,j]at a|-;rw [ev]at e;have t:=A5 pts;have n:=Af pts;have o:=Af d;have l:=Dw m;rw [j]at c;rw [<- t]at c;simp only [Ww]at a|-;have w:=Jb;have s:=Jc;generalize As pts=pv,As d=qv,Ek m=mv at*;refine Ay func228 (fun w0 N0=>?_);refine Aa [2,3,4,6] [3,4,6] sr (Ab (Ab (Ac (Am 1 sr ?_))));refine Ai e func56 ?_ (hp:=by simp);refine Ag [2,3,4,6,8] [3,4,6] sr ?_;refine Aa [2,3,4,6,8,13] [3,4,6] sr ?_;refine A6 rfl (fun h1=>by simp at h1) (fun h1=>Ae (Ab (Ab (Ac (Am 4 sr ?_)))));refine Ai c func91 ?_ (hp:=by simp);refine Ag [2,3,4,6,9] [3,4,6] sr ?_;refine Aa [2,3,4,6,9,22] [3,4,6] sr ?_;refine A6 rfl (fun h2=>by simp at h2) (fun h2=>Ae (Ab (Aa [2,3,4,6,33] [3,4,6] sr ?_)));refine A6 rfl (fun h=>by simp at h;omega) (fun h=>Ae (Ab (Ac (Am 3 sr ?_))));refine Ai a func261 ?_ (hp:=by simp);refine Ag [6,7] [6] sr ?_;exact Ak (Ad (by simp [results228]<;>rfl) (rfl))
def U3(q:Rat):Int:=if(q*(100000000:Int)).floor< -9223372036854775808\/1000000<(q*(100000000:Int)).floor then 1000000 else(q*(100000000:Int)).floor
theorem A2m(g:Gr)(m:Mo)(q:Nat)(x:Lm g=0)(z:Ln m g.pts.length=0)(y:q<g.pts.length):
  AC prog 199 [g.v,moV m,.int .i64 q] (fun r=>r=.tup [.int .i64 (U3 (Pv g.pts m q)),.int .i64 0]):=by
 have f:=A7u g m q x z y;have hz:=A7t x z y;have l:=Ux 100000000 1 dc dc dc dc;rw [Qu]at l;unfold U3;generalize Pv g.pts m q=u at*;have z1:P1 ((100000000:Int):Rat)<=3:=P4 dc dc;have c:=Auv (nR u) (nR ((100000000:Int):Rat)) (Na om) (Na om);rw [Me,Me]at c;have z2:=Auy hz z1;have d:=Axl (nR (u*((100000000:Int):Rat))) (Na om);rw [Me]at d;have a:=A17 (nI (u*((100000000:Int):Rat)).floor) (Cr _);rw [I2]at a;generalize(u*((100000000:Int):Rat)).floor=F at*;generalize u*((100000000:Int):Rat)=U at*;generalize((100000000:Int):Rat)=M at*
 obtain⟨s,n,hr,k,o⟩:∃s n,Uy F=.tup [.int .i64 s,.bool n]/\(n=decide (-9223372036854775808<=F/\F<=9223372036854775807))/\(n=true->s=F):=by
  unfold Uy;split
  ·rename_i h;exact⟨_,_,rfl,by simp [h],fun _ =>rfl⟩
  ·rename_i h;exact⟨_,_,rfl,by simp only [h,decide_false],fun h=>by cases h⟩
 rw [hr]at a;have em:moV m=.agg [.ro 1 (Ek m)]:=rfl;have pm:=Dw m;have eg:g.v=.agg [.ro 1 (As g.pts),.ro 1 (As g.pri)]:=rfl;have pp:=Af g.pts;have pq:=Af g.pri;rw [em,eg]at f|-;simp only [Ww,Ar0]at f l c d a;have p1:=Jb;have p2:=Jc;have p3:=Uv;generalize As g.pts=pv at*;generalize As g.pri=qv at*;generalize Ek m=mv at*;refine Ay func199 (fun w0 N0=>?_);refine Aa [2,3,4] [3,4] sr (Ab (Ac (Am 3 sr ?_)));refine Ai f func228 ?_ (hp:=by simp);refine Ag [8,9] [8] sr ?_;refine Ab (Aa [8,9,22] [8] sr ?_);refine A6 rfl (fun h1=>by simp at h1) (fun h1=>Ae (Ab (Ac (Ai l func88 ?_))));refine Ag [8,10] [8,10] sr ?_;refine Ab (Ac (Am 2 sr ?_));refine Ai c func143 ?_ (hp:=by simp);refine Ai d func230 ?_ (hp:=by simp);refine Ai a func229 ?_ (hp:=by simp);refine Ag [12,13] [] sr ?_;refine Ab (Aa [12,41] [] sr ?_)
 refine Ao (fun h2=>?_) (fun h2=>Ae ?_)
 ·have t:F< -9223372036854775808\/1000000<F:=by
   by_cases i:n=true
   ·rw [i]at h2;have:=o i;simp at h2;omega
   ·rw [k]at i;simp at i;omega
  exact Aa [6,7] [] sr (Ak (Ad sr (by rw [if_pos t])))
 have j:¬(F< -9223372036854775808\/1000000<F)/\s=F:=by
  by_cases i:n=true
  ·rw [i]at h2;have e:=o i;simp at h2;rw [i]at k;have:=of_decide_eq_true k.symm;exact⟨by omega,e⟩
  ·simp [i]at h2
 rw [j.2];have w:IntKind.i64.wrap F=F:=Bb om om;exact Aa [6,7] [] (by simp<;>rfl) (Ak (Ad sr (by rw [if_neg j.1])))
def Ih{α:Type}(p:α->Bool):List α->Nat->Int
 | [],_ => -1
 |x::r,i=>if p x=true then(i:Int)else Ih p r (i+1)
theorem Oy{α:Type}(p:α->Bool){l:List α}{k:Nat}(h:k<l.length):Ih p (l.drop k) k=if p l[k]=true then(k:Int)else Ih p (l.drop (k+1)) (k+1):=by
 rw [Bu h,Ih]
theorem Pb{α:Type}(p:α->Bool):∀(l:List α)(i:Nat),decide (0<=Ih p l i)=l.any p
 | [],_ =>rfl
 |x::r,i=>by
  rw [Ih,Mr]
  split
  ·rename_i h;rw [h];simp
  ·rename_i h;rw [Pb p r (i+1),Bool.eq_false_iff.2 h];rfl
theorem Au4{α:Type}(p:α->Bool):∀(l:List α)(i:Nat),-1<=Ih p l i/\Ih p l i<i+l.length/\(0<=Ih p l i->(i:Int)<=Ih p l i)
 | [],i=>by simp only [Ih,B0];omega
 |x::r,i=>by
  rw [Ih];have:=Au4 p r (i+1)
  split
  ·simp only [Bc];omega
  ·simp only [Bc];omega
theorem Qz(g:FuncId):Bl (.fn g) (.fc g [] []):=by
 refine⟨fun w N x a=>?_,fun _ =>rfl⟩;cases a with
 |fn=>exact .fc g [] [] [] [] rfl rfl sm sm
theorem Aji(l:List Int)(x:Int):AC prog 82 [.ro 1 (As l),.int .i64 x] (fun r=>r=.int .i64 (Ih (fun y=>decide (x=y)) l 0)):=by
 refine Td 0 rfl (fun g=>?_);have m:=fun(k:Nat)(h:k<l.length)=>Fj h
 have n:=A5 l;rw [n]at g
 have j:(l.length:Int)<=9223372036854775807:=by
  have:maxLen<=9223372036854775807:=dc;omega
 generalize As l=f at*;refine Ay func82 (fun w0 N0=>?_);refine Aa [0,1] [] sr (Ab (Aa [0,1,7,8] [] sr (Ap (Bq (fun k nx=>⟨[(0,V.ro 1 f),(1,V.int .i64 x),(7,V.int .i64 f.length),(8,V.int .i64 k)],[],nx,19⟩) (fun k=>Ih (fun y=>decide (x=y)) (l.drop k) k=Ih (fun y=>decide (x=y)) l 0) l.length _ rfl (AS.le_refl _) ?_))));intro k nx hk c;refine Aa [0,1,7,8,9] [] sr (Ab ?_)
 refine Ao (fun h1=>Ae ?_) (fun h1=>?_)
 ·have a:k<l.length:=by simp at h1;omega
  have d:k<f.length:=om;have i:=m k a;have C9:=A7 (k:=k) om;rw [Oy _ a]at c;generalize l[k]=y at i c;refine Ab (Ap (Aa [0,1,5,7,8] [] sr (Aa [0,1,5,7,8,16] [] (by simp [i,d]<;>rfl) ?_)))
  refine Ao (fun h2=>?_) (fun h2=>Ae ?_)
  ·exact Aa [4] [] sr (Ak (Ad sr (by rw [<- c,if_pos h2])))
  refine A2 [0,1,7,8] [] (by simp [C9]<;>rfl) ?_;exact⟨a,by rw [<- c,if_neg (by rw [h2];decide)],_,AS.le_refl _⟩
 ·refine A9 ?_;have e:k=l.length:=by simp at h1;omega
  rw [e,Ca,Ih]at c;exact Aa [4] [] sr (Ak (Ad sr (by rw [<- c])))
theorem Rh(l:List Int)(x:Int):AC prog 64 [.ro 1 (As l),.int .i64 x] (fun r=>r=.bool (decide (x∈l))):=by
 have a:=Aji l x
 have d:decide (x∈l)=decide (0<=Ih (fun y=>decide (x=y)) l 0):=by
  rw [Pb]
  by_cases h:x∈l
  ·rw [decide_eq_true h];symm;rw [Dp];exact⟨x,h,by simp⟩
  ·rw [decide_eq_false h];symm;rw [Jq];intro y c;simp;exact fun e=>h (e▸c)
 rw [d];have pl:=Af l;generalize As l=lv,Ih (fun y=>decide (x=y)) l 0=z at*;refine Ay func64 (fun w0 N0=>?_);refine Aa [0,1] [] sr (Ab (Ac (Am 2 sr ?_)));refine Ai a func82 ?_ (hp:=by simp);refine Ag [4] [] sr ?_;exact Ak (Ad sr (rfl))
theorem Aov(l:List Pit)(g:FuncId)(us vs:List V)(f:Pit->Bool)(w:∀p∈l,FCQ gv prog (.fc g us vs) [Pit.v p] (fun r=>r=.bool (f p))):Hm gv prog 234 [.ro 9 (B8 l),.fc g us vs] (fun r=>r=.int .i64 (Ih f l 0)):=by
 have s:=fun(k:Nat)(h:k<l.length)=>I7 h
 have u:(B8 l).length=l.length:=Da l;refine Un 0 rfl (fun n=>?_);rw [u]at n
 have o:(l.length:Int)<=9223372036854775807:=by
  have:maxLen<=9223372036854775807:=dc;omega
 generalize B8 l=m at*;refine Bx func234 (fun w0 N0 t=>?_);refine Aa [0,1] [] sr (Ab (Aa [0,1,7,8] [] sr (Ap (Bq (fun k nx=>⟨[(0,V.ro 9 m),(1,V.fc g us vs),(7,V.int .i64 m.length),(8,V.int .i64 k)],[],nx,19⟩) (fun k=>Ih f (l.drop k) k=Ih f l 0) l.length _ rfl (AS.le_refl _) ?_))));intro k nx hk c;refine Aa [0,1,7,8,9] [] sr (Ab ?_)
 refine Ao (fun h1=>Ae ?_) (fun h1=>?_)
 ·have a:k<l.length:=by simp at h1;omega
  have d:k<m.length:=om;have i:=s k a;have e:=w _ (Aw a);have C9:=A7 (k:=k) om;rw [Oy _ a]at c;generalize l[k]=y at i c e;rw [G9]at i e;generalize f _ =fb at c e;refine Ab (Ap (Aa [0,1,5,7,8] [] sr (Ab (Ac (Am 5 (by simp [i,d]<;>rfl) ?_)))));refine Qc t e sm rfl rfl sr sr (by simp) sr ?_;refine Ag [0,1,5,7,8,16] [] sr ?_
  refine Ao (fun h2=>?_) (fun h2=>Ae ?_)
  ·exact Aa [4] [] sr (Ak (Ad sr (by rw [<- c,if_pos h2])))
  refine A2 [0,1,7,8] [] (by simp [C9]<;>rfl) ?_;exact⟨a,by rw [<- c,if_neg (by rw [h2];decide)],_,AS.le_refl _⟩
 ·refine A9 ?_;have j:k=l.length:=by simp at h1;omega
  rw [j,Ca,Ih]at c;exact Aa [4] [] sr (Ak (Ad sr (by rw [<- c])))
theorem A2n(l:List Pit)(g:FuncId)(us vs:List V)(f:Pit->Bool)(d:∀p∈l,FCQ gv prog (.fc g us vs) [Pit.v p] (fun r=>r=.bool (f p))):Hm gv prog 368 [.ro 9 (B8 l),.fc g us vs] (fun r=>r=.bool (l.any f)):=by
 have a:=Aov l g us vs f d;rw [<- Pb f l 0];have pl:=B4 l;generalize B8 l=lv,Ih f l 0=z at*;refine Bx func368 (fun w0 N0 c=>?_);refine Aa [0,1] [] sr (Ab (Ac (Am 2 sr ?_)));refine Be c a func234 ?_ (hp:=by simp);refine Ag [4] [] sr ?_;exact Ak (Ad sr (rfl))
theorem A2o(l:List Ru)(g:FuncId)(us vs:List V)(f:Ru->Bool)(x:∀p∈l,FCQ gv prog (.fc g us vs) [Ru.v p] (fun r=>r=.bool (f p))):Hm gv prog 294 [.ro 5 (Ee l),.fc g us vs] (fun r=>r=.int .i64 (Ih f l 0)):=by
 have t:=fun(k:Nat)(h:k<l.length)=>Sn h
 have w:(Ee l).length=l.length:=Qv l;refine Un 0 rfl (fun o=>?_);rw [w]at o
 have s:(l.length:Int)<=9223372036854775807:=by
  have:maxLen<=9223372036854775807:=dc;omega
 generalize Ee l=m at*;refine Bx func294 (fun w0 N0 u=>?_);refine Aa [0,1] [] sr (Ab (Aa [0,1,7,8] [] sr (Ap (Bq (fun k nx=>⟨[(0,V.ro 5 m),(1,V.fc g us vs),(7,V.int .i64 m.length),(8,V.int .i64 k)],[],nx,19⟩) (fun k=>Ih f (l.drop k) k=Ih f l 0) l.length _ rfl (AS.le_refl _) ?_))));intro k nx hk c;refine Aa [0,1,7,8,9] [] sr (Ab ?_)
 refine Ao (fun h1=>Ae ?_) (fun h1=>?_)
 ·have a:k<l.length:=by simp at h1;omega
  have d:k<m.length:=om;have i:=t k a;have e:=x _ (Aw a);have C9:=A7 (k:=k) om;rw [Oy _ a]at c;generalize l[k]=y at i c e;rw [show y.v=.agg [.int .i64 y.kind,.int .i64 y.n,.int .i64 y.mn,.int .i64 y.mx,.str y.code]from rfl]at i e;generalize f _ =fb at c e;refine Ab (Ap (Aa [0,1,5,7,8] [] sr (Ab (Ac (Am 5 (by simp [i,d]<;>rfl) ?_)))));refine Qc u e sm rfl rfl sr sr sm sr ?_;refine Ag [0,1,5,7,8,16] [] sr ?_
  refine Ao (fun h2=>?_) (fun h2=>Ae ?_)
  ·exact Aa [4] [] sr (Ak (Ad sr (by rw [<- c,if_pos h2])))
  refine A2 [0,1,7,8] [] (by simp [C9]<;>rfl) ?_;exact⟨a,by rw [<- c,if_neg (by rw [h2];decide)],_,AS.le_refl _⟩
 ·refine A9 ?_;have j:k=l.length:=by simp at h1;omega
  rw [j,Ca,Ih]at c;exact Aa [4] [] sr (Ak (Ad sr (by rw [<- c])))
theorem A2p(l:List Ru)(g:FuncId)(us vs:List V)(f:Ru->Bool)(d:∀p∈l,FCQ gv prog (.fc g us vs) [Ru.v p] (fun r=>r=.bool (f p))):Hm gv prog 269 [.ro 5 (Ee l),.fc g us vs] (fun r=>r=.bool (l.any f)):=by
 have a:=A2o l g us vs f d;rw [<- Pb f l 0];have pl:=Cq l;generalize Ee l=lv,Ih f l 0=z at*;refine Bx func269 (fun w0 N0 c=>?_);refine Aa [0,1] [] sr (Ab (Ac (Am 2 sr ?_)));refine Be c a func294 ?_ (hp:=by simp);refine Ag [4] [] sr ?_;exact Ak (Ad sr (rfl))
theorem A2q(l:List Int)(g:FuncId)(us vs:List V)(f:Int->Bool)(w:∀p∈l,FCQ gv prog (.fc g us vs) [V.int .i64 p] (fun r=>r=.bool (f p))):Hm gv prog 295 [.ro 1 (As l),.fc g us vs] (fun r=>r=.int .i64 (Ih f l 0)):=by
 have s:=fun(k:Nat)(h:k<l.length)=>Fj h
 have u:(As l).length=l.length:=A5 l;refine Un 0 rfl (fun m=>?_);rw [u]at m
 have o:(l.length:Int)<=9223372036854775807:=by
  have:maxLen<=9223372036854775807:=dc;omega
 generalize As l=j at*;refine Bx func295 (fun w0 N0 t=>?_);refine Aa [0,1] [] sr (Ab (Aa [0,1,7,8] [] sr (Ap (Bq (fun k nx=>⟨[(0,V.ro 1 j),(1,V.fc g us vs),(7,V.int .i64 j.length),(8,V.int .i64 k)],[],nx,19⟩) (fun k=>Ih f (l.drop k) k=Ih f l 0) l.length _ rfl (AS.le_refl _) ?_))));intro k nx hk c;refine Aa [0,1,7,8,9] [] sr (Ab ?_)
 refine Ao (fun h1=>Ae ?_) (fun h1=>?_)
 ·have a:k<l.length:=by simp at h1;omega
  have d:k<j.length:=om;have n:=s k a;have i:=w _ (Aw a);have C9:=A7 (k:=k) om;rw [Oy _ a]at c;generalize l[k]=y at n c i;generalize f _ =fb at c i;refine Ab (Ap (Aa [0,1,5,7,8] [] sr (Ab (Ac (Am 5 (by simp [n,d]<;>rfl) ?_)))));refine Qc t i sm rfl rfl sr sr sm sr ?_;refine Ag [0,1,5,7,8,16] [] sr ?_
  refine Ao (fun h2=>?_) (fun h2=>Ae ?_)
  ·exact Aa [4] [] sr (Ak (Ad sr (by rw [<- c,if_pos h2])))
  refine A2 [0,1,7,8] [] (by simp [C9]<;>rfl) ?_;exact⟨a,by rw [<- c,if_neg (by rw [h2];decide)],_,AS.le_refl _⟩
 ·refine A9 ?_;have e:k=l.length:=by simp at h1;omega
  rw [e,Ca,Ih]at c;exact Aa [4] [] sr (Ak (Ad sr (by rw [<- c])))
theorem A2r(l:List Int)(g:FuncId)(us vs:List V)(f:Int->Bool)(d:∀p∈l,FCQ gv prog (.fc g us vs) [V.int .i64 p] (fun r=>r=.bool (f p))):Hm gv prog 273 [.ro 1 (As l),.fc g us vs] (fun r=>r=.bool (l.any f)):=by
 have a:=A2q l g us vs f d;rw [<- Pb f l 0];have pl:=Af l;generalize As l=lv,Ih f l 0=z at*;refine Bx func273 (fun w0 N0 c=>?_);refine Aa [0,1] [] sr (Ab (Ac (Am 2 sr ?_)));refine Be c a func295 ?_ (hp:=by simp);refine Ag [4] [] sr ?_;exact Ak (Ad sr (rfl))
def Bb1(n:Nat):V:=.ro 1 (Fo n)
theorem A2s(l:List Nat)(g:FuncId)(us vs:List V)(f:Nat->Bool)(x:∀p∈l,FCQ gv prog (.fc g us vs) [Bb1 p] (fun r=>r=.bool (f p))):Hm gv prog 247 [.ro 1 (Bv l),.fc g us vs] (fun r=>r=.int .i64 (Ih f l 0)):=by
 have s:=fun(k:Nat)(h:k<l.length)=>Kb h
 have u:(Bv l).length=l.length:=H2 l;refine Un 0 rfl (fun n=>?_);rw [u]at n
 have o:(l.length:Int)<=9223372036854775807:=by
  have:maxLen<=9223372036854775807:=dc;omega
 generalize Bv l=m at*;refine Bx func247 (fun w0 N0 t=>?_);refine Aa [0,1] [] sr (Ab (Aa [0,1,7,8] [] sr (Ap (Bq (fun k nx=>⟨[(0,V.ro 1 m),(1,V.fc g us vs),(7,V.int .i64 m.length),(8,V.int .i64 k)],[],nx,19⟩) (fun k=>Ih f (l.drop k) k=Ih f l 0) l.length _ rfl (AS.le_refl _) ?_))));intro k nx hk c;refine Aa [0,1,7,8,9] [] sr (Ab ?_)
 refine Ao (fun h1=>Ae ?_) (fun h1=>?_)
 ·have a:k<l.length:=by simp at h1;omega
  have d:k<m.length:=om;have i:=s k a;have e:=x _ (Aw a);have C9:=A7 (k:=k) om;rw [Oy _ a]at c;generalize l[k]=y at i c e;have w:=Ex y;rw [show Bb1 y=.ro 1 (Fo y)from rfl]at e;rw [show Au (B1 y)=Fo y from rfl]at i;generalize f _ =fb at c e;refine Ab (Ap (Aa [0,1,5,7,8] [] sr (Ab (Ac (Am 5 (by simp [i,d]<;>rfl) ?_)))));refine Qc t e sm rfl rfl sr sr (by simp) sr ?_;refine Ag [0,1,5,7,8,16] [] sr ?_
  refine Ao (fun h2=>?_) (fun h2=>Ae ?_)
  ·exact Aa [4] [] sr (Ak (Ad sr (by rw [<- c,if_pos h2])))
  refine A2 [0,1,7,8] [] (by simp [C9]<;>rfl) ?_;exact⟨a,by rw [<- c,if_neg (by rw [h2];decide)],_,AS.le_refl _⟩
 ·refine A9 ?_;have j:k=l.length:=by simp at h1;omega
  rw [j,Ca,Ih]at c;exact Aa [4] [] sr (Ak (Ad sr (by rw [<- c])))
theorem A2t(l:List Nat)(g:FuncId)(us vs:List V)(f:Nat->Bool)(d:∀p∈l,FCQ gv prog (.fc g us vs) [Bb1 p] (fun r=>r=.bool (f p))):Hm gv prog 207 [.ro 1 (Bv l),.fc g us vs] (fun r=>r=.bool (l.any f)):=by
 have a:=A2s l g us vs f d;rw [<- Pb f l 0];have pl:=Br l;generalize Bv l=lv,Ih f l 0=z at*;refine Bx func207 (fun w0 N0 c=>?_);refine Aa [0,1] [] sr (Ab (Ac (Am 2 sr ?_)));refine Be c a func247 ?_ (hp:=by simp);refine Ag [4] [] sr ?_;exact Ak (Ad sr (rfl))
theorem U4{α:Type}(f:α->Bool){l:List α}{k:Nat}(h:k<l.length):(l.take (k+1)).filter f=(l.take k).filter f++(if f l[k]=true then [l[k]]else []):=by
 rw [A3 h,M5]
 congr 1
 by_cases a:f l[k]=true
 ·rw [if_pos a,Ki a];rfl
 ·rw [if_neg a,Kj a];rfl
theorem U5{α β:Type}(f:α->β){l:List α}{k:Nat}(h:k<l.length):(l.take (k+1)).map f=(l.take k).map f++[f l[k]]:=by
 rw [A3 h,Ck];rfl
theorem Axs(a b:List Pit):B8 (a++b)=B8 a++B8 b:=Ck
theorem Axt(p:Pit):B8 [p]= [.agg [.int .i64 p.id,.str p.code,.int .i64 p.fam,.int .i64 p.st,.int .i64 p.wo,.int .i64 p.se,.int .i64 p.pt,.int .i64 p.ky,.ro 1 (Ek p.m)]]:=rfl
def Au5(pool:List Pit)(ids:List Int):List Pit:=pool.filter fun p=>decide (p.id∈ids)
theorem Aow(pool:List Pit)(ids:List Int)(z:pool.length<=18):AC prog 105 [.ro 9 (B8 pool),.ro 1 (As ids)] (fun x=>x=.ro 9 (B8 (Au5 pool ids))):=by
 have s:=fun(k:Nat)(h:k<pool.length)=>I7 h
 have lq:=Da pool;have t:=Rh ids;have y:=Af ids;have i:∀k,((pool.take k).filter fun p=>decide (p.id∈ids)).length<=18:=fun k=>Aj (Gd _ _) so
 have o:=fun(k:Nat)(h:k<pool.length)=>U4 (fun p:Pit=>decide (p.id∈ids)) h
 unfold Au5;generalize As ids=iv,B8 pool=pv at*;refine Ay func105 (fun w0 N0=>?_);refine Aa [0,1] [] sr (Aa [0,1,5] [] sr (Ab (Aa [1,5,8,9,10] [] sr ?_)));refine F5 5 100 9 115 [1,5,8,9,10] [100] sr sr ?_;refine Ap ?_
 refine Dr (fun x:Nat × Nat × Nat=>⟨[(1,V.ro 1 iv),(5,.sl 100 x.2.1 9 ((pool.take x.1).filter fun p=>decide (p.id∈ids)).length),(8,V.ro 9 pv),(9,V.int .i64 pv.length),(10,V.int .i64 (x.1:Nat))],[(100,⟨x.2.1,9,115,B8 ((pool.take x.1).filter fun p=>decide (p.id∈ids))⟩)],x.2.2,24⟩)
  (fun x=>x.1<=pool.length) (fun x=>pool.length-x.1) (0,_,_) (B6 _) (AS.le_refl _) ?_
 rintro⟨k,qv,nx⟩u;simp only at u|-;refine Aa [1,5,8,9,10,11] [100] sr (Ab ?_)
 refine Ao (fun h1=>Ae ?_) (fun h1=>?_)
 ·have c:k<pool.length:=by simp at h1;omega
  have d:k<pv.length:=om;have l:=s k c;have C9:=A7 (k:=k) om;have a:=o k c;have j:=i k;rw [G9]at l;generalize pool[k]=p at l a;have f:=t p.id;have w:=Dw p.m;generalize(pool.take k).filter (fun p=>decide (p.id∈ids))=Lk at a j|-;have n:Lk.length+1<=maxLen/\(Lk.length+1)*96<=140737488355328:=⟨Aj (show Lk.length+1<=19 by omega) dc,by omega⟩;generalize aa:decide (p.id∈ids)=e at f a;refine Ab (Ap (Aa [1,5,7,8,9,10] [7,100] (by simp [l,d]<;>rfl) (Ab (Ac (Am 3 sr ?_)))));refine Ai f func64 ?_ (hp:=by simp);refine Ag [1,5,7,8,9,10,17] [7,100] sr ?_
  refine Ao (fun h2=>?_) (fun h2=>Ae ?_)
  ·refine A2 [1,5,8,9,10] [100] (by simp [n]<;>rfl) (A2 [1,5,8,9,10] [100] (by simp [C9]<;>rfl) ?_);rw [if_pos h2]at a;exact⟨(k+1,_,_),c,by simp only;omega,by simp only [a,Axs,Axt,Bi,Bc,B0];exact AS.le_refl _⟩
  refine A2 [1,5,8,9,10] [100] (by simp [C9]<;>rfl) ?_;rw [if_neg (by rw [h2];simp),Dx]at a;exact⟨(k+1,_,_),c,by simp only;omega,by simp only [a];exact AS.le_refl _⟩
 ·refine A9 ?_;have r:k=pool.length:=by simp at h1;omega
  subst r;simp only [Bo];have g:=B4 (pool.filter fun p=>decide (p.id∈ids));refine Aa [4] [100] sr ?_;exact Ak (Ad (by simp [results105,g]<;>rfl) (rfl))
def Gh(a:List (Int × Int)):List Int:=a.map Prod.fst
theorem Axu{l:List (Int × Int)}{k:Nat}(h:k<l.length):Gh (l.take (k+1))=Gh (l.take k)++[l[k].1]:=U5 Prod.fst h
theorem Aft(l:List (Int × Int)):(Gh l).length=l.length:=by simp [Gh]
theorem Aox(a:List (Int × Int))(hl:a.length<=1000):AC prog 106 [.ro 2 (A0 a)] (fun x=>x=.ro 1 (As (Gh a))):=by
 have o:=fun(k:Nat)(h:k<a.length)=>Hu h
 have lq:=Dq a;have g:=fun(k:Nat)(h:k<a.length)=>Axu h
 generalize A0 a=pv at*;refine Ay func106 (fun w0 N0=>?_);refine Aa [0] [] sr (Aa [0,3] [] sr (Ab (Aa [3,6,7,8] [] sr ?_)));refine F5 3 100 1 3 [3,6,7,8] [100] sr sr ?_;refine Ap ?_
 refine Dr (fun x:Nat × Nat × Nat=>⟨[(3,.sl 100 x.2.1 1 (Gh (a.take x.1)).length),(6,V.ro 2 pv),(7,V.int .i64 pv.length),(8,V.int .i64 (x.1:Nat))],[(100,⟨x.2.1,1,3,As (Gh (a.take x.1))⟩)],x.2.2,19⟩)
  (fun x=>x.1<=a.length) (fun x=>a.length-x.1) (0,_,_) (B6 _) (AS.le_refl _) ?_
 rintro⟨k,qv,nx⟩r;simp only at r|-;refine Aa [3,6,7,8,9] [100] sr (Ab ?_)
 refine Ao (fun h1=>Ae ?_) (fun h1=>?_)
 ·have d:k<a.length:=by simp at h1;omega
  have e:k<pv.length:=om;have n:=o k d;have C9:=A7 (k:=k) om;have c:=g k d;have i:(Gh (a.take k)).length<=1000:=by rw [Aft];simp;omega
  generalize a[k]=p at n c;generalize Gh (a.take k)=l at c i|-;have j:l.length+1<=maxLen/\(l.length+1)*8<=140737488355328:=⟨Aj (show l.length+1<=1001 by omega) dc,by omega⟩;refine Ab (Ap (Aa [3,5,6,7,8] [5,100] (by simp [n,e]<;>rfl) (A2 [3,6,7,8] [100] (by simp [j]<;>rfl) (A2 [3,6,7,8] [100] (by simp [C9]<;>rfl) ?_))));exact⟨(k+1,_,_),d,by simp only;omega,by simp only [c,Qy,Zn,Bi,Bc,B0];exact AS.le_refl _⟩
 ·refine A9 ?_;have m:k=a.length:=by simp at h1;omega
  subst m;simp only [Bo];have f:=Af (Gh a);refine Aa [2] [100] sr ?_;exact Ak (Ad (by simp [results106,f]<;>rfl) (rfl))
def Ahu(m:Mo)(c:Int):Bool:=decide (0<=c)&&decide (c<Wv m)
theorem Au6(m:Mo)(c:Int):AC prog 164 [moV m,.int .i64 c] (fun r=>r=.bool (Ahu m c)):=by
 have a:=Ali m;unfold Ahu;have e:moV m=.agg [.ro 1 (Ek m)]:=rfl;have d:=Dw m;rw [e]at a|-;generalize Ek m=mv at*;refine Ay func164 (fun w0 N0=>?_);refine Aa [1,2] [2] sr (Ab (Ac (Am 5 sr ?_)));refine De (c:=decide (0<=c)) (fun hg=>a) func63 rfl kr sr rfl rfl sr (by simp) sr ?_;refine Ag [4] [] sr ?_;exact Ak (Ad sr sm)
def Bfm:Pit:=⟨0,[],0,0,0,0,0,0,[]⟩
def Mb(pool:List Pit)(id:Int):Option Pit:=pool.find? fun p=>decide (p.id=id)
def Ahv(o:Option Pit):Pit:=match o with|some p=>p|none=>Bfm
theorem Wf{α:Type}(f:α->Bool){l:List α}{k:Nat}(h:k<l.length):(l.drop k).find? f=if f l[k]=true then some l[k]else(l.drop (k+1)).find? f:=by
 rw [Bu h,List.find?_cons]
 by_cases a:f l[k]=true
 ·rw [if_pos a,a]
 ·rw [if_neg a,Bool.eq_false_iff.2 a]
theorem Au7(pool:List Pit)(id:Int):AC prog 163 [.ro 9 (B8 pool),.int .i64 id] (fun r=>r=.tup [(Ahv (Mb pool id)).v,.bool (Mb pool id).isSome]):=by
 refine AC.relaxP ?_;refine Td 0 rfl (fun g=>?_);have j:=fun(k:Nat)(h:k<pool.length)=>I7 h
 have l:=Da pool;rw [l]at g
 have i:(pool.length:Int)<=9223372036854775807:=by
  have:maxLen<=9223372036854775807:=dc;omega
 unfold Mb;generalize B8 pool=pv at*;refine Ay func163 (fun w0 N0=>?_);refine Aa [0,1,4] [4] sr (Ab (Aa [1,4,8,9,10] [4] sr (Ap (Bq (fun k nx=>⟨[(1,V.int .i64 id),(4,V.bp 4 (0) 9 0 0),(8,V.ro 9 pv),(9,V.int .i64 pv.length),(10,V.int .i64 k)],[(4,{ v:=0,sz:=9,ty:=115,es:=[.agg [.int .i64 0,.str [],.int .i64 0,.int .i64 0,.int .i64 0,.int .i64 0,.int .i64 0,.int .i64 0,.nils]]})],nx,21⟩) (fun k=>(pool.drop k).find? (fun p=>decide (p.id=id))=pool.find? (fun p=>decide (p.id=id))) pool.length _ rfl (AS.le_refl _) ?_))));intro k nx hk c;refine Aa [1,4,8,9,10,11] [4] sr (Ab ?_)
 refine Ao (fun h1=>Ae ?_) (fun h1=>?_)
 ·have a:k<pool.length:=by simp at h1;omega
  have d:k<pv.length:=om;have e:=j k a;have C9:=A7 (k:=k) om;rw [Wf _ a]at c;rw [G9]at e;generalize pool[k]=p at e c;have n:=Dw p.m;refine Ab (Ap (Aa [1,4,7,8,9,10] [4,7] (by simp [e,d]<;>rfl) (Aa [1,4,7,8,9,10,17] [4,7] sr ?_)))
  refine Ao (fun h2=>?_) (fun h2=>Ae ?_)
  ·refine Aa [4,5] [4] sr ?_;refine Ak (Ad (by simp [results163]<;>rfl) ?_);rw [<- c,if_pos (by simpa using h2)];exact Bl.refl _
  refine A2 [1,4,8,9,10] [4] (by simp [C9]<;>rfl) ?_;exact⟨a,by rw [<- c,if_neg (by rw [show decide (p.id=id)=false from by simpa using h2];decide)],_,AS.le_refl _⟩
 ·refine A9 ?_;have f:k=pool.length:=by simp at h1;omega
  rw [f,Ca,List.find?_nil]at c;refine Aa [4,5] [4] sr ?_;refine Ak (Ad sr ?_);rw [<- c];refine Bl.tup (.cons (Bl.agg (.cons (Bl.refl _) (.cons (Bl.refl _) (.cons (Bl.refl _) (.cons (Bl.refl _) (.cons (Bl.refl _) (.cons (Bl.refl _) (.cons (Bl.refl _) (.cons (Bl.refl _) (.cons (Bl.nils 1) .nil)))))))))) (.cons (Bl.refl _) .nil))
def T4(a:List Int)(q:Nat)(l:List Pit):List Int:=l.map fun p=>U3 (Pv a p.m q)
theorem Zp{l:List Pit}{n:Int}(h:Kd l n=0):l.length<=18/\Sm 0 (I3 l)=true/\∀p∈l,Ln p.m n=0:=by
 unfold Kd at h
 (repeat' split at h)<;>try omega
 rename_i h1 h2;refine⟨by omega,by simpa using h2,fun p hp=>?_⟩;have:=Ka h p hp;unfold Ar8 at this
 (repeat' split at this)<;>omega
theorem Ase(l:List Pit)(g:Gr)(q:Nat)(hg:Lm g=0)(hq:q<g.pts.length)(hp:Kd l g.pts.length=0):
  Hm gv prog 153 [.ro 9 (B8 l),g.v,.int .i64 q] (fun r=>r=.tup [.ro 1 (As (T4 g.pts q l)),.int .i64 0]):=by
 have j:=L1 g;rw [hg]at j;have n:=Mq l g.pts.length;rw [hp]at n;obtain⟨ad,-,hmod⟩:=Zp hp;have s:=fun p(h:p∈l)=>A2m g p.m q hg (hmod p h) hq
 have aa:=fun(k:Nat)(h:k<l.length)=>I7 h
 have lq:=Da l;have pl:=B4 l;have hn:∀(k:Nat)(h:k<l.length),(As (T4 g.pts q l))[k]? =some (.int .i64 (U3 (Pv g.pts l[k].m q))):=fun k h=>by simp [As,T4,h]
 have t:(As (T4 g.pts q l)).length=l.length:=by simp [T4]
 have ab:=Af (T4 g.pts q l);have eg:g.v=.agg [.ro 1 (As g.pts),.ro 1 (As g.pri)]:=rfl;have pp:=Af g.pts;have pq:=Af g.pri;have lp:=A5 g.pts;rw [eg]at j s|-;rw [<- lp]at n;generalize As (T4 g.pts q l)=e,As g.pts=pt,As g.pri=pr,B8 l=pv at*;refine Bx func153 (fun w0 N0 hG=>?_);refine Aa [0,2,4] [4] sr (Ab (Ab (Ac (Am 1 sr ?_))));refine Ai j func56 ?_ (hp:=by simp);refine Ag [0,2,4,8] [4] sr ?_;refine Aa [0,2,4,8,18] [4] sr ?_;refine A6 rfl (fun h1=>by simp at h1) (fun h1=>Ae (Ab (Ab (Ac (Am 4 sr ?_)))));refine Be hG n func35 ?_ (hp:=by simp);refine Ag [0,2,4,9] [4] sr ?_;refine Aa [0,2,4,9,26] [4] sr ?_;refine A6 rfl (fun h2=>by simp at h2) (fun h2=>Ae (Ab (Aa [0,2,4,36] [4] sr ?_)));refine A6 rfl (fun h3=>by simp at h3;omega) (fun h3=>Ae ?_);have y:(pv.length:Int)<=9223372036854775807:=om;have z:8*(pv.length:Int)<=281474976710656:=om;refine Aa [0,2,4,10] [4,39] (by simp [y,z]<;>rfl) (Ab (Aa [2,4,10,40,41,42] [4,39] sr (Ap (Bq (fun k nx=>⟨[(2,V.int .i64 (q:Nat)),(4,V.bp 4 (0) 2 0 0),(10,V.sl 39 (27) 1 pv.length),(40,V.ro 9 pv),(41,V.int .i64 pv.length),(42,V.int .i64 k)],[(4,{ v:=0,sz:=2,ty:=27,es:=[V.agg [V.ro 1 pt,V.ro 1 pr]]}),(39,{ v:=27,sz:=1,ty:=3,es:=Fy e (.int .i64 0) k})],nx,64⟩) (fun k=>True) l.length _ trivial (by rw [I8,t,<- lq];exact AS.le_refl _) ?_))));intro k nx hk hI;have x:=J6 e (.int .i64 0) k om;refine Aa [2,4,10,40,41,42,43] [4,39] sr (Ab ?_)
 refine Ao (fun w=>Ae ?_) (fun w=>?_)
 ·have d:k<l.length:=by simp at w;omega
  have f:k<pv.length:=om;have i:k<e.length:=om;have ga:=aa k d;have a:=J8 e (.int .i64 0) k i (hn k d);have o:Hs (Fy e (.int .i64 0) k) k=some (.int .i64 0):=J7 e _ k i;have C9:=A7 (k:=k) om;have c:=s _ (Aw d);rw [G9]at ga;generalize l[k]=p at ga a c;have em:moV p.m=.agg [.ro 1 (Ek p.m)]:=rfl;have pm:=Dw p.m;rw [em]at c;generalize U3 (Pv g.pts p.m q)=u,Ek p.m=mv at*;generalize Fy e (.int .i64 0) k=row at o a x|-;refine Ab (Ap (Aa [2,4,10,11,12,40,41,42] [4,39,12] (by simp [ga,f]<;>rfl) (Ab (Ac (Am 4 sr ?_)))));refine Ai c func199 ?_ (hp:=by simp);refine Ag [2,4,10,11,13,14,40,41,42] [4,39] sr ?_;refine Ab (Aa [2,4,10,11,13,14,40,41,42,56] [4,39] sr ?_);refine A6 rfl (fun h5=>by simp at h5) (fun h5=>Ae (A2 [2,4,10,40,41,42] [4,39] (by simp [f,o,a]<;>rfl) (A2 [2,4,10,40,41,42] [4,39] (by simp [C9]<;>rfl) ?_)));exact⟨d,trivial,_,AS.le_refl _⟩
 ·refine A9 ?_;have ae:k=l.length:=by simp at w;omega
  rw [K1 e (.int .i64 0) k (by omega)];refine Bt 39 [10] [] (by simp [ab,t,lq]<;>rfl) ?_;exact Aa [6,7] [] sr (Ak (Ad sr rf))
theorem U6{α:Type}{f:α->Int}:∀ {l:List α},(∀x∈l,f x=0)->Kr f l=0
 | [],_ =>rfl
 |x::r,h=>by rw [Kr,if_neg (by rw [h x (Fa ..)];simp),U6 fun y a=>h y (D7 _ a)]
theorem Afu:∀ {l m:List Int}{p:Int},l.Sublist m->Sm p m=true->Sm p l=true
 |_,_,_,.slnil,_ =>rfl
 |_,_,p,.cons a h,c=>by
  simp only [Sm,Bm,decide_eq_true_eq]at c;refine Afu h ?_;obtain⟨h1,h2⟩:=Adx c.2
  have d:∀(r:List Int)(a p:Int),p<a->Sm a r=true->Sm p r=true:=by
   intro r a p f e;cases r with
   |nil=>rfl
   |cons x r=>
    simp only [Sm,Bm,decide_eq_true_eq]at e|-;exact⟨⟨e.1.1,by omega⟩,e.2⟩
  exact d _ _ _ c.1.2 c.2
 |_,_,p,.cons_cons a h,c=>by
  simp only [Sm,Bm,decide_eq_true_eq]at c|-;exact⟨c.1,Afu h c.2⟩
theorem Axv{l m:List Pit}{n:Int}(h:l.Sublist m)(a:Kd m n=0):Kd l n=0:=by
 unfold Kd at a|-
 (repeat' split at a)<;>try omega
 rename_i h1 h2;have hl:=h.length_le;have d:Sm 0 (I3 l)=true:=Afu (h.map Pit.id) (by simpa [I3]using h2);rw [if_neg om,if_neg (by rw [d];decide)];exact U6 fun x c=>Ka a x (h.subset c)
theorem Wg(pool:List Pit)(ids:List Int):(Au5 pool ids).Sublist pool:=List.filter_sublist
def Ge(g:Gr)(w:List Nat)(l:List Pit):List Int:=T4 g.pts (Afe g.pts (Pu g w)) l
theorem Aoy(g:Gr)(w:List Nat)(l:List Pit)(h:sumsOk g w)(hp:Kd l g.pts.length=0):
  Hm gv prog 107 [g.v,.ro 1 (Bv w),.ro 9 (B8 l)] (fun r=>r=.tup [.ro 1 (As (Ge g w l)),.int .i64 0]):=by
 have a:=A7m g w h;have c:=A7n g h.grid (Pu g w) (Aj (A2e h) dc);have e:=(J3 h.grid).pos;have d:=Ase l g (Afe g.pts (Pu g w)) h.grid (A6s _ e) hp;unfold Ge;have k:=Af (T4 g.pts (Afe g.pts (Pu g w)) l);generalize T4 g.pts (Afe g.pts (Pu g w)) l=L,Afe g.pts (Pu g w)=q,Pu g w=mn at*;have n:g.v=.agg [.ro 1 (As g.pts),.ro 1 (As g.pri)]:=rfl;have f:=Af g.pts;have i:=Af g.pri;have s:=Br w;have pl:=B4 l;rw [n]at a c d|-;simp only [Ww]at a c;have o:=Jb;have j:=Jc;generalize As g.pts=pt,As g.pri=pr,Bv w=wv,B8 l=pv at*;refine Bx func107 (fun w0 N0 m=>?_);refine Aa [1,2,3] [3] sr (Ab (Ac (Am 2 sr ?_)));refine Ai a func151 ?_ (hp:=by simp);refine Ag [2,3,8,9] [3,8] sr ?_;refine Ab (Aa [2,3,8,9,18] [3,8] sr ?_);refine A6 rfl (fun h1=>by simp at h1) (fun h1=>Ae (Ab (Ac (Am 2 sr ?_))));refine Ai c func152 ?_ (hp:=by simp);refine Ag [2,3,9,10] [3] sr ?_;refine Ab (Aa [2,3,9,10,27] [3] sr ?_);refine A6 rfl (fun h2=>by simp at h2) (fun h2=>Ae (Ab (Ac (Am 3 sr ?_))));refine Be m d func153 ?_ (hp:=by simp);refine Ag [6,7] [] sr ?_;exact Ak (Ad (by simp [results107]<;>rfl) (rfl))
def Sr(l:List Ru):List V:=l.map X1
@[simp]theorem Ajj(l:List Ru):(Sr l).length=l.length:=by simp [Sr]
theorem Axw{l:List Ru}{k:Nat}(h:k<l.length):Hs (Sr l) k=some (X1 l[k]):=by rw [C1];simp [Sr,h]
theorem Axx(r:Ru):∀c∈Afl r,c.isCell=true:=by
 unfold Afl;(repeat' split)<;>simp [V.isCell,V.still]
theorem Afv(r:Ru):(X1 r).pureE=true:=by
 unfold X1 Afl;(repeat' split)<;>simp [V.pureE,V.pureC,V.cells]<;>rfl
theorem Asf(l:List Ru):(Sr l).all V.pureE=true:=by
 rw [Ax];intro x a;simp only [Sr,Bk]at a;obtain⟨n,_,rfl⟩:=a;exact Afv n
theorem Asg{l:List Ru}{k:Nat}(h:k<l.length):Sr (l.take (k+1))=Sr (l.take k)++[X1 l[k]]:=U5 X1 h
set_option maxHeartbeats 4000000 in
theorem Ash(len:Int)(rs:List Ru)(hl:rs.length<=20)(hf:∀r∈rs,r.fits=true):AC prog 266 [Qw len rs] (fun r=>r=.ro 1 (Sr rs)):=by
 have y:=fun(k:Nat)(h:k<rs.length)=>Sn h
 have lq:=Qv rs
 have u:=fun(k:Nat)(h:k<rs.length)=>Asg h
 unfold Qw
 generalize Ee rs=f at*
 refine Ani func266 rfl (by show(1:Nat)<=31;omega) (fun w0 N0=>?_)
 refine Aa [1] [1] (by simp [ntmps266]<;>rfl) ?_
 have m:(f.length:Int)<=9223372036854775807:=by omega
 have o:16*(f.length:Int)<=281474976710656:=by omega
 refine Aa [1,3] [1,11] (by simp [m,o]<;>rfl) ?_
 refine Ab ?_
 refine Aa [3,13,14,15] [11] (by simp<;>rfl) ?_
 refine Ap ?_
 refine Dr (fun x:Nat × Nat × Nat=>⟨[(3,.sl 11 x.2.1 1 x.1),(13,V.ro 5 f),(14,V.int .i64 f.length),(15,V.int .i64 (x.1:Nat))],[(11,⟨x.2.1,1,165,Sr (rs.take x.1)⟩)],x.2.2,31⟩)
  (fun x=>x.1<=rs.length) (fun x=>rs.length-x.1) (0,_,_) (B6 _) (AS.le_refl _) ?_
 rintro⟨k,qv,nx⟩z
 simp only at z|-
 refine Aa [3,13,14,15,16] [11] (by simp<;>rfl) ?_
 refine Ab ?_
 refine A6 rfl (fun h1=>Ae ?_) (fun h1=>?_)
 ·have c:k<rs.length:=by simp at h1;omega
  have j:k<f.length:=by omega
  have s:=y k c
  have C9:=A7 (k:=k) (by omega)
  have a:=u k c
  have d:=hf _ (Aw c)
  generalize rs[k]=r at s a d
  have e:=Acr (X2 d)
  rw [d]at e
  have aa:=Axx r
  have g:=Afv r
  rw [show r.v=.agg [.int .i64 r.kind,.int .i64 r.n,.int .i64 r.mn,.int .i64 r.mx,.str r.code]from rfl]at s e
  unfold X1 at a g
  generalize Aok r=dt at*
  generalize Afl r=dc at*
  have i:(Sr (rs.take k)).length=k:=by rw [Ajj,B9];omega
  generalize Sr (rs.take k)=Lk at a i|-
  have t:k+1<=maxLen/\(k+1)*16<=140737488355328:=⟨Aj (show k+1<=21 by omega) (by decide),by omega⟩
  refine Ab ?_
  refine Ap ?_
  refine Aa [3,5,13,14,15] [11,5] (by simp [s,j]<;>rfl) ?_
  refine Ab (Ac ?_)
  refine Am 1 (by simp<;>rfl) ?_
  refine Jk e func85 rfl (by kernel_rfl) rfl rfl rfl (by simp<;>rfl) (by simp) (by simp<;>rfl) ?_
  refine Ag [3,6,7,13,14,15] [11] (by simp<;>rfl) ?_
  refine Aa [3,6,13,14,15,24] [11] (by simp<;>rfl) ?_
  refine A6 rfl (fun h2=>?_) (fun h2=>by simp at h2)
  ·refine A2 [3,13,14,15] [11] (by simp [t,i]<;>rfl) ?_
   refine A2 [3,13,14,15] [11] (by simp [C9]<;>rfl) ?_
   exact⟨(k+1,_,_),c,by simp only;omega,by simp only [a];exact AS.le_refl _⟩
 ·refine A9 ?_
  have w:k=rs.length:=by simp at h1;omega
  subst w
  simp only [Bo]
  have l:=Asf rs
  refine Aa [2] [11] (by simp<;>rfl) ?_
  exact Ak (Ad (by simp [results266,l]<;>rfl) (rfl))
def Axy(s t:List UInt8):Bool:=decide (t.length<=s.length)&&decide (s.take t.length=t)
theorem Ahw(s t:List UInt8):AC prog 210 [.str s,.str t] (fun r=>r=.bool (Axy s t)):=by
 unfold Axy;refine Ay func210 (fun w0 N0=>?_);refine Aa [0,1] [] sr ?_
 by_cases h:t.length<=s.length
 ·have a:(t.length:Int)<=s.length:=om;exact Aa [4] [] (by simp [a]<;>rfl) (Ak (Ad sr (by simp [h])))
 ·have a:¬(t.length:Int)<=s.length:=om;exact Aa [4] [] (by simp [a]<;>rfl) (Ak (Ad sr (by simp [h])))
theorem Zq(s t:List UInt8):AC prog 168 [.str s,.str t] (fun r=>r=.bool (Axy s t)):=by
 have a:=Ahw s t;refine Ay func168 (fun w0 N0=>?_);refine Aa [0,1] [] sr (Ab (Ac (Am 2 sr ?_)));refine Ai a func210 ?_;refine Ag [4] [] sr ?_;refine Ak (Ad sr ?_);rfl
def Tm(a c:List UInt8):Bool:=decide (c= [])||(decide (a=c)||Axy a (c++[46]))
theorem A2u(a c:List UInt8)(h:c.length<9223372036854775807):AC prog 123 [.str a,.str c] (fun r=>r=.bool (Tm a c)):=by
 have e:=Zq a (c++[46]);have d:c.length<=9223372036854775806:=om;refine Ay func123 (fun w0 N0=>?_);refine Aa [0,1] [] sr (Ab (Ac (Am 11 (by simp [d]<;>rfl) ?_)));refine De (fun hg=>e) func168 rfl kr sr rfl rfl sr sm sr ?_;refine Ag [4] [] sr ?_;refine Ak (Ad sr ?_);simp [Tm,Bool.or_assoc]
def A2v(a b:Int):Int × Int:=(if b<a then b else a,if a<b then b else a)
theorem Asi(a b:Int):AC prog 307 [.int .i64 a,.int .i64 b] (fun r=>r=.agg [.int .i64 (A2v a b).1,.int .i64 (A2v a b).2]):=by
 refine Ay func307 (fun w0 N0=>?_);refine Aa [0,1,4] [4] sr (Aa [4] [4] sr ?_);refine Ak (Ad sr ?_);rfl
theorem Afw{a:FuncId}{fn:Func}{us args vs:List V}{r:V}(h:Hm gv prog a (us++args++vs) (fun x=>x=r))(c:prog.funcs[a]? =some fn)(e:fn.body.isSome=true)(d:(fn.name== "runtime.NumGoroutine")=false):FCQ gv prog (.fc a us vs) args (fun x=>x=r):=Aro h c e d
def Afx(r:Ru)(p:Pit):Int:=
 if r.kind=1 then J1 (Tm p.code r.code)else if r.kind=2 then p.wo else if r.kind=3 then p.se else if r.kind=4 then p.pt else J1 (decide (p.ky=r.n))
theorem Bb2(r:Ru)(p:Pit)(h:r.code.length<9223372036854775807):AC prog 121 [p.v,.rp r.v] (fun x=>x=.int .i64 (J1 (Tm p.code r.code))):=by
 have a:=A2u p.code r.code h;have c:=Uz (Tm p.code r.code);generalize Tm p.code r.code=u at*;generalize J1 u=o at*;rw [G9,show r.v=.agg [.int .i64 r.kind,.int .i64 r.n,.int .i64 r.mn,.int .i64 r.mx,.str r.code]from rfl];have pm:=Dw p.m;refine Ay func121 (fun w0 N0=>?_);refine Aa [1,2] [2] sr (Ab (Ac (Am 4 sr ?_)));refine Ai a func123 ?_;refine Ai c func122 ?_;refine Ag [3] [] sr ?_;exact Ak (Ad sr (rfl))
theorem Bb3(p:Pit):AC prog 124 [p.v] (fun x=>x=.int .i64 p.wo):=by
 rw [G9];refine Ay func124 (fun w0 N0=>?_);refine Aa [1] [1] sr ?_;exact Aa [2] [] sr (Ak (Ad sr rf))
theorem Bb4(p:Pit):AC prog 125 [p.v] (fun x=>x=.int .i64 p.se):=by
 rw [G9];refine Ay func125 (fun w0 N0=>?_);refine Aa [1] [1] sr ?_;exact Aa [2] [] sr (Ak (Ad sr rf))
theorem Bb5(p:Pit):AC prog 126 [p.v] (fun x=>x=.int .i64 p.pt):=by
 rw [G9];refine Ay func126 (fun w0 N0=>?_);refine Aa [1] [1] sr ?_;exact Aa [2] [] sr (Ak (Ad sr rf))
theorem Bb6(r:Ru)(p:Pit):AC prog 127 [p.v,.rp r.v] (fun x=>x=.int .i64 (J1 (decide (p.ky=r.n)))):=by
 have a:=Uz (decide (p.ky=r.n));generalize hu:J1 (decide (p.ky=r.n))=o at*;rw [G9,show r.v=.agg [.int .i64 r.kind,.int .i64 r.n,.int .i64 r.mn,.int .i64 r.mx,.str r.code]from rfl];refine Ay func127 (fun w0 N0=>?_);refine Aa [1,2] [2] sr (Ab (Ac (Am 5 sr ?_)));refine Ai a func122 ?_;refine Ag [3] [] sr ?_;exact Ak (Ad sr (rfl))
theorem Bb7(a b n:Int)(p:Pit):AC prog 359 [.agg [.int .i64 a,.int .i64 b,.int .i64 n],p.v] (fun x=>x=.int .i64 (J1 (decide (p.st=n)))):=by
 have c:=Uz (decide (p.st=n));generalize hu:J1 (decide (p.st=n))=o at*;rw [G9];refine Ay func359 (fun w0 N0=>?_);refine Aa [2,3] [2,3] sr (Ab (Ac (Am 5 sr ?_)));refine Ai c func122 ?_;refine Ag [4] [] sr ?_;exact Ak (Ad sr (rfl))
theorem Bb8(p:Pit):AC prog 366 [p.v] (fun x=>x=.int .i64 0):=by
 rw [G9];refine Ay func366 (fun w0 N0=>?_);refine Aa [] [] sr ?_;exact Aa [2] [] sr (Ak (Ad sr rf))
theorem Bb9(p:Pit):AC prog 264 [p.v] (fun x=>x=.int .i64 1):=by
 rw [G9];refine Ay func264 (fun w0 N0=>?_);refine Aa [] [] sr ?_;exact Aa [2] [] sr (Ak (Ad sr rf))
theorem Bca(n:Int)(p:Pit):AC prog 375 [p.v,.rp (.agg [.int .i64 n])] (fun x=>x=.int .i64 (J1 (decide (p.id=n)))):=by
 have a:=Uz (decide (p.id=n));generalize hu:J1 (decide (p.id=n))=o at*;rw [G9];refine Ay func375 (fun w0 N0=>?_);refine Aa [1,2] [2] sr (Ab (Ac (Am 5 sr ?_)));refine Ai a func122 ?_;refine Ag [3] [] sr ?_;exact Ak (Ad sr (rfl))
theorem Bcb(n:Int)(p:Pit):AC prog 382 [p.v,.rp (.int .i64 n)] (fun x=>x=.int .i64 (J1 (decide (p.fam=n)))):=by
 have a:=Uz (decide (p.fam=n));generalize hu:J1 (decide (p.fam=n))=o at*;rw [G9];refine Ay func382 (fun w0 N0=>?_);refine Aa [1,2] [2] sr (Ab (Ac (Am 4 sr ?_)));refine Ai a func122 ?_;refine Ag [3] [] sr ?_;exact Ak (Ad sr (rfl))
theorem Bcc(a b:Int)(p:Pit):AC prog 268 [p.v,.rp (.agg [.int .i64 a,.int .i64 b])] (fun x=>x=.int .i64 (J1 (decide (p.id=a)||decide (p.id=b)))):=by
 have c:=Uz (decide (p.id=a)||decide (p.id=b));generalize hu:J1 (decide (p.id=a)||decide (p.id=b))=o at*;rw [G9];refine Ay func268 (fun w0 N0=>?_);refine Aa [1,2] [2] sr (Ab (Ac (Am 12 sr ?_)));refine Ai c func122 ?_;refine Ag [3] [] sr ?_;exact Ak (Ad sr (rfl))
theorem A2w(n:Int)(p:Pit):AC prog 235 [p.v,.rp (.int .i64 n)] (fun x=>x=.bool (decide (p.id=n))):=by
 rw [G9];refine Ay func235 (fun w0 N0=>?_);refine Aa [1,2] [2] sr ?_;exact Aa [3] [] sr (Ak (Ad sr rf))
theorem A2x(n:Int)(p:Pit):AC prog 369 [p.v,.rp (.int .i64 n)] (fun x=>x=.bool (decide (p.id=n))):=by
 rw [G9];refine Ay func369 (fun w0 N0=>?_);refine Aa [1,2] [2] sr ?_;exact Aa [3] [] sr (Ak (Ad sr rf))
theorem Axz(a n:Int)(r:Ru):AC prog 270 [r.v,.rp (.int .i64 a),.rp (.int .i64 n)] (fun x=>x=.bool (decide (r.kind=a)&&decide (r.n=n))):=by
 rw [show r.v=.agg [.int .i64 r.kind,.int .i64 r.n,.int .i64 r.mn,.int .i64 r.mx,.str r.code]from rfl];refine Ay func270 (fun w0 N0=>?_);refine Aa [1,2,3] [3] sr ?_;exact Aa [4] [] sr (Ak (Ad sr rf))
def frV(len:Int)(rs:List Ru)(pool:List Pit)(vars a:Int):V:=.agg [.int .i64 len,.ro 5 (Ee rs),.ro 9 (B8 pool),.int .i64 vars,.int .i64 a]
def G0:Gp where
 P:=fun _ =>True
 bl:=fun _ =>False
 stable:=fun _ _ _ _ =>trivial
 low:=fun _ _ _ h=>h.elim
theorem Bcd(B:Bs):Gon G0 B:=⟨trivial,fun _ h=>h.elim⟩
theorem Zr(pool:List Pit)(id:Int):Hm gv prog 201 [.ro 9 (B8 pool),.int .i64 id] (fun r=>r=.int .i64 (Ih (fun p=>decide (p.id=id)) pool 0)):=by
 have a:=Aov pool 235 [] [.rp (.int .i64 id)] (fun p=>decide (p.id=id)) (fun p _ =>Afw ((A2w id p).q gv) func235 kr rfl);have pl:=B4 pool;generalize B8 pool=pv,Ih (fun p=>decide (p.id=id)) pool 0=z at*;refine Bx func201 (fun w0 N0 c=>?_);refine Aa [0,3] [3] sr (Bt 3 [0,3] [] sr (Ab (Ac (Am 2 sr ?_))));refine Be c a func234 ?_ (hp:=by simp);refine Ag [4] [] sr ?_;exact Ak (Ad sr (rfl))
theorem Alo(pool:List Pit)(id:Int):Hm gv prog 367 [.ro 9 (B8 pool),.int .i64 id] (fun r=>r=.bool (pool.any fun p=>decide (p.id=id))):=by
 have a:=A2n pool 369 [] [.rp (.int .i64 id)] (fun p=>decide (p.id=id)) (fun p _ =>Afw ((A2x id p).q gv) func369 kr rfl);have pl:=B4 pool;generalize B8 pool=pv,(pool.any fun p=>decide (p.id=id))=z at*;refine Bx func367 (fun w0 N0 c=>?_);refine Aa [0,3] [3] sr (Bt 3 [0,3] [] sr (Ab (Ac (Am 2 sr ?_))));refine Be c a func368 ?_ (hp:=by simp);refine Ag [4] [] sr ?_;exact Ak (Ad sr (rfl))
theorem Au8(len:Int)(rs:List Ru)(pool:List Pit)(vars c:Int)(id:Int):Hm gv prog 365 [frV len rs pool vars c,.int .i64 id] (fun r=>r=.bool (pool.any fun p=>decide (p.id=id))):=by
 have a:=Alo pool id;have pl:=B4 pool;unfold frV;generalize B8 pool=pv,Ee rs=rv,(pool.any fun p=>decide (p.id=id))=z at*;refine Bx func365 (fun w0 N0 d=>?_);refine Aa [1,2] [2] sr (Ab (Ac (Am 3 sr ?_)));refine Be d a func367 ?_ (hp:=by simp);refine Ag [4] [] sr ?_;exact Ak (Ad sr (rfl))
def U7(rs:List Ru)(a n:Int):Bool:=rs.any fun r=>decide (r.kind=a)&&decide (r.n=n)
theorem Ajk(len:Int)(rs:List Ru)(pool:List Pit)(vars d:Int)(a n:Int):Hm gv prog 233 [frV len rs pool vars d,.int .i64 a,.int .i64 n] (fun r=>r=.bool (U7 rs a n)):=by
 have c:=A2p rs 270 [] [.rp (.int .i64 a),.rp (.int .i64 n)] (fun r=>decide (r.kind=a)&&decide (r.n=n)) (fun p _ =>Afw ((Axz a n p).q gv) func270 kr rfl);have pl:=Cq rs;unfold frV U7;generalize B8 pool=pv,Ee rs=rv,(rs.any fun r=>decide (r.kind=a)&&decide (r.n=n))=z at*;refine Bx func233 (fun w0 N0 e=>?_);refine Aa [3,4,5] [3,4,5] sr (Bt 4 [3,4,5] [3,5] sr (Bt 5 [3,4,5] [3] sr (Ab (Ac (Am 4 sr ?_)))));refine Be e c func269 ?_ (hp:=by simp);refine Ag [6] [] sr ?_;exact Ak (Ad sr (rfl))
def J2(pool:List Pit)(vars:Nat)(a:Pit->Int):List Int:=pool.map a++List.replicate (vars-pool.length) 0
theorem Zs{pool:List Pit}{vars:Nat}(a:Pit->Int)(h:pool.length<=vars):(J2 pool vars a).length=vars:=by simp [J2];omega
theorem A2y{pool:List Pit}{vars:Nat}(a:Pit->Int){k:Nat}(h:k<pool.length):(As (J2 pool vars a))[k]? =some (.int .i64 (a pool[k])):=by
 simp only [As,J2,Ck,Qa];rw [Bj (by simpa using h)];simp [h]
theorem Ax0{pool:List Pit}{vars:Nat}(a:Pit->Int):Fy (As (J2 pool vars a)) (.int .i64 0) pool.length=As (J2 pool vars a):=by
 have e:As (J2 pool vars a)=As (pool.map a)++List.replicate (vars-pool.length) (.int .i64 0):=by
  unfold J2;rw [Qy];congr 1;simp [As]
 rw [e,Fy,List.take_left' (by simp)]
 congr 1
 simp
structure Rw where
 coef:List Int
 mn:Int
 mx:Int
def Rw.v(r:Rw):V:=.agg [.ro 1 (As r.coef),.int .i64 r.mn,.int .i64 r.mx]
def Hq(l:List Rw):List V:=l.map Rw.v
@[simp]theorem Nw(l:List Rw):(Hq l).length=l.length:=by simp [Hq]
theorem Afy{l:List Rw}{k:Nat}(h:k<l.length):Hs (Hq l) k=some l[k].v:=by rw [C1];simp [Hq,h]
theorem Hb(l:List Rw):(Hq l).all V.pureE=true:=by
 rw [Ax];intro x a;simp only [Hq,Bk]at a;obtain⟨n,_,rfl⟩:=a;have:=Af n.coef;simp [Rw.v,V.pureE,V.pureC,V.cells]
theorem Afz(a b:List Rw):Hq (a++b)=Hq a++Hq b:=Ck
theorem Zt{a:FuncId}{fn:Func}{us args vs:List V}{r:V}(h:AC prog a (us++args++vs) (fun x=>x=r))(c:prog.funcs[a]? =some fn)(e:fn.body.isSome=true)(d:(fn.name== "runtime.NumGoroutine")=false):FCQ G0 prog (.fc a us vs) args (fun x=>x=r):=Aro (h.q G0) c e d
theorem Alp(len:Int)(rs:List Ru)(pool:List Pit)(vars:Nat)(st:Int)(g:FuncId)(us vs:List V)(f:Pit->Int)(a b:Int)(hp:pool.length<=vars)(hv:vars<=1000)
  (hf:∀p∈pool,FCQ G0 prog (.fc g us vs) [p.v] (fun r=>r=.int .i64 (f p))):
  ACO prog 265 [frV len rs pool vars st,.fc g us vs,.int .i64 a,.int .i64 b] 1 3 (fun F es=>F=(fun d q=>.agg [.sl d q 1 vars,.int .i64 a,.int .i64 b])/\es=As (J2 pool vars f)):=by
 have hq:=fun(k:Nat)(h:k<pool.length)=>I7 h
 have lq:=Da pool;have hn:=fun(k:Nat)(h:k<pool.length)=>A2y (vars:=vars) f h
 have ab:(As (J2 pool vars f)).length=vars:=by rw [A5,Zs f hp]
 have z:=Ax0 (pool:=pool) (vars:=vars) f;have t:=Sq (J2 pool vars f);unfold frV;generalize As (J2 pool vars f)=j,B8 pool=pv,Ee rs=rv at*;refine Lj func265 (fun w0 N0=>?_);refine Aa [1,2,3,4,8] [4,8] sr ?_;have w:(vars:Int)<=9223372036854775807:=om;have x:8*(vars:Int)<=281474976710656:=om;refine Aa [1,2,3,4,8,9] [4,8,14] (by simp [w,x]<;>rfl) (Ab (Aa [1,2,3,8,9,16,17,18] [8,14] sr (Ap (Bq (fun k nx=>⟨[(1,V.fc g us vs),(2,V.int .i64 a),(3,V.int .i64 b),(8,V.bp 8 (1) 3 0 0),(9,V.sl 14 (4) 1 vars),(16,V.ro 9 pv),(17,V.int .i64 pv.length),(18,V.int .i64 k)],[(8,{ v:=1,sz:=3,ty:=339,es:=[V.agg [.nils,.int .i64 0,.int .i64 0]]}),(14,{ v:=4,sz:=1,ty:=3,es:=Fy j (.int .i64 0) k})],nx,34⟩) (fun k=>True) pool.length _ trivial (by rw [I8,ab];exact AS.le_refl _) ?_))));intro k nx hk hI;have u:=J6 j (.int .i64 0) k om;refine Aa [1,2,3,8,9,16,17,18,19] [8,14] sr (Ab ?_)
 refine Ao (fun h1=>Ae ?_) (fun h1=>?_)
 ·have e:k<pool.length:=by simp at h1;omega
  have o:k<pv.length:=om;have i:k<j.length:=om;have l:k<vars:=om;have y:=hq k e;have c:=J8 j (.int .i64 0) k i (hn k e);have n:Hs (Fy j (.int .i64 0) k) k=some (.int .i64 0):=J7 j _ k i;have C9:=A7 (k:=k) om;have s:=hf _ (Aw e);rw [G9]at y s;generalize pool[k]=p at y c s;have pm:=Dw p.m;generalize Fy j (.int .i64 0) k=row at n c u|-;refine Ab (Ap (Aa [1,2,3,8,9,10,11,16,17,18] [8,14,11] (by simp [y,o]<;>rfl) (Ac (Am 4 sr ?_))));refine Qc (Bcd _) s sm rfl rfl sr sr (by simp) sr ?_;refine Ag [1,2,3,8,9,16,17,18] [8,14] (by simp [l,n,c]<;>rfl) ?_;refine A2 [1,2,3,8,9,16,17,18] [8,14] (by simp [C9]<;>rfl) ?_;exact⟨e,trivial,_,AS.le_refl _⟩
 ·refine A9 ?_;have aa:k=pool.length:=by simp at h1;omega
  rw [aa,z];refine Aa [8] [8,14] sr ?_;exact Ak (I6 14 rfl rfl rfl t sr ⟨rfl,rfl⟩)
theorem X4(len:Int)(rs:List Ru)(pool:List Pit)(vars:Nat)(d:Int)(g:FuncId)(us vs:List V)(c:Pit->Int)(a b:Int)(hp:pool.length<=vars)(e:vars<=1000)
  (f:∀p∈pool,FCQ G0 prog (.fc g us vs) [p.v] (fun r=>r=.int .i64 (c p))):
  AC prog 265 [frV len rs pool vars d,.fc g us vs,.int .i64 a,.int .i64 b] (fun r=>r=Rw.v ⟨J2 pool vars c,a,b⟩):=by
 refine(Alp len rs pool vars d g us vs c a b hp e f).ac ?_;rintro F es⟨rfl,rfl⟩;have h1:=Af (J2 pool vars c);have h2:(As (J2 pool vars c)).length=vars:=by rw [A5,Zs c hp]
 exact⟨_,by simp [AS.viewT,AS.view,AS.viewL,AS.viewC,AS.elems,Eng.get,h1,h2,Zs c hp,V.pureC,Rw.v],rfl⟩
structure frOk(pool:List Pit)(vars st:Nat):Prop where
 le:pool.length<=vars
 small:vars<=1000
 lt:st<=vars
theorem R1(len:Int)(rs:List Ru)(pool:List Pit)(vars a:Int):frV len rs pool vars a=.agg [.int .i64 len,.ro 5 (Ee rs),.ro 9 (B8 pool),.int .i64 vars,.int .i64 a]:=rfl
theorem A2z(c:List Int)(a b:Int):Rw.v ⟨c,a,b⟩=.agg [.ro 1 (As c),.int .i64 a,.int .i64 b]:=rfl
theorem Abm(len:Int)(rs:List Ru)(pool:List Pit)(vars e:Nat)(g:FuncId)(d:Pit->Int)(a b:Int)(h:frOk pool vars e)
  (j:∀p∈pool,FCQ G0 prog (.fc g [] []) [p.v] (fun r=>r=.int .i64 (d p))):
  AC prog 346 [.agg [.int .i64 a,.int .i64 b,.fc g [] []],frV len rs pool vars e] (fun r=>r=.ro 3 (Hq [⟨J2 pool vars d,a,b⟩])):=by
 have c:=X4 len rs pool vars e g [] [] d a b h.le h.small j;have pl:=B4 pool;have i:=Cq rs;have f:=Af (J2 pool vars d);rw [R1]at c|-;rw [A2z]at c;rw [show Hq [⟨J2 pool vars d,a,b⟩]= [.agg [.ro 1 (As (J2 pool vars d)),.int .i64 a,.int .i64 b]]from rfl];generalize As (J2 pool vars d)=cv,B8 pool=pv,Ee rs=rv at*;refine Ay func346 (fun w0 N0=>?_);refine Aa [2,3] [2,3] sr (Ab (Ac (Am 9 sr ?_)));refine Ai c func265 ?_ (hp:=by simp);refine Ag [4] [15] sr ?_;exact Ak (Ad (by simp [results346]<;>rfl) (rfl))
theorem Ajl(len:Int)(rs:List Ru)(pool:List Pit)(vars f:Nat)(g:FuncId)(e:V)(d:Pit->Int)(a b:Int)(h:frOk pool vars f)
  (k:∀p∈pool,FCQ G0 prog (.fc g [] [.rp e]) [p.v] (fun r=>r=.int .i64 (d p))):
  AC prog 346 [.agg [.int .i64 a,.int .i64 b,.fc g [] [.rp e]],frV len rs pool vars f] (fun r=>r=.ro 3 (Hq [⟨J2 pool vars d,a,b⟩])):=by
 have c:=X4 len rs pool vars f g [] [.rp e] d a b h.le h.small k;have pl:=B4 pool;have j:=Cq rs;have i:=Af (J2 pool vars d);rw [R1]at c|-;rw [A2z]at c;rw [show Hq [⟨J2 pool vars d,a,b⟩]= [.agg [.ro 1 (As (J2 pool vars d)),.int .i64 a,.int .i64 b]]from rfl];generalize As (J2 pool vars d)=cv,B8 pool=pv,Ee rs=rv at*;refine Ay func346 (fun w0 N0=>?_);refine Aa [2,3] [2,3] sr (Ab (Ac (Am 9 sr ?_)));refine Ai c func265 ?_ (hp:=by simp);refine Ag [4] [15] sr ?_;exact Ak (Ad (by simp [results346]<;>rfl) (rfl))
theorem Ajm(l:List Int)(i:Nat)(x:Int):(As l).set i (.int .i64 x)=As (l.set i x):=by simp [As,N7]
def Kl(a b:Int):Int:=if b<a then b else a
def Ady(pool:List Pit)(vars st:Nat)(a b n:Int):List Rw:=
 [⟨(J2 pool vars fun p=>J1 (decide (p.st=n))).set st (-(Kl b 1000000)),-1000000,0⟩,⟨(J2 pool vars fun p=>J1 (decide (p.st=n))).set st (-(Kl a 1000000)),0,1000000⟩]
theorem A20(len:Int)(rs:List Ru)(pool:List Pit)(vars st:Nat)(a b n:Int)(h:frOk pool vars st)(c:st<vars)(ha:0<=a)(hb:0<=b):
  AC prog 358 [.agg [.int .i64 a,.int .i64 b,.int .i64 n],frV len rs pool vars st] (fun r=>r=.ro 3 (Hq (Ady pool vars st a b n))):=by
 have f:=fun(p:Pit)=>Zt (us:=[.agg [.int .i64 a,.int .i64 b,.int .i64 n]]) (args:=[p.v]) (vs:=[]) (r:=.int .i64 (J1 (decide (p.st=n)))) (Bb7 a b n p) func359 kr rfl
 have o:=Alp len rs pool vars st 359 [.agg [.int .i64 a,.int .i64 b,.int .i64 n]] [] (fun p=>J1 (decide (p.st=n))) (-1000000) 0 h.le h.small (fun p _ =>f p);have i:=Alp len rs pool vars st 359 [.agg [.int .i64 a,.int .i64 b,.int .i64 n]] [] (fun p=>J1 (decide (p.st=n))) 0 1000000 h.le h.small (fun p _ =>f p);have d:=Zs (fun p=>J1 (decide (p.st=n))) h.le;unfold Ady;generalize J2 pool vars (fun p=>J1 (decide (p.st=n)))=C at*;have pl:=B4 pool;have j:=Cq rs;have m:=A5 C;have s:=Af (C.set st (-(Kl b 1000000)));have g:=Af (C.set st (-(Kl a 1000000)));have w:(C.set st (-(Kl b 1000000))).length=vars:=by simp [d]
 have l2:(C.set st (-(Kl a 1000000))).length=vars:=by simp [d]
 rw [show∀x y,Hq [⟨C.set st x,-1000000,0⟩,⟨C.set st y,0,1000000⟩]= [.agg [.ro 1 (As (C.set st x)),.int .i64 (-1000000),.int .i64 0],.agg [.ro 1 (As (C.set st y)),.int .i64 0,.int .i64 1000000]]from fun _ _ =>rfl];rw [R1]at o i|-;have u:IntKind.i64.wrap (-(Kl b 1000000))= -(Kl b 1000000):=Bb (by unfold Kl;split<;>omega) (by unfold Kl;split<;>omega);have z:IntKind.i64.wrap (-(Kl a 1000000))= -(Kl a 1000000):=Bb (by unfold Kl;split<;>omega) (by unfold Kl;split<;>omega);have s1:=Ajm C st (-(Kl b 1000000));have t:=Ajm C st (-(Kl a 1000000));have m1:(if(1000000:Int)<b then(1000000:Int)else b)=Kl b 1000000:=rfl;have m2:(if(1000000:Int)<a then(1000000:Int)else a)=Kl a 1000000:=rfl;generalize Kl b 1000000=x,Kl a 1000000=y at*;have d1:=A5 (C.set st (-x));have d2:=A5 (C.set st (-y));generalize As (C.set st (-x))=D1,As (C.set st (-y))=D2 at*;have e:=Fj (l:=C) (k:=st) om;generalize C[st]'(by omega)=c0 at e;generalize B8 pool=pv,Ee rs=rv at*;refine Ay func358 (fun w0 N0=>?_);refine Aa [2,3] [2,3] sr (Ab (Ac (Am 3 sr ?_)));refine My 100 o func265 rfl kr rfl rfl rfl sr (by simp [AS.views,AS.view,AS.viewL,AS.viewC]<;>rfl) sr ?_;refine Ag [2,3,5] [2,3,5,100] sr ?_;refine Aa [2,3,5] [2,3,5,100] (by simp [c,m1,u,s1,e]<;>rfl) (Bt 100 [2,3,5] [2,3,5] (by simp [s,w,d1]<;>rfl) (Ab (Ac (Am 3 sr ?_))));refine My 101 i func265 rfl kr rfl rfl rfl sr (by simp [AS.views,AS.view,AS.viewL,AS.viewC]<;>rfl) sr ?_;refine Ag [2,3,5,6] [2,3,5,6,101] sr ?_;refine Aa [5,6] [5,6,101] (by simp [c,m2,z,t,e]<;>rfl) (Bt 101 [5,6] [5,6] (by simp [g,l2,d2]<;>rfl) (Aa [4] [37] sr ?_));exact Ak (Ad (by simp [results358]<;>rfl) (rfl))
def Ajn(pool:List Pit)(n:Int):Bool:=pool.any fun p=>decide (p.id=n)
def Adz(pool:List Pit)(vars:Nat)(n:Int):List Rw:=if Ajn pool n=true then []else [⟨J2 pool vars fun _ =>0,1,1⟩]
theorem Ax1(len:Int)(rs:List Ru)(pool:List Pit)(vars d:Nat)(n:Int)(h:frOk pool vars d):Hm gv prog 364 [.agg [.int .i64 n],frV len rs pool vars d] (fun r=>r=.ro 3 (Hq (Adz pool vars n))):=by
 refine Hm.relaxP ?_;have c:=Au8 len rs pool vars d n;have a:=X4 len rs pool vars d 366 [] [] (fun _ =>0) 1 1 h.le h.small (fun p _ =>Zt (args:=[p.v]) (us:=[]) (vs:=[]) (r:=.int .i64 0) (Bb8 p) func366 kr rfl);have a:=a.argsR (args:=[frV len rs pool vars d,.fn 366,.int .i64 1,.int .i64 1]) (.cons (Bl.refl _) (.cons (Qz 366) (.cons (Bl.refl _) (.cons (Bl.refl _) .nil))));unfold Adz;change Hm _ _ _ _ (fun r=>r=.bool (Ajn pool n))at c;generalize Ajn pool n=q at*;have pl:=B4 pool;have e:=Cq rs;have f:=Af (J2 pool vars fun _ =>0);rw [R1]at a c|-;rw [A2z]at a;generalize hC:J2 pool vars (fun _ =>0)=C at*;generalize B8 pool=pv,Ee rs=rv at*;refine Bx func364 (fun w0 N0 g=>?_);refine Aa [2,3] [2,3] sr (Ab (Ab (Ac (Am 3 sr ?_))));refine Be g c func365 ?_ (hp:=by simp);refine Ag [3,9] [3] sr ?_
 refine Ao (fun h1=>?_) (fun h1=>Ae ?_)
 ·refine Aa [4] [] sr ?_;refine Ak (Ad sr ?_);rw [if_pos h1];exact Bl.nils 3
 refine Aa [3,5] [3] sr (Ab (Ac (Am 2 sr ?_)));refine Ai a func265 ?_ (hp:=by simp);refine Ag [4] [13] sr ?_;refine Ak (Ad (by simp [results364]<;>rfl) ?_);rw [if_neg (by rw [h1];decide)];exact Bl.refl _
def Ad0(rs:List Ru)(pool:List Pit)(vars:Nat)(n:Int):List Rw:=if(!Ajn pool n|| !U7 rs 7 n)=true then []else [⟨J2 pool vars fun p=>J1 (decide (p.id=n)),0,0⟩]
theorem Ax2(len:Int)(rs:List Ru)(pool:List Pit)(vars f:Nat)(n:Int)(h:frOk pool vars f):Hm gv prog 374 [.agg [.int .i64 n],frV len rs pool vars f] (fun r=>r=.ro 3 (Hq (Ad0 rs pool vars n))):=by
 refine Hm.relaxP ?_;have d:=Au8 len rs pool vars f n;have e:=Ajk len rs pool vars f 7 n;have a:=X4 len rs pool vars f 375 [] [.rp (.agg [.int .i64 n])] (fun p=>J1 (decide (p.id=n))) 0 0 h.le h.small (fun p _ =>Zt (args:=[p.v]) (us:=[]) (vs:=[.rp (.agg [.int .i64 n])]) (r:=.int .i64 (J1 (decide (p.id=n)))) (Bca n p) func375 kr rfl);unfold Ad0;change Hm _ _ _ _ (fun r=>r=.bool (Ajn pool n))at d;generalize Ajn pool n=q,U7 rs 7 n=k at*;have pl:=B4 pool;have g:=Cq rs;have j:=Af (J2 pool vars fun p=>J1 (decide (p.id=n)));rw [R1]at a d e|-;rw [A2z]at a;generalize hC:J2 pool vars (fun p=>J1 (decide (p.id=n)))=C at*;generalize B8 pool=pv,Ee rs=rv at*;refine Bx func374 (fun w0 N0 i=>?_);refine Aa [2,3] [2,3] sr (Ab (Ab (Ac (Am 3 sr ?_))));refine Be i d func365 ?_ (hp:=by simp);refine Am 5 sr ?_;refine On i (c:=q) (fun hg=>e) func233 rfl kr sm rfl rfl sr (by simp) sr ?_;refine Ag [2,3,17] [2,3] sr ?_
 refine Ao (fun h1=>?_) (fun h1=>Ae ?_)
 ·refine Aa [4] [] sr ?_;refine Ak (Ad sr ?_);rw [if_pos (by simpa using h1)];exact Bl.nils 3
 refine Bt 2 [2,3] [3] sr (Aa [3,5] [3] sr (Ab (Ac (Am 2 sr ?_))));refine Ai a func265 ?_ (hp:=by simp);refine Ag [4] [22] sr ?_;refine Ak (Ad (by simp [results374]<;>rfl) ?_);rw [if_neg (by rw [show(!q|| !k)=false from by simpa using h1];decide)];exact Bl.refl _
def Zu:List Pit->List (Int × Int)->List Int->List Int
 | [],_,l=>l
 |p::r,m,l=>if p.fam<=0 then Zu r m l else Zu r ((p.fam,Fc m p.fam+1)::m) (if Fc m p.fam+1=2 then l++[p.fam]else l)
theorem Ax3{pool:List Pit}{k:Nat}(h:k<pool.length)(m:List (Int × Int))(l:List Int):
  Zu (pool.drop k) m l=if pool[k].fam<=0 then Zu (pool.drop (k+1)) m l else Zu (pool.drop (k+1)) ((pool[k].fam,Fc m pool[k].fam+1)::m) (if Fc m pool[k].fam+1=2 then l++[pool[k].fam]else l):=by
 rw [Bu h,Zu]
def Ahy(pool:List Pit):List Int:=Kw (Zu pool [] [])
theorem U8:∀(pool:List Pit)(m:List (Int × Int))(l:List Int),(Zu pool m l).length<=l.length+pool.length
 | [],_,l=>by simp [Zu]
 |p::r,m,l=>by
  rw [Zu]
  split
  ·have:=U8 r m l;simp only [Bc];omega
  ·have:=U8 r ((p.fam,Fc m p.fam+1)::m) (if Fc m p.fam+1=2 then l++[p.fam]else l);have h2:(if Fc m p.fam+1=2 then l++[p.fam]else l).length<=l.length+1:=by split<;>simp
   simp only [Bc];omega
theorem Oz(l:List Int):(Kw l).length=l.length:=by simp [Kw]
theorem A21{m:List (Int × Int)}{n:Int}(h:∀p∈m,0<=p.2/\p.2<=n)(hn:0<=n)(a:Int):0<=Fc m a/\Fc m a<=n:=by
 induction m with
 |nil=>simp [Fc];omega
 |cons p r ih=>
  rw [Fc]
  split
  ·exact h _ (Fa ..)
  ·exact ih fun q c=>h q (D7 _ c)
theorem Aoz(pool:List Pit)(aa:pool.length<=18):AC prog 381 [.agg [],.ro 9 (B8 pool)] (fun r=>r=.ro 1 (As (Ahy pool))):=by
 have f:=fun(k:Nat)(h:k<pool.length)=>I7 h
 have lq:=Da pool;have l:=U8 pool [] [];unfold Ahy;generalize B8 pool=pv at*;refine Ay func381 (fun w0 N0=>?_);refine Aa [1] [] sr (Ab (Ac (Re .i64 rfl rfl (fun b hb _ =>⟨_,rfl,?_⟩))));refine Ag [1,5] [] sr ?_;refine Aa [1,5,6] [] sr (Ab (Aa [5,6,10,11,12] [] sr ?_));refine F5 6 100 1 3 [5,6,10,11,12] [100] sr sr ?_;refine Ap ?_
 refine Dr (fun x:Nat × Nat × Nat × List (Int × Int)× List Int=>⟨[(5,.mp b .i64 (mV x.2.2.2.1)),(6,.sl 100 x.2.1 1 x.2.2.2.2.length),(10,V.ro 9 pv),(11,V.int .i64 pv.length),(12,V.int .i64 (x.1:Nat))],[(100,⟨x.2.1,1,3,As x.2.2.2.2⟩)],x.2.2.1,38⟩)
  (fun x=>x.1<=pool.length/\x.2.2.2.2.length<=x.1/\(∀p∈x.2.2.2.1,0<=p.2/\p.2<=(x.1:Int))/\Zu (pool.drop x.1) x.2.2.2.1 x.2.2.2.2=Zu pool [] []) (fun x=>pool.length-x.1) (0,_,_,[],[]) ⟨B6 _,A8 _,by simp,rfl⟩ (AS.le_refl _) ?_
 rintro⟨k,qv,nx,m,L⟩⟨hk,hL,g,a⟩;simp only at hk hL g a|-;refine Aa [5,6,10,11,12,13] [100] sr (Ab ?_)
 refine Ao (fun h1=>Ae ?_) (fun h1=>?_)
 ·have c:k<pool.length:=by simp at h1;omega
  have j:k<pv.length:=om;have s:=f k c;have C9:=A7 (k:=k) om;rw [Ax3 c]at a;rw [G9]at s;generalize pool[k]=p at s a;have pm:=Dw p.m;have i:=Adw m p.fam;have u:=A21 g om p.fam;generalize Fc m p.fam=la at i u a;have Pq:IntKind.i64.wrap (la+1)=la+1:=Bb om om;have t:L.length+1<=maxLen/\(L.length+1)*8<=140737488355328:=⟨Aj (show L.length+1<=19 by omega) dc,by omega⟩;refine Ab (Ap (Aa [5,6,8,10,11,12] [8,100] (by simp [s,j]<;>rfl) (Ab (Aa [5,6,8,10,11,12,18] [8,100] sr ?_))))
  refine Ao (fun h2=>?_) (fun h2=>Ae ?_)
  ·refine A9 ?_;refine A2 [5,6,10,11,12] [100] (by simp [C9]<;>rfl) ?_;rw [if_pos (by simpa using h2)]at a;exact⟨(k+1,_,_,m,L),⟨c,by simp only;omega,fun q f=>by have:=g q f;simp only;omega,a⟩,by simp only;omega,AS.le_refl _⟩
  rw [if_neg (by simp at h2;omega)]at a;refine Ab (Ac (Am 5 (by simp [i,-Nj,Pq]<;>rfl) ?_));refine Rt (b:=b) hb rfl rfl rfl sr sr sr rfl Asb rfl sr ?_;refine Ag [5,6,8,10,11,12] [8,100] sr ?_;refine Aa [5,6,8,10,11,12,28] [8,100] sr ?_
  refine Ao (fun o=>?_) (fun o=>Ae ?_)
  ·refine A2 [5,6,10,11,12] [100] (by simp [t]<;>rfl) (A2 [5,6,10,11,12] [100] (by simp [C9]<;>rfl) ?_);rw [if_pos (by simpa using o)]at a;exact⟨(k+1,_,_,(p.fam,la+1)::m,L++[p.fam]),⟨c,by simp;omega,fun q f=>(Cg.1 f).elim (fun e=>by subst e;simp only;omega) (fun e=>by have:=g q e;simp only;omega),a⟩,by simp only;omega,by simp only [Qy,Zn,Bi,Bc,B0];exact AS.le_refl _⟩
  refine A2 [5,6,10,11,12] [100] (by simp [C9]<;>rfl) ?_;rw [if_neg (by simpa using o)]at a;exact⟨(k+1,_,_,(p.fam,la+1)::m,L),⟨c,by simp only;omega,fun q f=>(Cg.1 f).elim (fun e=>by subst e;simp only;omega) (fun e=>by have:=g q e;simp only;omega),a⟩,by simp only;omega,AS.le_refl _⟩
 ·refine A9 ?_;have y:k=pool.length:=by simp at h1;omega
  rw [y,Ca,Zu]at a;subst a;simp only [B0]at l;generalize Zu pool [] []=L at*;have w:=Afq L om;have f1:=Sq L;have z:=Sq (Kw L);have n:=Af (Kw L);have l1:=A5 L;have l2:=A5 (Kw L);have l3:=Oz L;refine Ab (Ac (Am 1 sr ?_));refine V2 (d:=100) (v:=qv) w f1 z func101 rfl kr rfl rfl rfl sr sr sr ?_;refine Ag [6] [100] sr ?_;refine Aa [4] [100] sr ?_;exact Ak (Ad (by simp [results381,n,l3]<;>rfl) (rfl))
theorem Ax4{d v sz:Nat}{es:List V}{c:V}(h:c.pureC=true):c.frzC d v sz es=c:=by
 cases c<;>first|rfl|simp [V.pureC]at h
theorem Ao0{l:List V}{f:V->V}(h:∀c∈l,f c=c):l.map f=l:=by
 induction l with
 |nil=>rfl
 |cons x r ih=>rw [Cw,h x (Fa ..),ih fun c a=>h c (D7 _ a)]
theorem Ajo(d v sz:Nat)(es:List V){e:V}(h:e.pureE=true):e.frz d v sz es=e:=by
 have a:∀c∈e.cells,c.pureC=true:=Ax.1 h;cases e with
 |agg cs=>
  have h2:cs.map (V.frzC d v sz es)=cs:=Ao0 fun c h1=>Ax4 (a c h1)
  simp only [V.frz,h2]
 |_ =>first|rfl|(have f:=a _ (By.2 rfl);simp [V.pureC]at f)
theorem F4{l:List V}(h:l.all V.pureE=true)(d v sz:Nat)(es:List V):l.map (V.frz d v sz es)=l:=Ao0 fun c a=>Ajo d v sz es (Ax.1 h c a)
def U9(pool:List Pit)(vars:Nat)(f:Int):Rw:=⟨J2 pool vars fun p=>J1 (decide (p.fam=f)),0,1⟩
def L4(pool:List Pit)(vars:Nat)(a:List Int):List Rw:=a.map (U9 pool vars)
theorem Alq{pool:List Pit}{vars:Nat}{a:List Int}{k:Nat}(h:k<a.length):L4 pool vars (a.take (k+1))=L4 pool vars (a.take k)++[U9 pool vars a[k]]:=U5 _ h
theorem Acs(pool:List Pit)(vars:Nat)(a:List Int):(L4 pool vars a).length=a.length:=by simp [L4]
theorem A22(len:Int)(rs:List Ru)(pool:List Pit)(vars m:Nat)(h:frOk pool vars m)(z:pool.length<=18):AC prog 380 [.agg [],frV len rs pool vars m] (fun r=>r=.ro 3 (Hq (L4 pool vars (Ahy pool)))):=by
 have j:=Aoz pool z
 have af:(Ahy pool).length<=18:=by
  have:=U8 pool [] [];rw [Ahy,Oz];simp only [B0]at this;omega
 have c:=fun(f:Int)=>X4 len rs pool vars m 382 [] [.rp (.int .i64 f)] (fun p=>J1 (decide (p.fam=f))) 0 1 h.le h.small (fun p _ =>Zt (args:=[p.v]) (us:=[]) (vs:=[.rp (.int .i64 f)]) (r:=.int .i64 (J1 (decide (p.fam=f)))) (Bcb f p) func382 kr rfl)
 change∀f,AC _ _ _ (fun r=>r=(U9 pool vars f).v)at c;have s:=fun(f:Int)=>Af (U9 pool vars f).coef
 have ab:=fun(k:Nat)(o:k<(Ahy pool).length)=>Alq (pool:=pool) (vars:=vars) o
 generalize Ahy pool=a at*;have hq:=fun(k:Nat)(h:k<a.length)=>Fj h
 have lq:=A5 a;have pl:=B4 pool;have pr:=Cq rs;simp only [R1]at c;rw [R1];generalize ae:B8 pool=pv at*;generalize Ee rs=rv,As a=fv at*;refine Ay func380 (fun w0 N0=>?_);refine Aa [2,3] [2,3] sr (Aa [2,3,5] [2,3] sr (Ab (Ab (Ac (Am 3 sr ?_)))));refine Ai j func381 ?_ (hp:=by simp);refine Ag [3,5,12,13,14] [3] sr ?_;refine F5 5 100 3 339 [3,5,12,13,14] [3,100] sr sr ?_;refine Ap ?_
 refine Dr (fun x:Nat × Nat × Nat=>⟨[(3,V.bp 3 (1) 5 0 0),(5,.sl 100 x.2.1 3 (L4 pool vars (a.take x.1)).length),(12,.ro 1 fv),(13,.int .i64 fv.length),(14,V.int .i64 (x.1:Nat))],[(3,{ v:=1,sz:=5,ty:=333,es:=[V.agg [V.int .i64 len,V.ro 5 rv,V.ro 9 pv,V.int .i64 vars,V.int .i64 m]]}),(100,⟨x.2.1,3,339,Hq (L4 pool vars (a.take x.1))⟩)],x.2.2,27⟩)
  (fun x=>x.1<=a.length) (fun x=>a.length-x.1) (0,_,_) (B6 _) (AS.le_refl _) ?_
 rintro⟨k,qv,nx⟩o;simp only at o|-;refine Aa [3,5,12,13,14,15] [3,100] sr (Ab ?_)
 refine Ao (fun h1=>Ae ?_) (fun h1=>?_)
 ·have g:k<a.length:=by simp at h1;omega
  have l:k<fv.length:=om;have ga:=hq k g;have C9:=A7 (k:=k) om;have d:=ab k g;have y:(L4 pool vars (a.take k)).length<=18:=by rw [Acs];simp;omega
  generalize a[k]=f at ga d;have e:=c f;have pc:=s f;rw [show(U9 pool vars f).v=.agg [.ro 1 (As (U9 pool vars f).coef),.int .i64 0,.int .i64 1]from rfl]at e;generalize L4 pool vars (a.take k)=i at d y|-;have aa:i.length+1<=maxLen/\(i.length+1)*40<=140737488355328:=⟨Aj (show i.length+1<=19 by omega) dc,by omega⟩;have w:Hq (L4 pool vars (a.take (k+1)))=Hq i++[.agg [.ro 1 (As (U9 pool vars f).coef),.int .i64 0,.int .i64 1]]:=by rw [d,Afz];rfl
  have u:(L4 pool vars (a.take (k+1))).length=i.length+1:=by rw [d,Bi];rfl
  generalize As (U9 pool vars f).coef=cv at*;refine Ab (Ap (Aa [3,5,7,12,13,14] [3,7,100] (by simp [ga,l]<;>rfl) ?_));have t:=F4 (Hb i);refine Bt 7 [3,5,7,12,13,14] [3,100] (by simp [t]<;>rfl) (Aa [3,5,8,12,13,14] [3,100] sr (Ac (Am 3 sr ?_)));refine Ai e func265 ?_ (hp:=by simp);refine Ag [3,5,12,13,14] [3,100] (by simp [aa]<;>rfl) ?_;refine A2 [3,5,12,13,14] [3,100] (by simp [C9]<;>rfl) ?_;exact⟨(k+1,_,_),g,by simp only;omega,by simp only [w,u];exact AS.le_refl _⟩
 ·refine A9 ?_;have ad:k=a.length:=by simp at h1;omega
  subst ad;simp only [Bo];have n:=Hb (L4 pool vars a);refine Aa [4] [100] sr ?_;exact Ak (Ad (by simp [results380,n]<;>rfl) (rfl))
end Go.Proofs.YtpaccopbbffkaaaGreatDoor
namespace Go.Proofs
open Go.Shelf
def Tryz.sortPairs_ren:Go.Shelf.Ren:=⟨fun|6=>308|15=>146|14=>312|28=>188|29=>189|20=>314|21=>315|22=>316|23=>317|24=>318|25=>319|26=>320|27=>321|46=>323|47=>221|48=>222|49=>324|50=>325|57=>326|n=>n,fun|22=>28|24=>368|25=>403|3=>3|39=>246|0=>0|53=>149|55=>42|4=>4|46=>282|45=>281|50=>261|5=>5|9=>9|66=>320|70=>324|76=>352|77=>353|n=>n,fun|n=>n⟩
theorem Tryz.sortPairs:Go.Proofs.SlLaysF0.n6 prog sortPairs_ren:={
 mixed:=by kernel_rfl
 f6:=⟨Tryz.f308.name,by decide,func308.trans (congrArg some kr)⟩
 f14:=⟨Tryz.f312.name,by decide,func312.trans (congrArg some kr)⟩
 f15:=func146.trans (congrArg some kr)
 f20:=⟨Tryz.f314.name,by decide,func314.trans (congrArg some kr)⟩
 f21:=⟨Tryz.f315.name,by decide,func315.trans (congrArg some kr)⟩
 f22:=⟨Tryz.f316.name,by decide,func316.trans (congrArg some kr)⟩
 f23:=⟨Tryz.f317.name,by decide,func317.trans (congrArg some kr)⟩
 f24:=⟨Tryz.f318.name,by decide,func318.trans (congrArg some kr)⟩
 f25:=⟨Tryz.f319.name,by decide,func319.trans (congrArg some kr)⟩
 f26:=⟨Tryz.f320.name,by decide,func320.trans (congrArg some kr)⟩
 f27:=⟨Tryz.f321.name,by decide,func321.trans (congrArg some kr)⟩
 f28:=func188.trans (congrArg some kr)
 f29:=func189.trans (congrArg some kr)
 f46:=⟨Tryz.f323.name,by decide,func323.trans (congrArg some kr)⟩
 f47:=func221.trans (congrArg some kr)
 f48:=func222.trans (congrArg some kr)
 f49:=⟨Tryz.f324.name,by decide,func324.trans (congrArg some kr)⟩
 f50:=⟨Tryz.f325.name,by decide,func325.trans (congrArg some kr)⟩
 f57:=⟨Tryz.f326.name,by decide,func326.trans (congrArg some kr)⟩
 t0:=underlying0
 a0:=isAgg0
 z0:=sizeOf0
 v0:=zeroValue0
 t3:=underlying3
 a3:=isAgg3
 z3:=sizeOf3
 v3:=zeroValue3
 t4:=underlying4
 a4:=isAgg4
 z4:=sizeOf4
 v4:=zeroValue4
 t5:=underlying5
 a5:=isAgg5
 z5:=sizeOf5
 v5:=zeroValue5
 t9:=underlying9
 a9:=isAgg9
 z9:=sizeOf9
 v9:=zeroValue9
 t22:=underlying28
 a22:=isAgg28
 z22:=sizeOf28
 v22:=zeroValue28
 t25:=underlying403
 a25:=isAgg403
 z25:=sizeOf403
 v25:=zeroValue403
 t39:=underlying246
 a39:=isAgg246
 z39:=sizeOf246
 v39:=zeroValue246
 t45:=underlying281
 a45:=isAgg281
 z45:=sizeOf281
 v45:=zeroValue281
 t46:=underlying282
 a46:=isAgg282
 z46:=sizeOf282
 v46:=zeroValue282
 t50:=underlying261
 a50:=isAgg261
 z50:=sizeOf261
 v50:=zeroValue261
 t53:=underlying149
 a53:=isAgg149
 z53:=sizeOf149
 v53:=zeroValue149
 t55:=underlying42
 a55:=isAgg42
 z55:=sizeOf42
 v55:=zeroValue42
 t66:=underlying320
 a66:=isAgg320
 z66:=sizeOf320
 v66:=zeroValue320
 t70:=underlying324
 a70:=isAgg324
 z70:=sizeOf324
 v70:=zeroValue324
 t76:=underlying352
 a76:=isAgg352
 z76:=sizeOf352
 v76:=zeroValue352
 t77:=underlying353
 a77:=isAgg353
 z77:=sizeOf353
 v77:=zeroValue353}
def Tryz.cmpInt_ren:Go.Shelf.Ren:=⟨fun|5=>159|7=>204|n=>n,fun|22=>3|3=>3|4=>4|n=>n,fun|n=>n⟩
theorem Tryz.cmpInt:Go.Proofs.SlLaysC2.n5 prog cmpInt_ren:={
 mixed:=by kernel_rfl
 f5:=⟨Tryz.f159.name,by decide,func159.trans (congrArg some kr)⟩
 f7:=⟨Tryz.f204.name,by decide,func204.trans (congrArg some kr)⟩
 t3:=underlying3
 a3:=isAgg3
 z3:=sizeOf3
 v3:=zeroValue3
 t4:=underlying4
 a4:=isAgg4
 z4:=sizeOf4
 v4:=zeroValue4
 t22:=underlying3
 a22:=isAgg3
 z22:=sizeOf3
 v22:=zeroValue3}
end Go.Proofs
namespace Go.Proofs
open Go.RowKit
theorem Tryz.or2(b off:Nat)(A C r:Int)(m:A=0->r=C)(l:A≠0->r=A)(w:World)(j:w.cell? ⟨b,off,none⟩=some (.int .i64 A))(h1:w.cell? ⟨b,off+1,none⟩=some (.int .i64 C)):
  Calls prog 158 #[.slice (some ⟨b,off,none⟩) 2 2] w fun e w'=>e=.returned (.int .i64 r)/\w'=w:=by
 go_enter func158,ntmps158
 go_wp2
 go_loop [8] (fun i=>∃k:Nat,k<=2/\i=.int .i64 k/\(0<k->A=0)/\(1<k->C=0)) (fun i=>2-(intOf i).toNat)
 case atStart=>exact⟨0,by omega,rfl,by omega,by omega⟩
 case round=>
  obtain⟨k,hk,rfl,hA,hC⟩:=hrel;obtain⟨z,d,c⟩:∃z,(k=0->z=A)/\(k=1->z=C):=⟨if k=0 then A else C,by intro h;simp [h],by intro h;simp [h]⟩
  have g:(k:Int)<2->w.cell? ⟨b,off+k,none⟩=some (.int .i64 z):=by
   intro h
   rcases Dn k 1 with h2|h2
   ·have:k=0:=om;subst this;rw [d rfl];simpa using j
   ·have:k=1:=om;subst this;rw [c rfl];simpa using h1
  clear j h1
  go_wp2
  ·have f:z≠0:=by simpa using ‹(z != 0)=true›
   have a:(k:Int)<2:=by assumption
   have:z=r:=om
   go_ret
   exact⟨by rw [this];rfl,rfl⟩
  ·have f:z=0:=by simpa using ‹(z != 0)=false›
   have a:(k:Int)<2:=by assumption
   refine⟨⟨k+1,by omega,?_,by omega,by omega⟩,?_⟩
   ·simp
   ·simp [intOf];omega
  ·have a:¬(k:Int)<2:=om;have:r=0:=om
   go_ret
   exact⟨by rw [this];rfl,rfl⟩
theorem Tryz.cmp159(x y:Int)(w:World):Calls prog 159 #[.int .i64 x,.int .i64 y] w fun e w'=>e=.returned (.int .i64 (Lib.compareInt x y))/\w'=w:=AnyG.cmp_Compare_int cmpInt x y w
theorem Ao1(V:World)(a:Array Value)(T n:Nat)(c:n=V.heap.size)(k:Nat)(v:Value)(h:a[k]? =some v):((V.alloc (.cells a T)).drew).cell? ⟨n,k,none⟩=some v:=by
 show(V.alloc (.cells a T)).cell? ⟨n,k,none⟩=some v
 subst c;have d:(V.alloc (.cells a T)).heap[V.heap.size]? =some (.cells a T):=heap_alloc_new V _;simp only [World.cell?,d,h];rfl
open Go.Sort in
def GR(W w':World):Prop:=∃q os',w'=grow (W.drewN q) os'
open Go.Sort in
theorem GR.refl(W:World):GR W W:=⟨0,#[],by rw [grow_empty];rfl⟩
open Go.Sort in
theorem GR.alloc{W w:World}(h:GR W w)(o:Obj):GR W (w.alloc o):=by
 obtain⟨q,os,rfl⟩:=h;exact⟨q,os++ #[o],by rw [alloc_eq_grow,grow_grow]⟩
open Go.Sort in
theorem GR.drew{W w:World}(h:GR W w):GR W w.drew:=by
 obtain⟨q,os,rfl⟩:=h;exact⟨q+1,os,rfl⟩
open Go.Sort in
set_option maxRecDepth 8000 in
theorem Tryz.closure309(x1 x2 y1 y2 a b r:Int)(ha:Lib.compareInt x1 y1=a)(hb:Lib.compareInt x2 y2=b)(hr1:a=0->r=b)(hr2:a≠0->r=a)(W:World):Calls prog 309 #[.agg #[.int .i64 x1,.int .i64 x2],.agg #[.int .i64 y1,.int .i64 y2]] W fun e w'=>e=.returned (.int .i64 r)/\∃q os',w'=grow (W.drewN q) os':=by
 have h1:=fun W'=>cmp159 x1 y1 W'
 have h2:=fun W'=>cmp159 x2 y2 W'
 rw [ha]at h1;rw [hb]at h2
 go_enter func309,ntmps309
 go_wp
 go_region_held3 (fun w'=>w'.cell? ⟨W.heap.size,0,none⟩=some (.int .i64 x1)/\w'.cell? ⟨W.heap.size,1,none⟩=some (.int .i64 x2)/\w'.cell? ⟨W.heap.size+1,0,none⟩=some (.int .i64 y1)/\w'.cell? ⟨W.heap.size+1,1,none⟩=some (.int .i64 y2)) (go_keep)
  (first
   |(go_at_call_of 159 (Value.int .i64 x1);refine(h1 _).mono ?_;rintro e w'⟨rfl,rfl⟩)
   |(go_at_call_of 159 (Value.int .i64 x2);refine(h2 _).mono ?_;rintro e w'⟨rfl,rfl⟩)
   |(go_at_call 158;refine(or2 _ _ a b r hr1 hr2 _ ?_ ?_).mono ?_;(exact Ao1 _ _ _ _ sm _ _ rfl);(exact Ao1 _ _ _ _ sm _ _ rfl);rintro e w'⟨rfl,rfl⟩))
 all_goals go_wp2
 all_goals go_ret
 all_goals refine⟨rfl,?_⟩
 all_goals(repeat(first|exact GR.refl _ |apply GR.drew|apply GR.alloc))
end Go.Proofs
set_option linter.unusedSimpArgs false
set_option maxRecDepth 4000
namespace Go.Proofs.YtpaccopbbffkaaaGreatDoor
open Go.Eng Go.Eng.Limb Go.RowKit Go.Sort
def Asj(x y:Int × Int):Int:=if Lib.compareInt x.1 y.1=0 then Lib.compareInt x.2 y.2 else Lib.compareInt x.1 y.1
def ltP(x y:Int × Int):Bool:=decide (x.1<y.1\/(x.1=y.1/\x.2<y.2))
def leP(x y:Int × Int):Bool:=decide (x.1<y.1\/(x.1=y.1/\x.2<=y.2))
theorem Ajp:ltOf Asj=ltP:=by
 funext x y
 have c:∀a b:Int,(Lib.compareInt a b=0↔a=b)/\(Lib.compareInt a b<0↔a<b):=by
  intro a b;unfold Lib.compareInt
  by_cases h1:a<b
  ·simp [h1];omega
  ·by_cases h2:b<a
   ·simp [h1,h2];omega
   ·simp [h1,h2];omega
 unfold ltOf Asj ltP;have h1:=c x.1 y.1;have h2:=c x.2 y.2
 by_cases h:x.1=y.1
 ·rw [if_pos (h1.1.2 h)];simp only [h2.2];congr 1;simp [h]
 ·rw [if_neg (fun e=>h (h1.1.1 e))];simp only [h1.2];congr 1;simp [h]
theorem Bfn:SWO ltP where
 irrefl x:=by simp [ltP]
 trans x y z h1 h2:=by simp only [ltP,decide_eq_true_eq]at*;omega
 ntrans x y z h1 h2:=by simp only [ltP,decide_eq_false_iff_not]at*;omega
def X5(x:Int × Int):List Value:=[.int .i64 x.1,.int .i64 x.2]
theorem A23(blk off a:Nat)(w:World):CmpLays prog 309 #[] X5 2 Asj blk off a w:=by
 intro m os dk _ x y;exact closure309 x.1 x.2 y.1 y.2 _ _ (Asj x y) rfl rfl (fun h=>by unfold Asj;rw [if_pos h]) (fun h=>by unfold Asj;rw [if_neg h]) _
theorem Ao2{w:World}{g n:Nat}{f:Array Obj}(d:Array Value):w.grownBy (grow (putRow id (Sort.ahead w n) g 0 d) f) (some g):=by
 refine⟨rfl,rfl,rfl,by simp,fun k c a=>?_⟩;rw [heap_grow_old _ _ (by simpa using c)];have:g≠k:=fun e=>a (by rw [e])
 simp [putRow,mapBlock,Sort.ahead,La,this]
theorem A24{w:World}{g n:Nat}{i:Array Obj}{a:Array Value}{e:TypeId}{c:Nat × Nat}(d:Array Value)(f:w.heap[g]? =some (.cells a e c)):
  (grow (putRow id (Sort.ahead w n) g 0 d) i).heap[g]? =some (.cells (putCells id 0 d a) e c):=by
 have h:g<w.heap.size:=(B5.1 f).1;rw [heap_grow_old _ _ (by simpa using h)];simp [putRow,mapBlock,Sort.ahead,La,f,onCells]
theorem Asl(l:List (Int × Int)):∀e∈A0 l,e.fits 2:=by
 intro x a;simp only [A0,Bk]at a;obtain⟨h,_,rfl⟩:=a;exact⟨rfl,by simp [V.cells,V.isCell]⟩
theorem Abn{l:List (Int × Int)}{k:Nat}(h:k<l.length):(A0 l)[k]? =some (.agg [.int .i64 l[k].1,.int .i64 l[k].2]):=by simp [A0,h]
theorem Asm{w:World}{g e:Nat}{ty:TypeId}{l:List (Int × Int)}(h:Ack w g ty 2 e (A0 l)):HoldsK X5 2 w g 0 l.toArray/\g<w.heap.size/\∃a,w.heap[g]? =some (.cells a ty (0,0))/\a.size=e*2:=by
 obtain⟨h1,h2,a,c,r,o⟩:=h;refine⟨fun j k=>?_,(B5.1 c).1,a,c,r⟩;rw [size_flatK,C8]at k;have i:j/2<l.length:=om
 have n:(flatK X5 2 l.toArray)[j]! =(X5 l[j/2])[j%2]! :=by
  rw [get_flatK X5 2 l.toArray j (by simpa using k)];simp [i]
 have m:j/2*2+j%2=j:=om
 rcases(by omega:j%2=0\/j%2=1)with f|f
 ·obtain⟨x,d,hp⟩:=o (j/2) _ (j%2) (.int .i64 l[j/2].1) (Abn i) (by rw [f];rfl);rw [m]at d;cases hp
  rw [n,f];exact⟨by simp [World.cell?,c,d,X5],by simp [World.frozen?,c]⟩
 ·obtain⟨x,d,hp⟩:=o (j/2) _ (j%2) (.int .i64 l[j/2].2) (Abn i) (by rw [f];rfl);rw [m]at d;cases hp
  rw [n,f];exact⟨by simp [World.cell?,c,d,X5],by simp [World.frozen?,c]⟩
theorem A25{w:World}{g d n:Nat}{ty:TypeId}{r:Array Obj}{a:Array Value}{l:List (Int × Int)}(u:w.heap[g]? =some (.cells a ty (0,0)))(hs:a.size=d*2)(s:l.length<=d):
  Ack (grow (putRow id (Sort.ahead w n) g 0 (flatK X5 2 l.toArray)) r) g ty 2 d (A0 l):=by
 refine⟨by rw [Dq];exact s,Asl l,_,A24 _ u,by simp [putCells,hs],fun k e j c f h=>?_⟩;have i:k<l.length:=by have:=(Aq.1 f).1;simpa using this
 rw [Abn i]at f;injection f with f;subst f;have m:j<2:=by have:=(Aq.1 h).1;simpa [V.cells]using this
 have t:(flatK X5 2 l.toArray)[k*2+j]! =(X5 l[k])[j]! :=by
  rw [get_flatK X5 2 l.toArray (k*2+j) so,show(k*2+j)/2=k by omega,show(k*2+j)%2=j by omega];simp [i]
 have o:(putCells id 0 (flatK X5 2 l.toArray) a)[k*2+j]? =some ((X5 l[k])[j]!):=by
  rw [putCells,Array.getElem?_mapIdx,Array.getElem?_eq_getElem (show k*2+j<a.size by omega)];simp only [Is,size_flatK,C8,Ds,Kv,id];rw [if_pos om,t]
 refine⟨_,o,?_⟩
 rcases(by omega:j=0\/j=1)with rfl|rfl
 ·simp only [V.cells,Dg,Av]at h;subst h;exact .int _ _
 ·simp only [V.cells,Gj,Dg,Av]at h;subst h;exact .int _ _
def Ri(l:List (Int × Int)):List (Int × Int):=l.mergeSort leP
theorem A26{l m:List (Int × Int)}(hp:m.Perm l)(hs:m.Pairwise fun x y=>leP x y=true):m=Ri l:=by
 refine List.Perm.eq_of_pairwise (le:=fun x y=>leP x y=true) (fun a b _ _ h1 h2=>?_) hs (List.pairwise_mergeSort (fun a b c h1 h2=>?_) (fun a b=>?_) l) (hp.trans (List.mergeSort_perm l leP).symm)
 ·simp only [leP,decide_eq_true_eq]at h1 h2;exact Prod.ext om om
 ·simp only [leP,decide_eq_true_eq]at*;omega
 ·simp only [leP,Gu,decide_eq_true_eq];omega
theorem Ahz{d:Array (Int × Int)}(h:SortedIn ltP 0 d.size d):d.toList.Pairwise fun x y=>leP x y=true:=by
 rw [G6];intro i j e c a;have:=h i j (B6 _) a (by simpa using c);have g:d[j]! =d.toList[j]:=by rw [getElem!_pos d j (by simpa using c)];simp
 have f:d[i]! =d.toList[i]:=by rw [getElem!_pos d i (by simpa using e)];simp
 rw [g,f]at this;simp only [ltP,decide_eq_false_iff_not]at this;simp only [leP,decide_eq_true_eq];omega
theorem Asn(l:List (Int × Int))(hz:l.length<=17592186044416):Beh prog 308 309 2 368 (A0 l) (A0 (Ri l)) (fun _ _ =>.tup []):=by
 have eg:∀args w,(callFunc 309 args).run prog w=.ok (.enter 309 args) w:=enters_of func309 kr rfl
 refine⟨fun w g j r c=>?_,fun he=>?_⟩
 ·obtain⟨t,u,z,hb,hs⟩:=Asm c;have i:=c.1;rw [Dq]at i|-;have a:=AnyQ.slices_SortFunc sortPairs 2 isAgg368 sizeOf368 X5 (fun _ =>rfl) (fun x v s=>by simp [X5]at s;rcases s with rfl|rfl<;>rfl) Asj (by rw [Ajp];exact Bfn) 309 #[] g 0 j l.toArray w eg (A23 g 0 _ w) t u so;rw [Ajp]at a;refine a.mono ?_;rintro e w'⟨rfl,h,n,os,hp,o,rfl⟩;have hd:h.size=l.length:=by simpa using hp.1
  have f:h.toList.Perm l:=by
   have h3:=hp.2.2;have y:(h.extract 0 l.toArray.size).toList=h.toList:=by simp;rw [Bf (by simp;omega)]
   have a2:(l.toArray.extract 0 l.toArray.size).toList=l:=sm
   rwa [y,a2]at h3
  have k:h.toList=Ri l:=A26 f (Ahz (by rw [hd];simpa using o));have m:h=(Ri l).toArray:=by rw [<- k]
  subst m;exact⟨_,rfl,Ao2 _,A25 hb hs (by simp [Ri];omega),fun d v μ N' _ =>.pur (.tup [] [] rfl sm)⟩
 ·have:l= []:=by simpa [A0]using he
  subst this;refine⟨by simp [Ri,A0],fun w A=>?_⟩;refine(AnyF.slices_SortFunc_none sortPairs A 0 _ w).mono ?_;rintro e w'⟨rfl,rfl⟩;exact⟨_,rfl,⟨rfl,rfl,rfl,A8 _,fun _ _ _ =>rfl⟩,fun d v μ N' _ =>.pur (.tup [] [] rfl sm)⟩
end Go.Proofs.YtpaccopbbffkaaaGreatDoor
set_option maxRecDepth 4000
namespace Go.Proofs.YtpaccopbbffkaaaGreatDoor
open Go.Eng Go.Eng.Limb
def K7:List (Int × Int)->List (Int × Int)
 | []=>[]
 | [x]=>[x]
 |x::y::r=>if x=y then K7 (y::r)else x::K7 (y::r)
theorem Ajq(y x:Int × Int):∀a:List (Int × Int),K7 (a++[y,x])=K7 (a++[y])++(if y=x then []else [x])
 | []=>by
  show K7 [y,x]=K7 [y]++_
  by_cases h:y=x
  ·subst h;simp [K7]
  ·simp [K7,h]
 |z::a=>by
  have ih:=Ajq y x a
  match a,ih with
  | [],ih=>
   show(if z=y then K7 [y,x]else z::K7 [y,x])=(if z=y then K7 [y]else z::K7 [y])++_
   rw [show K7 [y,x]=_ from ih];split<;>simp
  |b::r,ih=>
   show(if z=b then K7 (b::r++[y,x])else z::K7 (b::r++[y,x]))=(if z=b then K7 (b::r++[y])else z::K7 (b::r++[y]))++_
   rw [ih];split<;>simp
theorem Ajr{l:List (Int × Int)}{m:Nat}(h:m+1<l.length):K7 (l.take (m+2))=K7 (l.take (m+1))++(if l[m]'(by omega)=l[m+1]then []else [l[m+1]]):=by
 have c:l.take (m+2)=l.take m++[l[m]'(by omega),l[m+1]]:=by
  rw [A3 h,A3 (show m<l.length by omega),Cz];rfl
 have a:l.take (m+1)=l.take m++[l[m]'(by omega)]:=A3 om;rw [c,a,Ajq]
theorem Af0:∀l:List (Int × Int),(K7 l).length<=l.length
 | []=>by simp [K7]
 | [x]=>by simp [K7]
 |x::y::r=>by
  have:=Af0 (y::r);rw [K7];split<;>simp only [Bc]at*<;>omega
theorem Bfo(l:List (Int × Int))(i:Nat)(x:Int × Int):(A0 l).set i (.agg [.int .i64 x.1,.int .i64 x.2])=A0 (l.set i x):=by simp [A0,N7]
theorem Au9(a b:Int × Int):(decide (a.1=b.1)&&decide (a.2=b.2))=decide (a=b):=by
 obtain⟨d,f⟩:=a;obtain⟨e,c⟩:=b;by_cases h:d=e<;>by_cases h2:f=c<;>simp [h,h2]
def Beq(v:Nat)(l:List (Int × Int))(r:V)(a:List (Nat × Ob)):Prop:=
 ∃L:List (Int × Int),a= [(100,⟨v,2,368,A0 L⟩)]/\((r=.sl 100 v 2 L.length/\L=K7 l)\/(r=.ss 100 v 2 0 (K7 l).length/\L.take (K7 l).length=K7 l/\(K7 l).length<=L.length))
theorem Abo{fn:Func}{nx k:Nat}{R:V->List (Nat × Ob)->Prop}{E:List PanicEntry->Prop}{S:AS}{r:V}{ob:Ob}(a:nx<=S.nx)(c:Y4 prog S fn.results.toList=some r)(d:Eng.get S.objs k=some ob)(f:R r [(k,ob)]):Ae5 prog fn R E nx .ret S:=
 ⟨a,r,_,c,fun _ _ e=>Dt d e,f⟩
theorem Alr(v:Nat)(l:List (Int × Int))(hl:l.length<=1000000):ACS prog 310 [.sl 100 v 2 l.length] [(100,⟨v,2,368,A0 l⟩)] (Beq v l) (fun _ =>False):=by
 refine Hk func310 (fun w0 N0 af=>?_);refine Aa [0] [100] sr (Ab (Aa [0,8] [100] sr ?_))
 refine Ao (fun h1=>?_) (fun h1=>Ae ?_)
 ·refine Aa [2] [100] sr ?_;refine Ak (Abo sy sr rfl ⟨l,rfl,.inl ⟨rfl,?_⟩⟩);have az:l.length<2:=by simp at h1;omega
  match l,az with
  | [],_ =>rfl
  | [x],_ =>rfl
 have bf:2<=l.length:=by simp at h1;omega
 refine Ab (Aa [0,3] [100] sr (Ap ?_));refine Dr (fun t:Nat × Nat=>⟨[(0,V.sl 100 v 2 l.length),(3,V.int .i64 ((t.1+1:Nat):Int))],[(100,⟨v,2,368,A0 l⟩)],t.2,61⟩) (fun t=>t.1+1<=l.length/\af<=t.2/\K7 (l.take (t.1+1))=l.take (t.1+1)) (fun t=>l.length-t.1) (0,_) ⟨by simp only;omega,by simp only;omega,by rw [A3 om,H0];rfl⟩ (AS.le_refl _) ?_;rintro⟨k,nx⟩⟨hk,a5,hI⟩;simp only at hk a5 hI|-;refine Ab (Aa [0,3,13] [100] sr ?_)
 refine Ao (fun h2=>Ae ?_) (fun h2=>?_)
 ·have r:k+1<l.length:=by simp at h2;omega
  have ba:k+1<(A0 l).length:=by rw [Dq];exact r
  have bb:k<(A0 l).length:=by rw [Dq];omega
  have g1:=Hu r;have g0:=Hu (show k<l.length by omega);have C9:IntKind.i64.wrap (k:Int)=k:=Bb om om;have Pq:IntKind.i64.wrap ((k:Int)+1+1)=(k:Int)+1+1:=Bb om om;have ak:(0:Int)<=(k:Int)+1:=om;have aw:(k:Int)+1<l.length:=om;have a9:(k:Int)<l.length:=om;have ht:=Ajr r;have ag:=Au9 l[k+1] (l[k]'(by omega));generalize a7:l[k+1]=x1 at*;generalize bg:l[k]'(by omega)=x0 at*;refine Ab (Ap (Di [(0,[]),(1,[]),(2,[]),(4,[]),(5,[]),(6,[]),(7,[]),(3,[]),(8,[]),(9,[])] [0,3,25] [100] Dm kr (by simp [g1,g0,C9,ak,aw,a9]<;>rfl) ?_))
  refine Ao (fun h3=>?_) (fun h3=>Ae ?_)
  ·have s:x1=x0:=by rw [<- decide_eq_true_iff (p:=x1=x0),<- ag];simpa using h3
   have hN:l.length-(k+1)+(k+1)=l.length:=om;have a0:(k:Int)+1<=l.length:=om;rw [if_pos s.symm,Dx,hI]at ht;refine Aa [0,3,4] [100] (by simp [ak,a0]<;>rfl) (Ab (Aa [0,3,4,5] [100] sr (Ap ?_)))
   refine Dr (fun t:Nat × Nat × List (Int × Int)× Nat=>⟨[(0,V.sl 100 v 2 l.length),(3,V.int .i64 (t.2.1:Nat)),(4,V.ss 100 v 2 (k+1) (l.length-(k+1))),(5,V.int .i64 ((t.1+1:Nat):Int))],[(100,⟨v,2,368,A0 t.2.2.1⟩)],t.2.2.2,61⟩)
    (fun t=>k+1+(t.1+1)<=l.length/\t.2.2.1.length=l.length/\t.2.1=(K7 (l.take (k+1+t.1+1))).length/\t.2.2.1.take t.2.1=K7 (l.take (k+1+t.1+1))/\t.2.1<=k+1+t.1/\(∀q,k+1+t.1<=q->t.2.2.1[q]? =l[q]?)/\af<=t.2.2.2)
    (fun t=>l.length-t.1) (0,k+1,l,_) ⟨by simp only;omega,rfl,by simp only [Ea];rw [ht,B9];omega,by simp only [Ea];rw [ht],by simp only;omega,fun _ _ =>rfl,by simp only;omega⟩ (AS.le_refl _) ?_
   rintro⟨a,c,L,bi⟩⟨hj,o,i,j,ay,n,ae⟩;simp only at hj o i j ay n ae|-;have be:((l.length-(k+1):Nat):Int)=(l.length:Int)-(k+1):=om;refine Ab (Aa [0,3,4,5,32] [100] sr ?_)
   refine Ao (fun h4=>Ae ?_) (fun h4=>?_)
   ·have a1:k+1+(a+1)<l.length:=by simp at h4;omega
    have q1:=n (k+1+(a+1)) om;have q0:=n (k+1+a) om;rw [Al om,Al a1]at q1;rw [Al om,Al (show k+1+a<l.length by omega)]at q0;injection q1 with q1;injection q0 with q0;have u:=Hu (l:=L) (k:=k+1+(a+1)) om;have aq:=Hu (l:=L) (k:=k+1+a) om;rw [q1]at u;rw [q0]at aq;have h:=Ajr (l:=l) (m:=k+1+a) om;have ab:=Au9 (l[k+1+(a+1)]) (l[k+1+a]'(by omega));have ax:=Bfo L c (l[k+1+(a+1)]);have ad:(L.set c (l[k+1+(a+1)])).length=l.length:=by rw [H5];exact o
    have a4:(L.set c (l[k+1+(a+1)])).take (c+1)=L.take c++[l[k+1+(a+1)]]:=by
     rw [A3 (by rw [ad];omega),List.getElem_set_self,List.take_set_of_le (A8 _)]
    have ar:∀q,c<q->(L.set c (l[k+1+(a+1)]))[q]? =L[q]? :=fun q hq=>Ik om
    have f:k+1+a+1=k+1+(a+1):=om;have w:k+1+a+2=k+1+(a+1)+1:=om;simp only [f,w]at h j i;have ai:Hs (A0 L) c=some (.agg [.int .i64 (L[c]'(by omega)).1,.int .i64 (L[c]'(by omega)).2]):=Hu om;generalize(L[c]'(by omega))=yo at ai;generalize l[k+1+(a+1)]=y,l[k+1+a]'(by omega)=y0 at*;generalize L.set c y=L' at*;have av:IntKind.i64.wrap (a:Int)=a:=Bb om om;have ah:IntKind.i64.wrap ((a:Int)+1+1)=(a:Int)+1+1:=Bb om om;have a2:IntKind.i64.wrap ((c:Int)+1)=(c:Int)+1:=Bb om om;have am:(0:Int)<=(a:Int)+1:=om;have an:(a:Int)+1<((l.length-(k+1):Nat):Int):=om;have au:(a:Int)<((l.length-(k+1):Nat):Int):=om;have a6:(c:Int)<l.length:=om;have al:=Dq L;refine Ab (Ap (Di [(0,[]),(1,[]),(2,[]),(4,[]),(5,[]),(6,[]),(7,[]),(3,[]),(8,[]),(9,[])] [0,3,4,5,44] [100] Dm kr (by simp [u,aq,av,am,an,au]<;>rfl) ?_));have ao:(!decide (y.1=y0.1)|| !decide (y.2=y0.2))= !decide (y=y0):=by rw [<- ab,Bool.not_and]
    refine Ao (fun h5=>?_) (fun h5=>Ae ?_)
    ·have aj:¬y=y0:=by rw [ao]at h5;simpa using h5
     rw [if_neg (fun e=>aj e.symm)]at h;refine Aa [0,3,4,5] [100] (by simp [u,am,an,a6,ai,ax]<;>rfl) (A2 [0,3,4,5] [100] (by simp [a2]<;>rfl) (A2 [0,3,4,5] [100] (by simp [ah]<;>rfl) ?_));exact⟨(a+1,c+1,L',_),⟨by simp only;omega,ad,by simp only [];rw [h,Bi,<- i];rfl,by simp only [];rw [h,a4,j],by simp only;omega,fun q hq=>by rw [ar q (by omega)];exact n q om,by simp only;omega⟩,by simp only;omega,AS.le_refl _⟩
    have a3:y=y0:=by rw [ao]at h5;simpa using h5
    rw [if_pos a3.symm,Dx]at h;refine A2 [0,3,4,5] [100] (by simp [ah]<;>rfl) ?_;exact⟨(a+1,c,L,_),⟨by simp only;omega,o,by simp only [];rw [h];exact i,by simp only [];rw [h];exact j,by simp only;omega,fun q hq=>n q om,by simp only;omega⟩,by simp only;omega,AS.le_refl _⟩
   ·refine A9 ?_;have bh:k+1+(a+1)=l.length:=by simp at h4;omega
    have g:l.take (k+1+a+1)=l:=Bf om;rw [g]at i j;have bd:=Af0 l;have al:=Dq L;have aa:(c:Int)<=l.length:=om;have bc:c<=l.length:=om;have a8:(A0 L).take c=A0 (K7 l):=by rw [<- j];simp [A0,Jz]
    refine Ab (Ac (Am 3 (by simp [aa]<;>rfl) ?_));refine Aww (d:=100) (off:=c) (len:=l.length-c) (ob:=⟨v,2,368,A0 L⟩) (te:=368) (z:=.agg #[.int .i64 0,.int .i64 0]) rfl rfl rfl sm gt (by simp [o];omega) sm zeroValue368 rfl (by simp [Value.cells,Value.oneCell']) (by simp [a8]<;>rfl) ?_;refine Ag [0,3] [100] sr ?_;refine Aa [2] [100] (by simp [aa]<;>rfl) ?_;exact Ak (Abo sy sr rfl ⟨K7 l,rfl,.inr ⟨by rw [i],Bo,A8 _⟩⟩)
  have s:¬x1=x0:=by rw [<- decide_eq_true_iff (p:=x1=x0),<- ag,h3];decide
  rw [if_neg (fun e=>s e.symm),hI]at ht;refine A2 [0,3] [100] (by simp [Pq]<;>rfl) ?_;exact⟨(k+1,_),⟨by simp only;omega,by simp only;omega,by rw [ht,A3 (show k+1<l.length by omega),a7]⟩,by simp only;omega,AS.le_refl _⟩
 ·refine A9 ?_;have bj:k+1=l.length:=by simp at h2;omega
  have g:l.take (k+1)=l:=Bf om;rw [g]at hI;refine Aa [2] [100] sr ?_;exact Ak (Abo sy sr rfl ⟨l,rfl,.inl ⟨rfl,hI.symm⟩⟩)
set_option linter.unusedSimpArgs false
def Ax5(p:Int × Int):Bool:=decide (p.1≠p.2)
def Af1(l:List (Int × Int)):List (Int × Int):=(l.filter Ax5).map fun p=>A2v p.1 p.2
theorem Ax6{l:List (Int × Int)}{k:Nat}(h:k<l.length):Af1 (l.take (k+1))=Af1 (l.take k)++(if Ax5 l[k]=true then [A2v l[k].1 l[k].2]else []):=by
 unfold Af1;rw [U4 Ax5 h,Ck]
 congr 1
 by_cases a:Ax5 l[k]=true<;>simp [a]
theorem Af2(l:List (Int × Int)):(Af1 l).length<=l.length:=by unfold Af1;rw [Eo];exact Gd _ _
def Ao3(l:List (Int × Int)):List (Int × Int):=K7 (Ri (Af1 l))
theorem Abp(l:List (Int × Int)):(Ri l).length=l.length:=by simp [Ri]
theorem Abq(l:List (Int × Int)):(Ao3 l).length<=l.length:=Aj (Af0 _) (by rw [Abp];exact Af2 l)
theorem Af3(a b:List (Int × Int)):A0 (a++b)=A0 a++A0 b:=Ck
theorem Af4(p:Int × Int):A0 [p]= [.agg [.int .i64 p.1,.int .i64 p.2]]:=rfl
theorem flatP(l:List (Int × Int)):(A0 l).all Ml=true:=by
 rw [Ax];intro x a;simp only [A0,Bk]at a;obtain⟨n,_,rfl⟩:=a;rfl
theorem A27(l:List (Int × Int))(hl:l.length<=1000):AC prog 293 [.ro 2 (A0 l)] (fun r=>r=.ro 2 (A0 (Ao3 l))):=by
 have hq:=fun(k:Nat)(h:k<l.length)=>Hu h
 have lq:=Dq l;have u:=fun(k:Nat)(h:k<l.length)=>Ax6 h
 have ag:=Af2 l;unfold Ao3;generalize A0 l=w at*;refine Ay func293 (fun w0 N0=>?_);refine Aa [0] [] sr (Aa [0,3] [] sr (Ab (Aa [3,6,7,8] [] sr ?_)));refine F5 3 100 2 368 [3,6,7,8] [100] sr sr ?_;refine Ap ?_
 refine Dr (fun x:Nat × Nat × Nat=>⟨[(3,.sl 100 x.2.1 2 (Af1 (l.take x.1)).length),(6,V.ro 2 w),(7,V.int .i64 w.length),(8,V.int .i64 (x.1:Nat))],[(100,⟨x.2.1,2,368,A0 (Af1 (l.take x.1))⟩)],x.2.2,30⟩)
  (fun x=>x.1<=l.length) (fun x=>l.length-x.1) (0,_,_) (B6 _) (AS.le_refl _) ?_
 rintro⟨k,qv,nx⟩f;simp only at f|-;refine Aa [3,6,7,8,9] [100] sr (Ab ?_)
 refine Ao (fun h1=>Ae ?_) (fun h1=>?_)
 ·have c:k<l.length:=by simp at h1;omega
  have i:k<w.length:=om;have ga:=hq k c;have C9:=A7 (k:=k) om;have a:=u k c;have s:(Af1 (l.take k)).length<=1000:=Aj (Af2 _) so;generalize l[k]=p at ga a;have g:=Asi p.1 p.2;generalize A2v p.1 p.2=op at*;have e:Ax5 p= !decide (p.1=p.2):=by unfold Ax5;simp
  generalize Af1 (l.take k)=z at a s|-;have t:z.length+1<=maxLen/\(z.length+1)*16<=140737488355328:=⟨Aj (show z.length+1<=1001 by omega) dc,by omega⟩;refine Ab (Ap (Aa [3,5,6,7,8] [5,100] (by simp [ga,i]<;>rfl) (Aa [3,5,6,7,8,16] [5,100] sr ?_)))
  refine Ao (fun h2=>?_) (fun h2=>Ae ?_)
  ·refine Ac (Am 5 sr ?_);refine Ai g func307 ?_;refine Ag [3,6,7,8] [100] (by simp [t]<;>rfl) ?_;refine A2 [3,6,7,8] [100] (by simp [C9]<;>rfl) ?_;rw [if_pos (by rw [e];simpa using h2)]at a;exact⟨(k+1,_,_),c,by simp only;omega,by simp only [a,Af3,Af4,Bi,Bc,B0];exact AS.le_refl _⟩
  refine A2 [3,6,7,8] [100] (by simp [C9]<;>rfl) ?_;rw [if_neg (by rw [e];simp at h2;simp [h2]),Dx]at a;exact⟨(k+1,_,_),c,by simp only;omega,by simp only [a];exact AS.le_refl _⟩
 ·refine A9 ?_;have ad:k=l.length:=by simp at h1;omega
  subst ad;simp only [Bo];generalize Af1 l=L at*;have ab:=Asn L om;have j:=Alr qv (Ri L) (by rw [Abp];omega);have f1:=flatP L;have f2:=flatP (Ri L);have l1:=Dq L;rw [Abp]at j;refine Ab (Ac (Am 1 sr ?_));refine Arp (d:=100) (v:=qv) ab f1 f2 func308 rfl kr rfl rfl rfl rfl sr sr sr ?_;refine Ag [3] [100] sr ?_;refine Ab (Ac (Am 1 sr ?_));refine Et j func310 rfl kr rfl rfl rfl sr (fun k o f=>Dt gt f) ?_ (fun ch m=>m.elim);rintro r ae ah⟨L2,rfl,hr⟩af;refine⟨fun k f=>Mt f,?_⟩;have pL:=A4 (K7 (Ri L))
  rcases hr with⟨rfl,rfl⟩|⟨rfl,aa,y⟩
  ·refine⟨_,by simp<;>rfl,?_⟩;refine Ag [2] [100] sr ?_;exact Ak (Ad (by simp [results293,pL]<;>rfl) rfl)
  ·have n:(A0 L2).take (K7 (Ri L)).length=A0 (K7 (Ri L)):=by rw [<- aa];simp [A0,Jz]
   refine⟨_,by simp<;>rfl,?_⟩;refine Ag [2] [100] sr ?_;exact Ak (Ad (by simp [results293,pL,n,y]<;>rfl) rfl)
@[simp]theorem Als:Yn prog 262=some (.i64,4):=by kernel_rfl
def mB(l:List Int):List (Int × V):=l.map fun x=>(x,.bool true)
theorem A7w(l:List Int)(a:Int):Nj false (.bool false) (G8 a (mB l))=.bool (decide (a∈l)):=by
 induction l with
 |nil=>rfl
 |cons x r ih=>
  simp only [mB,Cw,G8]at ih|-
  by_cases h:x=a
  ·rw [if_pos h];simp [Nj,h]
  ·rw [if_neg h,ih];congr 1;simp [show¬a=x from fun e=>h e.symm]
def Va(ids:List Int)(p:Int × Int):Bool:=decide (p.1∈ids)&&decide (p.2∈ids)
def Nx(l:List (Int × Int))(ids:List Int):List (Int × Int):=(Ao3 l).filter (Va ids)
theorem Alt(l:List (Int × Int))(ids:List Int)(hl:l.length<=1000)(hi:ids.length<=1000):AC prog 267 [.ro 2 (A0 l),.ro 1 (As ids)] (fun r=>r=.ro 2 (A0 (Nx l ids))):=by
 have i:=A27 l hl;have ai:=Abq l;have pl:=A4 l;have hq:=fun(k:Nat)(h:k<ids.length)=>Fj h
 have lq:=A5 ids;have f:∀a,Nj false (.bool false) (G8 a (mB ids.reverse))=.bool (decide (a∈ids)):=fun a=>by rw [A7w];congr 1;simp
 unfold Nx;generalize Ao3 l=N at*;have o:=fun(k:Nat)(h:k<N.length)=>Hu h
 have y:=Dq N;have af:=fun(k:Nat)(h:k<N.length)=>U4 (Va ids) h
 have w:∀k,((N.take k).filter (Va ids)).length<=1000:=fun k=>Aj (Gd _ _) so
 generalize A0 l=lv at*;generalize ag:A0 N=Nv at i o y;generalize As ids=iv at*;refine Ay func267 (fun w0 N0=>?_);refine Aa [0,1] [] sr ?_;refine Ab (Ac (Re .i64 rfl rfl (fun b hb _ =>⟨_,rfl,?_⟩)));refine Ag [0,1,5] [] sr ?_;refine Ab (Aa [0,5,12,13,14] [] sr ?_);refine Ap (Bq (fun k nx=>⟨[(0,V.ro 2 lv),(5,.mp b .i64 (mB (ids.take k).reverse)),(12,V.ro 1 iv),(13,V.int .i64 iv.length),(14,V.int .i64 k)],[],nx,44⟩) (fun k=>True) ids.length _ trivial (AS.le_refl _) ?_);intro k nx hk hI;refine Aa [0,5,12,13,14,15] [] sr ?_;refine Ab ?_
 refine Ao (fun h1=>Ae ?_) (fun h1=>?_)
 ·have c:k<ids.length:=by simp at h1;omega
  have g:k<iv.length:=om;have n:=hq k c;have C9:=A7 (k:=k) om;have m:mB (ids.take (k+1)).reverse=(ids[k],.bool true)::mB (ids.take k).reverse:=by rw [A3 c,List.reverse_append];rfl
  generalize ids[k]=id at n m;refine Ab (Ap (Aa [0,5,7,12,13,14] [] (by simp [n,g]<;>rfl) ?_));refine Ac (Am 2 sr ?_);refine Rt (b:=b) hb rfl rfl rfl sr sr sr rfl Als rfl sr ?_;refine Ag [0,5,12,13,14] [] sr ?_;refine A2 [0,5,12,13,14] [] (by simp [C9]<;>rfl) ?_;exact⟨c,trivial,_,by rw [m];exact AS.le_refl _⟩
 ·refine A9 ?_;have j:k=ids.length:=by simp at h1;omega
  rw [j,Bo];generalize mB ids.reverse=mv at*;refine Aa [0,5,8] [] sr ?_;refine Ab (Ab (Ac (Am 1 sr ?_)));refine Ai i func293 ?_ (hp:=by simp);refine Ag [5,8,22,23,24] [] sr ?_;refine F5 8 100 2 368 [5,8,22,23,24] [100] sr sr ?_;refine Ap ?_
  refine Dr (fun x:Nat × Nat × Nat=>⟨[(5,.mp b .i64 mv),(8,.sl 100 x.2.1 2 ((N.take x.1).filter (Va ids)).length),(22,V.ro 2 Nv),(23,V.int .i64 Nv.length),(24,V.int .i64 (x.1:Nat))],[(100,⟨x.2.1,2,368,A0 ((N.take x.1).filter (Va ids))⟩)],x.2.2,44⟩)
   (fun x=>x.1<=N.length) (fun x=>N.length-x.1) (0,_,_) (B6 _) (AS.le_refl _) ?_
  rintro⟨e,qv,ah⟩ab;simp only at ab|-;refine Aa [5,8,22,23,24,25] [100] sr ?_;refine Ab ?_
  refine Ao (fun h2=>Ae ?_) (fun h2=>?_)
  ·have c:e<N.length:=by simp at h2;omega
   have g:e<Nv.length:=om;have n:=o e c;have C9:=A7 (k:=e) om;have d:=af e c;have z:=w e;generalize N[e]=p at n d;have ae:=f p.1;have aa:=f p.2;have s:Va ids p=(decide (p.1∈ids)&&decide (p.2∈ids)):=rfl;generalize decide (p.1∈ids)=e1 at*;generalize decide (p.2∈ids)=e2 at*;generalize(N.take e).filter (Va ids)=Lk at d z|-;have ad:Lk.length+1<=maxLen/\(Lk.length+1)*16<=140737488355328:=⟨Aj (show Lk.length+1<=1001 by omega) dc,by omega⟩;refine Ab (Ap (Aa [5,8,10,22,23,24] [10,100] (by simp [n,g]<;>rfl) ?_));refine Aa [5,8,10,22,23,24,37] [10,100] (by simp [ae,aa,-Nj]<;>rfl) ?_
   refine Ao (fun t=>?_) (fun t=>Ae ?_)
   ·refine A2 [5,8,22,23,24] [100] (by simp [ad]<;>rfl) ?_;refine A2 [5,8,22,23,24] [100] (by simp [C9]<;>rfl) ?_;rw [if_pos (by rw [s];simpa using t)]at d;exact⟨(e+1,_,_),c,by simp only;omega,by simp only [d,Af3,Af4,Bi,Bc,B0];exact AS.le_refl _⟩
   refine A2 [5,8,22,23,24] [100] (by simp [C9]<;>rfl) ?_;rw [if_neg (by rw [s];intro h;rw [h]at t;simp at t),Dx]at d;exact⟨(e+1,_,_),c,by simp only;omega,by simp only [d];exact AS.le_refl _⟩
  ·refine A9 ?_;have j:e=N.length:=by simp at h2;omega
   subst j;simp only [Bo];have u:=A4 (N.filter (Va ids));refine Aa [4] [100] sr ?_;exact Ak (Ad (by simp [results267,u]<;>rfl) (rfl))
theorem A28:Tg prog 210 "examboard/blueprint.rows" 4 346 0 3:=by
 intro xs w e
 match xs,e with
 | [a,b,c,d],_ =>show _ =_;kernel_rfl
theorem A29:Tg prog 212 "examboard/blueprint.rows" 3 346 0 3:=by
 intro xs w d
 match xs,d with
 | [a,b,c],_ =>show _ =_;kernel_rfl
theorem A3a:Tg prog 213 "examboard/blueprint.rows" 3 346 0 3:=by
 intro xs w d
 match xs,d with
 | [a,b,c],_ =>show _ =_;kernel_rfl
theorem A3b:Tg prog 214 "examboard/blueprint.rows" 3 346 0 3:=by
 intro xs w d
 match xs,d with
 | [a,b,c],_ =>show _ =_;kernel_rfl
theorem A3c:Tg prog 216 "examboard/blueprint.rows" 4 346 0 3:=by
 intro xs w e
 match xs,e with
 | [a,b,c,d],_ =>show _ =_;kernel_rfl
theorem A3d:Tg prog 218 "examboard/blueprint.rows" 3 358 0 3:=by
 intro xs w d
 match xs,d with
 | [a,b,c],_ =>show _ =_;kernel_rfl
theorem A3e:Tg prog 220 "examboard/blueprint.rows" 1 364 0 1:=by
 intro xs w c
 match xs,c with
 | [a],_ =>show _ =_;kernel_rfl
theorem A3f:Tg prog 221 "examboard/blueprint.rows" 1 374 0 1:=by
 intro xs w c
 match xs,c with
 | [a],_ =>show _ =_;kernel_rfl
theorem A3g:Tg prog 223 "examboard/blueprint.rows" 0 380 0 0:=by
 intro xs w a
 match xs,a with
 | [],_ =>show _ =_;kernel_rfl
def L5(rs:List Ru)(pool:List Pit)(vars a:Nat)(r:Ru):List Rw:=
 if r.kind=6 then Ady pool vars a r.mn r.mx r.n
 else if r.kind=7 then Adz pool vars r.n
 else if r.kind=8 then Ad0 rs pool vars r.n
 else if r.kind=9 then L4 pool vars (Ahy pool)
 else [⟨J2 pool vars (Afx r),r.mn,r.mx⟩]
theorem A7x{a b:Int}(h:Afg a b=0):0<=a/\0<=b:=by unfold Afg at h;(repeat' split at h)<;>omega
theorem A3h(len:Int)(rs:List Ru)(pool:List Pit)(vars a:Nat)(r:Ru)(h:frOk pool vars a)(i:pool.length<=18)(l:r.fits=true)(c:Alg r=0)(j:r.kind=6->a<vars):
  ICQ gv prog (X1 r) "examboard/blueprint.rows" [frV len rs pool vars a] (fun x=>x=.ro 3 (Hq (L5 rs pool vars a r))):=by
 unfold X1 Aok Afl L5
 rcases Ai9 l with e|e|e|e|e|e|e|e|e
 ·have f:r.code.length<9223372036854775807:=by
   unfold Alg at c;rw [if_pos e]at c
   split at c
   ·omega
   ·rename_i h2
    have:r.code.length<=24:=by
     have g:Ow r.code=true:=by simpa using h2
     unfold Ow at g;rw [Bm]at g;exact of_decide_eq_true g.1
    omega
  have d:Afx r=fun p=>J1 (Tm p.code r.code):=by funext p;unfold Afx;rw [if_pos e]
  simp only [e,if_true,if_false,Int.reduceEq];rw [d];exact⟨210,_,346,_,0,3,.inl rfl,A28,func346,rfl,by kernel_rfl,(Ajl len rs pool vars a 121 r.v (fun p=>J1 (Tm p.code r.code)) r.mn r.mx h (fun p _ =>Zt (args:=[p.v]) (us:=[]) (vs:=[.rp r.v]) (r:=.int .i64 (J1 (Tm p.code r.code))) (Bb2 r p f) func121 kr rfl)).q gv⟩
 ·have d:Afx r=Pit.wo:=by funext p;unfold Afx;rw [if_neg om,if_pos e]
  simp only [e,if_true,if_false,Int.reduceEq];rw [d];have c:=(Abm len rs pool vars a 124 Pit.wo r.mn r.mx h (fun p _ =>Zt (args:=[p.v]) (us:=[]) (vs:=[]) (r:=.int .i64 p.wo) (Bb3 p) func124 kr rfl)).argsR (args:=[.agg [.int .i64 r.mn,.int .i64 r.mx,.fn 124],frV len rs pool vars a]) (.cons (Bl.agg (.cons (Bl.refl _) (.cons (Bl.refl _) (.cons (Qz 124) .nil)))) (.cons (Bl.refl _) .nil));exact⟨212,_,346,_,0,3,.inl rfl,A29,func346,rfl,by kernel_rfl,c.q gv⟩
 ·have d:Afx r=Pit.se:=by funext p;unfold Afx;rw [if_neg om,if_neg om,if_pos e]
  simp only [e,if_true,if_false,Int.reduceEq];rw [d];have c:=(Abm len rs pool vars a 125 Pit.se r.mn r.mx h (fun p _ =>Zt (args:=[p.v]) (us:=[]) (vs:=[]) (r:=.int .i64 p.se) (Bb4 p) func125 kr rfl)).argsR (args:=[.agg [.int .i64 r.mn,.int .i64 r.mx,.fn 125],frV len rs pool vars a]) (.cons (Bl.agg (.cons (Bl.refl _) (.cons (Bl.refl _) (.cons (Qz 125) .nil)))) (.cons (Bl.refl _) .nil));exact⟨213,_,346,_,0,3,.inl rfl,A3a,func346,rfl,by kernel_rfl,c.q gv⟩
 ·have d:Afx r=Pit.pt:=by funext p;unfold Afx;rw [if_neg om,if_neg om,if_neg om,if_pos e]
  simp only [e,if_true,if_false,Int.reduceEq];rw [d];have c:=(Abm len rs pool vars a 126 Pit.pt r.mn r.mx h (fun p _ =>Zt (args:=[p.v]) (us:=[]) (vs:=[]) (r:=.int .i64 p.pt) (Bb5 p) func126 kr rfl)).argsR (args:=[.agg [.int .i64 r.mn,.int .i64 r.mx,.fn 126],frV len rs pool vars a]) (.cons (Bl.agg (.cons (Bl.refl _) (.cons (Bl.refl _) (.cons (Qz 126) .nil)))) (.cons (Bl.refl _) .nil));exact⟨214,_,346,_,0,3,.inl rfl,A3b,func346,rfl,by kernel_rfl,c.q gv⟩
 ·have d:Afx r=fun p=>J1 (decide (p.ky=r.n)):=by funext p;unfold Afx;rw [if_neg om,if_neg om,if_neg om,if_neg (by omega)]
  simp only [e,if_true,if_false,Int.reduceEq];rw [d];exact⟨216,_,346,_,0,3,.inl rfl,A3c,func346,rfl,by kernel_rfl,(Ajl len rs pool vars a 127 r.v (fun p=>J1 (decide (p.ky=r.n))) r.mn r.mx h (fun p _ =>Zt (args:=[p.v]) (us:=[]) (vs:=[.rp r.v]) (r:=.int .i64 (J1 (decide (p.ky=r.n)))) (Bb6 r p) func127 kr rfl)).q gv⟩
 ·simp only [e,if_true,if_false,Int.reduceEq]
  have k:0<=r.mn/\0<=r.mx:=by
   unfold Alg at c;simp only [e,if_true,if_false,Int.reduceEq,or_self]at c
   split at c
   ·omega
   ·exact A7x c
  exact⟨218,_,358,_,0,3,.inl rfl,A3d,func358,rfl,by kernel_rfl,(A20 len rs pool vars a r.mn r.mx r.n h (j e) k.1 k.2).q gv⟩
 ·simp only [e,if_true,if_false,Int.reduceEq];exact⟨220,_,364,_,0,1,.inl rfl,A3e,func364,rfl,by kernel_rfl,Ax1 len rs pool vars a r.n h⟩
 ·simp only [e,if_true,if_false,Int.reduceEq];exact⟨221,_,374,_,0,1,.inl rfl,A3f,func374,rfl,by kernel_rfl,Ax2 len rs pool vars a r.n h⟩
 ·simp only [e,if_true,if_false,Int.reduceEq];exact⟨223,_,380,_,0,0,.inl rfl,A3g,func380,rfl,by kernel_rfl,(A22 len rs pool vars a h i).q gv⟩
theorem Alu{len:Int}{rs:List Ru}(h:Sp len rs=0):1<=len/\len<=18/\rs.length<=20/\∀r∈rs,r.fits=true/\Alg r=0:=by
 unfold Sp at h
 (repeat' split at h)<;>try omega
 rename_i h1 h2;refine⟨by omega,by omega,by omega,fun r c=>?_⟩;have:=Ka h r c;unfold Ajb at this
 split at this
 ·omega
 ·rename_i a;exact⟨by simpa using a,this⟩
def A3i(pool:List Pit):Int:=match pool with| []=>0|p::_ =>p.m.length
theorem A7y{pool:List Pit}{n:Int}(h:Kd pool n=0):Kd pool (A3i pool)=0:=by
 cases pool with
 |nil=>rfl
 |cons p r=>
  have:=(Zp h).2.2 p (Fa ..);have e:(p.m.length:Int)=n:=by unfold Ln at this;(repeat' split at this)<;>omega
  simp only [A3i];rw [e];exact h
theorem Ah0(len:Int)(rs:List Ru)(pool:List Pit)(en:List (Int × Int))(n:Int)(hs:Sp len rs=0)(hp:Kd pool n=0)(he:en.length<=400):
  Hm gv prog 231 [Qw len rs,.ro 9 (B8 pool),.ro 2 (A0 en)] (fun r=>r=.int .i64 0):=by
 have c:=Xh len rs;rw [hs]at c;have a:=Mq pool (A3i pool);rw [A7y hp]at a;have pr:=Cq rs;have pl:=B4 pool;have le:=Dq en;have t:=Da pool
 have h0:(pool= []/\A3i pool=0)\/∃p,∃h:0<pool.length,pool[0]=p/\A3i pool=p.m.length:=by
  cases pool with
  |nil=>exact .inl ⟨rfl,rfl⟩
  |cons p r=>exact .inr ⟨p,by simp,rfl,rfl⟩
 have z:=fun(k:Nat)(h:k<pool.length)=>I7 h
 unfold Qw at c|-;generalize Ee rs=rv at*;generalize aa:A0 en=ev at*
 rcases h0 with⟨e,j⟩|⟨p,g,o,j⟩
 ·rw [j]at a;have l:(B8 pool).length=0:=by rw [t,e];rfl
  generalize B8 pool=pv at*;refine Bx func231 (fun w0 N0 i=>?_);refine Aa [1,2,3] [3] sr (Ab (Ab (Ac (Am 1 sr ?_))));refine Be i c func55 ?_;refine Ag [1,2,7] [] sr ?_;refine Aa [1,2,7,13] [] sr ?_;refine A6 rfl (fun h1=>absurd h1 sm) (fun h1=>Ae (Aa [1,2,8] [] sr (Ab (Aa [1,2,8,17] [] sr ?_))));refine A6 rfl (fun h2=>absurd h2 (by simp [l])) (fun h2=>Ae (Ab (Ab (Ac (Am 2 sr ?_)))));refine Be i a func35 ?_;refine Ag [2,9] [] sr ?_;refine Aa [2,9,28] [] sr ?_;refine A6 rfl (fun u=>absurd u sm) (fun u=>Ae (Ab (Aa [32] [] sr ?_)));refine A6 rfl (fun y=>absurd y (by simp [le];omega)) (fun y=>Ae ?_);exact Aa [6] [] sr (Ak (Ad sr rf))
 ·rw [j]at a;have d:=z 0 g;rw [o]at d;have f:0<(B8 pool).length:=by rw [t];exact g
  have x:(Ek p.m).length=p.m.length:=by simp [Ek]
  generalize B8 pool=pv at*;unfold Pit.v Pit.cs at d;generalize Ek p.m=mv at*;refine Bx func231 (fun w0 N0 i=>?_);refine Aa [1,2,3] [3] sr (Ab (Ab (Ac (Am 1 sr ?_))));refine Be i c func55 ?_;refine Ag [1,2,7] [] sr ?_;refine Aa [1,2,7,13] [] sr ?_;refine A6 rfl (fun h1=>absurd h1 sm) (fun h1=>Ae (Aa [1,2,8] [] sr (Ab (Aa [1,2,8,17] [] sr ?_))))
  refine A6 rfl (fun h2=>?_) (fun h2=>absurd h2 (by simp [f]))
  ·refine A2 [1,2,8] [] (by simp [d,f]<;>rfl) (Ab (Ab (Ac (Am 2 sr ?_))));refine Ho i a func35 rfl kr sm rfl rfl rfl (by simp [x]<;>rfl) sm (by simp [x]<;>rfl) ?_;refine Ag [2,9] [] sr ?_;refine Aa [2,9,28] [] sr ?_;refine A6 rfl (fun w=>absurd w sm) (fun w=>Ae (Ab (Aa [32] [] sr ?_)));refine A6 rfl (fun s=>absurd s (by simp [le];omega)) (fun s=>Ae ?_);exact Aa [6] [] sr (Ak (Ad sr rf))
def T8(r:Ru):Nat:=if r.kind=6 then 1 else 0
def Fm:List Ru->Nat
 | []=>0
 |r::t=>T8 r+Fm t
theorem Zv:∀(a b:List Ru),Fm (a++b)=Fm a+Fm b
 | [],b=>by simp [Fm]
 |r::t,b=>by rw [Ce,Fm,Fm,Zv t b];omega
theorem Zw:∀(l:List Ru),Fm l<=l.length
 | []=>A8 _
 |r::t=>by have:=Zw t;simp only [Fm,T8,Bc];split<;>omega
theorem Ao4(r:Ru):J1 (decide (r.kind=6))=(T8 r:Int):=by unfold T8 J1;by_cases h:r.kind=6<;>simp [h]
def Abr(rs:List Ru)(pool:List Pit)(vars:Nat):Nat->List Ru->List Rw
 |_,[]=>[]
 |a,r::t=>L5 rs pool vars a r++Abr rs pool vars (a+T8 r) t
theorem Ao5(rs:List Ru)(pool:List Pit)(vars:Nat):∀(a b:List Ru)(c:Nat),Abr rs pool vars c (a++b)=Abr rs pool vars c a++Abr rs pool vars (c+Fm a) b
 | [],b,c=>by simp [Abr,Fm]
 |r::t,b,c=>by rw [Ce,Abr,Abr,Ao5 rs pool vars t b,Cz,Fm,Jw]
theorem A3j(pool:List Pit):(Ahy pool).length<=pool.length:=by
 have:=U8 pool [] [];rw [Ahy,Oz];simp only [B0]at this;omega
theorem Acu(rs:List Ru)(pool:List Pit)(vars a:Nat)(r:Ru)(h:pool.length<=18):(L5 rs pool vars a r).length<=18:=by
 unfold L5 Ady Adz Ad0;have:=A3j pool
 repeat' split
 all_goals simp only [Bc,B0,Acs]
 all_goals omega
theorem Ao6(rs:List Ru)(pool:List Pit)(vars:Nat)(h:pool.length<=18):∀(l:List Ru)(a:Nat),(Abr rs pool vars a l).length<=18*l.length
 | [],_ =>by simp [Abr]
 |r::t,a=>by
  have h1:=Ao6 rs pool vars h t (a+T8 r);have h2:=Acu rs pool vars a r h;rw [Abr,Bi,Bc];omega
def Ah1(len:Int)(rs:List Ru)(pool:List Pit)(vars:Nat)(k:Nat):List Rw:=⟨J2 pool vars fun _ =>1,len,len⟩::Abr rs pool vars pool.length (rs.take k)
def stA(rs:List Ru)(pool:List Pit)(k:Nat):Nat:=pool.length+Fm (rs.take k)
theorem Af5{rs:List Ru}(pool:List Pit){k:Nat}(h:k<rs.length):stA rs pool (k+1)=stA rs pool k+T8 rs[k]:=by
 unfold stA;rw [A3 h,Zv];simp only [Fm];omega
theorem Ax7(len:Int){rs:List Ru}(pool:List Pit)(vars:Nat){k:Nat}(h:k<rs.length):Ah1 len rs pool vars (k+1)=Ah1 len rs pool vars k++L5 rs pool vars (stA rs pool k) rs[k]:=by
 unfold Ah1 stA;rw [A3 h,Ao5];simp [Abr]
theorem Abs(l:List Ru)(k:Nat):Fm (l.take k)<=Fm l:=by
 conv=>rhs;rw [<- Fe k l]
 rw [Zv];omega
theorem Ao7(len:Int)(rs:List Ru)(pool:List Pit)(vars k:Nat)(h:pool.length<=18):(Ah1 len rs pool vars k).length<=18*rs.length+1:=by
 unfold Ah1;have:=Ao6 rs pool vars h (rs.take k) pool.length;rw [Bc];rw [B9]at this;have:min k rs.length<=rs.length:=Kk _ _;omega
theorem Ax8(len:Int)(rs:List Ru)(pool:List Pit)(vars:Nat):Ah1 len rs pool vars 0= [⟨J2 pool vars fun _ =>1,len,len⟩]:=by simp [Ah1,Abr]
theorem Wh(l:List Int)(x:Int):As (l++[x])=As l++[.int .i64 x]:=by rw [Qy];rfl
def Alv(pool:List Pit)(k:Nat):List Int:=(pool.take k).map Pit.id
theorem Ax9{pool:List Pit}{k:Nat}(h:k<pool.length):Alv pool (k+1)=Alv pool k++[pool[k].id]:=U5 _ h
theorem A3k(pool:List Pit)(k:Nat):(Alv pool k).length<=pool.length:=by unfold Alv;simp;omega
def Ao8(pool:List Pit)(vars:Nat)(e:Int × Int):Rw:=⟨J2 pool vars fun p=>J1 (decide (p.id=e.1)||decide (p.id=e.2)),0,1⟩
def Alw(len:Int)(rs:List Ru)(pool:List Pit)(vars:Nat)(c:List (Int × Int))(k:Nat):List Rw:=Ah1 len rs pool vars rs.length++(c.take k).map (Ao8 pool vars)
theorem Aya(len:Int)(rs:List Ru)(pool:List Pit)(vars:Nat){c:List (Int × Int)}{k:Nat}(h:k<c.length):Alw len rs pool vars c (k+1)=Alw len rs pool vars c k++[Ao8 pool vars c[k]]:=by
 unfold Alw;rw [Cz,U5 _ h]
theorem Ao9(len:Int)(rs:List Ru)(pool:List Pit)(vars:Nat)(c:List (Int × Int))(k:Nat)(h:pool.length<=18):(Alw len rs pool vars c k).length<=18*rs.length+1+c.length:=by
 unfold Alw;have:=Ao7 len rs pool vars rs.length h;rw [Bi,Eo,B9];have:min k c.length<=c.length:=Kk _ _;omega
def T9(len:Int)(rs:List Ru)(pool:List Pit)(en:List (Int × Int))(vars:Nat):List Rw:=Alw len rs pool vars (Nx en (pool.map Pit.id)) (Nx en (pool.map Pit.id)).length
theorem Aso(len:Int)(rs:List Ru)(pool:List Pit)(en:List (Int × Int))(hs:Sp len rs=0)(t:pool.length<=18)(he:en.length<=400):
  Hm gv prog 232 [frV len rs pool (pool.length+Fm rs:Nat) (pool.length:Nat),.ro 2 (A0 en)] (fun r=>r=.ro 3 (Hq (T9 len rs pool en (pool.length+Fm rs)))):=by
 obtain⟨_,_,bb,ak⟩:=Alu hs;have ad:=Ash len rs bb (fun r hr=>(ak r hr).1);have bi:=Zw rs;have af:∀k,frOk pool (pool.length+Fm rs) (stA rs pool k):=fun k=>⟨by omega,by omega,by have:=Abs rs k;unfold stA;omega⟩
 have w:=fun(st:Nat)(hk:frOk pool (pool.length+Fm rs) st)=>X4 len rs pool (pool.length+Fm rs) st 264 [] [] (fun _ =>1) len len hk.le hk.small (fun p _ =>Zt (args:=[p.v]) (us:=[]) (vs:=[]) (r:=.int .i64 1) (Bb9 p) func264 kr rfl)
 have ab:=fun(st:Nat)(hk:frOk pool (pool.length+Fm rs) st)(a b:Int)=>X4 len rs pool (pool.length+Fm rs) st 268 [] [.rp (.agg [.int .i64 a,.int .i64 b])] (fun p=>J1 (decide (p.id=a)||decide (p.id=b))) 0 1 hk.le hk.small (fun p _ =>Zt (args:=[p.v]) (us:=[]) (vs:=[.rp (.agg [.int .i64 a,.int .i64 b])]) (r:=.int .i64 (J1 (decide (p.id=a)||decide (p.id=b)))) (Bcc a b p) func268 kr rfl)
 have o:=(w pool.length ⟨by omega,by omega,by omega⟩).argsR (args:=[frV len rs pool (pool.length+Fm rs:Nat) (pool.length:Nat),.fn 264,.int .i64 len,.int .i64 len]) (.cons (Bl.refl _) (.cons (Qz 264) (.cons (Bl.refl _) (.cons (Bl.refl _) .nil))))
 have aa:=fun(k:Nat)(h:k<rs.length)=>A3h len rs pool (pool.length+Fm rs) (stA rs pool k) rs[k] (af k) t (ak _ (Aw h)).1 (ak _ (Aw h)).2 (fun e=>by
  have h1:=Af5 pool h;have h2:=Abs rs (k+1);unfold T8 at h1;rw [if_pos e]at h1;unfold stA at h1|-;omega)
 have bl:(Nx en (pool.map Pit.id)).length<=400:=by unfold Nx;exact Aj (Gd _ _) (Aj (Abq en) he)
 have an:=Alt en (pool.map Pit.id) om so;have bd:=fun(k:Nat)(h:k<rs.length)=>Ax7 len pool (pool.length+Fm rs) h
 have a3:=fun(k:Nat)(h:k<rs.length)=>Af5 pool h
 have a0:=fun(k:Nat)=>Ao7 len rs pool (pool.length+Fm rs) k t
 have ar:=Ax8 len rs pool (pool.length+Fm rs);have az:stA rs pool 0=pool.length:=by simp [stA,Fm]
 have ay:=fun(k:Nat)(h:k<pool.length)=>Ax9 h
 have ba:=A3k pool;have a4:Alv pool pool.length=pool.map Pit.id:=by simp [Alv]
 have be:=fun(k:Nat)(h:k<(Nx en (pool.map Pit.id)).length)=>Aya len rs pool (pool.length+Fm rs) h
 have ax:=fun(k:Nat)=>Ao9 len rs pool (pool.length+Fm rs) (Nx en (pool.map Pit.id)) k t
 have av:Alw len rs pool (pool.length+Fm rs) (Nx en (pool.map Pit.id)) 0=Ah1 len rs pool (pool.length+Fm rs) rs.length:=by simp [Alw]
 have ai:=fun(e:Int × Int)=>ab (stA rs pool rs.length) (af rs.length) e.1 e.2
 change∀e,AC _ _ _ (fun r=>r=(Ao8 pool (pool.length+Fm rs) e).v)at ai;have a9:=fun(e:Int × Int)=>Af (Ao8 pool (pool.length+Fm rs) e).coef
 unfold T9;generalize Nx en (pool.map Pit.id)=N at*;generalize pool.map Pit.id=il at*;generalize Ah1 len rs pool (pool.length+Fm rs)=i at*;generalize Alw len rs pool (pool.length+Fm rs) N=m at*;generalize stA rs pool=j at*;have a7:=fun(k:Nat)(h:k<N.length)=>Hu h
 have b0:=Dq N;have a8:=fun(k:Nat)(h:k<pool.length)=>I7 h
 have bt:=Da pool;have a1:=fun(k:Nat)(h:k<rs.length)=>Sn h
 have bs:=Qv rs;have bc:=fun(k:Nat)(h:k<rs.length)=>Axw h
 have bk:=Ajj rs;have pl:=B4 pool;have pr:=Cq rs;have pe:=A4 en;have pN:=A4 N;have b2:((pool.length+Fm rs:Nat):Int)=(pool.length+Fm rs:Nat):=rfl;generalize bz:pool.length+Fm rs=vars at*;simp only [R1]at w ab o aa ai;rw [R1];unfold Qw at ad;generalize bw:A0 en=ev at*;generalize b1:A0 N=Nv at*;generalize bu:B8 pool=pv at*;generalize Ee rs=rv at*;generalize Sr rs=dv at*;have bm:=Af (J2 pool vars fun _ =>1);rw [A2z]at o;have ao:Hq (i 0)= [.agg [.ro 1 (As (J2 pool vars fun _ =>1)),.int .i64 len,.int .i64 len]]:=by rw [ar];rfl
 have al:(i 0).length=1:=by rw [ar];rfl
 generalize As (J2 pool vars fun _ =>1)=r0 at*;refine Bx func232 (fun w0 N0 hG=>?_);refine Aa [1,2] [2] sr (Aa [1,2,5] [2] sr (Ab (Ac (Am 8 sr ?_))));refine Ai o func265 ?_ (hp:=by simp);refine Ag [1,2,6] [2,24] sr ?_;refine Ab (Ab (Ac (Am 2 sr ?_)));refine Ai ad func266 ?_ (hp:=by simp);refine Ag [1,2,6,27,28,29] [2,24] sr ?_;refine Ap ?_
 refine Dr (fun x:Nat × Nat × Nat=>⟨[(1,V.ro 2 ev),(2,V.bp 2 (0) 5 0 0),(6,.sl 24 x.2.1 3 (i x.1).length),(27,.ro 1 dv),(28,.int .i64 dv.length),(29,V.int .i64 (x.1:Nat))],[(2,{ v:=0,sz:=5,ty:=333,es:=[V.agg [V.int .i64 len,V.ro 5 rv,V.ro 9 pv,V.int .i64 vars,V.int .i64 (j x.1:Nat)]]}),(24,⟨x.2.1,3,339,Hq (i x.1)⟩)],x.2.2,83⟩)
  (fun x=>x.1<=rs.length) (fun x=>rs.length-x.1) (0,_,_) (B6 _) (by simp only [ao,al,az];exact AS.le_refl _) ?_
 rintro⟨k,qv,nx⟩hk;simp only at hk|-;refine Aa [1,2,6,27,28,29,30] [2,24] sr (Ab ?_)
 refine Ao (fun h1=>Ae ?_) (fun h1=>?_)
 ·have c:k<rs.length:=by simp at h1;omega
  have f:k<rv.length:=om;have am:k<dv.length:=om;have bg:(k:Int).toNat=k:=rfl;have ga:=a1 k c;have gd:=bc k c;have C9:=A7 (k:=k) om;have g:=bd k c;have bv:=a3 k c;have bq:=a0 k;have ae:=af k;have cI:=aa k c;have dl:=Acu rs pool vars (j k) rs[k] t;have h6:=Ao4 rs[k];rw [show rs[k].v=.agg [.int .i64 rs[k].kind,.int .i64 rs[k].n,.int .i64 rs[k].mn,.int .i64 rs[k].mx,.str rs[k].code]from rfl]at ga;have y:=Uz (decide (rs[k].kind=6));rw [h6]at y;have bj:T8 rs[k]<=1:=by unfold T8;split<;>omega
  have a5:IntKind.i64.wrap ((j k:Int)+(T8 rs[k]:Int))=(j (k+1):Nat):=by rw [Bb om (by have:=ae.lt;have:=ae.small;omega)];omega
  unfold X1 at cI gd;have pd:=Hb (L5 rs pool vars (j k) rs[k]);have l:(i k).length+(L5 rs pool vars (j k) rs[k]).length<=maxLen/\((i k).length+(L5 rs pool vars (j k) rs[k]).length)*40<=140737488355328:=⟨Aj (show(i k).length+(L5 rs pool vars (j k) rs[k]).length<=400 by omega) dc,by omega⟩;have ag:Hq (i (k+1))=Hq (i k)++Hq (L5 rs pool vars (j k) rs[k]):=by rw [g,Afz]
  have ah:(i (k+1)).length=(i k).length+(L5 rs pool vars (j k) rs[k]).length:=by rw [g,Bi]
  generalize L5 rs pool vars (j k) rs[k]=dr at*;generalize Aok rs[k]=dt at*;generalize Afl rs[k]=dc at*;generalize rs[k].kind=kd at*;generalize T8 rs[k]=sx at*;refine Ab (Ap (Aa [1,2,6,7,8,27,28,29] [2,24] (by simp [gd,am]<;>rfl) (Ab (Ac (Am 3 sr ?_)))));refine Ai0 hG cI (by simp) rfl rfl sr sr (by simp) sr ?_;refine Ag [1,2,6,7,27,28,29] [2,24] (by simp [Nw,l]<;>rfl) ?_;refine C4 [(0,[]),(2,[]),(3,[]),(5,[]),(1,[]),(4,[]),(6,[]),(7,[]),(8,[]),(9,[]),(10,[]),(11,[]),(12,[]),(13,[])] Dm kr ?_;refine Ch 10 (by simp [ga,f]<;>rfl) ?_;refine Bw (fun hg=>y) func122 rfl kr rfl rfl sr rfl rfl sr sm sr ?_;refine C5 [1,2,6,27,28,29] [2,24] (by simp [a5]<;>rfl) ?_;refine A2 [1,2,6,27,28,29] [2,24] (by simp [C9]<;>rfl) ?_;exact⟨(k+1,_,_),c,by simp only;omega,by simp only [ag,ah];exact AS.le_refl _⟩
 ·refine A9 ?_;have s:k=rs.length:=by simp at h1;omega
  subst s;refine Aa [1,2,6,9] [2,24] sr (Ab (Aa [1,2,6,9,54,55,56] [2,24] sr ?_));refine F5 9 101 1 3 [1,2,6,9,54,55,56] [2,24,101] sr sr ?_;refine Ap ?_
  refine Dr (fun x:Nat × Nat × Nat=>⟨[(1,V.ro 2 ev),(2,V.bp 2 (0) 5 0 0),(6,.sl 24 qv 3 (i rs.length).length),(9,.sl 101 x.2.1 1 (Alv pool x.1).length),(54,.ro 9 pv),(55,.int .i64 pv.length),(56,V.int .i64 (x.1:Nat))],[(2,{ v:=0,sz:=5,ty:=333,es:=[V.agg [V.int .i64 len,V.ro 5 rv,V.ro 9 pv,V.int .i64 vars,V.int .i64 (j rs.length:Nat)]]}),(24,⟨qv,3,339,Hq (i rs.length)⟩),(101,⟨x.2.1,1,3,As (Alv pool x.1)⟩)],x.2.2,83⟩)
   (fun x=>x.1<=pool.length) (fun x=>pool.length-x.1) (0,_,_) (B6 _) (AS.le_refl _) ?_
  rintro⟨u,bx,br⟩a2;simp only at a2|-;refine Aa [1,2,6,9,54,55,56,57] [2,24,101] sr (Ab ?_)
  refine Ao (fun h2=>Ae ?_) (fun h2=>?_)
  ·have c:u<pool.length:=by simp at h2;omega
   have f:u<pv.length:=om;have ga:=a8 u c;have C9:=A7 (k:=u) om;have g:=ay u c;have aq:=ba u;rw [G9]at ga;generalize Alv pool u=Lk at g aq|-;have l:Lk.length+1<=maxLen/\(Lk.length+1)*8<=140737488355328:=⟨Aj (show Lk.length+1<=19 by omega) dc,by omega⟩;refine Ab (Ap (Aa [1,2,6,9,11,54,55,56] [2,11,24,101] (by simp [ga,f]<;>rfl) (A2 [1,2,6,9,54,55,56] [2,24,101] (by simp [l]<;>rfl) (A2 [1,2,6,9,54,55,56] [2,24,101] (by simp [C9]<;>rfl) ?_))));exact⟨(u+1,_,_),c,by simp only;omega,by simp only [g,Wh,Bi,Bc,B0];exact AS.le_refl _⟩
  ·refine A9 ?_;have s:u=pool.length:=by simp at h2;omega
   subst s;rw [a4];have pi:=Af il;have a6:=A5 il;generalize bn:As il=iv at*;refine Ab (Ab (Ac (Am 2 sr ?_)));have aj:=F4 (Hb (i rs.length));refine Ju 101 [2,6,66,67] [2,24] (by simp [aj,pi,a6]<;>rfl) ?_;refine Ai an func267 ?_ (hp:=by simp);refine Ag [2,6,68,69,70] [2,24] sr ?_;refine Ap ?_
   refine Dr (fun x:Nat × Nat × Nat=>⟨[(2,V.bp 2 (0) 5 0 0),(6,.sl 24 x.2.1 3 (m x.1).length),(68,.ro 2 Nv),(69,.int .i64 Nv.length),(70,V.int .i64 (x.1:Nat))],[(2,{ v:=0,sz:=5,ty:=333,es:=[V.agg [V.int .i64 len,V.ro 5 rv,V.ro 9 pv,V.int .i64 vars,V.int .i64 (j rs.length:Nat)]]}),(24,⟨x.2.1,3,339,Hq (m x.1)⟩)],x.2.2,83⟩)
    (fun x=>x.1<=N.length) (fun x=>N.length-x.1) (0,_,_) (B6 _) (by simp only [av];exact AS.le_refl _) ?_
   rintro⟨d,bh,bo⟩aw;simp only at aw|-;refine Aa [2,6,68,69,70,71] [2,24] sr (Ab ?_)
   refine Ao (fun h3=>Ae ?_) (fun h3=>?_)
   ·have c:d<N.length:=by simp at h3;omega
    have f:d<Nv.length:=om;have ga:=a7 d c;have C9:=A7 (k:=d) om;have g:=be d c;have bf:=ax d;have z:=ai N[d];have pc:=a9 N[d];rw [show(Ao8 pool vars N[d]).v=.agg [.ro 1 (As (Ao8 pool vars N[d]).coef),.int .i64 0,.int .i64 1]from rfl]at z;have ag:Hq (m (d+1))=Hq (m d)++[.agg [.ro 1 (As (Ao8 pool vars N[d]).coef),.int .i64 0,.int .i64 1]]:=by rw [g,Afz];rfl
    have ah:(m (d+1)).length=(m d).length+1:=by rw [g,Bi];rfl
    have l:(m d).length+1<=maxLen/\((m d).length+1)*40<=140737488355328:=⟨Aj (show(m d).length+1<=800 by omega) dc,by omega⟩;generalize As (Ao8 pool vars N[d]).coef=cv at*;generalize N[d]=e3 at*;refine Ab (Ap (Aa [2,6,13,68,69,70] [2,13,24] (by simp [ga,f]<;>rfl) ?_));have aj:=F4 (Hb (m d));refine Bt 13 [2,6,13,68,69,70] [2,24] (by simp [aj]<;>rfl) (Aa [2,6,14,68,69,70] [2,24] sr (Ac (Am 3 sr ?_)));refine Ai z func265 ?_ (hp:=by simp);refine Ag [2,6,68,69,70] [2,24] (by simp [l]<;>rfl) ?_;refine A2 [2,6,68,69,70] [2,24] (by simp [C9]<;>rfl) ?_;exact⟨(d+1,_,_),c,by simp only;omega,by simp only [ag,ah];exact AS.le_refl _⟩
   ·refine A9 ?_;have s:d=N.length:=by simp at h3;omega
    subst s;have au:=Hb (m N.length);refine Aa [4] [24] sr ?_;exact Ak (Ad (by simp [results232,au]<;>rfl) (rfl))
def A7z(rs:List Ru)(p:Pit):Int:=if U7 rs 7 p.id=true then 1 else if U7 rs 8 p.id=true then 0 else -1
def P7(rs:List Ru)(pool:List Pit):List Int:=pool.map (A7z rs)++List.replicate (Fm rs) (-1)
theorem Apa(rs:List Ru)(pool:List Pit):(P7 rs pool).length=pool.length+Fm rs:=by simp [P7]
theorem A70{rs:List Ru}{pool:List Pit}{k:Nat}(h:k<pool.length):(As (P7 rs pool))[k]? =some (.int .i64 (A7z rs pool[k])):=by
 simp only [As,P7,Ck,Qa];rw [Bj (by simpa using h)];simp [h]
theorem A71{rs:List Ru}{pool:List Pit}{k:Nat}(h:pool.length<=k)(h2:k<pool.length+Fm rs):(As (P7 rs pool))[k]? =some (.int .i64 (-1)):=by
 simp only [As,P7,Ck,Qa];rw [Bh (by simpa using h)];simp [show k-pool.length<Fm rs by omega]
def Apb(len:Int)(rs:List Ru)(pool:List Pit)(en:List (Int × Int)):Int:=
 if 24<pool.length+Fm rs\/60<(T9 len rs pool en (pool.length+Fm rs)).length then 5 else 0
def Apc(a:List Int)(c:List Rw)(f:V):V:=.agg [.ro 1 (As a),.ro 3 (Hq c),f]
def Ava:V:=.agg [.nils,.nils,.nils]
def X6(a:List Int)(rs:List Ru):List Int:=a++List.replicate (Fm rs) 0
def Ajs(e:Int)(c:List Int)(d:List Rw)(f:List Int)(r:V)(a:List (Nat × Ob)):Prop:=
 if e=0 then∃v,r=.tup [Apc c d (.sl 78 v 1 f.length),.int .i64 0]/\a= [(78,⟨v,1,3,As f⟩)]
 else r=.tup [Ava,.int .i64 e]/\a= []
theorem Alx(len:Int)(rs:List Ru)(pool:List Pit)(en:List (Int × Int))(a:List Int)(n:Int)(hs:Sp len rs=0)(hp:Kd pool n=0)(aw:pool.length<=18)(he:en.length<=400)
  (bk:a.length=pool.length)(aq:∀v∈a,-1000000<=v/\v<=1000000):
  Wt gv prog 200 [Qw len rs,.ro 9 (B8 pool),.ro 2 (A0 en),.ro 1 (As a)] [] (Ajs (Apb len rs pool en) (X6 a rs) (T9 len rs pool en (pool.length+Fm rs)) (P7 rs pool)):=by
 have u:=Ah0 len rs pool en n hs hp he;have z:=Aso len rs pool en hs aw he;have ab:=fun(kd:Int)(st:Int)(n:Int)=>Ajk len rs pool (pool.length+Fm rs:Nat) st kd n
 have bb:=Zw rs;have bs:rs.length<=20:=(Alu hs).2.2.1;have ai:=Apa rs pool;have aj:=fun(k:Nat)(h:k<pool.length)=>A70 (rs:=rs) h
 have am:=fun(k:Nat)(h:pool.length<=k)(h2:k<pool.length+Fm rs)=>A71 h h2
 have a6:=fun(k:Nat)(h:k<pool.length)=>I7 h
 have a1:=Da pool;have av:=fun(k:Nat)(h:k<rs.length)=>Sn h
 have bh:=Qv rs;have ba:=fun(k:Nat)(h:k<a.length)=>Fj h
 have bd:=A5 a;have pl:=B4 pool;have pr:=Cq rs;have pe:=A4 en;have a7:=Af a;have au:stA rs pool 0=pool.length:=by simp [stA,Fm]
 have a5:stA rs pool rs.length=pool.length+Fm rs:=by simp [stA]
 unfold Qw at u|-;simp only [R1]at z ab;unfold Apb Ajs Apc X6;generalize bq:T9 len rs pool en (pool.length+Fm rs)=cr at*;have bo:=Hb cr;have aa:=Nw cr;have a9:(As (P7 rs pool)).length=pool.length+Fm rs:=by rw [A5,ai]
 have az:=Af (P7 rs pool);rw [ai];generalize As (P7 rs pool)=t at*;have ar:As (a++List.replicate (Fm rs) 0)=As a++List.replicate (Fm rs) (.int .i64 0):=by rw [Qy];congr 1;simp [As]
 rw [ar];generalize Hq cr=cv,As a=s at*;generalize bn:A0 en=ev at*;generalize bj:B8 pool=pv at*;generalize Ee rs=rv at*;refine Ig func200 (fun w0 N0 f hG=>?_);refine Aa [1,2,3,4,8] [4,8] sr (Ab (Ab (Ac (Am 3 sr ?_))));refine Ho hG u func231 rfl kr (by simp [pl,pr,pe]) rfl rfl rfl sr sm sr ?_;refine Ag [1,2,3,4,8,10] [4,8] sr ?_;refine Aa [1,2,3,4,8,10,24] [4,8] sr ?_;refine A6 rfl (fun h1=>absurd h1 sm) (fun h1=>Ae (Ab (Aa [1,2,3,4,8,31] [4,8] sr ?_)));refine A6 rfl (fun h2=>absurd h2 so) (fun h2=>Ae (Ab (Aa [1,2,3,4,8,33,34,35] [4,8] sr (Ap (Bq (fun k nx=>⟨[(1,V.ro 9 pv),(2,V.ro 2 ev),(3,V.ro 1 s),(4,V.bp 4 f 2 0 0),(8,V.bp 8 (f+1) 3 0 0),(33,V.ro 1 s),(34,V.int .i64 s.length),(35,V.int .i64 k)],[(4,{ v:=f,sz:=2,ty:=24,es:=[V.agg [V.int .i64 len,V.ro 5 rv]]}),(8,{ v:=f+1,sz:=3,ty:=257,es:=[.agg [.nils,.nils,.nils]]})],nx,131⟩) (fun k=>True) a.length _ trivial (AS.le_refl _) ?_)))));intro k nx hk hI;refine Aa [1,2,3,4,8,33,34,35,36] [4,8] sr (Ab ?_)
 refine Ao (fun h3=>Ae ?_) (fun h3=>?_)
 ·have c:k<a.length:=by simp at h3;omega
  have j:k<s.length:=om;have y:=ba k c;have C9:=A7 (k:=k) om;have a2:=aq _ (Aw c);generalize a[k]=v at y a2;refine Ab (Ap (Aa [1,2,3,4,8,12,33,34,35] [4,8] (by simp [y,j]<;>rfl) (Aa [1,2,3,4,8,33,34,35,44] [4,8] sr ?_)));refine A6 rfl (fun h4=>absurd h4 so) (fun h4=>Ae (A2 [1,2,3,4,8,33,34,35] [4,8] (by simp [C9]<;>rfl) ?_));exact⟨c,trivial,_,AS.le_refl _⟩
 ·refine A9 ?_;refine Aa [1,2,3,4,8,13] [4,8,13] sr (Ab (Aa [1,2,3,8,13,55,56,57] [8,13] sr (Ap (Bq (fun k e=>⟨[(1,V.ro 9 pv),(2,V.ro 2 ev),(3,V.ro 1 s),(8,V.bp 8 (f+1) 3 0 0),(13,V.bp 13 (nx+1+7) 5 0 0),(55,V.ro 5 rv),(56,V.int .i64 rv.length),(57,V.int .i64 k)],[(8,{ v:=f+1,sz:=3,ty:=257,es:=[.agg [.nils,.nils,.nils]]}),(13,{ v:=nx+1+7,sz:=5,ty:=333,es:=[V.agg [V.int IntKind.i64 len,V.ro 5 rv,V.ro 9 pv,V.int IntKind.i64 (stA rs pool k:Nat),V.int IntKind.i64 (pool.length:Nat)]]})],e,131⟩) (fun k=>True) rs.length _ trivial (by simp only [a1,au];exact AS.le_refl _) ?_))));intro g e bg bi;refine Aa [1,2,3,8,13,55,56,57,58] [8,13] sr (Ab ?_)
  refine Ao (fun h5=>Ae ?_) (fun h5=>?_)
  ·have c:g<rs.length:=by simp at h5;omega
   have j:g<rv.length:=om;have y:=av g c;have C9:=A7 (k:=g) om;have bl:=Af5 pool c;have h6:=Ao4 rs[g];rw [show rs[g].v=.agg [.int .i64 rs[g].kind,.int .i64 rs[g].n,.int .i64 rs[g].mn,.int .i64 rs[g].mx,.str rs[g].code]from rfl]at y;have w:=Uz (decide (rs[g].kind=6));rw [h6]at w;have bc:T8 rs[g]<=1:=by unfold T8;split<;>omega
   have bf:=Abs rs g;have a4:IntKind.i64.wrap ((stA rs pool g:Int)+(T8 rs[g]:Int))=(stA rs pool (g+1):Nat):=by rw [Bb om (by unfold stA;omega)];omega
   generalize T8 rs[g]=sx,rs[g].kind=kd at*;refine Ab (Ap (Aa [1,2,3,8,13,15,55,56,57] [8,13,15] (by simp [y,j]<;>rfl) ?_));refine C4 [(0,[]),(2,[]),(1,[]),(3,[]),(4,[]),(5,[]),(6,[]),(7,[]),(8,[])] Dm kr ?_;refine Ch 5 sr ?_;refine Bw (fun hg=>w) func122 rfl kr rfl rfl sr rfl rfl sr sm sr ?_;refine C5 [1,2,3,8,13,55,56,57] [8,13] (by simp [a4]<;>rfl) ?_;refine A2 [1,2,3,8,13,55,56,57] [8,13] (by simp [C9]<;>rfl) ?_;exact⟨c,trivial,_,AS.le_refl _⟩
  ·refine A9 ?_;have ae:g=rs.length:=by simp at h5;omega
   rw [ae,a5];generalize br:pool.length+Fm rs=vars at*;have ak:(vars:Int)<=9223372036854775807:=om;have ah:8*(vars:Int)<=281474976710656:=om;refine Ab (V6 (.take 0 [] (.take 4 [] (.take 6 [] (.take 1 [72,78,16] (.take 3 [72,78,16] (.take 5 [] (.take 7 [72,78,16] (.alt 2 (.alt 8 (.take 9 [] (.take 10 [] (.take 11 [] .done))) (.alt 10 (.take 8 [] (.take 9 [] (.take 11 [] .done))) .stop)) (.alt 8 (.alt 2 (.take 9 [] (.take 10 [] (.take 11 [] .done))) (.alt 10 (.take 2 [] (.take 9 [] (.take 11 [] .done))) .stop)) (.alt 10 (.alt 2 (.take 8 [] (.take 9 [] (.take 11 [] .done))) (.alt 8 (.take 2 [] (.take 9 [] (.take 11 [] .done))) .stop)) .stop)))))))))) Dm kr ?_);refine Tf sr ?_;refine Tf sr ?_;refine Tf sr ?_;refine Tf sr ?_;refine Tf (by simp [ak,ah]<;>rfl) ?_;refine Awz hG (fun hg=>z) func232 rfl kr rfl rfl sr rfl rfl sr (by simp [pl,pr,pe]) sr ?_;refine Py (L:=[1,3,8,13,16]) (M:=[8,13,72,78,16]) (by simp [ak,ah]<;>rfl) ?_;intro T hT;have a3:=(show T=_ by simpa using hT);subst a3;refine Ab (Aa [1,3,8,13,16,88] [8,13,72,78,16] (by simp [aa]<;>rfl) ?_)
   refine Ao (fun h6=>?_) (fun h6=>Ae ?_)
   ·refine Aa [8,9] [8] sr ?_;have hE:24<vars\/60<cr.length:=by simp [aa]at h6;omega
    exact C7 f (Dz (Ba _ _) sr (outs0:=[]) (by rw [if_pos hE,if_neg (by decide)];exact⟨rfl,rfl⟩) (fun k o hk=>by cases hk))
   have hE:¬(24<vars\/60<cr.length):=by simp [aa]at h6;omega
   have ay:s.length<=vars:=om;refine Ab (Ac (Am 3 sr ?_));refine Awy (te:=3) rfl rfl kr kr (by simp [ay]<;>rfl) ?_;refine Ag [1,8,13,16] [8,13,72,78,16] sr ?_;refine Ab (Aa [1,8,13,16,96,97] [8,13,72,78,16] sr (Ap (Bq (fun k ag=>⟨[(1,V.ro 9 pv),(8,V.bp 8 (f+1) 3 0 0),(13,V.bp 13 (nx+1+7) 5 0 0),(16,V.bp 16 (e+1+10) 3 0 0),(96,V.int .i64 vars),(97,V.int .i64 k)],[(8,{ v:=f+1,sz:=3,ty:=257,es:=[.agg [.nils,.nils,.nils]]}),(13,{ v:=nx+1+7,sz:=5,ty:=333,es:=[V.agg [V.int IntKind.i64 len,V.ro 5 rv,V.ro 9 pv,V.int IntKind.i64 vars,V.int IntKind.i64 (pool.length:Nat)]]}),(72,{ v:=e+1+2,sz:=1,ty:=3,es:=s++List.replicate (vars-s.length) (V.int IntKind.i64 0)}),(78,{ v:=e+1+8,sz:=1,ty:=3,es:=Fy t (.int .i64 0) k}),(16,{ v:=e+1+10,sz:=3,ty:=257,es:=[V.agg [V.sl 72 (e+1+2) 1 vars,V.ro 3 cv,V.sl 78 (e+1+8) 1 vars]]})],ag,131⟩) (fun k=>True) vars _ trivial (by rw [I8,a9];exact AS.le_refl _) ?_)));intro d ag be bm;have af:=J6 t (.int .i64 0) d om;refine Aa [1,8,13,16,96,97,98] [8,13,72,78,16] sr (Ab ?_)
   refine Ao (fun h7=>Ae ?_) (fun h7=>?_)
   ·have c:d<vars:=by simp at h7;omega
    have m:d<t.length:=om;have C9:=A7 (k:=d) om;have i:=fun(x:V)(hx:t[d]? =some x)=>J8 t (.int .i64 0) d m hx
    have al:Hs (Fy t (.int .i64 0) d) d=some (.int .i64 0):=J7 t _ d m;generalize Fy t (.int .i64 0) d=row at al i af|-;have ao:∀x,Hs (row.set d x) d=some x:=fun x=>by rw [C1];simp [af,m]
    refine Ab (Ap (Aa [1,8,13,16,17,96,97] [8,13,72,78,16] sr (Aa [1,8,13,16,17,96,97] [8,13,72,78,16] (by simp [al,c]<;>rfl) (Ab (Aa [1,8,13,16,17,96,97,107] [8,13,72,78,16] sr ?_)))))
    refine Ao (fun h8=>?_) (fun h8=>Ae ?_)
    ·refine A9 ?_;refine A2 [1,8,13,16,96,97] [8,13,72,78,16] (by simp [i _ (am d (by simp at h8;omega) c),C9]<;>rfl) ?_;exact⟨c,trivial,_,AS.le_refl _⟩
    have an:d<pool.length:=by simp at h8;omega
    have j:d<pv.length:=om;have y:=a6 d an;have r:=aj d an;have l:A7z rs pool[d]=if U7 rs 7 pool[d].id=true then 1 else if U7 rs 8 pool[d].id=true then 0 else -1:=rfl
    rw [G9]at y;generalize A7z rs pool[d]=fp,pool[d].id=id at*;refine Aa [1,8,13,16,17,18,96,97] [8,13,72,78,16] (by simp [y,j]<;>rfl) (Ap (Ab (Ac (Am 2 sr ?_))));refine Ho hG (ab 7 (pool.length:Nat) id) func233 rfl kr (by simp [pl,pr]) rfl rfl rfl sr (by simp [pl,pr]) sr ?_;refine Ag [1,8,13,16,17,18,96,97,113] [8,13,72,78,16] sr ?_
    refine Ao (fun h9=>?_) (fun h9=>?_)
    ·rw [if_pos (by simpa using h9)]at l;subst l;refine A2 [1,8,13,16,96,97] [8,13,72,78,16] (by simp [ao,c]<;>rfl) (A2 [1,8,13,16,96,97] [8,13,72,78,16] (by simp [i _ r,C9]<;>rfl) ?_);exact⟨c,trivial,_,AS.le_refl _⟩
    ·rw [if_neg (by simpa using h9)]at l;refine Ab (Ac (Am 2 sr ?_));refine Ho hG (ab 8 (pool.length:Nat) id) func233 rfl kr (by simp [pl,pr]) rfl rfl rfl sr (by simp [pl,pr]) sr ?_;refine Ag [1,8,13,16,17,96,97,121] [8,13,72,78,16] sr ?_
     refine Ao (fun ad=>?_) (fun ad=>Ae ?_)
     ·rw [if_pos (by simpa using ad)]at l;subst l;refine A2 [1,8,13,16,96,97] [8,13,72,78,16] (by simp [ao,c]<;>rfl) (A2 [1,8,13,16,96,97] [8,13,72,78,16] (by simp [i _ r,C9]<;>rfl) ?_);exact⟨c,trivial,_,AS.le_refl _⟩
     rw [if_neg (by simpa using ad)]at l;subst l;refine A2 [1,8,13,16,96,97] [8,13,72,78,16] (by simp [i _ r,C9]<;>rfl) ?_;exact⟨c,trivial,_,AS.le_refl _⟩
   ·refine A9 ?_;have ae:d=vars:=by simp at h7;omega
    rw [ae,K1 t (.int .i64 0) vars (by omega)];have a0:vars-s.length=Fm rs:=om;rw [a0];refine Aa [8,9] [8,72,78] sr ?_;have a8:=F4 az;have ax:s.length+Fm rs=vars:=om;refine Bt 72 [8,9] [8,78] (by simp [a7,a8,ax]<;>rfl) ?_;exact C7 f (Dz (Ba _ _) sr (outs0:=[(78,⟨e+1+8,1,3,t⟩)]) (by rw [if_neg hE,if_pos rfl];exact⟨e+1+8,rfl,rfl⟩) (fun k o hk=>Dt gt hk))
theorem Rj{α:Type}{l:List α}{f:α->Bool}{k:Nat}(h:k<l.length)(a:f l[k]=true):l.any f=true:=Dp.2 ⟨_,Aw h,a⟩
theorem Ny{α:Type}{l:List α}{f:α->Bool}{k:Nat}(h:k<l.length)(a:(l.take k).any f=false)(c:f l[k]=false):(l.take (k+1)).any f=false:=by
 rw [A3 h,List.any_append,a];simp [c]
def inB(n m:Int):Bool:=decide (-m<=n)&&decide (n<=m)
theorem Aju(n m:Int)(hm:0<=m)(c:m<=1000000000):AC prog 272 [.int .i64 n,.int .i64 m] (fun r=>r=.bool (inB n m)):=by
 have a:IntKind.i64.wrap (-m)= -m:=Bb om om;refine Ay func272 (fun w0 N0=>?_);refine Aa [0,1] [] sr ?_;exact Aa [4] [] (by simp [a]<;>rfl) (Ak (Ad sr (by simp [inB])))
theorem Bce(n:Int):AC prog 271 [.int .i64 n] (fun r=>r=.bool (!inB n 1000000)):=by
 have a:=Aju n 1000000 dc dc;generalize inB n 1000000=z at*;refine Ay func271 (fun w0 N0=>?_);refine Aa [0] [] sr (Ab (Ac (Am 1 sr ?_)));refine Ai a func272 ?_;refine Ag [2] [] sr ?_;exact Ak (Ad sr (rfl))
def Ah3(r:Rw):Bool:=r.coef.any (fun c=> !inB c 1000000)||(!inB r.mn 24000000|| !inB r.mx 24000000)
def Abt(a:List Int)(d:List Rw)(e:List Int):Int:=
 if 24<a.length\/60<d.length then 5 else if e.length≠a.length then 1 else if d.any (fun r=>decide (r.coef.length≠a.length))=true then 1
 else if a.any (fun c=> !inB c 1000000)=true then 3 else if d.any Ah3=true then 3 else if e.any (fun f=>decide (f< -1)||decide (1<f))=true then 3 else 0
theorem A72(d:List Int)(a:List Rw)(j:List Int)(hz:d.length<=1000/\a.length<=1000/\j.length<=1000):Hm gv prog 236 [.agg [.ro 1 (As d),.ro 3 (Hq a),.ro 1 (As j)]] (fun r=>r=.int .i64 (Abt d a j)):=by
 unfold Abt;have aa:=fun(l:List Int)=>(A2r l 271 [] [] (fun c=> !inB c 1000000) (fun c _ =>Afw ((Bce c).q gv) func271 kr rfl)).argsR (args:=[.ro 1 (As l),.fn 271]) (.cons (Bl.refl _) (.cons (Qz 271) .nil))
 have ae:=aa d;have hw:=fun(n:Int)=>Aju n 24000000 dc dc
 have ad:=fun(k:Nat)(h:k<a.length)=>Afy h
 have au:=Nw a;have af:=fun(k:Nat)(h:k<j.length)=>Fj h
 have aj:=A5 j;have ak:=A5 d;have pr:=Hb a;have pv:=Af d;have pf:=Af j;have ah:=fun(r:Rw)=>Af r.coef
 have ag:=fun(r:Rw)=>A5 r.coef
 generalize Hq a=rw at*;generalize an:As j=fv at*;generalize am:As d=vv at*;refine Bx func236 (fun w0 N0 hG=>?_);refine Aa [1] [1] sr (Aa [1,3] [1] sr (Ab (Aa [1,3,21] [1] sr ?_)))
 refine Ao (fun h1=>?_) (fun h1=>Ae ?_)
 ·exact Aa [2] [] sr (Ak (Ad sr (by rw [if_pos (by simp at h1;omega)])))
 rw [if_neg (by simp at h1;omega)];refine Ab (Aa [1,3,26] [1] sr ?_)
 refine Ao (fun h2=>?_) (fun h2=>Ae ?_)
 ·exact Aa [2] [] sr (Ak (Ad sr (by rw [if_pos (by simp at h2;omega)])))
 rw [if_neg (by simp at h2;omega)];refine Ab (Aa [1,3,28,29,30] [1] sr (Ap (Bq (fun k nx=>⟨[(1,V.bp 1 (0) 3 0 0),(3,V.int .i64 vv.length),(28,V.ro 3 rw),(29,V.int .i64 rw.length),(30,V.int .i64 k)],[(1,{ v:=0,sz:=3,ty:=257,es:=[V.agg [V.ro 1 vv,V.ro 3 rw,V.ro 1 fv]]})],nx,82⟩) (fun k=>(a.take k).any (fun r=>decide (r.coef.length≠d.length))=false) a.length _ rfl (AS.le_refl _) ?_)));intro k nx hk hI;refine Aa [1,3,28,29,30,31] [1] sr (Ab ?_)
 refine Ao (fun h3=>Ae ?_) (fun h3=>?_)
 ·have e:k<a.length:=by simp at h3;omega
  have i:k<rw.length:=om;have u:=ad k e;have C9:=A7 (k:=k) om;rw [show a[k].v=.agg [.ro 1 (As a[k].coef),.int .i64 a[k].mn,.int .i64 a[k].mx]from rfl]at u;have aq:=ag a[k];have o:=fun h=>Ny (f:=fun r:Rw=>decide (r.coef.length≠d.length)) e hI h
  have m:=fun h=>Rj (f:=fun r:Rw=>decide (r.coef.length≠d.length)) e h
  generalize a[k]=r at*;generalize As r.coef=cv at*;refine Ab (Ap (Aa [1,3,5,28,29,30] [1,5] (by simp [u,i]<;>rfl) (Aa [1,3,28,29,30,38] [1] sr ?_)))
  refine Ao (fun h4=>?_) (fun h4=>Ae ?_)
  ·exact Aa [2] [] sr (Ak (Ad sr (by rw [if_pos (m (by simp at h4|-;omega))])))
  refine A2 [1,3,28,29,30] [1] (by simp [C9]<;>rfl) ?_;exact⟨e,o (by simp at h4|-;omega),_,AS.le_refl _⟩
 ·refine A9 ?_;have s:k=a.length:=by simp at h3;omega
  rw [s,Bo]at hI;rw [if_neg (by rw [hI];simp)];refine Aa [1,6] [1] sr (Ab (Ab (Ac (Am 3 sr ?_))));refine Ho hG ae func273 rfl kr (by simp) rfl rfl rfl sr (by simp) sr ?_;refine Ag [1,6,43] [1] sr ?_
  refine Ao (fun h5=>?_) (fun h5=>Ae ?_)
  ·exact Aa [2] [] sr (Ak (Ad sr (by rw [if_pos (by simpa using h5)])))
  rw [if_neg (by simpa using h5)];refine Ab (Aa [1,6,45,46,47] [1] sr (Ap (Bq (fun k nx=>⟨[(1,V.bp 1 (0) 3 0 0),(6,.fn 271),(45,V.ro 3 rw),(46,V.int .i64 rw.length),(47,V.int .i64 k)],[(1,{ v:=0,sz:=3,ty:=257,es:=[V.agg [V.ro 1 vv,V.ro 3 rw,V.ro 1 fv]]})],nx,82⟩) (fun k=>(a.take k).any Ah3=false) a.length _ rfl (AS.le_refl _) ?_)));intro g ao al t;refine Aa [1,6,45,46,47,48] [1] sr (Ab ?_)
  refine Ao (fun h6=>Ae ?_) (fun h6=>?_)
  ·have e:g<a.length:=by simp at h6;omega
   have i:g<rw.length:=om;have u:=ad g e;have C9:=A7 (k:=g) om;rw [show a[g].v=.agg [.ro 1 (As a[g].coef),.int .i64 a[g].mn,.int .i64 a[g].mx]from rfl]at u;have x:=aa a[g].coef;have z:=ah a[g];have o:=fun h=>Ny (f:=Ah3) e t h
   have m:=fun h=>Rj (f:=Ah3) e h
   have ab:Ah3 a[g]=(a[g].coef.any (fun c=> !inB c 1000000)||(!inB a[g].mn 24000000|| !inB a[g].mx 24000000)):=rfl;have c1:=hw a[g].mn;have c2:=hw a[g].mx;generalize Ah3 a[g]=fa at*;generalize a[g].coef.any (fun c=> !inB c 1000000)=q1 at*;generalize inB a[g].mn 24000000=q2 at*;generalize inB a[g].mx 24000000=q3 at*;generalize a[g].mn=mn at*;generalize a[g].mx=mx at*;generalize As a[g].coef=cv at*;refine Ab (Ap (Aa [1,6,8,45,46,47] [1,8] (by simp [u,i]<;>rfl) (Ab (Ac (Am 3 sr ?_)))));refine Ho hG x func273 rfl kr (by simp) rfl rfl rfl sr (by simp) sr ?_;refine Am 3 sr ?_;refine De (c:= !q1) (fun hg=>c1) func272 rfl kr sr rfl rfl sr sm sr ?_;refine Am 5 sr ?_;refine De (c:=(!q1&&q2)) (fun hg=>c2) func272 rfl kr sr rfl rfl sr sm sr ?_;refine Ag [1,6,45,46,47,66] [1] sr ?_
   refine Ao (fun h7=>?_) (fun h7=>Ae ?_)
   ·exact Aa [2] [] sr (Ak (Ad sr (by rw [if_pos (m (by rw [ab];revert h7;cases q1<;>cases q2<;>cases q3<;>simp))])))
   refine A2 [1,6,45,46,47] [1] (by simp [C9]<;>rfl) ?_;exact⟨e,o (by rw [ab];revert h7;cases q1<;>cases q2<;>cases q3<;>simp),_,AS.le_refl _⟩
  ·refine A9 ?_;have s:g=a.length:=by simp at h6;omega
   rw [s,Bo]at t;rw [if_neg (by rw [t];simp)];refine Ab (Aa [69,70,71] [] sr (Ap (Bq (fun k nx=>⟨[(69,V.ro 1 fv),(70,V.int .i64 fv.length),(71,V.int .i64 k)],[],nx,82⟩) (fun k=>(j.take k).any (fun f=>decide (f< -1)||decide (1<f))=false) j.length _ rfl (AS.le_refl _) ?_)));intro y ai ar w;refine Aa [69,70,71,72] [] sr (Ab ?_)
   refine Ao (fun h8=>Ae ?_) (fun h8=>?_)
   ·have e:y<j.length:=by simp at h8;omega
    have i:y<fv.length:=om;have u:=af y e;have C9:=A7 (k:=y) om;have o:=fun h=>Ny (f:=fun f:Int=>decide (f< -1)||decide (1<f)) e w h
    have m:=fun h=>Rj (f:=fun f:Int=>decide (f< -1)||decide (1<f)) e h
    generalize j[y]=f at*;refine Ab (Ap (Aa [10,69,70,71] [] (by simp [u,i]<;>rfl) (Aa [69,70,71,80] [] sr ?_)))
    refine Ao (fun h9=>?_) (fun h9=>Ae ?_)
    ·exact Aa [2] [] sr (Ak (Ad sr (by rw [if_pos (m (by simpa using h9))])))
    refine A2 [69,70,71] [] (by simp [C9]<;>rfl) ?_;exact⟨e,o (by simpa using h9),_,AS.le_refl _⟩
   ·refine A9 ?_;have s:y=j.length:=by simp at h8;omega
    rw [s,Bo]at w;rw [if_neg (by rw [w];simp)];exact Aa [2] [] sr (Ak (Ad sr rf))
theorem Cf{α:Type}{l:List α}{k:Nat}(h:k<l.length)(d:α):l.getD k d=l[k]:=by simp [List.getD,h]
def Zx(c x:List Int):Nat->Int
 |0=>0
 |k+1=>IntKind.i64.wrap (Zx c x k+IntKind.i64.wrap (c.getD k 0*x.getD k 0))
def Xj(c x:List Int):Int:=Zx c x c.length
theorem Af6(c x:List Int)(h:c.length<=x.length)(hl:c.length<=1000):AC prog 298 [.ro 1 (As c),.ro 1 (As x)] (fun r=>r=.int .i64 (Xj c x)):=by
 unfold Xj;have l:=fun(k:Nat)(h:k<c.length)=>Fj h
 have z:=A5 c;have s:=fun(k:Nat)(h:k<x.length)=>Fj h
 have y:=A5 x;have m:∀k(h1:k<c.length)(h2:k<x.length),Zx c x (k+1)=IntKind.i64.wrap (Zx c x k+IntKind.i64.wrap (c[k]*x[k])):=fun k h1 h2=>by rw [Zx,Cf h1,Cf h2]
 have o:Zx c x 0=0:=rfl;have pc:=Af c;have px:=Af x;generalize As c=i,As x=t,Zx c x=pk at*;refine Ay func298 (fun w0 N0=>?_);refine Aa [0,1] [] sr (Aa [0,1,5] [] sr (Ab (Aa [1,5,8,9,10] [] sr (Ap (Bq (fun k nx=>⟨[(1,V.ro 1 t),(5,V.int .i64 (pk k)),(8,V.ro 1 i),(9,V.int .i64 i.length),(10,V.int .i64 k)],[],nx,25⟩) (fun k=>True) c.length _ trivial (by simp only [o];exact AS.le_refl _) ?_)))));intro k nx hk hI;refine Aa [1,5,8,9,10,11] [] sr (Ab ?_)
 refine Ao (fun h1=>Ae ?_) (fun h1=>?_)
 ·have d:k<c.length:=by simp at h1;omega
  have e:k<x.length:=om;have g:k<i.length:=om;have f:k<t.length:=om;have u:=l k d;have w:=s k e;have C9:=A7 (k:=k) om;have n:=m k d e;generalize c[k]=a,x[k]=b at*;refine Ab (Ap (Aa [1,5,6,7,8,9,10] [] (by simp [u,g]<;>rfl) (A2 [1,5,8,9,10] [] (by simp [w,f]<;>rfl) (A2 [1,5,8,9,10] [] (by simp [C9]<;>rfl) ?_))));exact⟨d,trivial,_,by rw [n];exact AS.le_refl _⟩
 ·refine A9 ?_;have j:k=c.length:=by simp at h1;omega
  subst j;exact Aa [4] [] sr (Ak (Ad sr rf))
def Nz(a:List Int):Nat->List Int
 |0=>[]
 |k+1=>if a.getD k 0<0 then Nz a k++[(k:Int)]else Nz a k
def Fq(a:List Int):List Int:=Nz a a.length
theorem Wi(a:List Int):∀k,(Nz a k).length<=k
 |0=>A8 _
 |k+1=>by have:=Wi a k;rw [Nz];split<;>simp<;>omega
theorem Zy(c:List Int):∀k,∀i∈Nz c k,0<=i/\i<k
 |0=>fun i a=>by cases a
 |k+1=>fun i a=>by
  have ih:=Zy c k;rw [Nz]at a
  split at a
  ·rcases B3.1 a with h1|h1
   ·have:=ih i h1;omega
   ·have:=By.1 h1;omega
  ·have:=ih i a;omega
theorem Apd(e:List V)(rw:List V)(a:List Int)(pv:e.all V.pureE=true)(pr:rw.all V.pureE=true)(hl:a.length<=1000):ACO prog 274 [.agg [.ro 1 e,.ro 3 rw,.ro 1 (As a)]] 1 3 (fun F es=>(F=fun d q=>.sl d q 1 (Fq a).length)/\es=As (Fq a)):=by
 unfold Fq;have t:=fun(k:Nat)(h:k<a.length)=>Fj h
 have aa:=A5 a;have pf:=Af a;have r:∀k(h:k<a.length),Nz a (k+1)=if a[k] <0 then Nz a k++[(k:Int)]else Nz a k:=fun k h=>by rw [Nz,Cf h]
 have m:=Wi a;have l:Nz a 0= []:=rfl;generalize Nz a=j,As a=s at*;refine Lj func274 (fun w0 N0=>?_);refine Aa [1] [1] sr (Aa [1,3] [1] sr (Ab (Aa [3,7,8,9] [] sr (Ap (F5 3 100 1 3 [3,7,8,9] [100] sr sr ?_)))))
 refine Dr (fun x:Nat × Nat × Nat=>⟨[(3,.sl 100 x.2.1 1 (j x.1).length),(7,V.ro 1 s),(8,.int .i64 s.length),(9,V.int .i64 (x.1:Nat))],[(100,⟨x.2.1,1,3,As (j x.1)⟩)],x.2.2,22⟩)
  (fun x=>x.1<=a.length) (fun x=>a.length-x.1) (0,_,_) (B6 _) (by simp only [l];exact AS.le_refl _) ?_
 rintro⟨k,qv,nx⟩y;simp only at y|-;refine Aa [3,7,8,9,10] [100] sr (Ab ?_)
 refine Ao (fun h1=>Ae ?_) (fun h1=>?_)
 ·have c:k<a.length:=by simp at h1;omega
  have i:k<s.length:=om;have w:=t k c;have C9:=A7 (k:=k) om;have hs:=r k c;have z:=m k;generalize a[k]=f,j k=o at*;have n:o.length+1<=maxLen/\(o.length+1)*8<=140737488355328:=⟨Aj (show o.length+1<=1001 by omega) dc,by omega⟩;refine Ab (Ap (Aa [3,4,5,7,8,9] [100] (by simp [w,i]<;>rfl) (Aa [3,4,7,8,9,15] [100] sr ?_)))
  refine Ao (fun h2=>?_) (fun h2=>Ae ?_)
  ·rw [if_pos (by simpa using h2)]at hs;refine A2 [3,7,8,9] [100] (by simp [n]<;>rfl) (A2 [3,7,8,9] [100] (by simp [C9]<;>rfl) ?_);exact⟨(k+1,_,_),c,by simp only;omega,by simp only [hs,Wh,Bi,Bc,B0];exact AS.le_refl _⟩
  rw [if_neg (by simpa using h2)]at hs;refine A2 [3,7,8,9] [100] (by simp [C9]<;>rfl) ?_;exact⟨(k+1,_,_),c,by simp only;omega,by simp only [hs];exact AS.le_refl _⟩
 ·refine A9 ?_;have u:k=a.length:=by simp at h1;omega
  subst u;have g:=Sq (j a.length);refine Aa [2] [100] sr ?_;exact Ak (I6 100 sr rfl rfl (by simpa using g) sr ⟨rfl,rfl⟩)
theorem A73(a:List V)(rw:List V)(c:List Int)(pv:a.all V.pureE=true)(f:rw.all V.pureE=true)(d:c.length<=1000):AC prog 274 [.agg [.ro 1 a,.ro 3 rw,.ro 1 (As c)]] (fun r=>r=.ro 1 (As (Fq c))):=by
 refine(Apd a rw c pv f d).ac ?_;rintro F e⟨rfl,rfl⟩;have hp:=Af (Fq c);have d:=A5 (Fq c);exact⟨_,by simp [hp,d]<;>rfl,rfl⟩
instance:Inhabited Rw:=⟨⟨[],0,0⟩⟩
def Ape(c:List Int):Nat->Int
 |0=>0
 |k+1=>IntKind.i64.wrap (Ape c k+c.getD k 0)
def Vb(c:Int):Bool:=decide (c≠0)&&decide (c≠1)
def Af7(c:List Int):Int:=if c.any Vb=true then -1 else Ape c c.length
def R2(a:List Rw):Nat->Int × Int
 |0=>(-1,0)
 |k+1=>if(R2 a k).2<Af7 (a.getD k default).coef then((k:Int),Af7 (a.getD k default).coef)else R2 a k
def A3l(a:List Rw):Int:=(R2 a a.length).1
theorem Ayb(l:List V)(a:List Rw)(fv:List V)(pv:l.all V.pureE=true)(pf:fv.all V.pureE=true)(hl:a.length<=1000)(hc:∀r∈a,r.coef.length<=1000):AC prog 297 [.agg [.ro 1 l,.ro 3 (Hq a),.ro 1 fv]] (fun r=>r=.int .i64 (A3l a)):=by
 unfold A3l;have ad:=fun(k:Nat)(h:k<a.length)=>Afy h
 have al:=Nw a;have pr:=Hb a;have ag:∀k(h:k<a.length),R2 a (k+1)=if(R2 a k).2<Af7 a[k].coef then((k:Int),Af7 a[k].coef)else R2 a k:=fun k h=>by rw [R2,Cf h]
 have hw0:R2 a 0=(-1,0):=rfl;generalize R2 a=wk,Hq a=rw at*;refine Ay func297 (fun w0 N0=>?_);refine Aa [1] [1] sr (Aa [1,3,4] [1] sr (Ab (Aa [3,4,11,12,13] [] sr (Ap (Bq (fun k nx=>⟨[(3,V.int .i64 (wk k).1),(4,V.int .i64 (wk k).2),(11,V.ro 3 rw),(12,V.int .i64 rw.length),(13,V.int .i64 k)],[],nx,42⟩) (fun k=>True) a.length _ trivial (by simp only [hw0];exact AS.le_refl _) ?_)))));intro k nx hk hI;refine Aa [3,4,11,12,13,14] [] sr (Ab ?_)
 refine Ao (fun h1=>Ae ?_) (fun h1=>?_)
 ·have i:k<a.length:=by simp at h1;omega
  have u:k<rw.length:=om;have ga:=ad k i;have C9:=A7 (k:=k) om;have hs:=ag k i;have ai:=hc _ (Aw i);rw [show a[k].v=.agg [.ro 1 (As a[k].coef),.int .i64 a[k].mn,.int .i64 a[k].mx]from rfl]at ga;generalize a[k].coef=d,wk k=p0 at*;obtain⟨aa,m0⟩:=p0;simp only at hs|-;have w:=fun(k:Nat)(h:k<d.length)=>Fj h
  have ak:=A5 d;have pc:=Af d;have af:∀k(h:k<d.length),Ape d (k+1)=IntKind.i64.wrap (Ape d k+d[k]):=fun k h=>by rw [Ape,Cf h]
  have z:Ape d 0=0:=rfl;have j:Af7 d=if d.any Vb=true then -1 else Ape d d.length:=rfl
  generalize Ape d=sk,As d=cv,Af7 d=on at*;refine Ab (Ap (Aa [3,4,5,6,11,12,13] [6] (by simp [ga,u]<;>rfl) (Aa [3,4,5,6,7,11,12,13] [6] sr (Ab (Aa [3,4,5,7,11,12,13,19,20,21] [] sr (Ap (Bq (fun g t=>⟨[(3,V.int .i64 aa),(4,V.int .i64 m0),(5,V.int .i64 k),(7,V.int .i64 (sk g)),(11,V.ro 3 rw),(12,V.int .i64 rw.length),(13,V.int .i64 k),(19,.ro 1 cv),(20,.int .i64 cv.length),(21,V.int .i64 g)],[],t,42⟩) (fun g=>(d.take g).any Vb=false) d.length _ rfl (by simp only [z];exact AS.le_refl _) ?_)))))));intro g t aj n;refine Aa [3,4,5,7,11,12,13,19,20,21,22] [] sr (Ab ?_)
  refine Ao (fun h2=>Ae ?_) (fun h2=>?_)
  ·have e:g<d.length:=by simp at h2;omega
   have o:g<cv.length:=om;have gc:=w g e;have Pq:=A7 (k:=g) om;have ae:=fun h=>Ny (f:=Vb) e n h
   have ab:=fun h=>Rj (f:=Vb) e h
   have y:=af g e;have s:Vb d[g]=(decide (d[g]≠0)&&decide (d[g]≠1)):=rfl;generalize d[g]=c at*;refine Ab (Ap (Aa [3,4,5,7,9,11,12,13,19,20,21] [] (by simp [gc,o]<;>rfl) (Ab (Aa [3,4,5,7,9,11,12,13,19,20,21,30] [] sr ?_))))
   refine Ao (fun h3=>?_) (fun h3=>Ae ?_)
   ·rw [if_pos (ab (by rw [s];simpa using h3))]at j;subst j;refine Aa [3,4,5,7,11,12,13] [] sr (A9 ?_);refine Aa [3,4,5,7,11,12,13,37] [] sr ?_
    refine Ao (fun x=>?_) (fun x=>Ae ?_)
    ·rw [if_pos (by simpa using x)]at hs;refine A2 [3,4,11,12,13] [] sr (A2 [3,4,11,12,13] [] (by simp [C9]<;>rfl) ?_);exact⟨i,trivial,_,by simp only [hs];exact AS.le_refl _⟩
    rw [if_neg (by simpa using x)]at hs;refine A2 [3,4,11,12,13] [] (by simp [C9]<;>rfl) ?_;exact⟨i,trivial,_,by simp only [hs];exact AS.le_refl _⟩
   refine A2 [3,4,5,7,11,12,13,19,20,21] [] sr (A2 [3,4,5,7,11,12,13,19,20,21] [] (by simp [Pq]<;>rfl) ?_);exact⟨e,ae (by rw [s];simpa using h3),_,by simp only [y];exact AS.le_refl _⟩
  ·refine A9 ?_;have m:g=d.length:=by simp at h2;omega
   rw [m,Bo]at n;rw [if_neg (by rw [n];simp)]at j;rw [m,<- j];refine Aa [3,4,5,7,11,12,13,37] [] sr ?_
   refine Ao (fun h5=>?_) (fun h5=>Ae ?_)
   ·rw [if_pos (by simpa using h5)]at hs;refine A2 [3,4,11,12,13] [] sr (A2 [3,4,11,12,13] [] (by simp [C9]<;>rfl) ?_);exact⟨i,trivial,_,by simp only [hs];exact AS.le_refl _⟩
   rw [if_neg (by simpa using h5)]at hs;refine A2 [3,4,11,12,13] [] (by simp [C9]<;>rfl) ?_;exact⟨i,trivial,_,by simp only [hs];exact AS.le_refl _⟩
 ·refine A9 ?_;have ah:k=a.length:=by simp at h1;omega
  subst ah;exact Aa [2] [] sr (Ak (Ad sr rf))
theorem Dj{l:List Int}{k:Nat}(h:k<l.length):Hs (As l) k=some (.int .i64 (l.getD k 0)):=by rw [Cf h];exact Fj h
theorem Zz{l:List Rw}{k:Nat}(h:k<l.length):Hs (Hq l) k=some (.agg [.ro 1 (As (l.getD k default).coef),.int .i64 (l.getD k default).mn,.int .i64 (l.getD k default).mx]):=by rw [Cf h];exact Afy h
theorem Af8{l:Mo}{k:Nat}(h:k<l.length):Hs (Ek l) k=some (.ro 1 (As (l.getD k []))):=by rw [Cf h];exact Sg h
theorem He{α:Type}{l:List α}{P:α->Prop}(h:∀x∈l,P x){k:Nat}(a:k<l.length)(d:α):P (l.getD k d):=by rw [Cf a];exact h _ (Aw a)
structure Ss where
 vals:List Int
 rows:List Rw
 fx:List Int
 free:List Int
 one:Bool
 once:Bool
 low:Mo
 high:Mo
 wide:Int
 order:List Int
structure Sd where
 x:List Int
 value:Int
 sums:List Int
 least:Int
 best:Option (List Int)
 most:Int
 found:Bool
def bV:Option (List Int)->V
 |none=>.nils
 |some l=>.ro 1 (As l)
theorem Ad1(o:Option (List Int)):(bV o).pureC=true:=by cases o<;>simp [bV,V.pureC]
def srC(s:Ss)(d:Sd)(c a:V):List V:=
 [.ro 1 (As s.vals),.ro 3 (Hq s.rows),.ro 1 (As s.fx),.ro 1 (As s.free),.bool s.one,.bool s.once,c,.int .i64 d.value,a,.ro 1 (Ek s.low),.ro 1 (Ek s.high),.int .i64 s.wide,.ro 1 (As s.order),.int .i64 d.least,bV d.best,.int .i64 d.most,.bool d.found]
structure WfS(s:Ss):Prop where
 hr:s.rows.length<=1000
 hv:s.vals.length<=1000
 hc:∀r∈s.rows,r.coef.length=s.vals.length
 hf:∀i∈s.free,0<=i/\i<s.vals.length
 hfl:s.free.length<=1000
 hl:s.low.length=s.free.length+1
 hh:s.high.length=s.free.length+1
 hlr:∀l∈s.low,l.length=s.rows.length
 hhr:∀l∈s.high,l.length=s.rows.length
 hw: -1<=s.wide/\s.wide<s.rows.length
 ho:∀e∈s.order,0<=e/\e<s.free.length
 hol:s.order.length<=1000
structure WfD(s:Ss)(d:Sd):Prop where
 hx:d.x.length=s.vals.length
 hs:d.sums.length=s.rows.length
def Aly(s:Ss)(d:Sd)(a k:Nat):Bool:=
 decide ((s.rows.getD k default).mx<IntKind.i64.wrap (d.sums.getD k 0+(s.low.getD a []).getD k 0))||decide (IntKind.i64.wrap (d.sums.getD k 0+(s.high.getD a []).getD k 0)<(s.rows.getD k default).mn)
def Af9(s:Ss)(d:Sd)(a:Nat):Nat->Bool
 |0=>true
 |k+1=>Af9 s d a k&& !Aly s d a k
def Ah4(s:Ss)(d:Sd)(a:Nat):Bool:=Af9 s d a s.rows.length
theorem Apf{s:Ss}{d:Sd}{a k:Nat}(h:Aly s d a k=true):∀m,k<m->Af9 s d a m=false
 |0,c=>absurd c om
 |m+1,c=>by
  rw [Af9]
  by_cases e:k=m
  ·subst e;rw [h];simp
  ·rw [Apf h m (by omega)];rfl
theorem Apg(s:Ss)(d:Sd)(a:Nat)(hs:WfS s)(hd:WfD s d)(aq:a<=s.free.length):
  AC prog 300 [.rp (.agg (srC s d (.ro 1 (As d.x)) (.ro 1 (As d.sums)))),.int .i64 a] (fun r=>r=.bool (Ah4 s d a)):=by
 unfold Ah4;have a2:=hs.hr;have af:=fun(k:Nat)(h:k<s.rows.length)=>Zz h
 have a5:=Nw s.rows;have pr:=Hb s.rows;have pv:=Af s.vals;have pf:=Af s.fx;have az:=Af s.free;have px:=Af d.x;have a6:=Af d.sums;have a4:=Dw s.low;have a0:=Dw s.high;have a3:=Af s.order;have pb:=Ad1 d.best;have g:a<s.low.length:=by have:=hs.hl;omega
 have o:a<s.high.length:=by have:=hs.hh;omega
 have ai:=Af8 g;have ag:=Af8 o;have a7:=He hs.hlr g [];have aw:=He hs.hhr o [];have a1:=Lz s.low;have au:=Lz s.high;have ax:=hd.hs;have am:∀k,Aly s d a k=(decide ((s.rows.getD k default).mx<IntKind.i64.wrap (d.sums.getD k 0+(s.low.getD a []).getD k 0))||decide (IntKind.i64.wrap (d.sums.getD k 0+(s.high.getD a []).getD k 0)<(s.rows.getD k default).mn)):=fun k=>rfl
 have j:=fun(k:Nat)(h:Aly s d a k=true)=>Apf h s.rows.length
 have ak:∀k,Af9 s d a (k+1)=(Af9 s d a k&& !Aly s d a k):=fun k=>rfl
 have an:Af9 s d a 0=true:=rfl;unfold srC;generalize Af9 s d a=pk,Aly s d a=bp,s.low.getD a []=lo,s.high.getD a []=hi at*;have ad:=fun(k:Nat)(h:k<d.sums.length)=>Dj h
 have n:=fun(k:Nat)(h:k<lo.length)=>Dj h
 have z:=fun(k:Nat)(h:k<hi.length)=>Dj h
 have av:=A5 d.sums;have ao:=A5 lo;have ar:=A5 hi;generalize Hq s.rows=rw,As d.sums=sv,Ek s.low=w,Ek s.high=l,As lo=ab,As hi=ae,As s.vals=vv,As s.fx=fv,As s.free=aa,As d.x=xv,As s.order=ov,bV d.best=bv at*;refine Ay func300 (fun w0 N0=>?_);refine Aa [0,1] [] sr (Ab (Aa [0,1,11,12,13] [] sr (Ap (Bq (fun k nx=>⟨[(0,V.rp (V.agg [.ro 1 vv,.ro 3 rw,.ro 1 fv,.ro 1 aa,.bool s.one,.bool s.once,.ro 1 xv,.int .i64 d.value,.ro 1 sv,.ro 1 w,.ro 1 l,.int .i64 s.wide,.ro 1 ov,.int .i64 d.least,bv,.int .i64 d.most,.bool d.found])),(1,V.int .i64 a),(11,V.ro 3 rw),(12,V.int .i64 rw.length),(13,V.int .i64 k)],[],nx,63⟩) (fun k=>pk k=true) s.rows.length _ an (AS.le_refl _) ?_))));intro k nx hk hI;refine Aa [0,1,11,12,13,14] [] sr (Ab ?_)
 refine Ao (fun h1=>Ae ?_) (fun h1=>?_)
 ·have c:k<s.rows.length:=by simp at h1;omega
  have y:k<rw.length:=om;have ga:=af k c;have C9:=A7 (k:=k) om;have gs:=ad k om;have gl:=n k om;have gh:=z k om;have f:k<sv.length:=om;have t:k<ab.length:=om;have u:k<ae.length:=om;have i:a<w.length:=om;have e:a<l.length:=om;have m:=am k;have aj:=j k;have al:=ak k;generalize s.rows.getD k default=r,d.sums.getD k 0=su,lo.getD k 0=l1 at*;generalize hi.getD k 0=ay at*;generalize bp k=b at*;refine Ab (Ap (Aa [0,1,5,6,11,12,13] [6] (by simp [ga,y]<;>rfl) ?_));refine Di [(0,[]),(1,[]),(2,[]),(4,[]),(7,[]),(8,[]),(9,[]),(11,[]),(14,[]),(18,[]),(3,[]),(5,[]),(6,[]),(10,[]),(12,[]),(13,[]),(15,[]),(16,[]),(17,[]),(19,[]),(20,[]),(21,[]),(22,[]),(23,[]),(24,[]),(26,[]),(29,[]),(30,[]),(31,[]),(33,[]),(36,[]),(40,[]),(25,[]),(27,[]),(28,[]),(32,[]),(34,[]),(35,[]),(37,[]),(38,[]),(39,[]),(41,[]),(42,[]),(43,[])] [0,1,11,12,13,61] [] Dm kr (by simp [gs,gl,gh,f,t,u,i,e,ai,ag]<;>rfl) ?_
  refine Ao (fun h2=>?_) (fun h2=>Ae ?_)
  ·exact Aa [4] [] sr (Ak (Ad sr (by rw [aj (by rw [m];simpa using h2) c])))
  refine A2 [0,1,11,12,13] [] (by simp [C9]<;>rfl) ?_;exact⟨c,by rw [al,hI,m];simpa using h2,_,AS.le_refl _⟩
 ·refine A9 ?_;have ah:k=s.rows.length:=by simp at h1;omega
  rw [ah]at hI;rw [hI];exact Aa [4] [] sr (Ak (Ad sr rf))
def L6(s:Ss)(i:Nat):Bool:=decide (0<=s.wide)&&decide ((s.rows.getD s.wide.toNat default).coef.getD i 0=1)
def Od(s:Ss)(d:Sd)(a:Nat):Nat->Int × Int
 |0=>(if 0<=s.wide then IntKind.i64.wrap ((s.rows.getD s.wide.toNat default).mx-d.sums.getD s.wide.toNat 0)else 0,d.value)
 |k+1=>if s.order.getD k 0<a then Od s d a k
  else if L6 s (s.free.getD (s.order.getD k 0).toNat 0).toNat=true then
   (if(Od s d a k).1<=0 then Od s d a k else(IntKind.i64.wrap ((Od s d a k).1-1),IntKind.i64.wrap ((Od s d a k).2+s.vals.getD (s.free.getD (s.order.getD k 0).toNat 0).toNat 0)))
  else((Od s d a k).1,IntKind.i64.wrap ((Od s d a k).2+s.vals.getD (s.free.getD (s.order.getD k 0).toNat 0).toNat 0))
def Asp(s:Ss)(d:Sd)(a:Nat):Int:=(Od s d a s.order.length).2
theorem A3n(s:Ss)(d:Sd)(e:Nat)(hs:WfS s)(hd:WfD s d):
  AC prog 301 [.rp (.agg (srC s d (.ro 1 (As d.x)) (.ro 1 (As d.sums)))),.int .i64 e] (fun r=>r=.int .i64 (Asp s d e)):=by
 unfold Asp;have hol:=hs.hol;have aw:=fun(k:Nat)(h:k<s.rows.length)=>Zz h
 have bb:=Nw s.rows;have pr:=Hb s.rows;have pv:=Af s.vals;have pf:=Af s.fx;have a5:=Af s.free;have px:=Af d.x;have bc:=Af d.sums;have bg:=Dw s.low;have a9:=Dw s.high;have bh:=Af s.order;have pb:=Ad1 d.best;have a8:=hd.hs;have az:=fun(k:Nat)(h:k<d.sums.length)=>Dj h
 have al:=fun(k:Nat)(h:k<s.order.length)=>Dj h
 have z:=fun(k:Nat)(h:k<s.free.length)=>Dj h
 have aq:=fun(k:Nat)(h:k<s.vals.length)=>Dj h
 have bd:=A5 d.sums;have a3:=A5 s.order;have a2:=A5 s.free;have a6:=A5 s.vals
 have ao:∀k,Od s d e (k+1)=if s.order.getD k 0<e then Od s d e k
  else if L6 s (s.free.getD (s.order.getD k 0).toNat 0).toNat=true then
   (if(Od s d e k).1<=0 then Od s d e k else(IntKind.i64.wrap ((Od s d e k).1-1),IntKind.i64.wrap ((Od s d e k).2+s.vals.getD (s.free.getD (s.order.getD k 0).toNat 0).toNat 0)))
  else((Od s d e k).1,IntKind.i64.wrap ((Od s d e k).2+s.vals.getD (s.free.getD (s.order.getD k 0).toNat 0).toNat 0)):=fun k=>rfl
 have n:Od s d e 0=(if 0<=s.wide then IntKind.i64.wrap ((s.rows.getD s.wide.toNat default).mx-d.sums.getD s.wide.toNat 0)else 0,d.value):=rfl;have j:∀i,L6 s i=(decide (0<=s.wide)&&decide ((s.rows.getD s.wide.toNat default).coef.getD i 0=1)):=fun i=>rfl
 have ba:=hs.hw;have au:=fun(k:Nat)(h:k<s.rows.length)=>He hs.hc h default
 unfold srC;generalize Od s d e=bk,L6 s=wh at*;generalize bf:s.wide=wd at*;generalize Hq s.rows=rw,As d.sums=sv,Ek s.low=an,Ek s.high=aj,As s.vals=vv,As s.fx=fv,As s.free=w,As d.x=xv,As s.order=ov,bV d.best=bv at*;refine Ay func301 (fun w0 N0=>?_);refine Aa [0,1] [] sr (Aa [0,1,5] [] sr (Ab (Aa [0,1,5,14] [] sr ?_)))
 refine Ao (fun h1=>?_) (fun h1=>Ae ?_)
 ·obtain⟨o,a0⟩:=Co (show 0<=wd by simpa using h1);subst a0;simp only [Dv]at n j;have ak:o<s.rows.length:=om;have gr:=aw o ak;have gs:=az o om;have am:o<rw.length:=om;have ar:o<sv.length:=om;have hw0:(0:Int)<=(o:Int):=om;have av:=au o ak;rw [if_pos hw0]at n;replace j:∀i,wh i=decide ((s.rows.getD o default).coef.getD i 0=1):=fun i=>by rw [j];simp
  generalize s.rows.getD o default=r,d.sums.getD o 0=su at*;obtain⟨cf,be,a4⟩:=r;simp only at av n j gr;have ay:=fun(k:Nat)(h:k<s.vals.length)=>Dj (l:=cf) (show k<cf.length by omega)
  have a7:=A5 cf;generalize As cf=cv at*;refine Tc [(0,[]),(1,[]),(2,[]),(3,[]),(5,[]),(6,[]),(7,[]),(12,[]),(13,[]),(14,[]),(16,[]),(17,[]),(18,[]),(4,[]),(8,[]),(9,[]),(10,[]),(11,[]),(15,[]),(19,[]),(20,[]),(21,[]),(22,[]),(23,[])] [0,1,5] [] Dm kr (by simp [gr,gs,am,ar]<;>rfl) ?_;refine Aa [0,1,5,6] [] sr (Ab (Aa [0,1,5,6,45,46,47] [] sr (Ap (Bq (fun k nx=>⟨[(0,V.rp (V.agg [.ro 1 vv,.ro 3 rw,.ro 1 fv,.ro 1 w,.bool s.one,.bool s.once,.ro 1 xv,.int .i64 d.value,.ro 1 sv,.ro 1 an,.ro 1 aj,.int .i64 (o:Nat),.ro 1 ov,.int .i64 d.least,bv,.int .i64 d.most,.bool d.found])),(1,V.int .i64 e),(5,.int .i64 (bk k).1),(6,.int .i64 (bk k).2),(45,.ro 1 ov),(46,.int .i64 ov.length),(47,V.int .i64 k)],[],nx,100⟩) (fun k=>True) s.order.length _ trivial (by simp only [n];exact AS.le_refl _) ?_))));intro k nx hk hI;refine Aa [0,1,5,6,45,46,47,48] [] sr (Ab ?_)
  refine Ao (fun h2=>Ae ?_) (fun h2=>?_)
  ·have f:k<s.order.length:=by simp at h2;omega
   have t:k<ov.length:=om;have ga:=al k f;have C9:=A7 (k:=k) om;have a:=ao k;obtain⟨ae,aa⟩:=He hs.ho f 0;obtain⟨en,ad⟩:=Co ae;rw [ad]at ga a aa;have m:en<s.free.length:=om;have ge:=z en m;obtain⟨ab,af⟩:=He hs.hf m 0;obtain⟨i,hi⟩:=Co ab;simp only [Dv]at a;rw [hi]at ge af a;simp only [Dv]at a;have u:i<s.vals.length:=om;have gv:=aq i u;have ag:en<w.length:=om;have y:i<vv.length:=om;generalize s.vals.getD i 0=v,bk k=p at*;obtain⟨ai,a1⟩:=p;simp only at a|-;have gc:=ay i u;have ax:i<cv.length:=om;rw [j i]at a;generalize cf.getD i 0=c at*;refine Ab (Ap (Aa [0,1,5,6,8,45,46,47] [] (by simp [ga,t]<;>rfl) (Ab (Aa [0,1,5,6,8,45,46,47,53] [] sr ?_))))
   refine Ao (fun h3=>?_) (fun h3=>Ae ?_)
   ·rw [if_pos (by simpa using h3)]at a;refine A9 ?_;refine A2 [0,1,5,6,45,46,47] [] (by simp [C9]<;>rfl) ?_;exact⟨f,trivial,_,by simp only [a];exact AS.le_refl _⟩
   rw [if_neg (by simpa using h3)]at a;refine Aa [0,1,5,6,9,45,46,47] [] (by simp [ge,ag]<;>rfl) (Ab (Di [(0,[]),(1,[]),(2,[]),(3,[]),(4,[]),(5,[]),(6,[]),(7,[]),(8,[]),(9,[]),(11,[]),(12,[]),(13,[]),(18,[]),(10,[]),(14,[]),(15,[]),(16,[]),(17,[]),(19,[]),(20,[]),(21,[]),(22,[])] [0,1,5,6,9,45,46,47,83] [] Dm kr (by simp [gr,gc,ax,hw0,am]<;>rfl) ?_))
   refine Ao (fun h4=>?_) (fun h4=>Ae ?_)
   ·refine Ab ?_;rw [if_pos (by simpa using h4)]at a;refine Aa [0,1,5,6,9,45,46,47,85] [] sr ?_
    refine Ao (fun h5=>?_) (fun h5=>Ae ?_)
    ·rw [if_pos (by simpa using h5)]at a;refine A9 ?_;refine A2 [0,1,5,6,45,46,47] [] (by simp [C9]<;>rfl) ?_;exact⟨f,trivial,_,by simp only [a];exact AS.le_refl _⟩
    rw [if_neg (by simpa using h5)]at a;refine A2 [0,1,5,6,9,45,46,47] [] sr (A2 [0,1,5,6,45,46,47] [] (by simp [gv,y]<;>rfl) (A2 [0,1,5,6,45,46,47] [] (by simp [C9]<;>rfl) ?_));exact⟨f,trivial,_,by simp only [a];exact AS.le_refl _⟩
   rw [if_neg (by simpa using h4)]at a;refine A2 [0,1,5,6,45,46,47] [] (by simp [gv,y]<;>rfl) (A2 [0,1,5,6,45,46,47] [] (by simp [C9]<;>rfl) ?_);exact⟨f,trivial,_,by simp only [a];exact AS.le_refl _⟩
  ·refine A9 ?_;have ah:k=s.order.length:=by simp at h2;omega
   subst ah;exact Aa [4] [] sr (Ak (Ad sr rf))
 have g:¬(0:Int)<=wd:=by simpa using h1
 rw [if_neg g]at n;replace j:∀i,wh i=false:=fun i=>by rw [j];simp only [g,decide_false,Bool.false_and]
 refine Aa [0,1,5,6] [] sr (Ab (Aa [0,1,5,6,45,46,47] [] sr (Ap (Bq (fun k nx=>⟨[(0,V.rp (V.agg [.ro 1 vv,.ro 3 rw,.ro 1 fv,.ro 1 w,.bool s.one,.bool s.once,.ro 1 xv,.int .i64 d.value,.ro 1 sv,.ro 1 an,.ro 1 aj,.int .i64 wd,.ro 1 ov,.int .i64 d.least,bv,.int .i64 d.most,.bool d.found])),(1,V.int .i64 e),(5,.int .i64 (bk k).1),(6,.int .i64 (bk k).2),(45,.ro 1 ov),(46,.int .i64 ov.length),(47,V.int .i64 k)],[],nx,100⟩) (fun k=>True) s.order.length _ trivial (by simp only [n];exact AS.le_refl _) ?_))));intro k nx hk hI;refine Aa [0,1,5,6,45,46,47,48] [] sr (Ab ?_)
 refine Ao (fun h6=>Ae ?_) (fun h6=>?_)
 ·have f:k<s.order.length:=by simp at h6;omega
  have t:k<ov.length:=om;have ga:=al k f;have C9:=A7 (k:=k) om;have a:=ao k;obtain⟨ae,aa⟩:=He hs.ho f 0;obtain⟨en,ad⟩:=Co ae;rw [ad]at ga a aa;have m:en<s.free.length:=om;have ge:=z en m;obtain⟨ab,af⟩:=He hs.hf m 0;obtain⟨i,hi⟩:=Co ab;simp only [Dv]at a;rw [hi]at ge af a;simp only [Dv]at a;have u:i<s.vals.length:=om;have gv:=aq i u;have ag:en<w.length:=om;have y:i<vv.length:=om;generalize s.vals.getD i 0=v,bk k=p at*;obtain⟨ai,a1⟩:=p;simp only at a|-;rw [j i]at a;refine Ab (Ap (Aa [0,1,5,6,8,45,46,47] [] (by simp [ga,t]<;>rfl) (Ab (Aa [0,1,5,6,8,45,46,47,53] [] sr ?_))))
  refine Ao (fun h7=>?_) (fun h7=>Ae ?_)
  ·rw [if_pos (by simpa using h7)]at a;refine A9 ?_;refine A2 [0,1,5,6,45,46,47] [] (by simp [C9]<;>rfl) ?_;exact⟨f,trivial,_,by simp only [a];exact AS.le_refl _⟩
  rw [if_neg (by simpa using h7)]at a;refine Aa [0,1,5,6,9,45,46,47] [] (by simp [ge,ag]<;>rfl) (Ab (Di [(0,[]),(1,[]),(2,[]),(3,[]),(4,[]),(5,[]),(6,[]),(7,[]),(8,[]),(9,[]),(11,[]),(12,[]),(13,[]),(18,[]),(10,[]),(14,[]),(15,[]),(16,[]),(17,[]),(19,[]),(20,[]),(21,[]),(22,[])] [0,1,5,6,9,45,46,47,83] [] Dm kr (by simp [g]<;>rfl) ?_));refine A6 rfl (fun h8=>absurd h8 (by simp)) (fun h8=>Ae ?_);rw [if_neg (by simp)]at a;refine A2 [0,1,5,6,45,46,47] [] (by simp [gv,y]<;>rfl) (A2 [0,1,5,6,45,46,47] [] (by simp [C9]<;>rfl) ?_);exact⟨f,trivial,_,by simp only [a];exact AS.le_refl _⟩
 ·refine A9 ?_;have ah:k=s.order.length:=by simp at h6;omega
  subst ah;exact Aa [4] [] sr (Ak (Ad sr rf))
theorem Aph{P:Program}{w0:Bs}{N0:Nat->Prop}{Q:Exit->AS->Prop}{S:AS}{c:Code}(a:Nat)(h:AW P w0 N0 c Q { S with nx:=a+S.nx}):AW P w0 N0 c Q S:=
 Ui (S':={ S with nx:=a+S.nx}) (Aew rfl rfl rfl (Nat.le_add_left _ _)) h
def Abu(s:Ss)(d:Sd)(v c a:Nat):List (Nat × Ob):=
 [(22,⟨v,17,376,[.agg (srC s d (.sl 27 c 1 d.x.length) (.sl 61 a 1 d.sums.length))]⟩),(27,⟨c,1,3,As d.x⟩),(61,⟨a,1,3,As d.sums⟩)]
theorem Fk{a b c k:Nat}{x y z o:Ob}{l:List (Nat × Ob)}(h1:Eng.get l a=some x)(h2:Eng.get l b=some y)(f:Eng.get l c=some z)(d:Eng.get [(a,x),(b,y),(c,z)] k=some o):Eng.get l k=some o:=by
 simp only [Eng.get]at d
 split at d
 ·rename_i e;subst e;injection d with d;subst d;exact h1
 ·split at d
  ·rename_i e;subst e;injection d with d;subst d;exact h2
  ·split at d
   ·rename_i e;subst e;injection d with d;subst d;exact f
   ·cases d
def X7(c:List Rw)(i:Nat)(d:Int)(a:List Int):Nat->List Int
 |0=>a
 |k+1=>(X7 c i d a k).set k (IntKind.i64.wrap ((X7 c i d a k).getD k 0+IntKind.i64.wrap (d*(c.getD k default).coef.getD i 0)))
theorem Vc(c:List Rw)(i:Nat)(d:Int)(a:List Int):∀k,(X7 c i d a k).length=a.length
 |0=>rfl
 |k+1=>by rw [X7,H5,Vc c i d a k]
def sgn(b:Int):Int:=IntKind.i64.wrap (IntKind.i64.wrap (2*b)-1)
def Im(s:Ss)(d:Sd)(i:Nat)(b:Int):Sd:=
 { d with x:=d.x.set i b,value:=IntKind.i64.wrap (d.value+IntKind.i64.wrap (sgn b*s.vals.getD i 0)),sums:=X7 s.rows i (sgn b) d.sums s.rows.length}
theorem Rk{s:Ss}{d:Sd}(h:WfD s d)(i:Nat)(b:Int):WfD s (Im s d i b):=⟨by simp [Im,h.hx],by simp [Im,Vc,h.hs]⟩
theorem Vd(l:List Int)(k:Nat)(x:Int):As (l.set k x)=(As l).set k (.int .i64 x):=by simp [As,N7]
theorem A74(s:Ss)(d:Sd)(i:Nat)(b:Int)(v z y:Nat)(hs:WfS s)(hd:WfD s d)(hi:i<s.vals.length):
  ACS prog 302 [.bp 22 v 17 0 0,.int .i64 i,.int .i64 b] (Abu s d v z y) (fun r j=>r=.tup []/\j=Abu s (Im s d i b) v z y) (fun _ =>False):=by
 have a1:=hs.hr;have ao:=fun(k:Nat)(h:k<s.rows.length)=>Zz h
 have ad:=fun(k:Nat)(h:k<s.rows.length)=>Dj (l:=(s.rows.getD k default).coef) (k:=i) (by rw [He hs.hc h default];exact hi)
 have n:=fun(k:Nat)(h:k<s.rows.length)=>He hs.hc h default
 have a6:=Nw s.rows;have az:=hd.hs;have a0:=hd.hx;have gv:=Dj hi;have a3:=A5 s.vals;have af:=A5 d.x;have gx:=Dj (l:=d.x) (k:=i) om;have am:=fun(k:Nat)(h:k<(X7 s.rows i (sgn b) d.sums k).length)=>Dj h
 have e:=Vc s.rows i (sgn b) d.sums;have ah:∀k,X7 s.rows i (sgn b) d.sums (k+1)=(X7 s.rows i (sgn b) d.sums k).set k (IntKind.i64.wrap ((X7 s.rows i (sgn b) d.sums k).getD k 0+IntKind.i64.wrap (sgn b*(s.rows.getD k default).coef.getD i 0))):=fun k=>rfl
 have ag:X7 s.rows i (sgn b) d.sums 0=d.sums:=rfl;have aw:IntKind.i64.wrap (IntKind.i64.wrap (2*b)-1)=sgn b:=rfl;have ar:=Vd d.x i b;unfold Abu srC Im;simp only [H5,e,ar];generalize X7 s.rows i (sgn b) d.sums=f at*;generalize sgn b=sg at*;generalize Hq s.rows=rw at*;generalize Ek s.low=au at*;generalize Ek s.high=aj at*;generalize s.vals.getD i 0=vi at*;generalize As s.vals=vv at*;generalize As s.fx=fv at*;generalize As s.free=ab at*;generalize As d.x=xv at*;generalize As s.order=ov at*;generalize bV d.best=bv at*;have a4:i<xv.length:=om;have g:i<vv.length:=om;have ae:i<d.x.length:=om;refine Hk func302 (fun w0 N0 ai=>?_);refine Aa [0,1,2] [22,27,61] (by simp [ntmps302,ae,gx]<;>rfl) (Aa [0,1,6] [22,27,61] (by simp [aw]<;>rfl) ?_);refine Di [(0,[]),(1,[]),(2,[]),(4,[]),(5,[]),(6,[]),(7,[]),(8,[]),(10,[]),(3,[]),(9,[]),(11,[]),(12,[]),(13,[]),(14,[]),(15,[]),(16,[]),(17,[])] [0,1,6] [22,27,61] Dm kr (by simp [gv,g]<;>rfl) ?_;refine Aa [0,1,6,40,41,42] [22,27,61] sr (Ap (Bq (fun k nx=>⟨[(0,V.bp 22 v 17 0 0),(1,V.int .i64 i),(6,.int .i64 sg),(40,.ro 3 rw),(41,.int .i64 rw.length),(42,V.int .i64 k)],[(22,⟨v,17,376,[V.agg [V.ro 1 vv,V.ro 3 rw,V.ro 1 fv,V.ro 1 ab,V.bool s.one,V.bool s.once,V.sl 27 z 1 d.x.length,V.int IntKind.i64 (IntKind.i64.wrap (d.value+IntKind.i64.wrap (sg*vi))),V.sl 61 y 1 d.sums.length,V.ro 1 au,V.ro 1 aj,V.int IntKind.i64 s.wide,V.ro 1 ov,V.int IntKind.i64 d.least,bv,V.int IntKind.i64 d.most,V.bool d.found]]⟩),(27,⟨z,1,3,xv.set i (.int .i64 b)⟩),(61,⟨y,1,3,As (f k)⟩)],nx,64⟩) (fun k=>True) s.rows.length _ trivial (by simp only [ag];exact AS.le_refl _) ?_));intro k nx hk hI;refine Aa [0,1,6,40,41,42,43] [22,27,61] sr (Ab ?_)
 refine Ao (fun h1=>Ae ?_) (fun h1=>?_)
 ·have a:k<s.rows.length:=by simp at h1;omega
  have u:k<rw.length:=om;have ga:=ao k a;have gc:=ad k a;have lc:=n k a;have C9:=A7 (k:=k) om;have t:=ah k;have aa:=Vd (f k) k;have al:k<(f k).length:=by rw [e];omega
  have gs:=am k al;have a5:=A5 (f k);have ax:=e k;generalize s.rows.getD k default=r at*;obtain⟨cf,a2,ay⟩:=r;simp only at gc lc ga t;have n:=A5 cf;generalize As cf=cv at*;generalize cf.getD i 0=c at*;generalize As (f k)=m at*;generalize(f k).getD k 0=su at*;have an:i<cv.length:=om;have a7:k<m.length:=om;have aq:k<d.sums.length:=om;have w:m.length=d.sums.length:=om;refine Ab (Ap (Aa [0,1,6,7,8,40,41,42] [8,22,27,61] (by simp [ga,u]<;>rfl) ?_));refine Tc [(0,[]),(1,[]),(2,[]),(4,[]),(7,[]),(8,[]),(10,[]),(3,[]),(5,[]),(6,[]),(9,[]),(11,[]),(12,[]),(13,[]),(14,[]),(15,[]),(16,[])] [0,1,6,40,41,42] [22,27,61] Dm kr (by simp [gs,gc,an,aq]<;>rfl) ?_;refine A2 [0,1,6,40,41,42] [22,27,61] (by simp [C9]<;>rfl) ?_;exact⟨a,trivial,_,by rw [t,aa];exact AS.le_refl _⟩
 ·have av:k=s.rows.length:=by simp at h1;omega
  subst av;refine Aph ai ?_;refine A9 ?_;exact⟨Ba _ _,.tup [],_,by simp [results302],fun k o hk=>Fk gt gt gt hk,rfl,rfl⟩
theorem Nb{n b:Nat}(a:n<=100000)(c:b<=1000):n<=maxLen/\n*b<=140737488355328:=
 ⟨Aj a dc,Aj (Il a c) dc⟩
theorem Z0(es:List V)(hp:es.all V.pureE=true)(c:es.all Ml=true)(f:es.length<=100000):ACO prog 110 [.ro 1 es] 1 3 (fun F a=>(F=fun d q=>.sl d q 1 es.length)/\a=es):=by
 have e:=Nb (b:=8) f dc;refine Lj func110 (fun w0 N0=>?_);refine Aa [0] [] sr (Ab (Ab (Ac (Am 1 sr ?_))));refine Om rfl rfl sr rfl kr (fun b h=>⟨_,by simp<;>rfl,?_⟩);refine Ag [0,4] [] sr ?_
 refine Ao (fun h1=>?_) (fun h1=>Ae ?_)
 ·refine Aa [2] [] sr ?_;have g:=Ar.1 (h h1);subst g;refine F5 2 2 1 3 [2] [2] sr sr ?_;exact Ak (I6 2 sr rfl rfl sm sr ⟨rfl,rfl⟩)
 refine Aa [2] [5] (by simp [e]<;>rfl) ?_;exact Ak (I6 5 sr rfl rfl (by simpa using c) sr ⟨rfl,rfl⟩)
theorem Acv(es:List V)(hp:es.all V.pureE=true)(a:es.all Ml=true)(c:es.length<=100000):AC prog 110 [.ro 1 es] (fun r=>r=.ro 1 es):=by
 refine(Z0 es hp a c).ac ?_;rintro F d⟨rfl,rfl⟩;exact⟨_,by simp [hp]<;>rfl,rfl⟩
theorem Alz(es:List V)(hp:es.all V.pureE=true)(c:es.all Ml=true)(f:es.length<=100000):ACO prog 113 [.ro 1 es] 1 149 (fun F a=>(F=fun d q=>.sl d q 1 es.length)/\a=es):=by
 have e:=Nb (b:=4) f dc;refine Lj func113 (fun w0 N0=>?_);refine Aa [0] [] sr (Ab (Ab (Ac (Am 1 sr ?_))));refine Om rfl rfl sr rfl kr (fun b h=>⟨_,by simp<;>rfl,?_⟩);refine Ag [0,4] [] sr ?_
 refine Ao (fun h1=>?_) (fun h1=>Ae ?_)
 ·refine Aa [2] [] sr ?_;have g:=Ar.1 (h h1);subst g;refine F5 2 2 1 149 [2] [2] sr sr ?_;exact Ak (I6 2 sr rfl rfl sm sr ⟨rfl,rfl⟩)
 refine Aa [2] [5] (by simp [e]<;>rfl) ?_;exact Ak (I6 5 sr rfl rfl (by simpa using c) sr ⟨rfl,rfl⟩)
theorem Acw(es:List V)(hp:es.all V.pureE=true)(a:es.all Ml=true)(c:es.length<=100000):AC prog 113 [.ro 1 es] (fun r=>r=.ro 1 es):=by
 refine(Alz es hp a c).ac ?_;rintro F d⟨rfl,rfl⟩;exact⟨_,by simp [hp]<;>rfl,rfl⟩
theorem Z1(es:List V)(hp:es.all V.pureE=true)(c:es.all Ml=true)(f:es.length<=100000):ACO prog 111 [.ro 2 es] 2 98 (fun F a=>(F=fun d q=>.sl d q 2 es.length)/\a=es):=by
 have e:=Nb (b:=16) f dc;refine Lj func111 (fun w0 N0=>?_);refine Aa [0] [] sr (Ab (Ab (Ac (Am 1 sr ?_))));refine Om rfl rfl sr rfl kr (fun b h=>⟨_,by simp<;>rfl,?_⟩);refine Ag [0,4] [] sr ?_
 refine Ao (fun h1=>?_) (fun h1=>Ae ?_)
 ·refine Aa [2] [] sr ?_;have g:=Ar.1 (h h1);subst g;refine F5 2 2 2 98 [2] [2] sr sr ?_;exact Ak (I6 2 sr rfl rfl sm sr ⟨rfl,rfl⟩)
 refine Aa [2] [5] (by simp [e]<;>rfl) ?_;exact Ak (I6 5 sr rfl rfl (by simpa using c) sr ⟨rfl,rfl⟩)
theorem Api(es:List V)(hp:es.all V.pureE=true)(a:es.all Ml=true)(c:es.length<=100000):AC prog 111 [.ro 2 es] (fun r=>r=.ro 2 es):=by
 refine(Z1 es hp a c).ac ?_;rintro F d⟨rfl,rfl⟩;exact⟨_,by simp [hp]<;>rfl,rfl⟩
theorem Al0(es:List V)(hp:es.all V.pureE=true)(f:es.length<=100000):ACS prog 112 [.ro 1 es] [] (fun r c=>∃v,r=.sl 5 v 1 es.length/\c= [(5,⟨v,1,30,es⟩)]) (fun _ =>False):=by
 have e:=Nb (b:=24) f dc;refine Hk func112 (fun w0 N0 a=>?_);refine Aa [0] [] sr (Ab (Ab (Ac (Am 1 sr ?_))));refine Om rfl rfl sr rfl kr (fun b h=>⟨_,by simp<;>rfl,?_⟩);refine Ag [0,4] [] sr ?_
 refine Ao (fun h1=>?_) (fun h1=>Ae ?_)
 ·refine Aa [2] [] sr ?_;have g:=Ar.1 (h h1);subst g;refine F5 2 5 1 30 [2] [5] sr sr ?_;exact C7 a (Dz (Ba _ _) sr ⟨_,rfl,rfl⟩ (fun k o d=>Dt gt d))
 refine Aa [2] [5] (by simp [e]<;>rfl) ?_;exact C7 a (Dz (Ba _ _) sr ⟨_,rfl,rfl⟩ (fun k o d=>Dt gt d))
theorem Z2(S:AS)(o:Option (List Int)):S.viewC (bV o)=some (bV o):=by
 cases o with
 |none=>rfl
 |some l=>have:=Af l;simp [bV,AS.viewC]
theorem K4{a b c k:Nat}{x y z g f h:Ob}(d:Eng.get [(a,x),(b,y),(c,z)] k=none):Eng.get [(a,g),(b,f),(c,h)] k=none:=by
 simp only [Eng.get]at d|-
 split at d
 ·cases d
 ·rename_i h1;rw [if_neg h1]
  split at d
  ·cases d
  ·rename_i h2;rw [if_neg h2]
   split at d
   ·cases d
   ·rename_i e;rw [if_neg e]
def Xk(s:Ss)(d:Sd)(a:Nat):Bool:= !Ah4 s d a||decide (Asp s d a<d.least)
def Ajv(s:Ss)(d:Sd):Sd:={ d with best:=some d.x,most:=d.value,found:=true,least:=if s.once=true then 9223372036854775807 else IntKind.i64.wrap (d.value+1)}
def vI(s:Ss)(a:Nat):Nat:=(s.free.getD a 0).toNat
def Apj(s:Ss)(a:Nat):Bool:= !s.one&&decide (s.vals.getD (vI s a) 0<=0)
def Hf(s:Ss):Nat->Nat->Sd->Sd
 |0,a,d=>if Xk s d a=true then d else Ajv s d
 |m+1,a,d=>if Xk s d a=true then d else
  if Apj s a=true then Im s (Hf s m (a+1) (Im s (Hf s m (a+1) d) (vI s a) 1)) (vI s a) 0
  else Hf s m (a+1) (Im s (Hf s m (a+1) (Im s d (vI s a) 1)) (vI s a) 0)
theorem A3o{s:Ss}{d:Sd}(h:WfD s d):WfD s (Ajv s d):=⟨h.hx,h.hs⟩
theorem Rl{s:Ss}:∀(m a:Nat){d:Sd},WfD s d->WfD s (Hf s m a d)
 |0,a,d,h=>by rw [Hf];split;exact h;exact A3o h
 |m+1,a,d,h=>by
  rw [Hf]
  split
  ·exact h
  ·split
   ·exact Rk (Rl m _ (Rk (Rl m _ h) _ _)) _ _
   ·exact Rl m _ (Rk (Rl m _ (Rk h _ _)) _ _)
theorem Ajw{s:Ss}{m a:Nat}{d:Sd}(h:Xk s d a=true):Hf s m a d=d:=by cases m<;>rw [Hf,if_pos h]
def Bcf(s:Ss)(v f e m:Nat):Prop:=∀(a:Nat)(d:Sd),a+m=s.free.length->WfD s d->
 ACS prog 278 [.bp 22 v 17 0 0,.int .i64 a] (Abu s d v f e) (fun r c=>r=.tup []/\c=Abu s (Hf s m a d) v f e) (fun _ =>False)
theorem Aga(s:Ss)(hs:WfS s)(v xq sq m:Nat)(ih:∀m',m'+1=m->Bcf s v xq sq m'):Bcf s v xq sq m:=by
 intro c d bi hd;have ah:=Apg s d c hs hd om;have af:=A3n s d c hs hd;have z:Xk s d c=(!Ah4 s d c||decide (Asp s d c<d.least)):=rfl;generalize t:Hf s m c d=R;generalize Ah4 s d c=ps,Asp s d c=bn at*;have n:=A5 d.x;have aj:=A5 d.sums;have ax:=A5 s.free;have a8:=A5 s.vals;have pb:=Ad1 d.best;have px:=Af d.x;have ad:=Af d.sums;have p1:=Af s.vals;have p2:=Hb s.rows;have p3:=Af s.fx;have p4:=Af s.free;have p5:=Dw s.low;have p6:=Dw s.high;have p7:=Af s.order;have hfl:=hs.hfl;have bh:=hs.hv;have a5:=fun(k:Nat)(h:k<s.free.length)=>Dj h
 have bb:=fun(k:Nat)(h:k<s.vals.length)=>Dj h
 have ay:=F4 px;have ar:=F4 ad;have bk:∀y:Option (List Int),∀u:Bool,∀w:V,(bV y=.whn u w)=False:=fun y u w=>by cases y<;>simp [bV]
 refine Hk func278 (fun w0 N0 j=>?_);unfold Abu;simp only [srC]at ah af|-;refine Ab ?_;cases ps with
 |false=>
  refine Ab (Mn [2] Dm ?_);refine I5 [(0,[]),(1,[])] kr sr ?_
  refine Jn (i:=2) (ks:=[]) kr rfl sm (V7 sm ah func300 rfl kr sr rfl rfl sr (by simp [n,aj,px,ad,↓Z2]<;>rfl) rfl sr) ?_;refine I5 [(3,[]),(4,[]),(5,[]),(6,[])] kr sr ?_
  refine I5 [(7,[]),(8,[]),(9,[]),(10,[]),(11,[]),(12,[]),(13,[])] kr sr ?_
  refine Lh [0,1,19] [22,27,61] kr sr ?_;refine A6 rfl (fun h1=>?_) (fun h1=>absurd h1 sm);rw [Ajw (by rw [z];rfl)]at t;subst t;exact C7 j (Dz (Ba _ _) sr ⟨rfl,rfl⟩ (fun k o a=>Fk gt gt gt a))
 |true=>
 refine O8 ⟨[(0,V.bp 22 v 17 0 0),(1,V.int .i64 c),(19,V.bool (decide (bn<d.least)))],[(22,⟨v,17,376,[V.agg [V.ro 1 (As s.vals),V.ro 3 (Hq s.rows),V.ro 1 (As s.fx),V.ro 1 (As s.free),V.bool s.one,V.bool s.once,V.sl 27 xq 1 d.x.length,V.int IntKind.i64 d.value,V.sl 61 sq 1 d.sums.length,V.ro 1 (Ek s.low),V.ro 1 (Ek s.high),V.int IntKind.i64 s.wide,V.ro 1 (As s.order),V.int IntKind.i64 d.least,bV d.best,V.int IntKind.i64 d.most,V.bool d.found]]⟩),(27,⟨xq,1,3,As d.x⟩),(61,⟨sq,1,3,As d.sums⟩)],j+14,104⟩ ?h1 ?h2
 case h1=>
  refine Mn [2,7] Dm ?_;refine I5 [(0,[]),(1,[])] kr sr ?_
  refine Jn (i:=2) (ks:=[]) kr rfl sm (V7 sm ah func300 rfl kr sr rfl rfl sr (by simp [n,aj,px,ad,↓Z2]<;>rfl) rfl sr) ?_;refine I5 [(3,[]),(4,[]),(5,[]),(6,[]),(8,[]),(9,[]),(10,[])] kr sr ?_
  refine V4 [7,11] kr ?_;intro i hi;simp only [Cg,Gy,or_false]at hi
  rcases hi with rfl|rfl
  ·refine⟨_,_,rfl,V7 sm af func301 rfl kr sr rfl rfl sr (by simp [n,aj,px,ad,↓Z2]<;>rfl) rfl sr,?_⟩;refine I5 [(11,[]),(12,[]),(13,[])] kr sr ?_
   refine Lh [0,1,19] [22,27,61] kr sr ?_;exact⟨rfl,AS.le_refl _⟩
  ·refine⟨_,_,rfl,Sa sr,?_⟩;refine Jn (i:=7) (ks:=[]) kr rfl sm (V7 sm af func301 rfl kr sr rfl rfl sr (by simp [n,aj,px,ad,↓Z2]<;>rfl) rfl sr) ?_;refine I5 [(12,[]),(13,[])] kr sr ?_
   refine Lh [0,1,19] [22,27,61] kr sr ?_;exact⟨rfl,AS.le_refl _⟩
 refine Ao (fun h1=>?_) (fun h1=>Ae ?_)
 ·rw [Ajw (by rw [z];simpa using h1)]at t;subst t;exact C7 j (Dz (Ba _ _) sr ⟨rfl,rfl⟩ (fun k o a=>Fk gt gt gt a))
 have al:Xk s d c=false:=by rw [z];simpa using h1
 refine Ab (Aa [0,1,26] [22,27,61] (by simp [ax]<;>rfl) ?_)
 refine Ao (fun h2=>?_) (fun h2=>Ae ?_)
 ·have be:c=s.free.length:=by simp at h2;omega
  have a6:m=0:=om;subst a6;rw [Hf,if_neg (by rw [al];simp)]at t;unfold Ajv at t;have ak:=Z0 (As d.x) px (Sq d.x) (by rw [A5,hd.hx];omega);refine O8 ⟨[(0,V.bp 22 v 17 0 0)],[(22,⟨v,17,376,[V.agg [V.ro 1 (As s.vals),V.ro 3 (Hq s.rows),V.ro 1 (As s.fx),V.ro 1 (As s.free),V.bool s.one,V.bool s.once,V.sl 27 xq 1 d.x.length,V.int IntKind.i64 d.value,V.sl 61 sq 1 d.sums.length,V.ro 1 (Ek s.low),V.ro 1 (Ek s.high),V.int IntKind.i64 s.wide,V.ro 1 (As s.order),V.int IntKind.i64 d.least,V.sl 34 (j+14+7+7) 1 d.x.length,V.int IntKind.i64 d.value,V.bool true]]⟩),(27,⟨xq,1,3,As d.x⟩),(61,⟨sq,1,3,As d.sums⟩),(34,⟨j+14+7+7,1,3,As d.x⟩)],j+14+7+21,104⟩ ?g1 ?g2
  case g1=>
   refine Mn [7] Dm ?_;refine I5 [(0,[]),(1,[]),(2,[]),(3,[]),(4,[]),(5,[]),(6,[]),(8,[]),(9,[]),(10,[])] kr sr ?_
   refine V4 [7,11] kr ?_;intro i hi;simp only [Cg,Gy,or_false]at hi
   rcases hi with rfl|rfl
   ·refine⟨_,_,rfl,Ant 34 sm ak func110 rfl kr sr rfl rfl sr (by simp [n,px]<;>rfl) sr,?_⟩;refine I5 [(11,[]),(12,[]),(13,[]),(14,[]),(15,[]),(16,[]),(17,[]),(18,[]),(19,[]),(20,[])] kr sr ?_
    refine Lh [0] [22,27,61,34] kr sr ?_;exact⟨rfl,AS.le_refl _⟩
   ·refine⟨_,_,rfl,Sa sr,?_⟩;refine Jn (i:=7) (ks:=[]) kr rfl sm (Ant 34 sm ak func110 rfl kr sr rfl rfl sr (by simp [n,px]<;>rfl) sr) ?_;refine I5 [(12,[]),(13,[]),(14,[]),(15,[]),(16,[]),(17,[]),(18,[]),(19,[]),(20,[])] kr sr ?_
    refine Lh [0] [22,27,61,34] kr sr ?_;exact⟨rfl,AS.le_refl _⟩
  refine Bt 34 [0] [22,27,61] (by simp [px,ay,ar,n]<;>rfl) (Aa [0] [22,27,61] sr (Ab (Aa [0,56] [22,27,61] sr ?_)))
  refine Ao (fun h3=>?_) (fun h3=>Ae ?_)
  ·refine A2 [] [22,27,61] sr ?_;rw [if_pos (by simpa using h3)]at t;subst t;exact C7 j (Dz (Ba _ _) sr ⟨rfl,rfl⟩ (fun k o a=>Fk (by simp [Eng.get,bV]) gt gt a))
  rw [if_neg (by simpa using h3)]at t;subst t;exact C7 j (Dz (Ba _ _) sr ⟨rfl,rfl⟩ (fun k o a=>Fk (by simp [Eng.get,bV]) gt gt a))
 have bf:¬c=s.free.length:=fun e=>by simp [e]at h2
 obtain⟨m',rfl⟩:∃m',m=m'+1:=⟨m-1,by omega⟩;obtain⟨l,aq⟩:∃x:Nat,x=c+1:=⟨_,rfl⟩;have C9:IntKind.i64.wrap ((c:Int)+1)=(l:Int):=by rw [aq];exact A7 om
 have aa:c<s.free.length:=om;have gf:=a5 c aa;obtain⟨a7,a3⟩:=He hs.hf aa 0;obtain⟨i,hi⟩:=Co a7;have aw:vI s c=i:=by unfold vI;rw [hi];rfl
 have a2:Apj s c=(!s.one&&decide (s.vals.getD i 0<=0)):=by unfold Apj;rw [aw]
 rw [hi]at gf a3;have ao:i<s.vals.length:=om;have gv:=bb i ao;rw [Hf,if_neg (by rw [al];simp),a2,aw,<- aq]at t;have ab:=fun d' am=>(ih m' rfl) l d' om am
 have ai:=fun d' b am=>A74 s d' i b v xq sq hs am ao
 simp only [Abu,srC]at ab ai;generalize s.vals.getD i 0=vi at*;refine Aa [0,1,4] [22,27,61] (by simp [gf,aa,ax]<;>rfl) (Aa [0,1,4,5] [22,27,61] (by simp [gv,ao,a8]<;>rfl) (Ab (Aa [0,1,4,5,83] [22,27,61] sr ?_)))
 refine Ao (fun h4=>?_) (fun h4=>Ae ?_)
 ·rw [if_pos (by simpa using h4)]at t;refine Ac (Am 3 (by simp [C9]<;>rfl) ?_);refine Et (ab d hd) func278 rfl kr rfl rfl rfl sr (fun k o a=>Fk gt gt gt a) ?_ (fun ch f=>f.elim);rintro r g bj⟨rfl,rfl⟩bc;refine⟨fun k a=>K4 a,_,by simp<;>rfl,?_⟩;have au:WfD s (Hf s m' l d):=Rl _ _ hd;generalize Hf s m' l d=d1 at*;refine Ag [0,1,4,5] [22,27,61] sr ?_;refine Ab (Ac (Am 2 sr ?_));refine Et (ai d1 1 au) func302 rfl kr rfl rfl rfl sr (fun k o a=>Fk gt gt gt a) ?_ (fun ch f=>f.elim);rintro r g ba⟨rfl,rfl⟩av;refine⟨fun k a=>K4 a,_,by simp<;>rfl,?_⟩;have ae:WfD s (Im s d1 i 1):=Rk au _ _;generalize Im s d1 i 1=d2 at*;refine Ag [0,1,4,5] [22,27,61] sr ?_;refine Ab (Ac (Am 3 (by simp [C9]<;>rfl) ?_));refine Et (ab d2 ae) func278 rfl kr rfl rfl rfl sr (fun k o a=>Fk gt gt gt a) ?_ (fun ch f=>f.elim);rintro r g a4⟨rfl,rfl⟩a1;refine⟨fun k a=>K4 a,_,by simp<;>rfl,?_⟩;have ag:WfD s (Hf s m' l d2):=Rl _ _ ae;generalize Hf s m' l d2=d3 at*;refine Ag [0,1,4,5] [22,27,61] sr ?_;refine Ab (Ac (Am 2 sr ?_));refine Et (ai d3 0 ag) func302 rfl kr rfl rfl rfl sr (fun k o a=>Fk gt gt gt a) ?_ (fun ch f=>f.elim);rintro r g a9⟨rfl,rfl⟩az;refine⟨fun k a=>K4 a,_,by simp<;>rfl,?_⟩;have an:WfD s (Im s d3 i 0):=Rk ag _ _;generalize Im s d3 i 0=d4 at*;refine Ag [0,1,5] [22,27,61] sr ?_;refine Aph j ?_;refine Aa [0,1,99] [22,27,61] sr ?_;refine A6 rfl (fun h5=>absurd h5 (by revert h4;cases s.one<;>simp<;>omega)) (fun h5=>Ae ?_);subst t;exact⟨by simp only;omega,.tup [],_,by simp [results278],(fun k o a=>Fk gt gt gt a),rfl,rfl⟩
 rw [if_neg (by simpa using h4)]at t;refine Ab (Ac (Am 2 sr ?_));refine Et (ai d 1 hd) func302 rfl kr rfl rfl rfl sr (fun k o a=>Fk gt gt gt a) ?_ (fun ch f=>f.elim);rintro r g ba⟨rfl,rfl⟩av;refine⟨fun k a=>K4 a,_,by simp<;>rfl,?_⟩;have ae:WfD s (Im s d i 1):=Rk hd _ _;generalize Im s d i 1=d2 at*;refine Ag [0,1,4,5] [22,27,61] sr ?_;refine Ab (Ac (Am 3 (by simp [C9]<;>rfl) ?_));refine Et (ab d2 ae) func278 rfl kr rfl rfl rfl sr (fun k o a=>Fk gt gt gt a) ?_ (fun ch f=>f.elim);rintro r g a4⟨rfl,rfl⟩a1;refine⟨fun k a=>K4 a,_,by simp<;>rfl,?_⟩;have ag:WfD s (Hf s m' l d2):=Rl _ _ ae;generalize Hf s m' l d2=d3 at*;refine Ag [0,1,4,5] [22,27,61] sr ?_;refine Ab (Ac (Am 2 sr ?_));refine Et (ai d3 0 ag) func302 rfl kr rfl rfl rfl sr (fun k o a=>Fk gt gt gt a) ?_ (fun ch f=>f.elim);rintro r g a9⟨rfl,rfl⟩az;refine⟨fun k a=>K4 a,_,by simp<;>rfl,?_⟩;have an:WfD s (Im s d3 i 0):=Rk ag _ _;generalize Im s d3 i 0=d4 at*;refine Ag [0,1,5] [22,27,61] sr ?_;refine Aph j ?_;refine Aa [0,1,99] [22,27,61] sr ?_
 refine A6 rfl (fun h6=>?_) (fun h6=>absurd h4 (by revert h6;cases s.one<;>simp<;>omega))
 ·refine Ac (Am 3 (by simp [C9]<;>rfl) ?_);refine Et (ab d4 an) func278 rfl kr rfl rfl rfl sr (fun k o a=>Fk gt gt gt a) ?_ (fun ch f=>f.elim);rintro r g bg⟨rfl,rfl⟩a0;refine⟨fun k a=>K4 a,_,by simp<;>rfl,?_⟩;have bd:WfD s (Hf s m' l d4):=Rl _ _ an;generalize Hf s m' l d4=d5 at*;refine Ag [] [22,27,61] sr ?_;subst t;exact⟨by simp only;simp at a0;omega,.tup [],_,by simp [results278],(fun k o a=>Fk gt gt gt a),rfl,rfl⟩
theorem Ajx(s:Ss)(hs:WfS s)(v c a:Nat):∀m,Bcf s v c a m
 |0=>Aga s hs v c a 0 (fun d h=>by omega)
 |m+1=>Aga s hs v c a (m+1) (fun d h=>by
  have:d=m:=om;subst this;exact Ajx s hs v c a d)
theorem Ajy(s:Ss)(hs:WfS s)(v e c:Nat)(d:Sd)(f:WfD s d):
  ACS prog 278 [.bp 22 v 17 0 0,.int .i64 0] (Abu s d v e c) (fun r a=>r=.tup []/\a=Abu s (Hf s s.free.length 0 d) v e c) (fun _ =>False):=
 Ajx s hs v e c s.free.length 0 d om f
def Rm(l:List Int)(j:Nat):List Int:=(l.set (j+1) (l.getD j 0)).set j (l.getD (j+1) 0)
def bub(a:Int->Int->Int):Nat->List Int->List Int
 |0,l=>l
 |j+1,l=>if a (l.getD (j+1) 0) (l.getD j 0)<0 then bub a j (Rm l j)else l
def Z3(a:Int->Int->Int)(l:List Int):Nat->List Int
 |0=>l
 |k+1=>bub a (k+1) (Z3 a l k)
def H4(a:Int->Int->Int)(l:List Int):List Int:=Z3 a l (l.length-1)
theorem St(l:List Int)(j:Nat):(Rm l j).length=l.length:=by simp [Rm]
theorem Avb(a:Int->Int->Int):∀(j:Nat)(l:List Int),(bub a j l).length=l.length
 |0,l=>rfl
 |j+1,l=>by rw [bub];split;rw [Avb a j,St];rfl
theorem Pc(a:Int->Int->Int)(l:List Int):∀k,(Z3 a l k).length=l.length
 |0=>rfl
 |k+1=>by rw [Z3,Avb,Pc a l k]
theorem Abv{l:List Int}{j:Nat}{x:Int}(a:j+1<l.length)(h:x∈Rm l j):x∈l:=by
 unfold Rm at h;rw [Cf a,Cf (show j<l.length by omega)]at h
 rcases Fu h with h|h
 ·rcases Fu h with h|h
  ·exact h
  ·rw [h];exact Aw _
 ·rw [h];exact Aw _
theorem Avc{a:Int->Int->Int}{x:Int}:∀(j:Nat)(l:List Int),j<l.length->x∈bub a j l->x∈l
 |0,l,_,h=>h
 |j+1,l,c,h=>by
  rw [bub]at h
  split at h
  ·exact Abv c (Avc j _ (by rw [St];omega) h)
  ·exact h
theorem Z4{a:Int->Int->Int}{l:List Int}{x:Int}:∀k,k<l.length->x∈Z3 a l k->x∈l
 |0,_,h=>h
 |k+1,c,h=>Z4 k om (Avc (k+1) _ (by rw [Pc];exact c) h)
theorem Nc(a:Int->Int->Int)(l:List Int):(H4 a l).length=l.length:=Pc a l _
theorem Su{c:Int->Int->Int}{l:List Int}{x:Int}(h:x∈H4 c l):x∈l:=by
 cases l with
 |nil=>exact h
 |cons a t=>exact Z4 _ sm h
theorem Apk(d v:Nat)(l:List Int)(f:FuncId)(us vs:List V)(c:Int->Int->Int)(hl:l.length<=1000)
  (hf:∀a∈l,∀b∈l,FCQ G0 prog (.fc f us vs) [.int .i64 a,.int .i64 b] (fun r=>r=.int .i64 (c a b))):
  ACS prog 239 [.sl d v 1 l.length,.int .i64 0,.int .i64 l.length,.fc f us vs] [(d,⟨v,1,3,As l⟩)] (fun r s=>r=.tup []/\s= [(d,⟨v,1,3,As (H4 c l)⟩)]) (fun _ =>False):=by
 have am:=Pc c l;have ah:∀k,k<l.length->∀x∈Z3 c l k,x∈l:=fun k hk x hx=>Z4 k hk hx
 have ae:∀k,Z3 c l (k+1)=bub c (k+1) (Z3 c l k):=fun k=>rfl
 have ad:Z3 c l 0=l:=rfl;unfold H4;generalize Z3 c l=ik at*;refine Hk func239 (fun w0 N0 ag=>?_);refine Aa [0,1,2,3,8] [d] sr (Ap (Bq (fun k nx=>⟨[(0,V.sl d v 1 l.length),(1,V.int .i64 0),(2,V.int .i64 l.length),(3,.fc f us vs),(8,.int .i64 (k+1:Nat))],[(d,⟨v,1,3,As (ik k)⟩)],nx,53⟩) (fun k=>True) (l.length-1) _ trivial (by simp only [ad];exact AS.le_refl _) ?_));intro k nx hk hI;refine Ab (Aa [0,1,2,3,8,14] [d] sr ?_)
 refine Ao (fun h1=>Ae ?_) (fun h1=>?_)
 ·have au:k+1<l.length:=by simp at h1;omega
  have C9:IntKind.i64.wrap ((k:Int)+1+1)=(k:Int)+1+1:=Bb om om;have aj:=ae k;have ax:=am k;have aw:=ah k om;refine Ab (Ap (Aa [0,1,2,3,8,9] [d] sr (Ap ?_)))
  refine Dr (fun x:List Int × Nat × Nat=>⟨[(0,V.sl d v 1 l.length),(1,V.int .i64 0),(2,V.int .i64 l.length),(3,.fc f us vs),(8,.int .i64 (k+1:Nat)),(9,.int .i64 x.2.1)],[(d,⟨v,1,3,As x.1⟩)],x.2.2,53⟩)
   (fun x=>x.1.length=l.length/\x.2.1<l.length/\(∀y∈x.1,y∈l)/\bub c x.2.1 x.1=ik (k+1)) (fun x=>x.2.1) (ik k,k+1,_) ⟨ax,au,aw,aj.symm⟩ (AS.le_refl _) ?_
  rintro⟨A,j,a4⟩⟨ai,aq,g,e⟩;simp only at ai aq g e|-;refine Ab ?_;have az:=A5 A;cases j with
  |zero=>
   have ao:0<l.length:=om;have w:IntKind.i64.wrap (-1)= -1:=rfl;have ab:=Dj (l:=A) (k:=0) om;have al:(As A).length=l.length:=om;refine Ab (Mn [] Dm ?_);refine I5 [(0,[]),(1,[]),(2,[]),(3,[]),(4,[]),(5,[]),(6,[]),(7,[]),(9,[]),(10,[]),(11,[]),(12,[]),(8,[]),(13,[]),(14,[]),(15,[]),(16,[])] kr (by simp [ao,ab,w]<;>rfl) ?_
   refine Lh [0,1,2,3,8,9,34] [d] kr sr ?_;refine A6 rfl (fun h2=>absurd h2 sm) (fun h2=>?_);refine A9 ?_;refine A2 [0,1,2,3,8] [d] (by simp [C9]<;>rfl) ?_;rw [bub]at e;exact⟨by omega,trivial,_,by rw [e];exact AS.le_refl _⟩
  |succ j=>
  have t:j+1<A.length:=om;have u:j<l.length:=om;have g1:=Dj t;have g0:=Dj (l:=A) (k:=j) om;have ak:A.getD (j+1) 0∈l:=g _ (by rw [Cf t];exact Aw _);have an:A.getD j 0∈l:=g _ (by rw [Cf (show j<A.length by omega)];exact Aw _);have hF:=hf _ ak _ an;rw [bub]at e;have ay:=St A j;have af:=fun(t:j+1<A.length)(x:Int)(h:x∈Rm A j)=>g x (Abv t h)
  have n:IntKind.i64.wrap (j:Int)=(j:Int):=Bb om om;have z:(0:Int)<=(j:Int)+1/\(j:Int)+1<(l.length:Int):=om;have a3:j+1<(As A).length:=om;have a5:j<(As A).length:=om;have m:(As A).length=l.length:=om;have aa:As (Rm A j)=((As A).set (j+1) (.int .i64 (A.getD j 0))).set j (.int .i64 (A.getD (j+1) 0)):=by unfold Rm;rw [Vd,Vd]
  generalize A.getD (j+1) 0=a1,A.getD j 0=a0 at*;obtain⟨i1,a2⟩:∃i1:Int,i1=((j+1:Nat):Int):=⟨_,rfl⟩;refine Ab (Mn [14] Dm ?_);refine I5 [(0,[]),(1,[]),(2,[]),(3,[]),(4,[]),(5,[]),(6,[]),(7,[]),(8,[]),(9,[]),(10,[]),(11,[]),(12,[]),(13,[])] kr (by simp [n,g1,g0,z,u]<;>rfl) ?_
  refine Jn (i:=14) (ks:=[]) kr rfl sm (A0z sm (Bcd _) hF sr rfl sr sr sm sr) ?_;refine I5 [(15,[]),(16,[])] kr sr ?_
  refine Lh [0,1,2,3,8,9,34] [d] kr sr ?_
  refine Ao (fun h2=>Ae ?_) (fun h2=>?_)
  ·refine Ab ?_;rw [if_pos (by simpa using h2)]at e;have av:∀x,Hs ((As A).set (j+1) x) j=some (.int .i64 a0):=fun x=>by rw [C1,Ik om,<- C1];exact g0
   refine Ap (Tc [(0,[]),(1,[]),(2,[]),(3,[]),(4,[]),(5,[]),(6,[]),(7,[]),(8,[]),(10,[]),(11,[]),(12,[]),(9,[]),(13,[]),(14,[]),(15,[]),(16,[]),(17,[])] [0,1,2,3,8,9] [d] Dm kr (by simp [n,g1,g0,z,u,av]<;>rfl) ?_);refine A2 [0,1,2,3,8,9] [d] (by simp [n]<;>rfl) ?_;exact⟨(Rm A j,j,_),⟨by simp only;omega,by simp only;omega,af t,e⟩,by simp only;omega,by simp only [aa];exact AS.le_refl _⟩
  ·rw [if_neg (by simpa using h2)]at e;refine A9 ?_;refine A2 [0,1,2,3,8] [d] (by simp [C9]<;>rfl) ?_;exact⟨by omega,trivial,_,by rw [<- e];exact AS.le_refl _⟩
 ·have ar:k=l.length-1:=by simp at h1;omega
  subst ar;refine Aph ag ?_;refine A9 ?_;exact⟨by simp only;omega,.tup [],_,by simp [results239],fun k o hk=>Dt gt hk,rfl,rfl⟩
theorem A3p(d v:Nat)(l:List Int)(f:FuncId)(us vs:List V)(c:Int->Int->Int)(hl:l.length<20)
  (u:∀a∈l,∀b∈l,FCQ G0 prog (.fc f us vs) [.int .i64 a,.int .i64 b] (fun r=>r=.int .i64 (c a b))):
  ACS prog 296 [.sl d v 1 l.length,.int .i64 l.length,.fc f us vs] [(d,⟨v,1,3,As l⟩)] (fun r e=>r=.tup []/\e= [(d,⟨v,1,3,As (H4 c l)⟩)]) (fun _ =>False):=by
 have i:=Apk d v l f us vs c om u;have n:¬(20:Int)<=l.length:=om;have h:¬(20:Int)<l.length:=om;have g:=Nc c l;refine Hk func296 (fun w0 N0 m=>?_);refine Aa [0,1,2,6] [d] sr (Aa [0,1,2,6,7,8] [d] sr (Ab (Ap (Dr (fun nx:Nat=>⟨[(0,V.sl d v 1 l.length),(1,V.int .i64 l.length),(2,.fc f us vs),(6,V.int .i64 20),(7,V.int .i64 0),(8,V.int .i64 20)],[(d,⟨v,1,3,As l⟩)],nx,63⟩) (fun _ =>True) (fun _ =>0) _ trivial (AS.le_refl _) ?_))));intro nx _;refine Ab (Aa [0,1,2,6,7,8,13] [d] sr ?_)
 refine A6 rfl (fun h1=>absurd h1 (by simp [n])) (fun h1=>?_)
 ·refine A9 ?_;refine Ab (Ac (Am 4 sr ?_));refine Et i func239 rfl kr rfl rfl rfl sr (fun k o g=>Dt gt g) ?_ (fun ch j=>j.elim);rintro r e w⟨rfl,rfl⟩s;refine⟨fun k g=>Mt g,_,by simp<;>rfl,?_⟩;refine Ag [0,1,2,6] [d] sr ?_;refine Ap (Dr (fun nx:Nat=>⟨[(0,V.sl d v 1 l.length),(1,V.int .i64 l.length),(2,.fc f us vs),(6,V.int .i64 20)],[(d,⟨v,1,3,As (H4 c l)⟩)],nx,63⟩) (fun _ =>True) (fun _ =>0) _ trivial (AS.le_refl _) ?_);intro t _;refine Ab (Aa [0,1,2,6,30] [d] sr ?_)
  refine A6 rfl (fun h2=>absurd h2 (by simp [h])) (fun h2=>?_)
  ·refine Aph m ?_;refine A9 ?_;exact⟨by simp only;omega,.tup [],_,by simp [results296],fun k o g=>Dt gt g,rfl,rfl⟩
theorem Ajz(d v:Nat)(l:List Int)(f:FuncId)(us vs:List V)(e:Int->Int->Int)(n:l.length<20)
  (s:∀a∈l,∀b∈l,FCQ G0 prog (.fc f us vs) [.int .i64 a,.int .i64 b] (fun r=>r=.int .i64 (e a b))):
  ACS prog 275 [.sl d v 1 l.length,.fc f us vs] [(d,⟨v,1,3,As l⟩)] (fun r c=>r=.tup []/\c= [(d,⟨v,1,3,As (H4 e l)⟩)]) (fun _ =>False):=by
 have h:=A3p d v l f us vs e n s;refine Hk func275 (fun w0 N0 m=>?_);refine Ac (Am 4 sr ?_);refine Et h func296 rfl kr rfl rfl rfl sr (fun k o i=>Dt gt i) ?_ (fun ch j=>j.elim);rintro r c t⟨rfl,rfl⟩g;refine⟨fun k i=>Mt i,_,by simp<;>rfl,?_⟩;refine Ag [] [d] sr ?_;exact⟨by simp only;simp at g;omega,.tup [],_,by simp [results275],fun k o i=>Dt gt i,rfl,rfl⟩
def Tn(c:List Int)(a b:Int):Int:=IntKind.i64.wrap (c.getD b.toNat 0-c.getD a.toNat 0)
theorem A75(c:List Int)(i k:List V)(pr:i.all V.pureE=true)(pf:k.all V.pureE=true)(a b:Int)(m:0<=a/\a<c.length)(o:0<=b/\b<c.length):
  AC prog 276 [.int .i64 a,.int .i64 b,.rp (.agg [.ro 1 (As c),.ro 3 i,.ro 1 k])] (fun r=>r=.int .i64 (Tn c a b)):=by
 obtain⟨h,rfl⟩:=Co m.1;obtain⟨b',rfl⟩:=Co o.1;have d:h<c.length:=om;have g:b'<c.length:=om;have l:=Dj d;have n:=Dj g;have lv:=A5 c;have pv:=Af c;unfold Tn;simp only [Dv];generalize c.getD h 0=va,c.getD b' 0=vb,As c=j at*;have e:h<j.length:=om;have f:b'<j.length:=om;refine Ay func276 (fun w0 N0=>?_);refine Aa [0,1,2] [] sr ?_;refine Di [(0,[]),(2,[]),(5,[]),(7,[]),(1,[]),(3,[]),(4,[]),(6,[]),(8,[]),(9,[]),(10,[]),(11,[])] [5] [] Dm kr (by simp [l,n,e,f]<;>rfl) ?_;exact Ak (Ad sr (rfl))
def Ah5(c free:List Int)(a b:Int):Int:=IntKind.i64.wrap (c.getD (free.getD b.toNat 0).toNat 0-c.getD (free.getD a.toNat 0).toNat 0)
theorem A76(c:List Int)(x fv:List V)(free:List Int)(pr:x.all V.pureE=true)(pf:fv.all V.pureE=true)(hf:∀i∈free,0<=i/\i<c.length)(a b:Int)(ha:0<=a/\a<free.length)(hb:0<=b/\b<free.length):
  AC prog 299 [.int .i64 a,.int .i64 b,.rp (.agg [.ro 1 (As c),.ro 3 x,.ro 1 fv]),.rp (.ro 1 (As free))] (fun r=>r=.int .i64 (Ah5 c free a b)):=by
 obtain⟨s,rfl⟩:=Co ha.1;obtain⟨b',rfl⟩:=Co hb.1;have f:s<free.length:=om;have d:b'<free.length:=om;have ga:=Dj f;have gb:=Dj d;obtain⟨o,ad⟩:=He hf f 0;obtain⟨l,ab⟩:=He hf d 0;unfold Ah5;simp only [Dv];generalize free.getD s 0=fa,free.getD b' 0=fb at*;obtain⟨n,rfl⟩:=Co o;obtain⟨t,rfl⟩:=Co l;have k:n<c.length:=om;have h:t<c.length:=om;have m:=Dj k;have w:=Dj h;have lv:=A5 c;have pv:=Af c;have lf:=A5 free;have aa:=Af free;simp only [Dv];generalize c.getD n 0=va,c.getD t 0=vb,As c=y,As free=z at*;have j:n<y.length:=om;have u:t<y.length:=om;have g:s<z.length:=om;have e:b'<z.length:=om;refine Ay func299 (fun w0 N0=>?_);refine Aa [0,1,2,3] [] sr ?_;refine Di [(0,[]),(3,[]),(8,[]),(11,[]),(1,[]),(2,[]),(4,[]),(5,[]),(6,[]),(7,[]),(9,[]),(10,[]),(12,[]),(13,[]),(14,[]),(15,[]),(16,[]),(17,[])] [6] [] Dm kr (by simp [ga,gb,j,u,m,w,g,e]<;>rfl) ?_;exact Ak (Ad sr (rfl))
def Lf(f:Int):Int:=if f<0 then 0 else f
def Z5(c:Int):Int:=if 0<c then 0 else c
def xP(a:List Int):List Int:=a.map Lf
def smP(a:List Rw)(x:List Int):List Int:=a.map fun r=>Xj r.coef x
def X8(g:Int->Int)(a:List Rw)(free:List Int):Nat->List Int
 |0=>List.replicate a.length 0
 |m+1=>(List.range a.length).map fun r=>IntKind.i64.wrap ((X8 g a free m).getD r 0+g ((a.getD r default).coef.getD (free.getD (free.length-(m+1)) 0).toNat 0))
theorem Z6(g:Int->Int)(a:List Rw)(free:List Int):∀m,(X8 g a free m).length=a.length
 |0=>by simp [X8]
 |m+1=>by simp [X8]
def loL(g:Int->Int)(a:List Rw)(free:List Int):Mo:=(List.range (free.length+1)).map fun d=>X8 g a free (free.length-d)
theorem Rn(g:Int->Int)(a:List Rw)(free:List Int):(loL g a free).length=free.length+1:=by simp [loL]
theorem Ave(g:Int->Int)(a:List Rw)(free:List Int):∀l∈loL g a free,l.length=a.length:=by
 intro l c;simp only [loL,Bk]at c;obtain⟨d,_,rfl⟩:=c;exact Z6 g a free _
theorem Asr(g:Int->Int)(a:List Rw)(free:List Int){d:Nat}(h:d<=free.length):(loL g a free).getD d []=X8 g a free (free.length-d):=by
 rw [Cf (by rw [Rn];omega)];simp [loL]
def Sv(a free:List Int):Nat->List Int
 |0=>[]
 |k+1=>if 0<a.getD (free.getD k 0).toNat 0 then Sv a free k++[(k:Int)]else Sv a free k
theorem Z7(a free:List Int):∀k,(Sv a free k).length<=k
 |0=>A8 _
 |k+1=>by have:=Z7 a free k;rw [Sv];split<;>simp<;>omega
theorem Z8(a free:List Int):∀k,∀i∈Sv a free k,0<=i/\i<k
 |0=>fun i c=>by cases c
 |k+1=>fun i c=>by
  have ih:=Z8 a free k;rw [Sv]at c
  split at c
  ·rcases B3.1 c with h1|h1
   ·have:=ih i h1;omega
   ·have:=By.1 h1;omega
  ·have:=ih i c;omega
def nwS(c:List Int)(a:List Rw)(d free:List Int):Ss:=
 ⟨c,a,d,free,false,false,loL Z5 a free,loL Lf a free,A3l a,H4 (Ah5 c free) (Sv c free free.length)⟩
def nwD(a:List Int)(c:List Rw)(d:List Int):Sd:=⟨xP d,Xj a (xP d),smP c (xP d),0,none,0,false⟩
theorem Ad2(a:List Rw):∀k,k<=a.length-> -1<=(R2 a k).1/\(R2 a k).1<a.length
 |0,_ =>by simp only [R2];omega
 |k+1,h=>by
  have:=Ad2 a k om;rw [R2]
  split
  ·simp only;omega
  ·exact this
structure WfP(vals:List Int)(rows:List Rw)(fx free:List Int):Prop where
 hr:rows.length<=1000
 hv:vals.length<=1000
 hx:fx.length=vals.length
 hc:∀r∈rows,r.coef.length=vals.length
 hf:∀i∈free,0<=i/\i<vals.length
 hfl:free.length<20
theorem A3q{a:List Int}{c:List Rw}{d free:List Int}(h:WfP a c d free):WfS (nwS a c d free)where
 hr:=h.hr
 hv:=h.hv
 hc:=h.hc
 hf:=h.hf
 hfl:=by have:=h.hfl;simp only [nwS];omega
 hl:=Rn _ _ _
 hh:=Rn _ _ _
 hlr:=Ave _ _ _
 hhr:=Ave _ _ _
 hw:=Ad2 c c.length (A8 _)
 ho:=fun e f=>Z8 a free free.length e (Su f)
 hol:=by have:=h.hfl;have:=Z7 a free free.length;simp only [nwS,Nc];omega
theorem A3r{a:List Int}{c:List Rw}{d free:List Int}(h:WfP a c d free):WfD (nwS a c d free) (nwD a c d):=
 ⟨by simp [nwD,nwS,xP,h.hx],by simp [nwD,nwS,smP]⟩
theorem Bcg{P:Program}{w0:Bs}{N0:Nat->Prop}{Q:Exit->AS->Prop}{S:AS}{x:Code}(a:AS)(h1:AW P w0 N0 x (fun e T=>e=.normal/\T.le a) S)(h2:∀T,T.le a->Q .normal T):AW P w0 N0 x Q S:=
 h1.mono fun e T⟨he,hT⟩=>by subst he;exact h2 T hT
def loE(g:Int->Int)(a:List Rw)(free:List Int)(u:Nat):List V:=List.replicate u .nils++(Ek (loL g a free)).drop u
theorem A77(g:Int->Int)(a:List Rw)(free:List Int):loE g a free (free.length+1)=List.replicate (free.length+1) .nils:=by
 unfold loE;rw [Fx (by rw [Lz,Rn];omega),Dx]
theorem A3s(g:Int->Int)(a:List Rw)(free:List Int):loE g a free 0=Ek (loL g a free):=by simp [loE]
theorem Al2(g:Int->Int)(a:List Rw)(free:List Int){u:Nat}(h:u<=free.length+1):(loE g a free u).length=free.length+1:=by
 simp [loE,Rn];omega
theorem Avg(g:Int->Int)(a:List Rw)(free:List Int){u d:Nat}(h:d<u):Hs (loE g a free u) d=some .nils:=by
 rw [C1,loE,Bj (by simpa using h)];simp [h]
theorem A78(g:Int->Int)(a:List Rw)(free:List Int){d:Nat}(h:d<=free.length):(Ek (loL g a free))[d]? =some (.ro 1 (As (X8 g a free (free.length-d)))):=by
 rw [<- C1,Af8 (by rw [Rn];omega),Asr g a free h]
theorem Al3(g:Int->Int)(a:List Rw)(free:List Int){d:Nat}(h:d<=free.length):Hs (loE g a free d) d=some (.ro 1 (As (X8 g a free (free.length-d)))):=by
 rw [C1,loE,Bh sm,Cy];simp only [List.length_replicate,Gf,Ea];exact A78 g a free h
theorem Avh(g:Int->Int)(a:List Rw)(free:List Int){d:Nat}(h:d<=free.length):(loE g a free (d+1)).set d (.ro 1 (As (X8 g a free (free.length-d))))=loE g a free d:=by
 apply Ld;intro i;rw [Le,Al2 g a free (by omega)]
 by_cases e:d=i
 ·subst e;rw [if_pos rfl,if_pos om,<- C1,Al3 g a free h]
 ·rw [if_neg e];unfold loE
  by_cases c:i<d
  ·rw [Bj so,Bj (by simp;omega)];simp [c,show i<d+1 by omega]
  ·rw [Bh so,Bh so,Cy,Cy];simp only [List.length_replicate]
   congr 1;omega
theorem Apl(g:Int->Int)(a:List Rw)(free:List Int)(u:Nat):(loE g a free u).all V.pureE=true:=by
 rw [Ax];intro x c
 rcases B3.1 c with h|h
 ·have:=Jy h;subst this;rfl
 ·exact Ax.1 (Dw _) x (C3 h)
theorem Avi(g:Int->Int)(a:List Rw)(free:List Int){d r:Nat}(hd:d<free.length)(e:r<a.length):
  (As (X8 g a free (free.length-d)))[r]? =some (.int .i64 (IntKind.i64.wrap ((X8 g a free (free.length-(d+1))).getD r 0+g ((a.getD r default).coef.getD (free.getD d 0).toNat 0)))):=by
 obtain⟨m,c⟩:∃m,free.length-d=m+1:=⟨free.length-(d+1),by omega⟩;have h1:free.length-(d+1)=m:=om;have h2:free.length-(m+1)=d:=om;rw [c,h1,X8,h2];simp [As,e]
theorem Xl(g:List Int)(e:List Rw)(w free:List Int)(h:WfP g e w free):
  ACS prog 277 [.agg [.ro 1 (As g),.ro 3 (Hq e),.ro 1 (As w)],.ro 1 (As free)] []
   (fun r a7=>∃v xq sq,r=.bp 22 v 17 0 0/\a7=Abu (nwS g e w free) (nwD g e w) v xq sq) (fun _ =>False):=by
 have hfl:=h.hfl;have e0:=h.hr;have ex:=h.hv;have cm:=h.hx;have bo:=Ayb (As g) e (As w) (Af _) (Af _) h.hr (fun r hr=>by rw [h.hc r hr];exact h.hv);have lv:=A5 g;have lr:=Nw e;have lf:=A5 w;have ay:=A5 free;have pv:=Af g;have pr:=Hb e;have pf:=Af w;have c1:=Af free;have d6:=fun(k:Nat)(h:k<w.length)=>Dj h
 have b1:=fun(k:Nat)(h:k<e.length)=>Zz h
 have a4:=fun(k:Nat)(h:k<free.length)=>Dj h
 have ei:=fun(k:Nat)(h:k<g.length)=>Dj h
 have dr:(g.length:Int)<=9223372036854775807:=om;have da:8*(g.length:Int)<=281474976710656:=om;have bf:(e.length:Int)<=9223372036854775807:=om;have bi:8*(e.length:Int)<=281474976710656:=om;have a1:(As (xP w)).length=g.length:=by rw [A5,xP,Eo];exact cm
 have ck:(xP w).length=g.length:=by rw [xP,Eo];exact cm
 have de:∀k,k<w.length->(As (xP w))[k]? =some (.int .i64 (Lf (w.getD k 0))):=fun k hk=>by rw [Cf hk];simp [As,xP,hk]
 have cc:=Af6 g (xP w) om om;have d7:=fun(k:Nat)(hk:k<e.length)=>Af6 (e.getD k default).coef (xP w) (by rw [He h.hc hk default];omega) (by rw [He h.hc hk default];omega)
 have dl:=fun(k:Nat)=>Af (e.getD k default).coef
 have bk:=Af (xP w);have cx:=Af (xP w);have ef:(As (smP e (xP w))).length=e.length:=by rw [A5,smP,Eo]
 have ca:(smP e (xP w)).length=e.length:=by rw [smP,Eo]
 have dq:∀k,k<e.length->(As (smP e (xP w)))[k]? =some (.int .i64 (Xj (e.getD k default).coef (xP w))):=fun k hk=>by rw [Cf hk];simp [As,smP,hk]
 have cq:IntKind.i64.wrap ((free.length:Int)+1)=(free.length:Int)+1:=Bb om om;have b3:(free.length:Int)+1<=9223372036854775807:=om;have bv:24*((free.length:Int)+1)<=281474976710656:=om;have bq:(0:Int)<=(free.length:Int)+1:=om;have df:∀m,(As (X8 Z5 e free m)).all V.pureE=true:=fun m=>Af _
 have dh:∀m,(As (X8 Lf e free m)).all V.pureE=true:=fun m=>Af _
 have ce:∀m,(As (X8 Z5 e free m)).length=e.length:=fun m=>by rw [A5,Z6]
 have bs:∀m,(As (X8 Lf e free m)).length=e.length:=fun m=>by rw [A5,Z6]
 have b4:=Af (smP e (xP w));have dm:∀a,Z5 a=if 0<a then 0 else a:=fun a=>rfl
 have co:∀a,Lf a=if a<0 then 0 else a:=fun a=>rfl
 have ar:=Z8 g free free.length;generalize al:Sv g free=ok at*;unfold Abu srC nwS nwD;simp only [ck,ca,al];generalize A3l e=wd at*;generalize bm:As g=vv at*;generalize Hq e=rw,As w=fv at*;generalize b6:As free=s at*;refine Hk func277 (fun w0 N0 j=>?_);refine Aa [2,3] [2,3] sr (Ab (C4 [(0,[22]),(1,[22]),(2,[22]),(3,[]),(4,[]),(5,[]),(6,[])] Dm kr ?_));refine Ch 3 sr ?_;refine Bw (fun hg=>bo) func297 rfl kr rfl rfl sr rfl rfl sr (by simp) sr ?_;refine C5 [2,3,5] [2,3,22] sr ?_;refine Aa [2,3,5] [2,3,22,27] (by simp [dr,da,lv]<;>rfl) (Ab (Aa [2,3,5,31,32,33] [2,3,22,27] sr (Ap ?_)));generalize e4:As (xP w)=xv at*;refine Bq (fun k nx=>⟨[(2,V.bp 2 j 3 0 0),(3,V.bp 3 (j+1) 1 0 0),(5,V.bp 22 (j+8) 17 0 0),(31,V.ro 1 fv),(32,V.int .i64 fv.length),(33,V.int .i64 k)],[(2,⟨j,3,257,[V.agg [V.ro 1 vv,V.ro 3 rw,V.ro 1 fv]]⟩),(3,⟨j+1,1,25,[V.ro 1 s]⟩),(22,⟨j+8,17,376,[V.agg [V.ro 1 vv,V.ro 3 rw,V.ro 1 fv,V.ro 1 s,V.bool false,V.bool false,V.sl 27 (j+14) 1 g.length,V.int .i64 0,V.nils,V.nils,V.nils,V.int .i64 wd,V.nils,V.int .i64 0,V.nils,V.int .i64 0,V.bool false]]⟩),(27,⟨j+14,1,3,Fy xv (.int .i64 0) k⟩)],nx,222⟩) (fun k=>True) g.length _ trivial (by rw [I8,a1];exact AS.le_refl _) ?_;intro k nx hk hI;have bb:=J6 xv (.int .i64 0) k om;refine Aa [2,3,5,31,32,33,34] [2,3,22,27] sr (Ab ?_)
 refine Ao (fun h1=>Ae ?_) (fun h1=>?_)
 ·have n:k<w.length:=by simp at h1;omega
  have aa:k<fv.length:=om;have a8:k<g.length:=om;have ga:=d6 k n;have C9:=A7 (k:=k) om;have aw:=de k n;have eh:=co (w.getD k 0);generalize w.getD k 0=f at*;rw [eh]at aw;have ag:=J8 xv (.int .i64 0) k om aw;have ao:Hs (Fy xv (.int .i64 0) k) k=some (.int .i64 0):=J7 xv _ k om;have af:(Fy xv (.int .i64 0) k).length=g.length:=om;generalize Fy xv (.int .i64 0) k=row at ao ag bb af|-;refine Ab (Ap (Aa [2,3,5,6,7,31,32,33] [2,3,22,27] (by simp [ga,aa]<;>rfl) (A2 [2,3,5,31,32,33] [2,3,22,27] (by simp [a8,ao,ag]<;>rfl) (A2 [2,3,5,31,32,33] [2,3,22,27] (by simp [C9]<;>rfl) ?_))));exact⟨a8,trivial,_,AS.le_refl _⟩
 ·refine A9 ?_;have aj:k=g.length:=by simp at h1;omega
  rw [aj,K1 xv (.int .i64 0) g.length (by omega)];generalize Xj g (xP w)=ah at*;refine Ab (Mn [7] Dm ?_);refine I5 [(0,[]),(1,[]),(3,[]),(4,[]),(5,[]),(2,[]),(6,[])] kr sr ?_
  refine Jn (i:=7) (ks:=[]) kr rfl sm (I9 sm cc func298 rfl kr sr rfl rfl sr (by simp [a1,bk]<;>rfl) rfl sr) ?_;refine I5 [(8,[]),(9,[]),(10,[])] kr sr ?_
  refine Lh [2,3,5] [2,3,22,27] kr sr ?_;refine Aa [2,3,5] [2,3,22,27,61] (by simp [bf,bi,lr]<;>rfl) (Ab (Aa [2,3,5,65,66,67] [2,3,22,27,61] sr (Ap ?_)));generalize er:As (smP e (xP w))=z at*;refine Bq (fun k2 t=>⟨[(2,V.bp 2 j 3 0 0),(3,V.bp 3 (j+1) 1 0 0),(5,V.bp 22 (j+8) 17 0 0),(65,.ro 3 rw),(66,.int .i64 rw.length),(67,.int .i64 k2)],[(2,⟨j,3,257,[V.agg [V.ro 1 vv,V.ro 3 rw,V.ro 1 fv]]⟩),(3,⟨j+1,1,25,[V.ro 1 s]⟩),(22,⟨j+8,17,376,[V.agg [V.ro 1 vv,V.ro 3 rw,V.ro 1 fv,V.ro 1 s,V.bool false,V.bool false,V.sl 27 (j+14) 1 g.length,V.int .i64 ah,V.sl 61 (nx+1+11+4) 1 e.length,V.nils,V.nils,V.int .i64 wd,V.nils,V.int .i64 0,V.nils,V.int .i64 0,V.bool false]]⟩),(27,⟨j+14,1,3,xv⟩),(61,⟨(nx+1+11+4),1,3,Fy z (.int .i64 0) k2⟩)],t,222⟩) (fun k=>True) e.length _ trivial (by rw [I8,ef];exact AS.le_refl _) ?_;intro k2 t eu ew;have bb:=J6 z (.int .i64 0) k2 om;refine Aa [2,3,5,65,66,67,68] [2,3,22,27,61] sr (Ab ?_)
  refine Ao (fun h2=>Ae ?_) (fun h2=>?_)
  ·have n:k2<e.length:=by simp at h2;omega
   have aa:k2<rw.length:=om;have ga:=b1 k2 n;have C9:=A7 (k:=k2) om;have aw:=dq k2 n;have ai:=d7 k2 n;have bj:=dl k2;generalize e.getD k2 default=r at*;obtain⟨cf,eb,cz⟩:=r;simp only at ga aw ai bj;generalize As cf=cv,Xj cf (xP w)=e3 at*;have ag:=J8 z (.int .i64 0) k2 om aw;have ao:Hs (Fy z (.int .i64 0) k2) k2=some (.int .i64 0):=J7 z _ k2 om;have af:(Fy z (.int .i64 0) k2).length=e.length:=om;refine Ab (Ap (Aa [2,3,5,8,9,65,66,67] [2,3,9,22,27,61] (by simp [ga,aa]<;>rfl) ?_));refine Bcg ⟨[(2,V.bp 2 j 3 0 0),(3,V.bp 3 (j+1) 1 0 0),(5,V.bp 22 (j+8) 17 0 0),(65,.ro 3 rw),(66,.int .i64 rw.length),(67,.int .i64 k2)],[(2,⟨j,3,257,[V.agg [V.ro 1 vv,V.ro 3 rw,V.ro 1 fv]]⟩),(3,⟨j+1,1,25,[V.ro 1 s]⟩),(22,⟨j+8,17,376,[V.agg [V.ro 1 vv,V.ro 3 rw,V.ro 1 fv,V.ro 1 s,V.bool false,V.bool false,V.sl 27 (j+14) 1 g.length,V.int .i64 ah,V.sl 61 (nx+1+11+4) 1 e.length,V.nils,V.nils,V.int .i64 wd,V.nils,V.int .i64 0,V.nils,V.int .i64 0,V.bool false]]⟩),(27,⟨j+14,1,3,xv⟩),(61,⟨(nx+1+11+4),1,3,Fy z (.int .i64 0) (k2+1)⟩)],t+1+6+14,222⟩ ?g1 (fun T hT=>Ui hT ?g2)
   case g1=>
    rw [<- ag];generalize Fy z (.int .i64 0) k2=row at ao ag bb af|-;refine Mn [11] Dm ?_;refine I5 [(0,[]),(1,[]),(2,[]),(4,[]),(5,[]),(7,[]),(8,[]),(9,[]),(6,[]),(10,[])] kr sr ?_
    refine V4 [3,11] kr ?_;intro i hi;simp only [Cg,Gy,or_false]at hi
    rcases hi with rfl|rfl
    ·refine⟨_,_,rfl,Sa sr,?_⟩;refine Jn (i:=11) (ks:=[]) kr rfl sm (I9 sm ai func298 rfl kr sr rfl rfl sr (by simp [a1,bk]<;>rfl) rfl sr) ?_;refine I5 [(12,[]),(13,[])] kr (by simp [n,ao]<;>rfl) ?_
     refine Lh [2,3,5,65,66,67] [2,3,22,27,61] kr sr ?_;exact⟨rfl,AS.le_refl _⟩
    ·refine⟨_,_,rfl,I9 sm ai func298 rfl kr sr rfl rfl sr (by simp [a1,bk]<;>rfl) rfl sr,?_⟩;refine I5 [(3,[]),(12,[]),(13,[])] kr (by simp [n,ao]<;>rfl) ?_
     refine Lh [2,3,5,65,66,67] [2,3,22,27,61] kr sr ?_;exact⟨rfl,AS.le_refl _⟩
   refine A2 [2,3,5,65,66,67] [2,3,22,27,61] (by simp [C9]<;>rfl) ?_;exact⟨n,trivial,_,AS.le_refl _⟩
  ·refine A9 ?_;have aj:k2=e.length:=by simp at h2;omega
   rw [aj,K1 z (.int .i64 0) e.length (by omega)];refine Aa [2,3,5,10] [2,3,22,27,61] (by simp [ay]<;>rfl) (Aa [2,3,5,10] [2,3,22,27,61,91] (by simp [cq,b3,bv,bq]<;>rfl) (Aa [2,3,5,10] [2,3,22,27,61,91,97] (by simp [cq,b3,bv,bq]<;>rfl) (Ab (Aa [2,3,5,10,11] [2,3,22,27,61,91,97] sr (Ap ?_)))));have c6:((free.length+1:Nat):Int)-1=free.length:=om;refine Dr (fun x:Nat × Nat=>⟨[(2,V.bp 2 j 3 0 0),(3,V.bp 3 (j+1) 1 0 0),(5,V.bp 22 (j+8) 17 0 0),(10,.int .i64 free.length),(11,.int .i64 ((x.1:Int)-1))],[(2,⟨j,3,257,[V.agg [V.ro 1 vv,V.ro 3 rw,V.ro 1 fv]]⟩),(3,⟨j+1,1,25,[V.ro 1 s]⟩),(22,⟨j+8,17,376,[V.agg [V.ro 1 vv,V.ro 3 rw,V.ro 1 fv,V.ro 1 s,V.bool false,V.bool false,V.sl 27 (j+14) 1 g.length,V.int .i64 ah,V.sl 61 (nx+1+11+4) 1 e.length,V.sl 91 (t+1+3+3) 1 (free.length+1),V.sl 97 (t+1+3+7+3) 1 (free.length+1),V.int .i64 wd,V.nils,V.int .i64 0,V.nils,V.int .i64 0,V.bool false]]⟩),(27,⟨j+14,1,3,xv⟩),(61,⟨(nx+1+11+4),1,3,z⟩),(91,⟨(t+1+3+3),1,25,loE Z5 e free x.1⟩),(97,⟨(t+1+3+7+3),1,25,loE Lf e free x.1⟩)],x.2,222⟩) (fun x=>x.1<=free.length+1) (fun x=>x.1) (free.length+1,_) (A8 _) (by simp only [A77,c6];exact AS.le_refl _) ?_;rintro⟨u,az⟩hu;simp only at hu|-;refine Ab (Aa [2,3,5,10,11,102] [2,3,22,27,61,91,97] sr ?_)
   refine Ao (fun h3=>Ae ?_) (fun h3=>?_)
   ·obtain⟨d,rfl⟩:∃d,u=d+1:=⟨u-1,by simp at h3;omega⟩;have ds:((d+1:Nat):Int)-1=(d:Int):=om;have cr:IntKind.i64.wrap ((d:Int)-1)=(d:Int)-1:=Bb om om;have cg:d<=free.length:=om;have bc:=Avh Z5 e free cg;have ba:=Avh Lf e free cg;have cu:=Al2 Z5 e free hu;have cp:=Al2 Lf e free hu;have d8:=Avg Z5 e free (show d<d+1 by omega);have dx:=Avg Lf e free (show d<d+1 by omega);have d0:=F4 (Apl Z5 e free (d+1));have du:=F4 (Apl Lf e free (d+1));have ed:=fun(h:d+1<=free.length)=>Al3 Z5 e free h
    have d9:=fun(h:d+1<=free.length)=>Al3 Lf e free h
    have a0:(d:Int)<(free.length:Int)+1:=om;have an:∀(a b:Nat)es y,((loE Z5 e free (d+1)).set d y).map (V.frz a b 1 es)=(loE Z5 e free (d+1)).set d (V.frz a b 1 es y):=fun a b es y=>by rw [N7,d0]
    have am:∀(a b:Nat)es y,((loE Lf e free (d+1)).set d y).map (V.frz a b 1 es)=(loE Lf e free (d+1)).set d (V.frz a b 1 es y):=fun a b es y=>by rw [N7,du]
    have ae:=F4 cx;have ad:=F4 b4;simp only [ds];generalize loE Z5 e free (d+1)=E1,loE Lf e free (d+1)=E2 at*;refine Ab (Ap (Di [(0,[]),(1,[]),(2,[]),(4,[]),(5,[]),(3,[113]),(6,[113]),(7,[]),(8,[]),(9,[]),(10,[])] [2,3,5,10,11] [2,3,22,27,61,91,97,113] Dm kr (by simp [lr,bf,bi,d8,a0]<;>rfl) ?_));refine Di [(0,[]),(1,[]),(2,[]),(4,[]),(5,[]),(3,[123]),(6,[123]),(7,[]),(8,[]),(9,[]),(10,[])] [2,3,5,10,11] [2,3,22,27,61,91,97,113,123] Dm kr (by simp [lr,bf,bi,dx,a0]<;>rfl) ?_;refine Ab (Aa [2,3,5,10,11,127] [2,3,22,27,61,91,97,113,123] sr ?_)
    refine Ao (fun h4=>?_) (fun h4=>Ae ?_)
    ·refine A9 ?_;have ab:d=free.length:=by simp at h4;omega
     have d5:As (X8 Z5 e free (free.length-d))=List.replicate e.length (.int .i64 0):=by rw [ab,Gf];simp [X8,As]
     have dd:As (X8 Lf e free (free.length-d))=List.replicate e.length (.int .i64 0):=by rw [ab,Gf];simp [X8,As]
     rw [d5]at bc;rw [dd]at ba;refine Bt 113 [2,3,5,10,11] [2,3,22,27,61,91,97,123] (by simp [an,am,ae,ad]<;>rfl) (Bt 123 [2,3,5,10,11] [2,3,22,27,61,91,97] (by simp [an,am,ae,ad]<;>rfl) (A2 [2,3,5,10,11] [2,3,22,27,61,91,97] (by simp [cr]<;>rfl) ?_));exact⟨(d,_),by simp only;omega,by simp only;omega,by simp only [<- bc,<- ba];exact AS.le_refl _⟩
    have ab:d<free.length:=by simp at h4;omega
    have b2:=fun(r:Nat)(hr:r<e.length)=>Avi Z5 e free ab hr
    have b5:=fun(r:Nat)(hr:r<e.length)=>Avi Lf e free ab hr
    have b8:=ed om;have b9:=d9 om;have bl:=df (free.length-d);have ct:=dh (free.length-d);have bu:=ce (free.length-d);have b7:=bs (free.length-d);have ek:=ce (free.length-(d+1));have ej:=bs (free.length-(d+1));have bx:=fun(r:Nat)(hr:r<e.length)=>Dj (l:=X8 Z5 e free (free.length-(d+1))) (k:=r) (by rw [Z6];exact hr)
    have bt:=fun(r:Nat)(hr:r<e.length)=>Dj (l:=X8 Lf e free (free.length-(d+1))) (k:=r) (by rw [Z6];exact hr)
    have dz:=a4 d ab;obtain⟨bh,d3⟩:=He h.hf ab 0;generalize X8 Z5 e free (free.length-(d+1))=bd at*;generalize X8 Lf e free (free.length-(d+1))=ax at*;generalize As (X8 Z5 e free (free.length-d))=lo,As (X8 Lf e free (free.length-d))=hi,free.getD d 0=dt at*;obtain⟨fi,rfl⟩:=Co bh;simp only [Dv]at b2 b5;have a9:IntKind.i64.wrap ((d:Int)+1)=(d:Int)+1:=Bb om om;have bg:(0:Int)<=(d:Int)+1/\d<free.length:=om;have dy:∀y,Hs (E1.set d y) d=some y:=fun y=>by rw [C1,List.getElem?_set_self (by omega)]
    have dn:∀y,Hs (E2.set d y) d=some y:=fun y=>by rw [C1,List.getElem?_set_self (by omega)]
    have dj:∀y,Hs (E1.set d y) (d+1)=some (.ro 1 (As bd)):=fun y=>by rw [C1,Ik om,<- C1];exact b8
    have dw:∀y,Hs (E2.set d y) (d+1)=some (.ro 1 (As ax)):=fun y=>by rw [C1,Ik om,<- C1];exact b9
    refine Aa [2,3,5,10,11,129,130,131] [2,3,22,27,61,91,97,113,123] sr (Ap (Bq (fun r ci=>⟨[(2,V.bp 2 j 3 0 0),(3,V.bp 3 (j+1) 1 0 0),(5,V.bp 22 (j+8) 17 0 0),(10,.int .i64 free.length),(11,.int .i64 d),(129,.ro 3 rw),(130,.int .i64 rw.length),(131,.int .i64 r)],[(2,⟨j,3,257,[V.agg [V.ro 1 vv,V.ro 3 rw,V.ro 1 fv]]⟩),(3,⟨j+1,1,25,[V.ro 1 s]⟩),(22,⟨j+8,17,376,[V.agg [V.ro 1 vv,V.ro 3 rw,V.ro 1 fv,V.ro 1 s,V.bool false,V.bool false,V.sl 27 (j+14) 1 g.length,V.int .i64 ah,V.sl 61 (nx+1+11+4) 1 e.length,V.sl 91 (t+1+3+3) 1 (free.length+1),V.sl 97 (t+1+3+7+3) 1 (free.length+1),V.int .i64 wd,V.nils,V.int .i64 0,V.nils,V.int .i64 0,V.bool false]]⟩),(27,⟨j+14,1,3,xv⟩),(61,⟨(nx+1+11+4),1,3,z⟩),(91,⟨(t+1+3+3),1,25,E1.set d (.sl 113 (az+2+8) 1 e.length)⟩),(97,⟨(t+1+3+7+3),1,25,E2.set d (.sl 123 (az+2+11+8) 1 e.length)⟩),(113,⟨(az+2+8),1,3,Fy lo (.int .i64 0) r⟩),(123,⟨(az+2+11+8),1,3,Fy hi (.int .i64 0) r⟩)],ci,222⟩) (fun k=>True) e.length _ trivial (by rw [I8,I8,bu,b7];exact AS.le_refl _) ?_));intro r ci hr ey;refine Aa [2,3,5,10,11,129,130,131,132] [2,3,22,27,61,91,97,113,123] sr (Ab ?_)
    refine Ao (fun h5=>Ae ?_) (fun h5=>?_)
    ·have n:r<e.length:=by simp at h5;omega
     have aa:r<rw.length:=om;have ga:=b1 r n;have C9:=A7 (k:=r) om;have c5:=He h.hc n default;have aq:=b2 r n;have au:=b5 r n;have ee:=bx r n;have c0:=bt r n;generalize e.getD r default=rr at*;obtain⟨cf,eb,cz⟩:=rr;simp only at ga aq au c5;have a2:fi<cf.length:=om;have gc:=Dj a2;have ez:=A5 cf;have ep:=Af cf;generalize As cf=cv at*;have cd:fi<cv.length:=om;generalize cf.getD fi 0=c,bd.getD r 0=l0,ax.getD r 0=h0,As bd=d1,As ax=c9 at*;rw [dm]at aq;rw [co]at au;have c8:=J8 lo (.int .i64 0) r om aq;have ec:=J8 hi (.int .i64 0) r om au;have db:Hs (Fy lo (.int .i64 0) r) r=some (.int .i64 0):=J7 lo _ r om;have dg:Hs (Fy hi (.int .i64 0) r) r=some (.int .i64 0):=J7 hi _ r om;have ea:(Fy lo (.int .i64 0) r).length=e.length:=by rw [J6 lo _ r (by omega)];omega
     have c4:(Fy hi (.int .i64 0) r).length=e.length:=by rw [J6 hi _ r (by omega)];omega
     generalize Fy lo (.int .i64 0) r=em,Fy hi (.int .i64 0) r=en at*;have c2:r<d1.length:=om;have dp:r<c9.length:=om;refine Ab (Ap (Aa [2,3,5,10,11,12,13,129,130,131] [2,3,13,22,27,61,91,97,113,123] (by simp [ga,aa]<;>rfl) ?_));refine Di [(0,[]),(3,[]),(1,[]),(2,[]),(4,[]),(5,[]),(6,[]),(7,[]),(8,[])] [2,3,5,10,11,12,14,129,130,131] [2,3,22,27,61,91,97,113,123] Dm kr (by simp [dz,gc,cd,bg,ay]<;>rfl) ?_;refine Di [(0,[]),(1,[]),(2,[]),(4,[]),(7,[]),(8,[]),(9,[]),(10,[]),(12,[]),(13,[]),(16,[]),(19,[]),(20,[]),(3,[]),(5,[]),(6,[]),(11,[]),(14,[]),(15,[]),(17,[]),(18,[]),(21,[]),(22,[]),(23,[])] [2,3,5,10,11,12,14,129,130,131] [2,3,22,27,61,91,97,113,123] Dm kr (by simp [dy,dj,a0,bg,a9,ee,c2,n,db,c8]<;>rfl) ?_;refine Tc [(0,[]),(1,[]),(2,[]),(4,[]),(7,[]),(8,[]),(9,[]),(10,[]),(12,[]),(13,[]),(16,[]),(19,[]),(20,[]),(3,[]),(5,[]),(6,[]),(11,[]),(14,[]),(15,[]),(17,[]),(18,[]),(21,[]),(22,[]),(23,[])] [2,3,5,10,11,129,130,131] [2,3,22,27,61,91,97,113,123] Dm kr (by simp [dn,dw,a0,bg,a9,c0,dp,n,dg,ec]<;>rfl) ?_;refine A2 [2,3,5,10,11,129,130,131] [2,3,22,27,61,91,97,113,123] (by simp [C9]<;>rfl) ?_;exact⟨n,trivial,_,AS.le_refl _⟩
    ·refine A9 ?_;have aj:r=e.length:=by simp at h5;omega
     rw [aj,K1 lo (.int .i64 0) e.length om,K1 hi (.int .i64 0) e.length (by omega)];have c7:=F4 bl;have cb:=F4 ct;refine Bt 113 [2,3,5,10,11] [2,3,22,27,61,91,97,123] (by simp [an,am,ae,ad,cb,bl,bu]<;>rfl) (Bt 123 [2,3,5,10,11] [2,3,22,27,61,91,97] (by simp [an,am,ae,ad,ct,b7]<;>rfl) (A2 [2,3,5,10,11] [2,3,22,27,61,91,97] (by simp [cr]<;>rfl) ?_));exact⟨(d,_),by simp only;omega,by simp only;omega,by simp only [<- bc,<- ba];exact AS.le_refl _⟩
   ·refine A9 ?_;have d4:u=0:=by simp at h3;omega
    subst d4;simp only [A3s];have a3:=Dw (loL Z5 e free);have a6:=Dw (loL Lf e free);have bz:(Ek (loL Z5 e free)).length=free.length+1:=by rw [Lz,Rn]
    have bw:(Ek (loL Lf e free)).length=free.length+1:=by rw [Lz,Rn]
    have cj:∀k,ok (k+1)=if 0<g.getD (free.getD k 0).toNat 0 then ok k++[(k:Int)]else ok k:=fun k=>by rw [<- al];rfl
    have cn:ok 0= []:=by rw [<- al];rfl
    have a5:∀k,(ok k).length<=k:=fun k=>by rw [<- al];exact Z7 g free k
    generalize di:Ek (loL Z5 e free)=cl at*;generalize cy:Ek (loL Lf e free)=be at*;refine V1 22 12 100 1 3 [2,3,5] [2,3,22,27,61,91,97,100] sr ?_;refine Ab (Aa [2,3,5,191,192,193] [2,3,22,27,61,91,97,100] (by simp [ay]<;>rfl) (Ap (Dr (fun x:Nat × Nat × Nat=>⟨[(2,V.bp 2 j 3 0 0),(3,V.bp 3 (j+1) 1 0 0),(5,V.bp 22 (j+8) 17 0 0),(191,.ro 1 s),(192,.int .i64 s.length),(193,.int .i64 (x.1:Nat))],[(2,⟨j,3,257,[V.agg [V.ro 1 vv,V.ro 3 rw,V.ro 1 fv]]⟩),(3,⟨j+1,1,25,[V.ro 1 s]⟩),(22,⟨j+8,17,376,[V.agg [V.ro 1 vv,V.ro 3 rw,V.ro 1 fv,V.ro 1 s,V.bool false,V.bool false,V.sl 27 (j+14) 1 g.length,V.int .i64 ah,V.sl 61 (nx+1+11+4) 1 e.length,V.sl 91 (t+1+3+3) 1 (free.length+1),V.sl 97 (t+1+3+7+3) 1 (free.length+1),V.int .i64 wd,.sl 100 x.2.1 1 (ok x.1).length,V.int .i64 0,V.nils,V.int .i64 0,V.bool false]]⟩),(27,⟨j+14,1,3,xv⟩),(61,⟨(nx+1+11+4),1,3,z⟩),(91,⟨(t+1+3+3),1,25,cl⟩),(97,⟨(t+1+3+7+3),1,25,be⟩),(100,⟨x.2.1,1,3,As (ok x.1)⟩)],x.2.2,222⟩) (fun x=>x.1<=free.length) (fun x=>free.length-x.1) (0,_,_) (B6 _) (by simp only [cn,ay];exact AS.le_refl _) ?_)));rintro⟨k,qv,et⟩eg;simp only at eg|-;refine Aa [2,3,5,191,192,193,194] [2,3,22,27,61,91,97,100] sr (Ab ?_)
    refine Ao (fun h6=>Ae ?_) (fun h6=>?_)
    ·have n:k<free.length:=by simp at h6;omega
     have aa:k<s.length:=om;have ga:=a4 k n;have C9:=A7 (k:=k) om;have hs:=cj k;have e1:=a5 k;obtain⟨bh,d3⟩:=He h.hf n 0;generalize free.getD k 0=dt at*;obtain⟨fi,rfl⟩:=Co bh;simp only [Dv]at hs;have a2:fi<g.length:=om;have gv:=ei fi a2;have cw:fi<vv.length:=om;generalize ok k=Lk at*;have c3:Lk.length+1<=maxLen/\(Lk.length+1)*8<=140737488355328:=⟨Aj (show Lk.length+1<=20 by omega) dc,by omega⟩;refine Ab (Ap (Aa [2,3,5,15,16,191,192,193] [2,3,22,27,61,91,97,100] (by simp [ga,aa]<;>rfl) (Aa [2,3,5,15,191,192,193,203] [2,3,22,27,61,91,97,100] (by simp [gv,cw]<;>rfl) ?_)))
     refine Ao (fun h7=>?_) (fun h7=>Ae ?_)
     ·rw [if_pos (by simpa using h7)]at hs;refine A2 [2,3,5,191,192,193] [2,3,22,27,61,91,97,100] (by simp [c3]<;>rfl) (A2 [2,3,5,191,192,193] [2,3,22,27,61,91,97,100] (by simp [C9]<;>rfl) ?_);exact⟨(k+1,_,_),n,by simp only;omega,by simp only [hs,Wh,Bi,Bc,B0];exact AS.le_refl _⟩
     rw [if_neg (by simpa using h7)]at hs;refine A2 [2,3,5,191,192,193] [2,3,22,27,61,91,97,100] (by simp [C9]<;>rfl) ?_;exact⟨(k+1,_,_),n,by simp only;omega,by simp only [hs];exact AS.le_refl _⟩
    ·refine A9 ?_;have aj:k=free.length:=by simp at h6;omega
     subst aj;have av:=F4 a3;have ak:=F4 a6;have dk:=Af (ok free.length);have b0:=F4 dk;have ae:=F4 cx;have ad:=F4 b4
     have bn:=Ajz 100 qv (ok free.length) 299 [] [V.rp (V.agg [V.ro 1 vv,V.ro 3 rw,V.ro 1 fv]),V.rp (V.ro 1 s)] (Ah5 g free) (by have:=a5 free.length;omega) (fun a ha b hb=>Zt (args:=[.int .i64 a,.int .i64 b]) (us:=[]) (vs:=[V.rp (V.agg [V.ro 1 vv,V.ro 3 rw,V.ro 1 fv]),V.rp (V.ro 1 s)]) (r:=.int .i64 (Ah5 g free a b)) (by
      rw [<- bm,<- b6];exact A76 g rw fv free pr pf h.hf a b (ar a ha) (ar b hb)) func299 kr rfl)
     have br:=Af (H4 (Ah5 g free) (ok free.length));have dv:(As (H4 (Ah5 g free) (ok free.length))).length=(ok free.length).length:=by rw [A5,Nc]
     refine Bt 2 [2,3,5] [3,22,27,61,91,97,100] (by simp [ae,ad,av,ak,b0]<;>rfl) (Bt 3 [2,3,5] [22,27,61,91,97,100] (by simp [ae,ad,av,ak,b0]<;>rfl) (Ab (Ac (Am 5 sr ?_))));refine Et bn func275 rfl kr rfl rfl rfl sr (fun k o hk=>Dt gt hk) ?_ (fun ch d2=>d2.elim);rintro r a7 e2⟨rfl,rfl⟩el;refine⟨fun k hk=>Mt hk,_,by simp<;>rfl,?_⟩;refine Ag [5] [22,27,61,91,97,100] sr ?_;have eo:=F4 br;refine Bt 100 [5] [22,27,61,91,97] (by simp [ae,ad,av,ak,br,dv]<;>rfl) (Bt 91 [5] [22,27,61,97] (by simp [ae,ad,ak,a3,bz]<;>rfl) (Bt 97 [5] [22,27,61] (by simp [ae,ad,a6,bw]<;>rfl) (Aa [4] [22,27,61] sr ?_)));exact C7 j (Dz (Ba _ _) sr ⟨j+8,j+14,nx+1+11+4,rfl,rfl⟩ (fun k o hk=>Fk (by simp [Eng.get,bV]) gt gt hk))
theorem A3t{a:List Int}{c:List Rw}{d:List Int}(e:c.length<=1000)(hv:a.length<20)(f:d.length=a.length)(g:∀r∈c,r.coef.length=a.length):WfP a c d (Fq d):=
 ⟨e,by omega,f,g,fun i h=>by have:=Zy d d.length i h;omega,by have:=Wi d d.length;unfold Fq;omega⟩
theorem A3u{a:List Int}{c:List Rw}{e free:List Int}(d:Int->Int->Int)(h:WfP a c e free):WfP a c e (H4 d free):=
 ⟨h.hr,h.hv,h.hx,h.hc,fun i f=>h.hf i (Su f),by rw [Nc];exact h.hfl⟩
def Agc(a:List Int)(c:List Rw)(d:List Int):Ss:={ nwS a c d (Fq d)with one:=true,once:=true}
def Ayc(a:List Int)(c:List Rw)(d:List Int)(least:Int):Sd:=Hf (Agc a c d) (Fq d).length 0 { nwD a c d with least:=least}
theorem A79{a:List Int}{c:List Rw}{d:List Int}(h:WfP a c d (Fq d)):WfS (Agc a c d):=
 have w:=A3q h
 ⟨w.hr,w.hv,w.hc,w.hf,w.hfl,w.hl,w.hh,w.hlr,w.hhr,w.hw,w.ho,w.hol⟩
theorem A3v(a:List Int)(c:List Rw)(d:List Int)(least:Int)(h:WfP a c d (Fq d)):
  AC prog 238 [.agg [.ro 1 (As a),.ro 3 (Hq c),.ro 1 (As d)],.int .i64 least] (fun r=>r=bV (Ayc a c d least).best):=by
 have hfl:=h.hfl;have al:=h.hv;have ak:=h.hx;have pv:=Af a;have z:=Hb c;have pf:=Af d;have f:=A73 (As a) (Hq c) d pv z om;have i:=(Xl a c d (Fq d) h).q G0;have ab:=A79 h;have s:=A3r h;have e:=fun v y t=>Ajy (Agc a c d) ab v y t { nwD a c d with least:=least} ⟨s.hx,s.hs⟩
 have aj:=Af (Fq d);have j:(Agc a c d).free=Fq d:=rfl;rw [j]at e;unfold Ayc;generalize am:Hf (Agc a c d) (Fq d).length 0 { nwD a c d with least:=least}=VR at*;obtain⟨vx,ah,ae,u,m,ad,w⟩:=VR;have ar:=Af (nwD a c d).x;have ao:=Af (nwD a c d).sums;unfold Agc at e;simp only [Abu,srC]at i e;generalize nwD a c d=nd,nwS a c d (Fq d)=ns,As (Fq d)=ai,As a=vv,Hq c=rw,As d=fv at*;refine Ay func238 (fun w0 N0=>?_);refine Aa [1,2] [2] sr (Ab (A02 Dm ?_));refine A01 0 1 kr rfl rfl (Sa sr) (Sa sr) (Ae6 1 kr rfl (Sa sr) (Ae6 2 kr rfl (Ak2 (fun _ =>f) func274 rfl kr sr rfl rfl sr (by simp) sr) ?_)) (A01 0 2 kr rfl rfl (Sa sr) (Ak2 (fun _ =>f) func274 rfl kr sr rfl rfl sr (by simp) sr) (Ae6 2 kr rfl (Ak2 (fun _ =>f) func274 rfl kr sr rfl rfl sr (by simp) sr) ?_) (Ae6 0 kr rfl (Sa sr) ?_))
 all_goals
  refine A6e 3 kr rfl (Aw0 (Bcd _) i func277 rfl kr sr rfl rfl sr (fun k o n=>by cases n) (fun r g nx hR af=>?_)) ?_
  ·obtain⟨v,y,t,rfl,rfl⟩:=hR;exact⟨fun k n=>rfl,_,by simp<;>rfl⟩
  rintro S'⟨r,g,an,⟨v,y,t,rfl,rfl⟩,af,hS⟩;simp at hS;subst hS;refine Ae6 4 kr rfl (Sa sr) ?_;refine Bbi [1,5] [22,27,61] kr sr ?_;refine Aa [5] [22,27,61] sr (Ab (Ac (Am 1 sr ?_)));refine Et (e v y t) func278 rfl kr rfl rfl rfl sr (fun k o n=>Fk gt gt gt n) ?_ (fun ch aa=>aa.elim);rintro r g aq⟨rfl,rfl⟩ag;refine⟨fun k n=>K4 n,_,by simp<;>rfl,?_⟩;refine Ag [5] [22,27,61] sr ?_;cases m with
  |none=>
   exact Aa [4] [] (by simp [bV]<;>rfl) (Ak (Ad sr rf))
  |some l=>
   have pl:=Af l;refine Aa [4] [] (by simp [bV]<;>rfl) ?_;exact Ak (Ad (by simp [results238]<;>rfl) rfl)
def grS(a:List Int)(c:List Rw)(d:List Int):Ss:=nwS a c d (H4 (Tn a) (Fq d))
def grD(a:List Int)(c:List Rw)(d:List Int):Sd:=Hf (grS a c d) (H4 (Tn a) (Fq d)).length 0 { nwD a c d with least:= -24000000}
theorem Apm(c:List Int)(d:List Rw)(e:List Int)(h:WfP c d e (Fq e)):
  AC prog 237 [.agg [.ro 1 (As c),.ro 3 (Hq d),.ro 1 (As e)]] (fun r=>r=.tup [.int .i64 (grD c d e).most,.bool (grD c d e).found]):=by
 have hfl:=h.hfl;have au:=h.hv;have ar:=h.hx;have pv:=Af c;have z:=Hb d;have pf:=Af e;have w:=Apd (As c) (Hq d) e pv z om;have n:=A3u (Tn c) h;have l:=Xl c d e _ n;have ab:=A3q n;have u:=A3r n;have f:=fun v xq sq=>Ajy (grS c d e) ab v xq sq { nwD c d e with least:= -24000000} ⟨u.hx,u.hs⟩
 have aj:=Sq (Fq e);have ag:=Af (H4 (Tn c) (Fq e));have ai:(As (H4 (Tn c) (Fq e))).length=(Fq e).length:=by rw [A5,Nc]
 have m:(grS c d e).free=H4 (Tn c) (Fq e):=rfl;rw [m]at f;have s:=fun q=>Ajz 100 q (Fq e) 276 [] [V.rp (V.agg [.ro 1 (As c),.ro 3 (Hq d),.ro 1 (As e)])] (Tn c) h.hfl (fun a ha b hb=>Zt (args:=[.int .i64 a,.int .i64 b]) (us:=[]) (vs:=[V.rp (V.agg [.ro 1 (As c),.ro 3 (Hq d),.ro 1 (As e)])]) (r:=.int .i64 (Tn c a b)) (A75 c (Hq d) (As e) z pf a b (h.hf a ha) (h.hf b hb)) func276 kr rfl)
 unfold grD;generalize av:Hf (grS c d e) (H4 (Tn c) (Fq e)).length 0 { nwD c d e with least:= -24000000}=VR at*;obtain⟨vx,al,af,x,ah,ad,y⟩:=VR;unfold grS at f;simp only [Abu,srC]at l f;generalize nwD c d e=nd,nwS c d e (H4 (Tn c) (Fq e))=ns,As (H4 (Tn c) (Fq e))=ao at*;have ay:=A5 (Fq e);generalize t:As (Fq e)=aa at*;generalize As c=vv,Hq d=rw,As e=fv at*;refine Ay func237 (fun w0 N0=>?_);refine Aa [1] [1] sr (Ab (Ac (Am 1 sr ?_)));refine My 100 w func274 rfl kr rfl rfl rfl sr (by simp [AS.views,AS.view,AS.viewL,AS.viewC]<;>rfl) sr ?_;refine Ag [1,4] [1,100] sr ?_;have ae:=F4 (show aa.all V.pureE=true by rw [<- t];exact Af _);refine Bt 1 [1,4] [100] (by simp [ae]<;>rfl) (Ab (Ac (Am 2 sr ?_)));refine Et (s _) func275 rfl kr rfl rfl rfl sr (fun k o i=>Dt gt i) ?_ (fun ch g=>g.elim);rintro r j aw⟨rfl,rfl⟩am;refine⟨fun k i=>Mt i,_,by simp<;>rfl,?_⟩;refine Ag [1,4] [1,100] sr ?_;refine Bt 100 [1,4] [] (by simp [ag,ai]<;>rfl) (Ab (Ac (Am 2 sr ?_)));refine Et l func277 rfl kr rfl rfl rfl sr (fun k o i=>by cases i) ?_ (fun ch g=>g.elim);rintro r j ax⟨v,xq,sq,rfl,rfl⟩ak;refine⟨fun k i=>rfl,_,by simp<;>rfl,?_⟩;refine Ag [5] [22,27,61] sr ?_;refine Aa [5] [22,27,61] sr (Ab (Ac (Am 1 sr ?_)));refine Et (f v xq sq) func278 rfl kr rfl rfl rfl sr (fun k o i=>Fk gt gt gt i) ?_ (fun ch g=>g.elim);rintro r j aq⟨rfl,rfl⟩an;refine⟨fun k i=>K4 i,_,by simp<;>rfl,?_⟩;refine Ag [5] [22,27,61] sr ?_;refine Di [(0,[]),(1,[]),(2,[]),(4,[]),(5,[]),(6,[]),(3,[]),(8,[]),(7,[]),(9,[])] [2,3] [] Dm kr sr ?_;exact Ak (Ad sr (rfl))
def A3w(c:List Int)(a:List Rw)(d:List Int):V:=
 if Abt c a d≠0 then .tup [.nils,.int .i64 0,.int .i64 (Abt c a d)]
 else if a.any (fun r=>decide (r.mx<r.mn))=true then .tup [.nils,.int .i64 0,.int .i64 14]
 else if(grD c a d).found=false then .tup [.nils,.int .i64 0,.int .i64 14]
 else .tup [bV (Ayc c a d (grD c a d).most).best,.int .i64 (grD c a d).most,.int .i64 0]
theorem A3x{a:List Int}{c:List Rw}{d:List Int}(h:Abt a c d=0)(f:a.length<20):WfP a c d (Fq d):=by
 unfold Abt at h
 split at h
 ·omega
 ·rename_i h1
  split at h
  ·omega
  ·rename_i h2
   split at h
   ·omega
   ·rename_i g
    exact A3t om f om (fun r i=>by
     by_cases e:r.coef.length=a.length
     ·exact e
     ·exact absurd (Dp.2 ⟨r,i,by simpa using e⟩) g)
theorem Ayd(c:List Int)(a:List Rw)(e:List Int)(hv:c.length<20)(hz:a.length<=1000/\e.length<=1000):
  Hm gv prog 202 [.agg [.ro 1 (As c),.ro 3 (Hq a),.ro 1 (As e)]] (fun r=>r=A3w c a e):=by
 have t:=A72 c a e ⟨by omega,hz.1,hz.2⟩;have i:=fun h=>Apm c a e (A3x h hv)
 have d:=fun h=>A3v c a e (grD c a e).most (A3x h hv)
 have pv:=Af c;have o:=Hb a;have n:=Af e;have aa:=fun(k:Nat)(h:k<a.length)=>Zz h
 have ak:=Nw a;unfold A3w;generalize Abt c a e=ze at*;generalize(Ayc c a e (grD c a e).most).best=fb at*;generalize grD c a e=gd at*;have pb:=Ad1 fb;obtain⟨gx,ag,ab,w,ad,ae,x⟩:=gd;simp only at i d|-;generalize As c=vv at*;generalize Hq a=rw at*;generalize As e=fv at*;refine Bx func202 (fun w0 N0 hG=>?_);refine Aa [1] [1] sr (Ab (Ab (Ac (Am 1 sr ?_))));refine Ho hG t func236 rfl kr (by simp) rfl rfl rfl sr (by simp) sr ?_;refine Ag [1,5] [1] sr ?_;refine Aa [1,5,13] [1] sr ?_
 refine Ao (fun h1=>?_) (fun h1=>Ae ?_)
 ·exact Aa [2,3,4] [] sr (Ak (Ad sr (by rw [if_pos (by simpa using h1)])))
 have j:ze=0:=by simpa using h1
 rw [if_neg (by simpa using j)];refine Ab (Aa [1,16,17,18] [1] sr (Ap (Bq (fun k nx=>⟨[(1,V.bp 1 (0) 3 0 0),(16,V.ro 3 rw),(17,V.int .i64 rw.length),(18,V.int .i64 k)],[(1,{ v:=0,sz:=3,ty:=257,es:=[V.agg [V.ro 1 vv,V.ro 3 rw,V.ro 1 fv]]})],nx,39⟩) (fun k=>(a.take k).any (fun r=>decide (r.mx<r.mn))=false) a.length _ rfl (AS.le_refl _) ?_)));intro k nx hk hI;refine Aa [1,16,17,18,19] [1] sr (Ab ?_)
 refine Ao (fun h2=>Ae ?_) (fun h2=>?_)
 ·have g:k<a.length:=by simp at h2;omega
  have u:k<rw.length:=om;have ga:=aa k g;have C9:=A7 (k:=k) om;have s:=fun h=>Ny (f:=fun r:Rw=>decide (r.mx<r.mn)) g hI h
  have m:=fun h=>Rj (f:=fun r:Rw=>decide (r.mx<r.mn)) g h
  rw [Cf g]at ga;generalize a[k]=r at*;obtain⟨cf,aj,ai⟩:=r;simp only at ga s m;have ah:=Af cf;generalize As cf=cv at*;refine Ab (Ap (Aa [1,7,16,17,18] [1,7] (by simp [ga,u]<;>rfl) (Aa [1,16,17,18,26] [1] sr ?_)))
  refine Ao (fun z=>?_) (fun z=>Ae ?_)
  ·exact Aa [2,3,4] [] sr (Ak (Ad sr (by rw [if_pos (m (by simpa using z))])))
  refine A2 [1,16,17,18] [1] (by simp [C9]<;>rfl) ?_;exact⟨g,s (by simpa using z),_,AS.le_refl _⟩
 ·refine A9 ?_;have af:k=a.length:=by simp at h2;omega
  rw [af,Bo]at hI;rw [if_neg (by rw [hI];simp)];refine Ab (Ac (Am 1 sr ?_));refine Ai (i j) func237 ?_ (hp:=by simp);refine Ag [1,8,9] [1] sr ?_;refine Ab (Aa [1,8,34] [1] sr ?_)
  refine Ao (fun y=>?_) (fun y=>Ae ?_)
  ·exact Aa [2,3,4] [] sr (Ak (Ad sr (by rw [if_pos (by simpa using y)])))
  rw [if_neg (by simpa using y)];replace d:=d j;cases fb with
  |none=>
   simp only [bV]at d|-;refine Ab (Ac (Am 2 sr ?_));refine Ai d func238 ?_ (hp:=by simp);refine Ag [2,3,4] [] sr ?_;exact Ak (Ad sr rfl)
  |some l=>
   have pl:=Af l;simp only [bV]at d|-;refine Ab (Ac (Am 2 sr ?_));refine Ai d func238 ?_ (hp:=by simp);refine Ag [2,3,4] [] sr ?_;exact Ak (Ad (by simp [results202]<;>rfl) rfl)
theorem Ii(n k:Nat)(f:Nat->Bool)(a:k<n)(c:((List.range n).take k).any f=false)(d:f k=false):((List.range n).take (k+1)).any f=false:=
 Ny (by simpa using a) c (by simpa using d)
theorem Nd{n k:Nat}{f:Nat->Bool}(a:k<n)(c:f k=true):(List.range n).any f=true:=Dp.2 ⟨k,Ij.2 a,c⟩
def Ah6(pool:List Pit)(id:Int):Int:=Ih (fun p=>decide (p.id=id)) pool 0
def Aye(giv:List Int):Bool:=(List.range giv.length).any fun i=>decide (giv.getD i 0∈giv.take i)
def Agd(len:Int)(rs:List Ru)(pool:List Pit)(en:List (Int × Int))(giv:List Int):Int:=
 if Apb len rs pool en≠0 then Apb len rs pool en else if giv.any (fun id=>decide (Ah6 pool id<0))=true then 6 else if Aye giv=true then 7 else 0
theorem Al5(len:Int)(rs:List Ru)(pool:List Pit)(en:List (Int × Int))(giv a:List Int)(n:Int)(hs:Sp len rs=0)(hp:Kd pool n=0)(aq:pool.length<=18)(he:en.length<=400)(hg:giv.length<=1000)
  (an:a.length=pool.length)(al:∀v∈a,-1000000<=v/\v<=1000000):
  Wt gv prog 154 [Qw len rs,.ro 9 (B8 pool),.ro 2 (A0 en),.ro 1 (As giv),.ro 1 (As a)] [] (Ajs (Agd len rs pool en giv) (X6 a rs) (T9 len rs pool en (pool.length+Fm rs)) (P7 rs pool)):=by
 have e:=Alx len rs pool en a n hs hp aq he an al;have u:=Zr pool;have ak:=fun k x=>Rh (giv.take k) x
 have pl:=B4 pool;have pr:=Cq rs;have pe:=A4 en;have pv:=Af a;have pg:=Af giv;have ai:=fun(k:Nat)(h:k<giv.length)=>Dj h
 have aw:=A5 giv;have ao:=fun k=>(show As (giv.take k)=(As giv).take k by simp [As,Jz])
 have ah:=fun k=>Af (giv.take k)
 have pX:=Af (X6 a rs);have pR:=Hb (T9 len rs pool en (pool.length+Fm rs));have pF:=Af (P7 rs pool);have lF:=A5 (P7 rs pool);unfold Qw at e|-;unfold Ajs Apc Ava Agd;unfold Ajs Apc Ava at e;simp only [ao]at ak ah;change∀id,Hm gv prog 201 [.ro 9 (B8 pool),.int .i64 id] (fun r=>r=.int .i64 (Ah6 pool id))at u;generalize As (X6 a rs)=xv at*;generalize Hq (T9 len rs pool en (pool.length+Fm rs))=cv at*;generalize As (P7 rs pool)=fv at*;generalize(P7 rs pool).length=fl at*;generalize Apb len rs pool en=am at*;generalize Ah6 pool=pX at*;generalize As a=vv at*;generalize az:As giv=c at*;generalize A0 en=ev at*;generalize B8 pool=ar at*;generalize Ee rs=rv at*
 by_cases hE:am=0
 ·subst hE;simp only [if_true,ne_eq,not_true_eq_false,if_false]at e|-;generalize l:(if(giv.any fun id=>decide (pX id<0))=true then(6:Int)else if Aye giv=true then 7 else 0)=ee;refine Ig func154 (fun w0 N0 g hG=>?_);refine Aa [1,2,3,4,5,10] [5,10] sr (Ab (Ac (Am 4 sr ?_)));refine Qq hG e func200 rfl kr rfl rfl rfl sr (fun k o j=>by cases j) ?_;rintro r ae s⟨v,rfl,rfl⟩aj;refine⟨fun k j=>rfl,_,by simp<;>rfl,?_⟩;refine Ag [1,3,10,12,13] [10,12,78] sr ?_;refine Ab (Aa [1,3,10,12,13,27] [10,12,78] sr ?_);refine A6 rfl (fun h1=>absurd h1 sm) (fun h1=>Ae (Ab (Aa [1,3,10,12,30,31,32] [10,12,78] sr (Ap (Bq (fun k nx=>⟨[(1,V.ro 9 ar),(3,V.ro 1 c),(10,V.bp 10 (g+1) 3 0 0),(12,V.bp 12 (s+8) 3 0 0),(30,V.ro 1 c),(31,.int .i64 c.length),(32,.int .i64 k)],[(10,⟨g+1,3,257,[V.agg [.nils,.nils,.nils]]⟩),(12,⟨s+8,3,257,[V.agg [.ro 1 xv,.ro 3 cv,.sl 78 v 1 fl]]⟩),(78,⟨v,1,3,fv⟩)],nx,57⟩) (fun k=>(giv.take k).any (fun id=>decide (pX id<0))=false) giv.length _ rfl (AS.le_refl _) ?_)))));intro k nx j hI;refine Aa [1,3,10,12,30,31,32,33] [10,12,78] sr (Ab ?_)
  refine Ao (fun h2=>Ae ?_) (fun h2=>?_)
  ·have d:k<giv.length:=by simp at h2;omega
   have t:k<c.length:=om;have ga:=ai k d;have C9:=A7 (k:=k) om;have z:=fun h=>Ny (f:=fun id=>decide (pX id<0)) d hI h
   have y:=fun h=>Rj (f:=fun id=>decide (pX id<0)) d h
   rw [Cf d]at ga;generalize giv[k]=id at*;have aa:=u id;refine Ab (Ap (Aa [1,3,10,12,15,30,31,32] [10,12,78] (by simp [ga,t]<;>rfl) (Ab (Ac (Am 2 sr ?_)))));refine Ho hG aa func201 rfl kr (by simp) rfl rfl rfl sr (by simp) sr ?_;refine Ag [1,3,10,12,30,31,32,39] [10,12,78] sr ?_
   refine Ao (fun h3=>?_) (fun h3=>Ae ?_)
   ·refine Aa [10,11] [10] sr ?_;rw [if_pos (y (by simpa using h3))]at l;subst l;exact C7 g (Dz (Ba _ _) sr (outs0:=[]) (by rw [if_neg (by decide)];exact⟨rfl,rfl⟩) (fun k o j=>by cases j))
   refine A2 [1,3,10,12,30,31,32] [10,12,78] (by simp [C9]<;>rfl) ?_;exact⟨d,z (by simpa using h3),_,AS.le_refl _⟩
  ·refine A9 ?_;have ab:k=giv.length:=by simp at h2;omega
   rw [ab,Bo]at hI;rw [if_neg (by rw [hI];simp)]at l;refine Ab (Aa [3,10,12,42,43,44] [10,12,78] sr (Ap (Bq (fun k nx=>⟨[(3,V.ro 1 c),(10,V.bp 10 (g+1) 3 0 0),(12,V.bp 12 (s+8) 3 0 0),(42,V.ro 1 c),(43,.int .i64 c.length),(44,.int .i64 k)],[(10,⟨g+1,3,257,[V.agg [.nils,.nils,.nils]]⟩),(12,⟨s+8,3,257,[V.agg [.ro 1 xv,.ro 3 cv,.sl 78 v 1 fl]]⟩),(78,⟨v,1,3,fv⟩)],nx,57⟩) (fun k=>((List.range giv.length).take k).any (fun i=>decide (giv.getD i 0∈giv.take i))=false) giv.length _ rfl (AS.le_refl _) ?_)));intro m ay ax w;refine Aa [3,10,12,42,43,44,45] [10,12,78] sr (Ab ?_)
   refine Ao (fun h4=>Ae ?_) (fun h4=>?_)
   ·have d:m<giv.length:=by simp at h4;omega
    have t:m<c.length:=om;have ga:=ai m d;have C9:=A7 (k:=m) om;have z:=fun h=>Ii giv.length m (fun i=>decide (giv.getD i 0∈giv.take i)) d w h
    have y:=fun h=>Nd (f:=fun i=>decide (giv.getD i 0∈giv.take i)) d h
    have ad:=ak m (giv.getD m 0);have ag:=ah m;have af:m<=c.length:=om;generalize av:giv.getD m 0=id at*;have au:min m c.length=m:=om;refine Ab (Ap (Aa [3,10,12,16,17,42,43,44] [10,12,78] (by simp [ga,t]<;>rfl) (Ab (Ac (Am 4 (by simp [af]<;>rfl) ?_)))));refine Ai ad func64 ?_ (hp:=by simp);refine Ag [3,10,12,42,43,44,53] [10,12,78] sr ?_
    refine Ao (fun h5=>?_) (fun h5=>Ae ?_)
    ·refine Aa [10,11] [10] sr ?_;have hD:Aye giv=true:=by unfold Aye;exact y (by simpa using h5)
     rw [if_pos hD]at l;subst l;exact C7 g (Dz (Ba _ _) sr (outs0:=[]) (by rw [if_neg (by decide)];exact⟨rfl,rfl⟩) (fun k o j=>by cases j))
    refine A2 [3,10,12,42,43,44] [10,12,78] (by simp [C9]<;>rfl) ?_;exact⟨d,z (by simpa using h5),_,AS.le_refl _⟩
   ·refine A9 ?_;have ab:m=giv.length:=by simp at h4;omega
    rw [ab,Bf (by simp)]at w;have hD:Aye giv=false:=by unfold Aye;exact w
    rw [if_neg (by rw [hD];simp)]at l;subst l;refine Aa [10,11] [10,78] sr ?_;exact C7 g (Dz (Ba _ _) sr (outs0:=[(78,⟨v,1,3,fv⟩)]) (by rw [if_pos rfl];exact⟨v,rfl,rfl⟩) (fun k o j=>Dt gt j))
 ·simp only [if_neg hE]at e;simp only [ne_eq,hE,not_false_eq_true,if_true,if_false];refine Ig func154 (fun w0 N0 g hG=>?_);refine Aa [1,2,3,4,5,10] [5,10] sr (Ab (Ac (Am 4 sr ?_)));refine Qq hG e func200 rfl kr rfl rfl rfl sr (fun k o j=>by cases j) ?_;rintro r ae s⟨rfl,rfl⟩aj;refine⟨fun k j=>j,_,by simp<;>rfl,?_⟩;refine Ag [1,3,10,12,13] [10,12] sr ?_;refine Ab (Aa [1,3,10,12,13,27] [10,12] sr ?_)
  refine A6 rfl (fun h1=>?_) (fun h1=>absurd h1 (by simpa using hE))
  ·refine Aa [10,11] [10] sr ?_;exact C7 g (Dz (Ba _ _) sr (outs0:=[]) ⟨rfl,rfl⟩ (fun k o j=>by cases j))
end Go.Proofs.YtpaccopbbffkaaaGreatDoor
