/- Resuming, part 5. No condition. -/
import Derived.Test.YtnoignhlamifmaaGreatDoorA4
import Derived.Lib.ReplaceLaws
import Derived.RangeFuncBox
import Derived.Shelf.Abstract
import Derived.OwnWalkIn
import Derived.TacticsInMore
import Derived.LoopNIn
import Derived.LoopIn
set_option maxHeartbeats 8000000
set_option linter.all false
set_option maxRecDepth 10000
open Go.Proofs.Tryz
namespace Go.Proofs.YtnoignhlamifmaaGreatDoor
open Go.Eng Go.Eng.Limb
variable {k:Nat}
def Arm(a:Int):AE 248 [.i a] (.bool false):=by
 refine Aq func248 λw0 N0=>?_;exact Y [0] [] sr (Y [2] [] sr (By sr rf))
def cmpI(a b:Int):Int:=if a<b then -1 else if b<a then 1 else 0
def Ahs(a b:Int):AC prog 189 [.i a,.i b] (λr=>r=.i (cmpI a b)):=by
 have f:=Arm a;have g:=Arm b;unfold cmpI;refine Aq func189 λw0 N0=>?_;refine Y [0,1] [] sr (J (Ak (Ay 1 sr ?_)));refine Ac f func248 ?_;refine Aa [0,1,5] [] sr (J (Ak (Ay 1 sr ?_)));refine Ac g func248 ?_;refine Aa [0,1,5,6] [] sr (J (Y [0,1,6,11] [] sr ?_));refine A0 rfl (λh1=>absurd h1 sm) (λh1=>Ae (J (Y [0,1,13] [] sr ?_)));refine A0 rfl (λe=>absurd e sm) (λe=>Ae (J (Y [0,1,16] [] sr ?_)))
 refine Au (λc=>?_) λc=>Ae ?_
 .exact Y [4] [] sr (Ao (Ab sr (by rw[Ad (sG c)])))
 refine J (Y [19] [] sr ?_)
 refine Au (λd=>?_) λd=>Ae ?_
 .exact Y [4] [] sr (Ao (Ab sr (by rw[I (sG c),Ad (sG d)])))
 exact Y [4] [] sr (Ao (Ab sr (by rw[I (sG c),I (sG d)])))
def orF:List Int->Int
 | []=>0
 |a::r=>if a≠0 then a else orF r
def A6t{l:List Int}(h:k<l.length):orF (l.drop k)=if l[k]≠0 then l[k]else orF (l.drop (k+1)):=by rw[Bt h,orF]
def Bix(l:List Int)(hl:l.length<=1000):AE 188 [.ro 1 (Av l)] (.i (orF l)):=by
 have j:=λ(k:Nat)(h:k<l.length)=>Fu h
 have lq:=A4 l;have pl:=Af l;have n:=λ(k:Nat)(h:k<l.length)=>A6t h
 generalize Av l=g at*;refine Aq func188 λw0 N0=>?_;refine Y [0] [] sr (A9 [3] sr (J (Y [3,6,7,8] [] sr (Ah (Bu (λk nx=>⟨[(3,V.i 0),(6,V.ro 1 g),(7,V.i g.length),(8,V.i k)],[],nx,18⟩) (λk=>orF (l.drop k)=orF l) l.length _ rfl Z ?_)))));intro k nx hk i;refine Y [3,6,7,8,9] [] sr (J ?_)
 refine Au (λh1=>Ae ?_) λh1=>?_
 .have c:k<l.length:=by simp at h1;omega
  have d:k<g.length:=om;have m:=j k c;have Ee:=A5 (k:=k) om;have e:=n k c;generalize l[k]=a at*;refine J (Ah (Y [3,5,6,7,8] [] (by simp[m,d]<;>rfl) (A9 [14] sr ?_)))
  refine Au (λh2=>?_) λh2=>Ae ?_
  .exact Y [2] [] sr (Ao (Ab sr (by rw[<- i,e,Ad (sG h2)])))
  refine Ba [3,6,7,8] [] (by simp[Ee]<;>rfl) ?_;exact⟨c,by rw[<- i,e,I (sG h2)],_,Z⟩
 .refine A6 ?_;have f:k=l.length:=sO h1
  exact Y [2] [] sr (Ao (Ab sr (by rw[<- i,f,Ck];rfl)))
def Adb(c:List (Int × Int))(a b:Int):Int:=orF [cmpI (Fo c b) (Fo c a),cmpI a b]
def Bcj(bm:Nat)(m:List (Int × V))(c:List (Int × Int))(g:∀a,Nu false (.i 0) (Hk a m)=.i (Fo c a))(a b:Int):
  AE 187 [.i a,.i b,.rm bm .i64 m] (.i (Adb c a b)):=by
 have j:=Ahs (Fo c b) (Fo c a);have h:=Ahs a b;have d:=Bix [cmpI (Fo c b) (Fo c a),cmpI a b] sm;have f:=g a;have e:=g b;unfold Adb;have i:Av [cmpI (Fo c b) (Fo c a),cmpI a b]= [.i (cmpI (Fo c b) (Fo c a)),.i (cmpI a b)]:=rfl;rw[i]at d;generalize orF [cmpI (Fo c b) (Fo c a),cmpI a b]=oo,cmpI (Fo c b) (Fo c a)=x1,cmpI a b=x2,Fo c a=la,Fo c b=lb at*;refine Aq func187 λw0 N0=>?_;refine Y [0,1,2] [] sr (Bn 6 (by simp[f,e,-Nu]<;>rfl) ?_);refine Ac j func189 ?_;refine Ay 2 sr ?_;refine Ac h func189 ?_;refine Ay 1 sr ?_;refine Lf 16 [16] [] sr ?_;refine Ac d func188 ?_;refine Aa [5] [] sr ?_;exact By sr (rfl)
def Au1(x:Int)(a:0<=x)(h1:x<=18446744073709551615):AE 177 [.int .u64 x] (.i (Lib.bitLen x.toNat)):=by
 intro w N xs hb c hp
 match xs,c with
 | [y],_ =>
  have:=hp 0 y _ rfl rfl;cases this with
  |int=>
   refine(bits_Len x w a h1).mono ?_;rintro e w'⟨rfl,rfl⟩;exact⟨_,_,rfl,rfl,.int _ _,Go.RowKit.Below.refl _ _⟩
def Bck(d v:Nat)(l:List Int)(g:Int)(f:FuncId)(us vs:List V)(e:Int->Int->Int)(hl:l.length<=12)
  (u:∀a∈l,∀b∈l,Yz G0 prog (.fc f us vs) [.i a,.i b] (λr=>r=.i (e a b))):
  Qv prog 247 [.sl d v 1 l.length,.i 0,.i l.length,.i g,.fc f us vs] [(d,⟨v,1,3,Av l⟩)] (λr c=>r=.tup []/\c= [(d,⟨v,1,3,Av (Hb e l)⟩)]) (λ_ =>False):=by
 have i:=Ahf d v l f us vs e l.length (A7 _) om u;change Qv _ _ _ _ (λr c=>r=.tup []/\c= [(d,⟨v,1,3,Av (Hb e l)⟩)]) _ at i;have s:(l.length:Int)<=12:=om;have n:IntKind.i64.wrap (l.length:Int)=l.length:=Bp om om;refine Ec func247 λw0 N0 m=>?_;refine Y [0,1,2,3,4,10] [d] sr (Y [0,1,2,3,4,10,11] [d] sr (Ah (C3 (λnx:Nat=>⟨[(0,V.sl d v 1 l.length),(1,V.i 0),(2,V.i l.length),(3,V.i g),(4,.fc f us vs),(10,V.bool true),(11,V.bool true)],[(d,⟨v,1,3,Av l⟩)],nx,148⟩) (λ_ =>True) (λ_ =>0) _ trivial Z ?_)));intro nx _;refine Ah (Y [0,1,2,3,4,10,11,12] [d] Du (J (Y [0,1,2,3,4,10,11,12,25] [d] sr ?_)))
 refine A0 rfl (λh1=>?_) λh1=>absurd h1 G8
 .refine Bn 4 sr (D0 i func284 rfl kr rfl rfl rfl sr (λk o h=>B5 gt h) ?_ (λch j=>j.elim));rintro r c w⟨rfl,rfl⟩t;refine⟨λk h=>Jq h,_,by simp<;>rfl,?_⟩;exact Aa [] [d] sr (Db m (Ea (A8 _ _) sr ⟨rfl,rfl⟩ (λk o h=>B5 gt h)))
def A03(d v:Nat)(l:List Int)(f:FuncId)(us vs:List V)(e:Int->Int->Int)(u:l.length<=12)
  (w:∀a∈l,∀b∈l,Yz G0 prog (.fc f us vs) [.i a,.i b] (λr=>r=.i (e a b))):
  Qv prog 186 [.sl d v 1 l.length,.fc f us vs] [(d,⟨v,1,3,Av l⟩)] (λr c=>r=.tup []/\c= [(d,⟨v,1,3,Av (Hb e l)⟩)]) (λ_ =>False):=by
 have i:=λs=>Bck d v l s f us vs e u w
 have n:IntKind.u64.wrap (l.length:Int)=l.length:=wrap_u64 om;refine Ec func186 λw0 N0 t=>?_;refine Y [0,1,4] [d] sr (Mr 4 Du ?_);refine Ac (Au1 l.length om om) func177 ?_;refine Ay 1 sr (D0 (i _) func247 rfl kr rfl rfl rfl sr (λk o h=>B5 gt h) ?_ (λch m=>m.elim));rintro r c x⟨rfl,rfl⟩g;refine⟨λk h=>Jq h,_,by simp<;>rfl,?_⟩;refine Aa [] [d] sr ?_;exact⟨by simp only;simp at g;omega,.tup [],_,by simp[results186],λk o h=>B5 gt h,rfl,rfl⟩
def Wd(c:List (Int × Int))(a:Int):Bool:=c.any λp=>decide (p.1=a)
def Axk(c:List (Int × Int))(a:Int):Nu true (.i 0) (Hk a (mV c))=.tup [.i (Fo c a),.bool (Wd c a)]:=by
 induction c with
 |nil=>rfl
 |cons p r ih=>
  obtain⟨x,v⟩:=p;simp only[mV,B6,Hk,Wd,Yn]at ih|-;rw[Fo]
  by_cases h:x=a
  .rw[Ad h,Ad h];simp[Nu,h]
  .rw[I h,I h,ih];simp[h]
def dlK(giv:List Int)(m:List (Int × V)):Nat->List (Int × V)
 |0=>m
 |k+1=>Yb (giv.getD k 0) (dlK giv m k)
def Alt(giv:List Int)(m:List (Int × V))(a:Int):∀k,k<=giv.length->Hk a (dlK giv m k)=if a∈giv.take k then none else Hk a m
 |0,_ =>by simp[dlK]
 |k+1,h=>by
  have c:k<giv.length:=om;rw[dlK,Re,Alt giv m a k om,Az c,Cs c]
  by_cases h1:a=giv[k]
  .rw[Ad h1,Ad (by rw[h1];exact O4 _ (B3.2 rfl))]
  .rw[I h1]
   by_cases h2:a∈giv.take k
   .rw[Ad h2,Ad (Lo _ h2)]
   .rw[I h2,I (λe=>(Cn.1 e).elim h2 (λe=>h1 (B3.1 e)))]
def Arn(a:Int):∀(l:List Int),(Hk a (mB l)).isSome=true↔a∈l
 | []=>by simp[mB,Hk]
 |x::r=>by
  have ih:=Arn a r;simp only[mB,B6,Hk]at ih|-
  by_cases h:x=a
  .rw[Ad h];simp[h]
  .rw[I h,ih,B8];exact⟨.inr,λe=>e.elim (λe=>absurd e.symm h) id⟩
def Alu:∀ {C T:List Int},C.Nodup->(∀a∈C,a∈T)->C.length<=T.length
 | [],_,_,_ =>Cg _
 |c::r,T,d,hs=>by
  rw[Iq]at d;have h1:=Alu (T:=T.erase c) d.2 (λa f=>(List.mem_erase_of_ne (λe=>d.1 (by rw[<- e];exact f))).2 (hs a (Dx _ f)));have h2:=hs c (Fk ..);have h3:=List.length_erase_of_mem h2;have h4:=List.length_pos_of_mem h2;simp only[A3];omega
def Ajo(pool:List Pit)(a:List Int):Nat->List (Int × Int)
 |0=>[]
 |k+1=>if Wd (Ajo pool a k) (pool.getD k default).id=true then Ajo pool a k else((pool.getD k default).id,a.getD k 0)::Ajo pool a k
def Aro(pool:List Pit)(a:List Int):List (Int × Int):=Ajo pool a pool.length
def Bgj(pool:List Pit)(c d giv:List Int)(r:V):Prop:=
 if d.any (λid=> !Wd (Aro pool c) id)=true\/giv.any (λid=> !Wd (Aro pool c) id)=true then r=.tup [.nils,.i 6]
 else∃C:List Int,C.Nodup/\(∀a,a∈C↔a∈d/\a∉giv)/\r=.tup [.ro 1 (Av (Hb (Adb (Aro pool c)) C)),.i 0]
attribute [-simp] Yb in
def A6u(pool:List Pit)(g d giv:List Int)(bs:pool.length<=18)(bx:g.length=pool.length)(ay:∀v∈g,-1000000<=v/\v<=1000000)(bf:d.length<=12)(bz:giv.length<=1000):
  AC prog 125 [.ro 9 (C5 pool),.ro 1 (Av g),.ro 1 (Av d),.ro 1 (Av giv)] (Bgj pool g d giv):=by
 have pl:=Cx pool;have pv:=Af g;have pt:=Af d;have pg:=Af giv;have be:=λ(k:Nat)(h:k<pool.length)=>Arl h
 have aw:=λ(k:Nat)(h:k<g.length)=>Dn h
 have bc:=λ(k:Nat)(h:k<d.length)=>Fu h
 have ba:=λ(k:Nat)(h:k<giv.length)=>Fu h
 have lp:=E4 pool;have lv:=A4 g;have lt:=A4 d;have lg:=A4 giv;have bh:∀k,Ajo pool g (k+1)=if Wd (Ajo pool g k) (pool.getD k default).id=true then Ajo pool g k else((pool.getD k default).id,g.getD k 0)::Ajo pool g k:=λk=>rfl
 have hw0:Ajo pool g 0= []:=rfl;unfold Bgj Aro;generalize Ajo pool g=wk at*;generalize C5 pool=ab at*;generalize Av g=vv at*;generalize Av d=tv at*;generalize Av giv=u at*;refine Aq func125 λw0 N0=>?_;refine Y [0,1,2,3] [] sr (J (A9 [32] sr ?_));refine A0 rfl (λh1=>absurd h1 so) (λh1=>Ae (J (Y [0,1,2,3,33,34,35] [] sr ?_)));refine Ah (Bu (λk nx=>⟨[(0,V.ro 9 ab),(1,V.ro 1 vv),(2,V.ro 1 tv),(3,V.ro 1 u),(33,V.ro 1 vv),(34,V.i vv.length),(35,V.i k)],[],nx,120⟩) (λk=>True) g.length _ trivial Z ?_);intro k nx hk hI;refine Y [0,1,2,3,33,34,35,36] [] sr (J ?_)
 refine Au (λh2=>Ae ?_) λh2=>?_
 .have i:k<g.length:=by simp at h2;omega
  have j:k<vv.length:=om;have ga:=aw k i;have Ee:=A5 (k:=k) om;have a6:=Gz ay i 0;generalize g.getD k 0=v at ga a6;refine J (Ah (Y [0,1,2,3,11,33,34,35] [] (by simp[ga,j]<;>rfl) ?_));refine Y [0,1,2,3,33,34,35,44] [] sr ?_;refine A0 rfl (λh3=>absurd h3 so) (λh3=>Ae (Ba [0,1,2,3,33,34,35] [] (by simp[Ee]<;>rfl) ?_));exact⟨i,trivial,_,Z⟩
 .refine A6 ?_;refine J (Ak (R9 .i64 rfl rfl (λb hb _ =>⟨_,rfl,?_⟩)));refine Atw (b:=b) (k:=.i64) (m:=[]) rfl rfl rfl rfl rfl rfl kr sm sr dc sr ?_;refine Aa [0,1,2,3,12] [] sr ?_;refine J (Y [1,2,3,12,47,48,49] [] sr ?_);refine Ah (Bu (λk nx=>⟨[(1,V.ro 1 vv),(2,V.ro 1 tv),(3,V.ro 1 u),(12,.rm b .i64 (mV (wk k))),(47,V.ro 9 ab),(48,.i ab.length),(49,V.i k)],[],nx,120⟩) (λk=>True) pool.length _ trivial (by simp only[hw0];exact Z) ?_);intro n bt br bu;refine Y [1,2,3,12,47,48,49,50] [] sr ?_;refine J ?_
  refine Au (λh4=>Ae ?_) λh4=>?_
  .have i:n<pool.length:=by simp at h4;omega
   have j:n<ab.length:=om;have ga:=be n i;have gv:=aw n om;have a3:n<vv.length:=om;have Ee:=A5 (k:=n) om;have aa:=bh n;have ad:=Axk (wk n) (pool.getD n default).id;unfold Pit.cs at ga;generalize pool.getD n default=p at*;have pm:=D7 p.m;generalize g.getD n 0=val at*;generalize Wd (wk n) p.id=hs at*;generalize an:mV (wk n)=l at*;refine J (Ah (Y [1,2,3,12,13,14,47,48,49] [14] (by simp[ga,j]<;>rfl) ?_));refine Y [1,2,3,12,13,14,16,47,48,49] [14] (by simp[ad,-Nu]<;>rfl) ?_;refine Y [1,2,3,12,13,14,47,48,49,62] [14] sr ?_
   refine Au (λh5=>?_) λh5=>Ae ?_
   .rw[I (sG h5)]at aa;have a0:mV (wk (n+1))=(p.id,.i val)::l:=by rw[aa,<- an];rfl
    refine Di [(1,[]),(3,[]),(4,[]),(5,[]),(0,[]),(2,[]),(6,[]),(7,[])] Eb kr ?_;refine Ci 7 (by simp[gv,a3,-Nu]<;>rfl) ?_;refine X6 (b:=b) hb rfl sm rfl rfl rfl sr sr sr rfl Auh rfl sr ?_;refine Dj [1,2,3,12,47,48,49] [] sr ?_;refine Cw [] (by simp[Ee]<;>rfl) ?_;exact⟨i,trivial,_,by rw[a0];exact Z⟩
   rw[Ad (sG h5)]at aa;refine Ba [1,2,3,12,47,48,49] [] (by simp[Ee]<;>rfl) ?_;exact⟨i,trivial,_,by rw[aa,an];exact Z⟩
  .refine A6 ?_;have s:n=pool.length:=sO h4
   subst s;have ad:=λa=>Axk (wk pool.length) a
   have a9:=λa=>Ae1 (wk pool.length) a
   generalize wk pool.length=W at*;generalize mV W=l at*;refine J (Ak (Amz .i64 rfl rfl (λb2 ao bk=>⟨_,rfl,?_⟩)));have aq:b≠b2:=bk 12 b .i64 l (.inr sr);refine Aa [2,3,12,17] [] sr ?_;refine J (Y [3,12,17,72,73,74] [] sr ?_);refine Ah (Bu (λk nx=>⟨[(3,V.ro 1 u),(12,.rm b .i64 l),(17,.mp b2 .i64 (mB (d.take k).reverse)),(72,V.ro 1 tv),(73,.i tv.length),(74,V.i k)],[],nx,120⟩) (λk=>(d.take k).any (λid=> !Wd W id)=false) d.length _ rfl Z ?_);intro k3 bq bo aj;refine Y [3,12,17,72,73,74,75] [] sr ?_;refine J ?_
   refine Au (λh6=>Ae ?_) λh6=>?_
   .have i:k3<d.length:=by simp at h6;omega
    have j:k3<tv.length:=om;have ga:=bc k3 i;have Ee:=A5 (k:=k3) om;have ah:=λh=>Oc (f:=λid=> !Wd W id) i aj h
    have ai:=λh=>Sf (f:=λid=> !Wd W id) i h
    have a8:mB (d.take (k3+1)).reverse=(d[k3],.bool true)::mB (d.take k3).reverse:=by rw[Az i,List.reverse_append];rfl
    generalize d[k3]=id at*;have z:=ad id;generalize Wd W id=bd at*;generalize mB (d.take k3).reverse=mb at*;refine J (Ah (Y [3,12,17,19,72,73,74] [] (by simp[ga,j]<;>rfl) ?_));refine J (Y [3,12,17,19,21,72,73,74] [] (by simp[z,-Nu]<;>rfl) ?_);refine Y [3,12,17,19,72,73,74,85] [] sr ?_
    refine Au (λh7=>?_) λh7=>Ae ?_
    .refine Y [8,9] [] sr ?_;exact Ao (Ab sr (by rw[Ad (.inl (ai (sG h7)))]))
    refine Ak (Ay 2 sr ?_);refine St (b:=b2) ao rfl rfl rfl sr sr sr rfl Anp rfl (by simp[aq]<;>rfl) ?_;refine Aa [3,12,17,72,73,74] [] sr ?_;refine Cw [] (by simp[Ee]<;>rfl) ?_;exact⟨i,ah (sG h7),_,by rw[a8];exact Z⟩
   .refine A6 ?_;have s:k3=d.length:=sO h6
    rw[s,Be]at aj;rw[s,Be];have az:∀k,dlK giv (mB d.reverse) (k+1)=Yb (giv.getD k 0) (dlK giv (mB d.reverse) k):=λk=>rfl
    have ax:dlK giv (mB d.reverse) 0=mB d.reverse:=rfl;have a5:=λa=>Alt giv (mB d.reverse) a giv.length (A7 _)
    have a7:=λa=>Arn a d.reverse
    generalize bv:dlK giv (mB d.reverse)=dl at*;refine J (Y [12,17,89,90,91] [] sr ?_);refine Ah (Bu (λk nx=>⟨[(12,.rm b .i64 l),(17,.mp b2 .i64 (dl k)),(89,V.ro 1 u),(90,.i u.length),(91,V.i k)],[],nx,120⟩) (λk=>(giv.take k).any (λid=> !Wd W id)=false) giv.length _ rfl (by simp only[ax];exact Z) ?_);intro k4 b0 bw ak;refine Y [12,17,89,90,91,92] [] sr ?_;refine J ?_
    refine Au (λh8=>Ae ?_) λh8=>?_
    .have i:k4<giv.length:=by simp at h8;omega
     have j:k4<u.length:=om;have ga:=ba k4 i;have Ee:=A5 (k:=k4) om;have ah:=λh=>Oc (f:=λid=> !Wd W id) i ak h
     have ai:=λh=>Sf (f:=λid=> !Wd W id) i h
     have av:=az k4;rw[Cs i]at av;generalize giv[k4]=id at*;have z:=ad id;generalize Wd W id=bd at*;generalize dl k4=mb at*;refine J (Ah (Y [12,17,23,89,90,91] [] (by simp[ga,j]<;>rfl) ?_));refine J (Y [12,17,23,25,89,90,91] [] (by simp[z,-Nu]<;>rfl) ?_);refine Y [12,17,23,89,90,91,102] [] sr ?_
     refine Au (λh9=>?_) λh9=>Ae ?_
     .refine Y [8,9] [] sr ?_;exact Ao (Ab sr (by rw[Ad (.inr (ai (sG h9)))]))
     refine Ak (Ay 2 sr ?_);refine Ai5 (b:=b2) ao rfl rfl rfl sr sr Anp rfl (by simp[aq]<;>rfl) ?_;refine Aa [12,17,89,90,91] [] sr ?_;refine Cw [] (by simp[Ee]<;>rfl) ?_;exact⟨i,ah (sG h9),_,by rw[av];exact Z⟩
    .refine A6 ?_;have s:k4=giv.length:=sO h8
     rw[s,Be]at ak;rw[s];simp only[aj,ak,F4,or_self,if_false]
     have hK:∀a,(Hk a (dl giv.length)).isSome=true↔a∈d/\a∉giv:=λa=>by
      rw[a5 a,Be]
      by_cases h:a∈giv
      .rw[Ad h];simp[h]
      .rw[I h,a7 a];simp[h]
     generalize dl giv.length=dm at*;refine Y [12,17,26] [] sr ?_;refine Fz 26 100 1 3 [12,17,26] [100] sr sr ?_;refine J ?_;have ae:∀y:List Int × Nat × Nat,∀L:List Int,y.1.Nodup->(∀a,(a∈y.1\/a∈L)↔a∈d/\a∉giv)->y.1.length<=12:=λy L h1 h2=>Ag (Alu h1 (λa ha=>((h2 a).1 (.inl ha)).1)) bf
     refine Apr (bm:=b2) (k:=.i64) (m:=dm) (e0:=4) 107 (λ(y:List Int × Nat × Nat)=>⟨[(107,.bp 107 _ 0 0 0),(106,.mp b2 .i64 dm),(12,.rm b .i64 l),(17,.mp b2 .i64 dm),(26,.sl 100 y.2.1 1 y.1.length)],[(100,⟨y.2.1,1,3,Av y.1⟩)],y.2.2,120⟩) (λy L=>y.1.Nodup/\L.Nodup/\(∀a,(a∈y.1\/a∈L)↔a∈d/\a∉giv)/\(∀a,a∈y.1->a∉L)) ([],_,_) rfl rfl rfl rfl rfl rfl rfl rfl rfl rfl rfl rfl rfl rfl rfl rfl rfl rfl rfl rfl rfl sr Anp sm (λy=>by simp) dc (λy=>rfl) ?_ Z ?_ ?_
     .intro L hL bg;exact⟨List.nodup_nil,hL,λa=>by rw[<- hK a,<- bg a];simp,λa ha=>absurd ha (Dw)⟩
     .rintro B N⟨C,qv,nx⟩L a v⟨hC,hL,w,al⟩au;have t:=ae (C,qv,nx) L hC w;simp only at hC w al t|-;have a2:C.length+1<=maxLen/\(C.length+1)*8<=140737488355328:=⟨Ag (show C.length+1<=1001 by omega) dc,by omega⟩;refine Ba [107,106,12,17,26] [100] (by simp[a2]<;>rfl) ?_
      refine⟨(C++[a],_,_),λL' a4 af=>⟨?_,a4,?_,?_⟩,by simp only[Rk,Aa0,A1,A3,Bo];exact Z⟩
      .exact Oi.2 ⟨hC,Iq.2 ⟨Dw,List.nodup_nil⟩,λx hx y hy=>by rw[B3.1 hy];exact λe=>al x hx (by rw[e];exact au)⟩
      .intro c;rw[<- w c,af c,Cn,B3]
       by_cases am:c=a
       .subst am;simp[au]
       .simp[am]
      .intro c hc ag;rw[af c]at ag
       rcases Cn.1 hc with h|h
       .exact al c h ag.1
       .exact ag.2 (B3.1 h)
     rintro⟨C,qv,nx⟩⟨hC,-,w,-⟩;have t:=ae (C,qv,nx) [] hC w;have bj:∀a,a∈C↔a∈d/\a∉giv:=λa=>by rw[<- w a];simp
     simp only at hC t|-;have pC:=Af C;have lC:=A4 C;have ar:=A03 100 qv C 187 [] [.rm b .i64 l] (Adb W) t (λx _ y _ =>Aa5 (args:=[.i x,.i y]) (us:=[]) (vs:=[.rm b .i64 l]) (r:=.i (Adb W x y)) (Bcj b l W a9 x y) func187 kr rfl);have a1:=Af (Hb (Adb W) C)
     have bb:(Av (Hb (Adb W) C)).length=C.length:=by rw[A4,Np]
     .skip
      refine J (Ak (Ay 2 sr ?_));refine D0 ar func186 rfl kr rfl rfl rfl sr (λk o hk=>B5 gt hk) ?_ λch bi=>bi.elim;rintro r bn b1⟨rfl,rfl⟩bl;refine⟨λk hk=>Jq hk,_,by simp<;>rfl,?_⟩;refine Aa [26] [100] sr ?_;refine Bw 100 [26] [] (by simp[a1,bb]<;>rfl) ?_;refine Y [8,9] [] sr ?_;exact Ao (Ab sr (⟨C,hC,bj,rfl⟩))
def Bcl(l:List Nat):Bool:=decide (0<((bitLen (Bf l):Nat):Int))
def Bcm(l:List Nat)(h:El l)(hs:l.length<=1099511627776):AE 249 [.ro 1 (A2 l)] (.bool (Bcl l)):=by
 have a:=Awp l h hs;have pl:=Aj l;unfold Bcl;generalize A2 l=lv at*;refine Aq func249 λw0 N0=>?_;refine Y [0] [] sr (Bn 1 sr ?_);refine Ac a func250 ?_;exact Aa [2] [] sr (By sr (rfl))
variable {m:Nat}{w:List Nat}
def We(h:Ks w m):∀k,k<=w.length->(B2 (Gk (w.take k))).length<=m+k
 |0,_ =>by simp[Gk,Et]
 |k+1,hk=>by
  rw[Xd om];have:=Aex (We h k om) (h _ (Aw (show k<w.length by omega)));omega
def An4(w:List Nat)(l:Ks w 1000000)(o:w.length<=1000000):AE 349 [.ro 1 (Cb w)] (.ro 1 (Gv (Gk w))):=by
 have n:∀(k:Nat)(h:k<w.length),Hj (Cb w) k=some (.ro 1 (Gv w[k])):=λk h=>Ky h
 have lq:=H5 w;have pw:=B1 w;generalize Cb w=e at*;refine Aq func349 λw0 N0=>?_;refine Y [0] [] sr (A9 [3] sr ?_);refine Apj 3 (.ro 1 (Gv (Gk (w.take 0)))) [0,3] [] rfl rfl (by rw[Kh,Gk,Gv,Et];exact Bj.nils 1) sr (J (Y [3,6,7,8] [] sr (Ah (Bu (λk nx=>⟨[(3,V.ro 1 (Gv (Gk (w.take k)))),(6,V.ro 1 e),(7,V.i e.length),(8,V.i k)],[],nx,17⟩) (λk=>True) w.length _ trivial (by simp only[Kh];exact Z) ?_))));intro k nx hk hI;refine Y [3,6,7,8,9] [] sr (J ?_)
 refine Cu (λh1=>?_) λh1=>?_
 .have c:k<w.length:=by simp at h1;omega
  have d:k<e.length:=om;have j:=n k c;have hs:=Xd c;have t:=l _ (Aw c);have m:=(We l) k om;generalize w[k]=x at j hs t;generalize Gk (w.take k)=g at hs m|-;have a:=At6 (B2 g) (B2 x) (Cp _) (Cp _) om om;rw[C4,C4,<- hs]at a;change AC _ _ [.ro 1 (Gv g),.ro 1 (Gv x)] (λr=>r=.ro 1 (Gv (Gk (w.take (k+1)))))at a;have u:=F9 g;have s:=F9 x;refine J (Ah (Y [3,5,6,7,8] [] (by simp[j,d]<;>rfl) (Mr 2 sr ?_)));refine Ac a func302 ?_;refine Aa [3,6,7,8] [] sr (Cw [] (by simp[(A5 (k:=k) om)]<;>rfl) ?_);exact⟨c,trivial,_,Z⟩
 .refine A6 ?_;have i:k=w.length:=sO h1
  subst i;rw[Be];have pG:=F9 (Gk w);exact Y [2] [] sr (By sr rf)
def A04(w:List Nat):Int:=if 21<(w.length:Int)then 5 else if((bitLen (Gk w):Nat):Int)=0 then 20 else 0
def Bgk(w:List Nat)(e:Ks w 1000000)(d:w.length<=1000000):AE 328 [.ro 1 (Cb w)] (.i (A04 w)):=by
 have c:=An4 w e d;have a:=Awp (B2 (Gk w)) (Cp _) (by have:=We e w.length (A7 _);rw[Be]at this;omega);rw[C4]at a;change AC _ _ [.ro 1 (Gv (Gk w))] _ at a;have h:=B1 w;have g:=F9 (Gk w);unfold A04;rw[<-(H5 w)];generalize Cb w=wv,Gv (Gk w)=sv,((bitLen (Gk w):Nat):Int)=bl at*;refine Aq func328 λw0 N0=>?_;refine Y [0] [] sr (J (A9 [5] sr ?_))
 refine Au (λh1=>?_) λh1=>Ae ?_
 .exact Y [2] [] sr (Ao (Ab sr (by rw[Ad (sG h1)])))
 refine J (J (Ak (Ay 1 sr ?_)));refine Ac c func349 ?_;refine Ac a func250 ?_;refine Aa [9] [] sr ?_
 refine Au (λh2=>?_) λh2=>Ae ?_
 .exact Y [2] [] sr (Ao (Ab sr (by rw[I (sG h1),Ad (sG h2)])))
 exact Y [2] [] sr (Ao (Ab sr (by rw[I (sG h1),I (sG h2)])))
def Aek(a b:Int):Rat:=mkRat (a*G9 b) b.natAbs
def Axl(a b:Int)(h1: -9223372036854775808<=a)(h2:a<9223372036854775808)(d: -9223372036854775808<=b)(e:b<9223372036854775808)(f:b≠0):
  AE 329 [.i a,.i b] ((nR (Aek a b)).v):=by
 have c:=Vu a b h1 h2 d e;rw[Pd,I f]at c;change AC _ _ _ (λr=>r=V.tup [(nR (Aek a b)).v,.bool true])at c;simp only[Xt]at c|-;have p1:=Jb;have p2:=Jc;refine Aq func329 λw0 N0=>?_;refine Y [0,1,4] [4] sr (Bn 2 sr ?_);refine Ac c func103 ?_;exact Aa [4,5] [4,5] sr (Y [4] [4] sr (By sr rf))
def Arp(p q:List Nat):Rat:=mkRat (Gk p:Int) (Gk q)
def Bgl(a b:Nat):∃f,Pd (Limb.sgn false a) (Limb.sgn false b)=.tup [(nR (mkRat (a:Int) b)).v,.bool f]:=by
 unfold Pd Limb.sgn
 by_cases h:b=0
 .subst h;exact⟨false,by simp[Wu]⟩
 .refine⟨true,?_⟩;have h2:((b:Nat):Int)≠0:=om;have c:G9 (b:Int)=1:=by unfold G9;(repeat' split)<;>omega
  simp[h,c]
def Bgm(a b:Nat)(k:Nat)(h1:(B2 a).length<=k)(h2:(B2 b).length<=k)(c:1<=k):Qk (mkRat (a:Int) b)<=k:=by
 by_cases h:b=0
 .subst h;rw[Wu];have e:(0:Rat)=mkRat (Limb.sgn false 0) 1:=by first|rfl|simp[Limb.sgn,Rv]
  rw[e];exact Acp dc G8 (Ag (Fg (m:=1) dc) c)
 .exact Acp (b:=false) h h1 h2
def A6v(p q:List Nat)(a:RR)(hp:Ks p 1000000)(u:p.length<=1000000)(y:Ks q 1000000)(w:q.length<=1000000)(ha:a.ok 137438953472):
  AC prog 330 [.ro 1 (Cb p),.ro 1 (Cb q),a.v] (λx=>x=.bool (decide (0<=N8 (Arp p q) a.val))):=by
 have z:(B2 (Gk p)).length<=2000000:=by have:=We hp p.length (A7 _);rw[Be]at this;omega
 have l2:(B2 (Gk q)).length<=2000000:=by have:=We y q.length (A7 _);rw[Be]at this;omega
 have g:=Ke false (Gk p) om;have d:=Ke false (Gk q) om;have c:=Aaw (nI (Limb.sgn false (Gk p))) (nI (Limb.sgn false (Gk q))) (Hn (Ag (show Ox (Limb.sgn false (Gk p))<=2000000 from z) dc)) (Hn (Ag (show Ox (Limb.sgn false (Gk q))<=2000000 from l2) dc));rw[Iz,Iz]at c;have⟨f,hf⟩:=Bgl (Gk p) (Gk q);rw[hf]at c;have e:=Sb (nR (Arp p q)) a (Nn (Ag (Bgm _ _ 2000000 z l2 dc) dc)) ha;rw[Mj]at e;rw[(vRR a)]at e|-;change AC _ _ _ (λr=>r=V.tup [(nR (Arp p q)).v,.bool f])at c;generalize Arp p q=s at*;simp only[Xt,At5]at g d c e|-;have l:=Vs;have i:=Jb;have j:=Jc;have m:=B1 p;have o:=B1 q;have k:=Aj a.num.mag;have n:=Aj a.den;generalize a.val=r,A2 a.num.mag=am,A2 a.den=ad,a.num.neg=ab at*;generalize N8 s r=cv at*;refine Aq func330 λw0 N0=>?_;refine Y [0,1,5] [5] sr (Bn 1 sr ?_);refine Ac (An4 p hp u) func349 ?_;refine Ac g func215 ?_;refine Ay 1 sr (Ac (An4 q y w) func349 ?_);refine Ac d func215 ?_;refine Ac c func161 ?_;refine Aa [5,7] [5,7] sr (Bn 2 sr ?_);refine Ac e func104 ?_;exact Aa [6] [] sr (By sr (rfl))
def Bcn(p:List Nat)(k:Int)(r:Rat):V:=
 if A04 p≠0 then .tup [.i 0,.i (A04 p)]
 else if k<1\/(p.length:Int)-1<k\/N8 r (Aek 1 2)<=0\/0<N8 r (Aek 1 1)then .tup [.i 0,.i 3]
 else if 0<=N8 (Arp (p.drop k.toNat) p) r then .tup [.i 1,.i 0]
 else if 0<=N8 (Arp (p.take k.toNat) p) r then .tup [.i 0,.i 0]else .tup [.i (-1),.i 0]
def A6w(p:List Nat)(k:Int)(a:RR)(hp:Ks p 1000000)(j:p.length<=1000000)(u:a.ok 137438953472):
  AC prog 294 [.ro 1 (Cb p),.i k,a.v] (λx=>x=Bcn p k a.val):=by
 have t:=Bgk p hp j;have h:=Axl 1 2 dc dc dc dc dc;have d:=Axl 1 1 dc dc dc dc dc;have z1:Qk (Aek 1 2)<=1:=Acp (b:=false) (n:=1) dc (Fg (m:=1) dc) (Fg (m:=1) dc);have z2:Qk (Aek 1 1)<=1:=Acp (b:=false) (n:=1) dc (Fg (m:=1) dc) (Fg (m:=1) dc);have f:=Sb a (nR (Aek 1 2)) u (Nn (Ag z1 dc));have c:=Sb a (nR (Aek 1 1)) u (Nn (Ag z2 dc));rw[Mj]at f c;have w:=B1 p;have lp:=H5 p;have ae:IntKind.i64.wrap ((p.length:Int)-1)=(p.length:Int)-1:=Bp om om;have p1:=Jb;have p2:=Jc;have l:=λ(p q:List Nat)=>A6v p q a
 have ea:=vRR a;rw[ea]at f c l|-;have p6:=Aj a.num.mag;have p7:=Aj a.den;unfold Bcn;generalize a.val=r,A2 a.num.mag=am,A2 a.den=ad,a.num.neg=ab,Aek 1 2=aa,Aek 1 1=z at*;simp only[Xt]at h d f c|-;refine Aq func294 λw0 N0=>?_;refine Y [0,1,5] [5] sr (J (J (Ak (Ay 1 sr ?_))));refine Ac t func328 ?_;refine Aa [0,1,5,8] [5] sr (Y [0,1,5,8,12] [5] sr ?_)
 refine Au (λh1=>?_) λh1=>Ae ?_
 .exact Y [6,7] [] sr (Ao (Ab sr (by rw[Ad (sG h1)])))
 refine J (J (Di [(0,[]),(1,[]),(2,[]),(3,[]),(4,[]),(5,[]),(6,[]),(7,[]),(8,[]),(9,[]),(11,[]),(10,[]),(12,[]),(13,[]),(14,[]),(15,[]),(17,[]),(16,[]),(18,[]),(19,[]),(20,[])] Eb kr ?_));refine Ci 10 sr ?_;refine E8 (λo=>h) func329 rfl kr rfl rfl sr rfl rfl sr sm sr ?_;refine Ci 1 sr ?_;refine E8 (λo=>f) func104 rfl kr rfl rfl sr rfl rfl sr sm sr ?_;refine Ci 3 sr ?_;refine E8 (λo=>d) func329 rfl kr rfl rfl sr rfl rfl sr sm sr ?_;refine Ci 1 sr ?_;refine E8 (λo=>c) func104 rfl kr rfl rfl sr rfl rfl sr sm sr ?_;refine Dj [0,1,5,34] [5] Du ?_
 refine Au (λh2=>?_) λh2=>Ae ?_
 .exact Y [6,7] [] sr (Ao (Ab sr (by rw[I (sG h1),Ad (by simpa[or_assoc]using h2)])))
 have hk:¬(k<1\/(p.length:Int)-1<k\/N8 r aa<=0\/0<N8 r z):=by simpa[or_assoc,and_assoc]using h2
 rw[I (sG h1),I hk];obtain⟨n,rfl⟩:∃n:Nat,k=n:=⟨k.toNat,by omega⟩;have hn:1<=n/\n<p.length:=om;have s:(0:Int)<=(n:Int)/\(n:Int)<=p.length:=om;have e1:(Cb p).drop n=Cb (p.drop n):=by simp[Cb]
 have e2:(Cb p).take n=Cb (p.take n):=by simp[Cb]
 have e3:(Cb (p.drop n)).take (p.length-n)=Cb (p.drop n):=Bi sm;have g:=l (p.drop n) p (λx hx=>hp x (Df hx)) so hp j u;have e:=l (p.take n) p (λx hx=>hp x (Dg hx)) so hp j u;have i:=B1 (p.drop n);have af:=B1 (p.take n);simp only[Dh]at g e|-;refine J (J (Di [(0,[]),(1,[]),(2,[]),(3,[]),(4,[]),(5,[])] Eb kr ?_));refine Ci 5 Du ?_;refine E8 (λo=>g) func330 rfl kr rfl rfl sR rfl rfl sR sm sR ?_;refine Dj [0,1,5,40] [5] sr ?_
 refine Au (λy=>?_) λy=>Ae ?_
 .exact Y [6,7] [] sr (Ao (Ab sr (by rw[Ad (sG y)])))
 refine J (J (Di [(0,[]),(1,[]),(2,[]),(3,[]),(4,[]),(5,[])] Eb kr ?_));refine Ci 5 Du ?_;refine E8 (λo=>e) func330 rfl kr rfl rfl sr rfl rfl sr sm sr ?_;refine Dj [46] [] sr ?_
 refine Au (λh4=>?_) λh4=>Ae ?_
 .exact Y [6,7] [] sr (Ao (Ab sr (by rw[I (sG y),Ad (sG h4)])))
 exact Y [6,7] [] sr (Ao (Ab sr (by rw[I (sG y),I (sG h4)])))
def Bco(g:Gr)(w:List Nat)(h:sumsOk g w):AE 253 [g.v,.ro 1 (Cb w)] (.tup [(nR (Y4 g w)).v,.i 0]):=by
 have a:=Aqg g w h;have i:g.v=.agg [.ro 1 (Av g.pts),.ro 1 (Av g.pri)]:=rfl;rw[i]at a|-;have d:=Af g.pts;have j:=Af g.pri;have c:=B1 w;simp only[Xt]at a|-;have p1:=Jb;have p2:=Jc;generalize Y4 g w=q,Av g.pts=f,Av g.pri=e,Cb w=wv at*;refine Aq func253 λw0 N0=>?_;refine Y [1,2,4] [2,4] sr (Bn 2 sr ?_);refine Ac a func293 ?_;exact Aa [4,5] [4] sr (By sr (rfl))
variable {free y:List Int}{i n:Nat}
structure NumP(vals:List Int)(rows:List Rw):Prop where
 hn:vals.length<=24
 hr:rows.length<=60
 hv:Bnd vals
 hc:∀r∈rows,r.coef.length=vals.length/\Bnd r.coef
 hm:∀r∈rows,(-24000000<=r.mn/\r.mn<=24000000)/\(-24000000<=r.mx/\r.mx<=24000000)
def Xz(free:List Int)(e:Nat):Nat:=(free.getD e 0).toNat
def Py(free:List Int):Nat->Nat->List Nat
 |_,0=>[]
 |a,m+1=>Xz free a::Py free (a+1) m
structure FrOk(free:List Int)(n:Nat):Prop where
 lt:∀e,e<free.length->Xz free e<n
 inj:∀e e',e<free.length->e'<free.length->Xz free e=Xz free e'->e=e'
 len:free.length<=24
def Afa:∀ {m a:Nat},i∈Py free a m->∃e,a<=e/\e<a+m/\i=Xz free e
 |0,_,h=>by simp[Py]at h
 |m+1,a,h=>by
  rw[Py]at h
  rcases B8.1 h with h|h
  .exact⟨a,A7 _,by omega,h⟩
  .have⟨e,h1,h2,c⟩:=Afa h;exact⟨e,by omega,by omega,c⟩
def Bgn(f:FrOk free n){a:Nat}(hd:a+m=free.length):∀i∈Py free a m,i<n:=by
 intro i d;have⟨e,_,h2,c⟩:=Afa d;rw[c];exact f.lt e om
def Abj(d:FrOk free n){a:Nat}(hd:a+(m+1)=free.length):Xz free a∉Py free (a+1) m:=by
 intro h;have⟨e,h1,h2,c⟩:=Afa h;have:=d.inj a e om om c;omega
def Alv(c:FrOk free n):∀(m a:Nat),a+m=free.length->(Py free a m).Nodup
 |0,_,_ =>by simp[Py]
 |m+1,a,h=>by
  rw[Py,Iq];exact⟨Abj c h,Alv c m (a+1) om⟩
def An5(free:List Int):∀(m a:Nat),(Py free a m).length=m
 |0,_ =>rfl
 |m+1,a=>by rw[Py,A3,An5 free m]
structure SsOk(s:Ss):Prop where
 num:NumP s.vals s.rows
 fr:FrOk s.free s.vals.length
 low:s.low=loL mn0 s.rows s.free
 high:s.high=loL S9 s.rows s.free
 wide:s.wide=A59 s.rows
 order:s.order=Hb (Ajm s.vals s.free) (Rn s.vals s.free s.free.length)
structure OkD(s:Ss)(d:Sd):Prop where
 bits:Ajl s.vals.length d.x
 val:d.value=Ml s.vals d.x s.vals.length
 len:d.sums.length=s.rows.length
 sums:∀k,k<s.rows.length->d.sums.getD k 0=Ml (s.rows.getD k default).coef d.x s.vals.length
def Arq(s:Ss)(y:List Int):Prop:=Ajl s.vals.length y/\∀k,k<s.rows.length->(s.rows.getD k default).mn<=Ml (s.rows.getD k default).coef y s.vals.length/\Ml (s.rows.getD k default).coef y s.vals.length<=(s.rows.getD k default).mx
def Bcp(s:Ss)(y x:List Int)(a m:Nat):Prop:=(∀i∈Py s.free a m,x.getD i 0=0)/\(∀i,i∉Py s.free a m->y.getD i 0=x.getD i 0)
def Au2{a:List Rw}{g:Int->Int}(d:k<a.length)(c:∀i,-1000000<=g ((a.getD k default).coef.getD i 0)/\g ((a.getD k default).coef.getD i 0)<=1000000)(e:free.length<=24):
  ∀m,m<=free.length->(Y8 g a free m).getD k 0=Io (λi=>g ((a.getD k default).coef.getD i 0)) (Py free (free.length-m) m)
 |0,_ =>by simp[Y8,Py,Io,List.getD,d]
 |m+1,hm=>by
  have f:=Anx (l:=Py free (free.length-m) m) (λi _ =>c i);rw[An5]at f;have h1:free.length-(m+1)+1=free.length-m:=om
  have h2:(Y8 g a free (m+1)).getD k 0=IntKind.i64.wrap ((Y8 g a free m).getD k 0+g ((a.getD k default).coef.getD (free.getD (free.length-(m+1)) 0).toNat 0)):=by
   simp[Y8,List.getD,d]
  rw[h2,(Au2 d c e m om),Py,Io,h1];have h3:=c (Xz free (free.length-(m+1)));show IntKind.i64.wrap (_ +g ((a.getD k default).coef.getD (Xz free (free.length-(m+1))) 0))=_
  rw[Bp om oM];omega
def A6x{c:List Int}(h:Bnd c)(i:Nat): -1000000<=mn0 (c.getD i 0)/\mn0 (c.getD i 0)<=1000000:=by
 have:=h i;unfold mn0;split<;>omega
def A6y{c:List Int}(h:Bnd c)(i:Nat): -1000000<=S9 (c.getD i 0)/\S9 (c.getD i 0)<=1000000:=by
 have:=h i;unfold S9;split<;>omega
def Arr{s:Ss}(hs:SsOk s){d:Sd}(g:OkD s d){a:Nat}(hm:a+m=s.free.length)(e:k<s.rows.length):
  Anu s d a k=(decide ((s.rows.getD k default).mx<Ml (s.rows.getD k default).coef d.x s.vals.length+Io (λi=>mn0 ((s.rows.getD k default).coef.getD i 0)) (Py s.free a m))||
   decide (Ml (s.rows.getD k default).coef d.x s.vals.length+Io (λi=>S9 ((s.rows.getD k default).coef.getD i 0)) (Py s.free a m)<(s.rows.getD k default).mn)):=by
 have c:=(Gz hs.num.hc e default).2;have f:=hs.fr.len;have hn:=hs.num.hn;have h1:=Au2 (free:=s.free) e (A6x c) f m om;have h2:=Au2 (free:=s.free) e (A6y c) f m om;have j:s.free.length-m=a:=om;have n:s.free.length-a=m:=om;rw[j]at h1 h2;unfold Anu;rw[hs.low,hs.high,Auy mn0 s.rows s.free om,Auy S9 s.rows s.free om,n,h1,h2,g.sums k e];have o:=Anx (l:=Py s.free a m) (λi _ =>A6x c i);have h:=Anx (l:=Py s.free a m) (λi _ =>A6y c i);have b3:=Up c g.bits s.vals.length;rw[An5]at o h;rw[Bp om om,Bp om oM]
def Aht(s:Ss)(d:Sd)(a:Nat):∀k,Ahd s d a k=true↔∀j,j<k->Anu s d a j=false
 |0=>by simp[Ahd]
 |k+1=>by
  rw[Ahd,Bg,Aht s d a k]
  constructor
  .intro⟨h1,h2⟩ j c
   by_cases e:j=k
   .subst e;simpa using h2
   .exact h1 j om
  .intro h;exact⟨λj c=>h j om,by rw[h k oM];rfl⟩
def An6{s:Ss}(hs:SsOk s){d:Sd}(h:OkD s d)(g:Ajl s.vals.length y){a:Nat}(e:a+m=s.free.length)(f:Bcp s y d.x a m)(c:List Int):
  Ml c y s.vals.length=Ml c d.x s.vals.length+Io (λi=>c.getD i 0*y.getD i 0) (Py s.free a m):=
 Axb c g _ h.bits (Alv hs.fr m a e) (Bgn hs.fr e) f.1 f.2
def Ars{s:Ss}(hs:SsOk s){d:Sd}(g:OkD s d)(c:Arq s y){a:Nat}(f:a+m=s.free.length)(l:Bcp s y d.x a m):Ajk s d a=true:=by
 unfold Ajk;rw[Aht];intro k e;rw[Arr hs g f e];have j:=(Gz hs.num.hc e default).2;have h1:=An6 hs g c.1 f l (s.rows.getD k default).coef;have h2:=c.2 k e
 have h3:Io (λi=>mn0 ((s.rows.getD k default).coef.getD i 0)) (Py s.free a m)<=Io (λi=>(s.rows.getD k default).coef.getD i 0*y.getD i 0) (Py s.free a m):=
  Ae8 λi _ =>by rcases c.1.2 i with h|h<;>rw[h]<;>unfold mn0<;>split<;>omega
 have h4:Io (λi=>(s.rows.getD k default).coef.getD i 0*y.getD i 0) (Py s.free a m)<=Io (λi=>S9 ((s.rows.getD k default).coef.getD i 0)) (Py s.free a m):=
  Ae8 λi _ =>by rcases c.1.2 i with h|h<;>rw[h]<;>unfold S9<;>split<;>omega
 rw[Fh,decide_eq_false_iff_not,decide_eq_false_iff_not];omega
def A05{s:Ss}(hs:SsOk s){d:Sd}(c:OkD s d)(h:Ajk s d s.free.length=true):Arq s d.x:=by
 unfold Ajk at h;rw[Aht]at h;refine⟨c.bits,λk a=>?_⟩;have:=h k a;rw[Arr hs c (m:=0) om a,Py,Io,Io,Fh,decide_eq_false_iff_not,decide_eq_false_iff_not]at this;omega
def Alw(a:List Rw):∀k,k<=a.length->0<=(Sy a k).2/\(0<=(Sy a k).1->∀i,(a.getD (Sy a k).1.toNat default).coef.getD i 0=0\/(a.getD (Sy a k).1.toNat default).coef.getD i 0=1)
 |0,_ =>by simp[Sy]
 |k+1,h=>by
  have ih:=Alw a k om;rw[Sy]
  split
  .rename_i h1;refine⟨by simp only;omega,λ_ i=>?_⟩;simp only[Dh]
   by_cases e:(a.getD k default).coef.any V8=true
   .unfold Ahb at h1;rw[Ad e]at h1;omega
   .by_cases d:i<(a.getD k default).coef.length
    .rw[Ew]at e
     have h2:∀c∈(a.getD k default).coef,c=0\/c=1:=λc j=>by
      by_cases f:c=0
      .exact .inl f
      .by_cases g:c=1
       .exact .inr g
       .exact absurd ⟨c,j,by simp[V8,f,g]⟩ e
     exact Gz h2 d 0
    .left;generalize(a.getD k default).coef=c at d|-;simp[List.getD,Eh (Pk d)]
  .exact ih
def LLF(free:List Int)(a:Nat)(c:List Int):List Nat:=(c.filter (λe=>decide ((a:Int)<=e))).map (λe=>Xz free e.toNat)
def A6z(free:List Int)(a:Nat){l m:List Int}(h:l.Perm m):(LLF free a l).Perm (LLF free a m):=(h.filter _).map _
def Axm(free:List Int)(a:Nat)(l:List Int)(k:Nat):LLF free a (l++[(k:Int)])=LLF free a l++if a<=k then [Xz free k]else []:=by
 unfold LLF;rw[Kq,C0]
 by_cases h:a<=k
 .rw[Ad h];simp[show(a:Int)<=k by omega]
 .rw[I h];simp[show¬(a:Int)<=k by omega]
def pv(a:List Int)(f:Nat->Int)(i:Nat):Int:=if 0<a.getD i 0 then f i else 0
def Axn(d free:List Int)(f:Nat->Int)(a:Nat):∀k,Io f (LLF free a (Rn d free k))=(if a<k then pv d f (Xz free a)else 0)+Io f (LLF free (a+1) (Rn d free k))
 |0=>by simp[Rn,LLF,Io]
 |k+1=>by
  have ih:=Axn d free f a k;rw[Rn]
  by_cases h:0<d.getD (free.getD k 0).toNat 0
  .rw[Ad h,Axm,Axm,Ari,Ari,ih]
   by_cases h1:a=k
   .subst h1;rw[I (c:=a<a) om,Ad (c:=a<=a) om,Ad (c:=a<a+1) om,I (c:=a+1<=a) oM];unfold pv;have e:0<d.getD (Xz free a) 0:=h;rw[Ad e];simp only[Io];omega
   .by_cases h2:a<k
    .rw[Ad (c:=a<k) h2,Ad (c:=a<=k) om,Ad (c:=a<k+1) om,Ad (c:=a+1<=k) oM];omega
    .rw[I (c:=a<k) h2,I (c:=a<=k) om,I (c:=a<k+1) om,I (c:=a+1<=k) oM];omega
  .rw[I h,ih]
   by_cases h1:a=k
   .subst h1;have e:¬0<d.getD (Xz free a) 0:=h;rw[I (c:=a<a) om,Ad (c:=a<a+1) oM];unfold pv;rw[I e]
   .by_cases h2:a<k
    .rw[Ad (c:=a<k) h2,Ad (c:=a<k+1) oM]
    .rw[I (c:=a<k) h2,I (c:=a<k+1) oM]
def Au3(a free:List Int)(f:Nat->Int):∀(m c:Nat),c+m=free.length->Io f (LLF free c (Rn a free free.length))=Io (pv a f) (Py free c m)
 |0,c,h=>by
  have:LLF free c (Rn a free free.length)= []:=by
   unfold LLF;rw[List.map_eq_nil_iff,List.filter_eq_nil_iff];intro e d;have:=Abi a free free.length e d;simp;omega
  rw[this];rfl
 |m+1,c,h=>by
  rw[Axn,Ad om,Au3 a free f m (c+1) om,Py,Io]
def An7{c:List Int}(d:Bnd c)(a b:Int):Ajm c free a b=c.getD (Xz free b.toNat) 0-c.getD (Xz free a.toNat) 0:=by
 have h1:=d (Xz free b.toNat);have h2:=d (Xz free a.toNat);show IntKind.i64.wrap (c.getD (Xz free b.toNat) 0-c.getD (Xz free a.toNat) 0)=_
 rw[Bp om oM]
def Bcq{a:List Int}(free:List Int)(c:Bnd a):CmpOk (Ajm a free) (λ_ =>True):=
 ⟨λx y _ _ h=>by rw[An7 c]at h|-;omega,λx y z _ _ _ h1 h2=>by rw[An7 c]at h1 h2|-;omega⟩
def Aee(s:Ss)(d:Sd):Int:=if 0<=s.wide then(s.rows.getD s.wide.toNat default).mx-d.sums.getD s.wide.toNat 0 else 0
def A60{s:Ss}(hs:SsOk s){d:Sd}(f:OkD s d)(c:Nat):(Oy s d c 0).1=Aee s d/\ -48000000<=Aee s d/\Aee s d<=48000000:=by
 have hn:=hs.num.hn;show(if 0<=s.wide then IntKind.i64.wrap ((s.rows.getD s.wide.toNat default).mx-d.sums.getD s.wide.toNat 0)else 0)=_ /\_
 unfold Aee
 by_cases e:0<=s.wide
 .have h:=Ae9 s.rows s.rows.length (A7 _);have i:s.wide=(Sy s.rows s.rows.length).1:=hs.wide;have a:s.wide.toNat<s.rows.length:=om;have h1:=(Gz hs.num.hm a default).2;have g:=Up (Gz hs.num.hc a default).2 f.bits s.vals.length;rw[<- f.sums _ a]at g;simp only[Ad e];rw[Bp om oM];exact⟨rfl,by omega,by omega⟩
 .simp only[I e];exact⟨trivial,by omega,by omega⟩
def Axo{s:Ss}(hs:SsOk s){d:Sd}(h:OkD s d)(a:Nat)(n:∀e∈s.order,0<=e/\e<s.free.length)(l:s.order.length<=24):∀k,k<=s.order.length->
  ((-48000000-(k:Int)<=(Oy s d a k).1/\(Oy s d a k).1<=48000000)/\(-24000000-1000000*(k:Int)<=(Oy s d a k).2/\(Oy s d a k).2<=24000000+1000000*(k:Int)))/\
  (Oy s d a k).2+gre (L6 s) (λi=>s.vals.getD i 0) (Oy s d a k).1 (LLF s.free a (s.order.drop k))=d.value+gre (L6 s) (λi=>s.vals.getD i 0) (Aee s d) (LLF s.free a s.order)
 |0,_ =>by
  have hn:=hs.num.hn;have y:=Up hs.num.hv h.bits s.vals.length;rw[<- h.val]at y;have z:=A60 hs h a;have g:(Oy s d a 0).2=d.value:=rfl;rw[g,z.1];exact⟨⟨by omega,by omega⟩,rfl⟩
 |k+1,hk=>by
  have⟨⟨hr,o⟩,c⟩:=(Axo hs h a n l k om);have f:k<s.order.length:=om;have m:s.order.drop k=s.order.getD k 0::s.order.drop (k+1):=by rw[Cs f];exact Bt f
  have r:=Gz n f 0;rw[m]at c;have w:=hs.num.hv (s.free.getD (s.order.getD k 0).toNat 0).toNat;rw[Oy];generalize s.order.getD k 0=e,d.value+gre (L6 s) (λi=>s.vals.getD i 0) (Aee s d) (LLF s.free a s.order)=u,Oy s d a k=p at*
  by_cases h1:e<a
  .rw[Ad h1]
   have:LLF s.free a (e::s.order.drop (k+1))=LLF s.free a (s.order.drop (k+1)):=by
    unfold LLF;rw[Ij (sG h1)]
   rw[this]at c;exact⟨⟨by omega,by omega⟩,c⟩
  .rw[I h1]
   have t:LLF s.free a (e::s.order.drop (k+1))=Xz s.free e.toNat::LLF s.free a (s.order.drop (k+1)):=by
    unfold LLF;rw[Ii so,B6]
   rw[t,gre]at c;have j:Xz s.free e.toNat=(s.free.getD e.toNat 0).toNat:=rfl;rw[j]at c
   by_cases h2:L6 s (s.free.getD e.toNat 0).toNat=true
   .rw[Ad h2]at c|-
    by_cases g:p.1<=0
    .rw[Ad g]at c|-;exact⟨⟨by omega,by omega⟩,c⟩
    .rw[I g]at c|-;simp only;rw[Bp (x:=p.1-1) om om,Bp (x:=p.2+_) om oM];exact⟨⟨by omega,by omega⟩,by omega⟩
   .rw[I h2]at c|-;simp only;rw[Bp (x:=p.2+_) om oM];exact⟨⟨by omega,by omega⟩,by omega⟩
def A61{s:Ss}(hs:SsOk s){d:Sd}(w:OkD s d)(r:Arq s y){f:Nat}(hm:f+m=s.free.length)(he:Bcp s y d.x f m):Ml s.vals y s.vals.length<=Auv s d f:=by
 have ah:=hs.fr.len;have ag:s.order.length<=24:=by rw[hs.order,Np];have:=Abh s.vals s.free s.free.length;omega
 have ho:∀e∈s.order,0<=e/\e<s.free.length:=by rw[hs.order];exact λe h=>Abi s.vals s.free _ e (Tz h)
 have⟨_,o⟩:=(Axo hs w f ho ag s.order.length (A7 _));rw[Ck]at o;have z:LLF s.free f []= []:=rfl;rw[z,gre,Int.add_zero]at o;unfold Auv;rw[o,(An6 hs w r.1 hm he s.vals),<- w.val];have g:(LLF s.free f s.order).Perm (LLF s.free f (Rn s.vals s.free s.free.length)):=A6z _ _ (by rw[hs.order];exact Rm _ _)
 have h1:Io (λi=>s.vals.getD i 0*y.getD i 0) (Py s.free f m)<=Io (λi=>s.vals.getD i 0*y.getD i 0) (LLF s.free f s.order):=by
  rw[Aln _ g,Au3 s.vals s.free _ m f hm];exact Ae8 λi _ =>by unfold pv;dsimp only;split<;>rcases r.1.2 i with h|h<;>rw[h]<;>omega
 have h2:=Ahj (W:=L6 s) (v:=λi=>s.vals.getD i 0) (y:=λi=>y.getD i 0) r.1.2 (LLF s.free f s.order) (Aee s d) ?_ ?_ ?_
 .omega
 .unfold LLF;rw[List.pairwise_map];refine List.Pairwise.filter _ ?_;have:=Ac8 (Bcq s.free hs.num.hv) (l:=Rn s.vals s.free s.free.length) (λ_ _ =>trivial);rw[<- hs.order]at this;exact this.imp λ{a b}h=>by rw[An7 hs.num.hv]at h;omega
 .intro i hi;have n:=g.mem_iff.1 hi;unfold LLF at n;rw[Bl]at n;have⟨e,ae,ab⟩:=n;have af:=(Mz.1 ae).1
  have:∀k,∀e∈Rn s.vals s.free k,0<s.vals.getD (Xz s.free e.toNat) 0:=by
   intro k
   induction k with
   |zero=>intro e h;simp[Rn]at h
   |succ k ih=>
    intro e h;rw[Rn]at h
    split at h
    .rename_i hp
     rcases Cn.1 h with h|h
     .exact ih e h
     .rw[B3.1 h];exact hp
    .exact ih e h
  have h4:=this _ e af;rw[ab]at h4;exact h4
 .unfold Aee
  by_cases hw:0<=s.wide
  .rw[Ad hw];have ad:s.wide=(Sy s.rows s.rows.length).1:=hs.wide;have ai:=Ae9 s.rows s.rows.length (A7 _);have aa:s.wide.toNat<s.rows.length:=om;have j:=(Alw s.rows s.rows.length (A7 _)).2 om;rw[<- ad]at j;have h5:=An6 hs w r.1 hm he (s.rows.getD s.wide.toNat default).coef;have h6:=(r.2 _ aa).2;rw[w.sums _ aa]
   have h7:Io (λi=>if L6 s i=true then y.getD i 0 else 0) (LLF s.free f s.order)<=Io (λi=>(s.rows.getD s.wide.toNat default).coef.getD i 0*y.getD i 0) (Py s.free f m):=by
    rw[Aln _ g,Au3 s.vals s.free _ m f hm];refine Ae8 λi _ =>?_
    unfold pv L6;have hb:=j i;have h:=r.1.2 i
    dsimp only
    generalize(s.rows.getD s.wide.toNat default).coef.getD i 0=c at hb|-;generalize y.getD i 0=u at h|-;rcases hb with rfl|rfl<;>rcases h with rfl|rfl<;>split<;>simp[hw]
   omega
  .rw[I hw];have:∀i,L6 s i=false:=λi=>by unfold L6;simp[hw]
   refine Int.le_of_eq ?_;generalize LLF s.free f s.order=t
   induction t with
   |nil=>rfl
   |cons a t ih=>rw[Io,ih,this a];rfl
def An8(d:List Rw)(i:Nat)(f:Int)(a:List Int):∀k j,j<a.length->(Y7 d i f a k).getD j 0=if j<k then IntKind.i64.wrap (a.getD j 0+IntKind.i64.wrap (f*(d.getD j default).coef.getD i 0))else a.getD j 0
 |0,j,_ =>by rw[I oM];rfl
 |k+1,j,g=>by
  rw[Y7,Kf,Wa]
  by_cases h:j=k
  .subst h;rw[Ad (c:=j=j/\j<a.length) ⟨rfl,g⟩,Ad (c:=j<j+1) om,An8 d i f a j j g,I oM]
  .rw[I (c:=j=k/\k<a.length) (λe=>h e.1),An8 d i f a k j g]
   by_cases h2:j<k
   .rw[Ad (c:=j<k) h2,Ad (c:=j<k+1) oM]
   .rw[I (c:=j<k) h2,I (c:=j<k+1) oM]
def Xi{s:Ss}(hs:SsOk s){d:Sd}(e:OkD s d)(l:i<s.vals.length){b:Int}(m:(b=1/\d.x.getD i 0=0)\/(b=0/\d.x.getD i 0=1)):OkD s (Is s d i b):=by
 have hn:=hs.num.hn;have j:b=0\/b=1:=om;have f:i<d.x.length:=by rw[e.bits.1];exact l
 have a:=Arh e.bits i j
 have g:∀c:Int,-1000000<=c/\c<=1000000->IntKind.i64.wrap (Proofs.YtnoignhlamifmaaGreatDoor.sgn b*c)=c*(b-d.x.getD i 0):=by
  intro c hc
  rcases m with⟨h1,h2⟩|⟨h1,h2⟩
  .rw[h1,h2,show Proofs.YtnoignhlamifmaaGreatDoor.sgn 1=1 from by decide,Int.one_mul,Bp om oM];omega
  .rw[h1,h2,show Proofs.YtnoignhlamifmaaGreatDoor.sgn 0= -1 from by decide,Bp om oM];omega
 refine⟨a,?_,?_,?_⟩
 .show IntKind.i64.wrap (d.value+IntKind.i64.wrap (Proofs.YtnoignhlamifmaaGreatDoor.sgn b*s.vals.getD i 0))=Ml s.vals (d.x.set i b) s.vals.length
  have h1:=Up hs.num.hv a s.vals.length;rw[Abe s.vals b f,Ad l]at h1|-;rw[g _ (hs.num.hv i),e.val,Bp om oM]
 .show(Y7 s.rows i _ d.sums s.rows.length).length=_
  rw[Wa];exact e.len
 .intro k h;show(Y7 s.rows i (Proofs.YtnoignhlamifmaaGreatDoor.sgn b) d.sums s.rows.length).getD k 0=Ml _ (d.x.set i b) _
  have hc:=(Gz hs.num.hc h default).2;have h1:=Up hc a s.vals.length;rw[An8 _ _ _ _ _ _ (by rw[e.len];exact h),Ad h,g _ (hc i),e.sums k h];rw[Abe _ b f,Ad l]at h1|-;rw[Bp om oM]
def A62{s:Ss}{d:Sd}(a:OkD s d):OkD s (Alf s d):=⟨a.bits,a.val,a.len,a.sums⟩
def Ahu{x:List Int}{b:Int}(h:x.getD i 0=b)(c:Int)(a:i<x.length):(x.set i c).set i b=x:=by
 rw[List.set_set];apply La;intro k;rw[Lb]
 by_cases e:i=k
 .subst e;rw[Ad rfl,Ad a,<- h,Cs a];simp[a]
 .rw[I e]
def Xj{s:Ss}(hs:SsOk s):∀(m a:Nat)(d:Sd),a+m=s.free.length->OkD s d->(∀i∈Py s.free a m,d.x.getD i 0=0)->OkD s (Hi s m a d)/\(Hi s m a d).x=d.x
 |0,a,d,_,h,_ =>by
  rw[Hi];split
  .exact⟨h,rfl⟩
  .exact⟨A62 h,rfl⟩
 |m+1,a,d,z,h,w=>by
  have r:vI s a=Xz s.free a:=rfl;have u:vI s a<s.vals.length:=by rw[r];exact hs.fr.lt a om
  have t:vI s a∉Py s.free (a+1) m:=Abj hs.fr z;have l:d.x.getD (vI s a) 0=0:=w _ (by rw[Py];simp[r]);have g:∀i∈Py s.free (a+1) m,d.x.getD i 0=0:=λi f=>w i (by rw[Py];simp[f])
  have n:vI s a<d.x.length:=by rw[h.bits.1];exact u
  have o:∀e:Sd,OkD s e->e.x=d.x->OkD s (Is s (Hi s m (a+1) (Is s e (vI s a) 1)) (vI s a) 0)/\(Is s (Hi s m (a+1) (Is s e (vI s a) 1)) (vI s a) 0).x=d.x:=by
   intro e he k;have h1:=Xi hs he u (b:=1) (.inl ⟨rfl,by rw[k];exact l⟩);have j:(Is s e (vI s a) 1).x=d.x.set (vI s a) 1:=by show e.x.set _ _ =_;rw[k]
   have h2:=Xj hs m (a+1) _ om h1 (λi f=>by
    rw[j,Kf,I (c:=i=vI s a/\_) (λe=>t (e.1▸f))];exact g i f)
   refine⟨(Xi hs h2.1 u (b:=0) (.inr ⟨rfl,by rw[h2.2,j,Kf,Ad ⟨rfl,n⟩]⟩)),?_⟩;show(Hi s m (a+1) (Is s e (vI s a) 1)).x.set _ _ =_
   rw[h2.2,j,Ahu l 1 n]
  rw[Hi]
  split
  .exact⟨h,rfl⟩
  .split
   .have h1:=Xj hs m (a+1) d om h g;exact o _ h1.1 h1.2
   .have h1:=o d h rfl;have h2:=Xj hs m (a+1) _ om h1.1 (λi f=>by rw[h1.2];exact g i f);exact⟨h2.1,by rw[h2.2,h1.2]⟩
def Axp(s:Ss)(a:Nat->Int)(d:Sd):Prop:=d.found=true->∃y,Arq s y/\(∀i,(∀e,e<s.free.length->i≠Xz s.free e)->y.getD i 0=a i)/\d.most=Ml s.vals y s.vals.length
def Xk{s:Ss}(hs:SsOk s)(k:Nat->Int):∀(m a:Nat)(d:Sd),a+m=s.free.length->OkD s d->(∀i∈Py s.free a m,d.x.getD i 0=0)->(∀i,(∀e,e<s.free.length->i≠Xz s.free e)->d.x.getD i 0=k i)->Axp s k d->Axp s k (Hi s m a d)
 |0,a,d,hm,l,_,y,n=>by
  rw[Hi];split
  .exact n
  .rename_i h;intro _
   have hp:Ajk s d s.free.length=true:=by
    unfold Yf at h;have:a=s.free.length:=om;rw[this]at h;simp at h;exact h.1
   exact⟨d.x,A05 hs l hp,y,l.val⟩
 |m+1,a,d,hm,l,h0,y,n=>by
  have u:vI s a=Xz s.free a:=rfl;have hi:vI s a<s.vals.length:=by rw[u];exact hs.fr.lt a om
  have z:vI s a∉Py s.free (a+1) m:=Abj hs.fr hm;have w:d.x.getD (vI s a) 0=0:=h0 _ (by rw[Py];simp[u]);have g:∀i∈Py s.free (a+1) m,d.x.getD i 0=0:=λi f=>h0 i (by rw[Py];simp[f])
  have r:vI s a<d.x.length:=by rw[l.bits.1];exact hi
  have t:∀e:Sd,OkD s e->e.x=d.x->Axp s k e->OkD s (Is s (Hi s m (a+1) (Is s e (vI s a) 1)) (vI s a) 0)/\(Is s (Hi s m (a+1) (Is s e (vI s a) 1)) (vI s a) 0).x=d.x/\Axp s k (Is s (Hi s m (a+1) (Is s e (vI s a) 1)) (vI s a) 0):=by
   intro e he o aa;have h1:=Xi hs he hi (b:=1) (.inl ⟨rfl,by rw[o];exact w⟩);have j:(Is s e (vI s a) 1).x=d.x.set (vI s a) 1:=by show e.x.set _ _ =_;rw[o]
   have hz:∀i∈Py s.free (a+1) m,(Is s e (vI s a) 1).x.getD i 0=0:=λi f=>by
    rw[j,Kf,I (c:=i=vI s a/\_) (λe=>z (e.1▸f))];exact g i f
   have h2:=Xj hs m (a+1) _ om h1 hz;have h3:=Xi hs h2.1 hi (b:=0) (.inr ⟨rfl,by rw[h2.2,j,Kf,Ad ⟨rfl,r⟩]⟩)
   refine⟨h3,?_,?_⟩
   .show(Hi s m (a+1) (Is s e (vI s a) 1)).x.set _ _ =_
    rw[h2.2,j,Ahu w 1 r]
   .exact Xk hs k m (a+1) _ om h1 hz (λi f=>by
     rw[j,Kf,I (c:=i=vI s a/\_) (λe=>f a om e.1)];exact y i f) aa
  rw[Hi]
  split
  .exact n
  .split
   .have h1:=Xj hs m (a+1) d om l g;exact(t _ h1.1 h1.2 (Xk hs k m (a+1) d om l g y n)).2.2
   .have h1:=t d l rfl n;exact Xk hs k m (a+1) _ om h1.1 (λi f=>by rw[h1.2.1];exact g i f) (λi f=>by rw[h1.2.1];exact y i f) h1.2.2
def Adc(s:Ss):∀(m a:Nat)(d:Sd),(d.best.isSome=true->(Hi s m a d).best.isSome=true)/\((Hi s m a d).best=none->(Hi s m a d).least=d.least)
 |0,a,d=>by
  rw[Hi];split
  .exact⟨λh=>h,λ_ =>rfl⟩
  .exact⟨λ_ =>rfl,λh=>by simp[Alf]at h⟩
 |m+1,a,d=>by
  have c:=Adc s m (a+1)
  have f:∀e:Sd,(Hi s m (a+1) e).best=none->e.best=none:=λe h=>by
   cases hb:e.best with
   |none=>rfl
   |some b=>have:=(c e).1 (by rw[hb];rfl);rw[h]at this;simp at this
  rw[Hi]
  split
  .exact⟨λh=>h,λ_ =>rfl⟩
  .split
   .refine⟨λh=>(c (Is s (Hi s m (a+1) d) (vI s a) 1)).1 ((c d).1 h),λh=>?_⟩;have g:=h;exact((c _).2 g).trans ((c d).2 (f (Is s (Hi s m (a+1) d) (vI s a) 1) g))
   .refine⟨λh=>(c _).1 ((c (Is s d (vI s a) 1)).1 h),λh=>?_⟩;exact((c _).2 h).trans ((c _).2 (f (Is s (Hi s m (a+1) (Is s d (vI s a) 1)) (vI s a) 0) h))
def Za{s:Ss}(hs:SsOk s)(h1:s.one=true)(r:Arq s y):∀(m a:Nat)(d:Sd),a+m=s.free.length->OkD s d->Bcp s y d.x a m->d.least<=Ml s.vals y s.vals.length->(Hi s m a d).best.isSome=true
 |0,a,d,t,j,h,hl=>by
  have hp:=Ars hs j r t h;have hb:=A61 hs j r t h;have n:Yf s d a=false:=by unfold Yf;rw[hp];simp;omega
  rw[Hi,n];rfl
 |m+1,a,d,t,j,h,hl=>by
  have hb:=A61 hs j r t h;have n:Yf s d a=false:=by unfold Yf;rw[(Ars hs j r t h)];simp;omega
  have aa:Arb s a=false:=by unfold Arb;rw[h1];rfl
  have w:vI s a=Xz s.free a:=rfl;have hi:vI s a<s.vals.length:=by rw[w];exact hs.fr.lt a om
  have ab:vI s a∉Py s.free (a+1) m:=Abj hs.fr t;have l:d.x.getD (vI s a) 0=0:=h.1 _ (by rw[Py];simp[w]);have z:∀i∈Py s.free (a+1) m,d.x.getD i 0=0:=λi f=>h.1 i (by rw[Py];simp[f])
  have k:vI s a<d.x.length:=by rw[j.bits.1];exact hi
  have o1:=Xi hs j hi (b:=1) (.inl ⟨rfl,l⟩);have g:(Is s d (vI s a) 1).x=d.x.set (vI s a) 1:=rfl
  have hz:∀i∈Py s.free (a+1) m,(Is s d (vI s a) 1).x.getD i 0=0:=λi f=>by
   rw[g,Kf,I (c:=i=vI s a/\_) (λe=>ab (e.1▸f))];exact z i f
  have o2:=Xj hs m (a+1) _ om o1 hz;have o3:=Xi hs o2.1 hi (b:=0) (.inr ⟨rfl,by rw[o2.2,g,Kf,Ad ⟨rfl,k⟩]⟩)
  have u:(Is s (Hi s m (a+1) (Is s d (vI s a) 1)) (vI s a) 0).x=d.x:=by
   show(Hi s m (a+1) (Is s d (vI s a) 1)).x.set _ _ =_
   rw[o2.2,g,Ahu l 1 k]
  rw[Hi,n,aa];simp only[F4,if_false]
  by_cases hn:(Hi s m (a+1) (Is s d (vI s a) 1)).best.isSome=true
  .exact(Adc s m (a+1) _).1 hn
  .rcases r.1.2 (vI s a)with o|o
   .refine Za hs h1 r m (a+1) _ om o3 ⟨λi f=>by rw[u];exact z i f,λi f=>?_⟩ ?_
    .rw[u]
     by_cases e:i=vI s a
     .rw[e,o,l]
     .exact h.2 i (by rw[Py];simp[f];exact e)
    .show(Hi s m (a+1) (Is s d (vI s a) 1)).least<=_
     rw[((Adc s m (a+1) (Is s d (vI s a) 1)).2 (sG hn))];exact hl
   .refine absurd (Za hs h1 r m (a+1) _ om o1 ⟨hz,λi f=>?_⟩ hl) hn;rw[g,Kf]
    by_cases e:i=vI s a
    .rw[Ad ⟨e,k⟩,e,o]
    .rw[I (λe2=>e e2.1)];exact h.2 i (by rw[Py];simp[f];exact e)
def Wg(s:Ss)(n:Nat):∀(m c:Nat)(d:Sd),d.x.length=n->(∀b,d.best=some b->b.length=n)->(Hi s m c d).x.length=n/\(∀b,(Hi s m c d).best=some b->b.length=n)
 |0,c,d,h1,h2=>by
  rw[Hi];split
  .exact⟨h1,h2⟩
  .exact⟨h1,λb f=>by simp only[Alf,Ap]at f;rw[<- f];exact h1⟩
 |m+1,c,d,h1,h2=>by
  have hs:∀(e:Sd)(i:Nat)(b:Int),e.x.length=n->(Is s e i b).x.length=n:=λe i b h=>by simp[Is,h]
  rw[Hi]
  split
  .exact⟨h1,h2⟩
  .split
   .have a:=Wg s n m (c+1) d h1 h2;have b:=Wg s n m (c+1) (Is s (Hi s m (c+1) d) (vI s c) 1) (hs _ _ _ a.1) a.2;exact⟨hs _ _ _ b.1,b.2⟩
   .have a:=Wg s n m (c+1) (Is s d (vI s c) 1) (hs _ _ _ h1) h2;exact Wg s n m (c+1) _ (hs _ _ _ a.1) a.2
def An9{c m:Int}(h:inB c m=true): -m<=c/\c<=m:=by unfold inB at h;simpa using h
def A63{l:List Int}(h:l.any (λc=> !inB c 1000000)≠true):Bnd l:=by
 intro i
 by_cases a:i<l.length
 .have:inB (l.getD i 0) 1000000=true:=by
   cases e:inB (l.getD i 0) 1000000
   .exact absurd (Ew.2 ⟨l.getD i 0,by rw[Cs a];exact Aw a,by rw[e];rfl⟩) h
   .rfl
  exact An9 this
 .simp[List.getD,Eh (Pk a)]
def Bcr{a:List Int}{c:List Rw}{f:List Int}(h:Ac5 a c f=0):NumP a c/\f.length=a.length/\∀i,-1<=f.getD i 0/\f.getD i 0<=1:=by
 unfold Ac5 at h
 split at h
 .omega
 .rename_i h1
  split at h
  .omega
  .rename_i h2
   split at h
   .omega
   .rename_i k
    split at h
    .omega
    .rename_i l
     split at h
     .omega
     .rename_i n
      split at h
      .omega
      .rename_i m
       have g:∀r∈c,Ajj r=false:=λr g=>by
        cases e:Ajj r
        .rfl
        .exact absurd (Ew.2 ⟨r,g,e⟩) n
       refine⟨⟨by omega,by omega,A63 l,λr d=>⟨?_,?_⟩,λr d=>?_⟩,by omega,λi=>?_⟩
       .by_cases e:r.coef.length=a.length
        .exact e
        .exact absurd (Ew.2 ⟨r,d,by simpa using e⟩) k
       .have:=g r d;unfold Ajj at this;simp only[Fh]at this;exact A63 (by rw[this.1];simp)
       .have:=g r d;unfold Ajj at this;simp only[Fh,Bool.not_eq_false']at this;exact⟨An9 this.2.1,An9 this.2.2⟩
       .by_cases j:i<f.length
        .by_cases e:f.getD i 0< -1\/1<f.getD i 0
         .exact absurd (Ew.2 ⟨f.getD i 0,by rw[Cs j];exact Aw j,by simpa using e⟩) m
         .omega
        .simp[List.getD,Eh (Pk j)]
def Wh(c:List Int):∀k,(Js c k).Nodup
 |0=>by simp[Js]
 |k+1=>by
  rw[Js];split
  .rw[Oi];refine⟨Wh c k,by simp,λa d b e=>?_⟩;have:=Aa9 c k a d;have:=B3.1 e;omega
  .exact Wh c k
def Ade(a:List Int):∀k,∀i∈Js a k,a.getD i.toNat 0<0
 |0,i,h=>by simp[Js]at h
 |k+1,i,h=>by
  rw[Js]at h;split at h
  .rename_i hp
   rcases Cn.1 h with h|h
   .exact Ade a k i h
   .rw[B3.1 h];exact hp
  .exact Ade a k i h
def Axq{a:List Int}(hn:n<=24)(hx:a.length=n)(hp:free.Perm (Fa a)):FrOk free n:=by
 have d:∀e,e<free.length->0<=free.getD e 0/\free.getD e 0<n:=λe c=>by
  have:=Aa9 a a.length (free.getD e 0) (hp.mem_iff.1 (by rw[Cs c];exact Aw c));omega
 have g:=hp.nodup_iff.2 (Wh a _)
 refine⟨λe c=>by have:=d e c;unfold Xz;omega,λe e' c f h=>?_,?_⟩
 .have h1:=d e c;have h2:=d e' f;unfold Xz at h;have i:free.getD e 0=free.getD e' 0:=om;rw[Cs c,Cs f]at i;exact(List.getElem_inj g).1 i
 .rw[hp.length_eq];have:=Tx a a.length;unfold Fa;omega
def A64(a:List Int)(i:Nat):(xP a).getD i 0=S9 (a.getD i 0):=by
 unfold xP
 by_cases h:i<a.length
 .rw[Cs (sG h),Cs h];simp
 .simp[List.getD,Eh (Pk h),S9]
def Biy(a:List Int)(c:List Rw)(d:List Int):Axi a c d:=by
 intro hz _ o;have⟨g,t,aj⟩:=Bcr hz;have hn:=g.hn;have j:Ajl a.length (xP d):=⟨by simp[xP,t],λi=>by rw[A64];have:=aj i;unfold S9;split<;>omega⟩;have x:=Rm (Sz a) (Fa d);have sg:SsOk (grS a c d):=⟨g,(Axq hn t x),rfl,rfl,rfl,rfl⟩;have sf:SsOk (Ahm a c d):=⟨g,(Axq hn t (List.Perm.refl (Fa d))),rfl,rfl,rfl,rfl⟩
 have aa:∀k,k<c.length->(smP c (xP d)).getD k 0=Ml (c.getD k default).coef (xP d) a.length:=by
  intro k z;have hc:=Gz g.hc z default;unfold smP;rw[Cs (sG z),List.getElem_map,<- Cs z default];unfold Ye;rw[hc.1,Ahg hc.2 j _ oM]
 have r:Ye a (xP d)=Ml a (xP d) a.length:=by unfold Ye;exact Ahg g.hv j _ om
 have l:∀(free:List Int)(m f:Nat),free.Perm (Fa d)->f+m=free.length->∀i∈Py free f m,(xP d).getD i 0=0:=by
  intro free m f hp hm i hi;have⟨e,_,h2,h3⟩:=Afa hi;have he:e<free.length:=om;have:=Ade d d.length (free.getD e 0) (hp.mem_iff.1 (by rw[Cs he];exact Aw he));rw[A64,h3];unfold Xz S9;rw[Ad this]
 have og:OkD (grS a c d) { nwD a c d with least:= -24000000}:=⟨j,r,by simp[nwD,smP,grS,nwS],aa⟩
 have s:=Xk sg (λi=>(xP d).getD i 0) (Hb (Sz a) (Fa d)).length 0 _ (show 0+(Hb (Sz a) (Fa d)).length=(grS a c d).free.length from Dq _) og
  (l _ _ _ x (Dq _)) (λi _ =>rfl) (λh=>by simp[nwD]at h) o
 have⟨y,hy,ai,w⟩:=s;have off:OkD (Ahm a c d) { nwD a c d with least:=(grD a c d).most}:=⟨j,r,by simp[nwD,smP,Ahm,nwS],aa⟩
 have u:=Za (y:=y) sf rfl hy (Fa d).length 0 { nwD a c d with least:=(grD a c d).most} (show 0+(Fa d).length=(Ahm a c d).free.length from Dq _) off
  ⟨l _ _ _ (.refl _) (Dq _),λi hi=>ai i (λe he h=>hi ?_)⟩ (Int.le_of_eq w)
 .have⟨b,hb⟩:=Ct.1 u;exact⟨b,hb,(Wg (Ahm a c d) a.length (Fa d).length 0 { nwD a c d with least:=(grD a c d).most} j.1 (λb hb=>by simp[nwD]at hb)).2 b hb⟩
 .have ad:e<(Hb (Sz a) (Fa d)).length:=he;have ab:(Hb (Sz a) (Fa d)).getD e 0∈Fa d:=x.mem_iff.1 (by rw[Cs ad];exact Aw ad);have h:i=((Hb (Sz a) (Fa d)).getD e 0).toNat:=h
  have ae:∀(m f:Nat),f+m=(Fa d).length->∀e,f<=e->e<(Fa d).length->Xz (Fa d) e∈Py (Fa d) f m:=by
   intro m
   induction m with
   |zero=>intro f h1 e h2 h3;omega
   |succ m ih=>
    intro f h1 e h2 h3;rw[Py]
    by_cases h4:e=f
    .rw[h4];simp
    .exact Dx _ (ih (f+1) om e om h3)
  have⟨k,z,ak⟩:=Ju.1 ab;have h7:=ae (Fa d).length 0 om k om z;have h8:Xz (Fa d) k=i:=by unfold Xz;rw[Cs z,ak,h]
  rw[h8]at h7;exact h7
def Aoa(W:List (Int × Int))(a b:Int):Adb W a b<0↔Fo W b<Fo W a\/(Fo W b=Fo W a/\a<b):=by
 unfold Adb;simp only[orF,Go.Proofs.YtnoignhlamifmaaGreatDoor.cmpI];generalize Fo W a=u;generalize Fo W b=v
 (repeat' split)<;>omega
def Bcs(W:List (Int × Int)):CmpOk (Adb W) (λ_ =>True):=
 ⟨λx y _ _ h=>by rw[Aoa]at h|-;omega,λx y z _ _ _ h1 h2=>by rw[Aoa]at h1 h2|-;omega⟩
def A65(W:List (Int × Int)){l m:List Int}(c:l.Nodup)(d:m.Nodup)(h:∀a,a∈l↔a∈m):Hb (Adb W) l=Hb (Adb W) m:=
 A0y (Bcs W) (λ_ _ =>trivial) ((List.perm_ext_iff_of_nodup c d).2 h) (λx y _ _ h1 h2=>by rw[Aoa]at h1 h2;omega)
def Art(d:Int):∀(l e c:List Int)(t:Rat),0<=t->0<=O3 d l e c t
 |a::l,b::e,w::c,t,h=>by
  rw[O3];refine Art d l e c _ ?_
  have h1:(0:Rat)<=mkRat ((b-a)*(b-a)) (1000*d*d*w).natAbs:=by
   rw[<- Rat.divInt_ofNat];refine Rat.divInt_nonneg ?_ (Int.natCast_nonneg _)
   rcases Int.le_total 0 (b-a)with h|h
   .exact Int.mul_nonneg h h
   .exact Int.mul_nonneg_of_nonpos_of_nonpos h h
  exact Rat.add_nonneg h h1
 | [],_,_,t,h=>by unfold O3;exact h
 |_ ::_,[],_,t,h=>by unfold O3;exact h
 |_ ::_,_ ::_,[],t,h=>by unfold O3;exact h
def Au4(a:List Int)(m:Mo)(q:Nat):0<=V1 (P7 a m q)/\V1 (P7 a m q)<=1000000:=by
 have c:0<=P7 a m q:=by
  unfold P7;split
  .exact Rat.le_refl
  .exact Art _ _ _ _ _ Rat.le_refl
 have h1:0<=(P7 a m q*(100000000:Int)).floor:=by
  rw[Rat.le_floor_iff];exact Rat.mul_nonneg c dc
 unfold V1;split<;>omega
def Au5(p:List Nat)(k:Int)(r:Rat):Int × Int:=
 if A04 p≠0 then(0,A04 p)
 else if k<1\/(p.length:Int)-1<k\/N8 r (Aek 1 2)<=0\/0<N8 r (Aek 1 1)then(0,3)
 else if 0<=N8 (Arp (p.drop k.toNat) p) r then(1,0)
 else if 0<=N8 (Arp (p.take k.toNat) p) r then(0,0)else(-1,0)
def Bct(p:List Nat)(k:Int)(r:Rat):Bcn p k r=.tup [.i (Au5 p k r).1,.i (Au5 p k r).2]:=by
 unfold Bcn Au5;(repeat' split)<;>rfl
def Au6(p:Po)(w:List Nat):Bool × Int:=
 if p.cut=0 then(false,0)else if(Au5 w p.cut p.lvl.val).2≠0 then(false,(Au5 w p.cut p.lvl.val).2)else(decide ((Au5 w p.cut p.lvl.val).1≠ -1),0)
def Au7(p:Po)(w:List Nat)(d:p.ok)(n:Ks w 1000000)(c:w.length<=1000000):
  AC prog 254 [p.v,.ro 1 (Cb w)] (λr=>r=.tup [.bool (Au6 p w).1,.i (Au6 p w).2]):=by
 have a:=A6w w p.cut p.lvl n c d.lvl;rw[Bct]at a;unfold Au6;generalize Au5 w p.cut p.lvl.val=cc at*;rw[(vRR p.lvl)]at a;have e:=vPo p;rw[e]at|-;clear e;have l:=Dr p.rules;have s:=Af p.g.pts;have k:=Af p.g.pri;have m:=Bc p.en;have o:=Aj p.var.num.mag;have f:=Aj p.var.den;have j:=Aj p.lvl.num.mag;have i:=Aj p.lvl.den;have t:=Aj p.rate.num.mag;have h:=Aj p.rate.den;generalize Hu p.rules=rv,Av p.g.pts=pt,Av p.g.pri=pr,Bd p.en=ev,A2 p.var.num.mag=vm,A2 p.var.den=vd,A2 p.lvl.num.mag=lm,A2 p.lvl.den=ld,A2 p.rate.num.mag=rm,A2 p.rate.den=rd at*;have u:=B1 w;generalize Cb w=wv at*;refine Aq func254 λw0 N0=>?_;refine Y [1,2] [2] sr (J (Y [1,2,10] [2] sr ?_))
 refine Au (λh1=>?_) λh1=>Ae ?_
 .exact Y [4,5] [] sr (Ao (Ab sr (by rw[Ad (sG h1)])))
 rw[I (sG h1)];refine J (Ak (Ay 5 sr ?_));refine Ac a func294 ?_;refine Aa [6,7] [] sr (J (Y [6,7,21] [] sr ?_))
 refine Au (λh2=>?_) λh2=>Ae ?_
 .exact Y [4,5] [] sr (Ao (Ab sr (by rw[Ad (sG h2)])))
 exact Y [4,5] [] sr (Ao (Ab sr (by rw[I (sG h2)];simp)))
def Bcu{g:Gr}(h:sumsOk g w):Qk (Y4 g w)<=2047:=by
 unfold Y4;refine Uk (Jn h.pos h.pos) ?_ (Ag (N7 (Acw h.sz0) (Acw h.sz0)) dc);have h2:=L3 h.sz1 h.sz1;have a:Ox (-(M6 g.pts w*M6 g.pts w))<=2044:=by unfold Ox at h2|-;rw[Oq];omega
 rw[Rx];exact Ag (Uj (k:=2046) (Ag (L3 h.sz0 h.sz2) dc) (Ag a dc)) dc
def A06(p:Po)(n:Nat)(w:List Nat):Int × Int:=
 if p.len<=n then(1,0)else if(n:Int)<p.mn then(0,0)
 else if 0<Ad8 p.var.val/\N8 (Y4 p.g w) p.var.val<=0 then(2,0)
 else if(Au6 p w).2≠0 then(0,(Au6 p w).2)else if(Au6 p w).1=true then(3,0)else(0,0)
def Au8(p:Po)(n:Nat)(w:List Nat)(a:p.ok)(hp:Xv p=0)(hs:sumsOk p.g w):
  Kb gv prog 207 [p.v,.i n,.ro 1 (Cb w)] (λr=>r=.tup [.i (A06 p n w).1,.i (A06 p n w).2]):=by
 have h:=Qo p a;rw[hp]at h;have aa:w.length<=1000000:=by have:=hs.len;have:=(Kc hs.grid).len;omega
 have e:=Au7 p w a (λx hx=>Ag (hs.sz x hx) dc) aa;have c:=Bco p.g w hs;have y:=Ap6 p.var a.var.lim a.var.num.lim;have d:=Sb (nR (Y4 p.g w)) p.var (Nn (Ag (Bcu hs) dc)) a.var;rw[Mj]at d;unfold A06;generalize Au6 p w=dc,Ad8 p.var.val=sg at*;generalize ab:N8 (Y4 p.g w) p.var.val=cv at*;generalize Y4 p.g w=q at*;have eg:p.g.v=.agg [.ro 1 (Av p.g.pts),.ro 1 (Av p.g.pri)]:=rfl;have er:=vRR p.var;rw[eg]at c;simp only[Xt]at c d;rw[er]at y d;have ep:=vPo p;rw[ep]at h e|-;clear ep;have q0:=Dr p.rules;have k:=Af p.g.pts;have q2:=Af p.g.pri;have t:=Bc p.en;have s:=Aj p.var.num.mag;have q5:=Aj p.var.den;have u:=Aj p.lvl.num.mag;have j:=Aj p.lvl.den;have l:=Aj p.rate.num.mag;have o:=Aj p.rate.den;generalize Hu p.rules=rv,Av p.g.pts=pt,Av p.g.pri=pr,Bd p.en=ev,A2 p.var.num.mag=vm,A2 p.var.den=vd,A2 p.lvl.num.mag=lm,A2 p.lvl.den=ld,A2 p.rate.num.mag=rm,A2 p.rate.den=rd at*;have p1:=Jb;have p2:=Jc;have m:=B1 w;generalize Cb w=wv at*;have hn:¬(n:Int)<0:=om;refine B0 func207 λw0 N0 hG=>?_;refine Y [1,2,3] [3] sr (J (J (Ak (Ay 1 sr ?_))));refine Bq hG h func28 ?_;refine Aa [1,2,3,8] [3] sr (Y [1,2,3,8,15] [3] sr ?_);refine A0 rfl sA (λh1=>Ae (J (Y [1,2,3,18] [3] sr ?_)));refine A0 rfl (λh2=>by simp at h2;omega) (λh2=>Ae (J (Ak (Ay 3 sr ?_))));refine Ac c func253 ?_;refine Aa [1,2,3,9,10] [3,9] sr (J (Y [1,2,3,9,10,27] [3,9] sr ?_));refine A0 rfl sA (λh3=>Ae (J (Y [1,2,3,9,33] [3,9] sr ?_)))
 refine Au (λf=>?_) λf=>Ae ?_
 .exact Y [6,7] [] sr (Ao (Ab sr (by rw[Ad (sG f)])))
 refine J (Y [2,3,9,37] [3,9] sr ?_)
 refine Au (λi=>?_) λi=>Ae ?_
 .exact Y [6,7] [] sr (Ao (Ab sr (by rw[I (sG f),Ad (sG i)])))
 refine J (J (Ak (Ay 2 sr ?_)));refine Ac y func56 ?_;refine Ay 5 sr (Ep (λhg=>d) func104 rfl kr sr rfl rfl sr sM sr ?_);refine Aa [2,3,48] [3] sr ?_
 refine Au (λz=>?_) λz=>Ae ?_
 .exact Y [6,7] [] sr (Ao (Ab sr (by rw[I (sG f),I (sG i),Ad (sG z)])))
 refine J (Ak (Ay 2 sr ?_));refine Ac e func254 ?_;refine Aa [10,11] [] sr (J (Y [10,11,56] [] sr ?_))
 refine Au (λh7=>?_) λh7=>Ae ?_
 .exact Y [6,7] [] sr (Ao (Ab sr (by rw[I (sG f),I (sG i),I (sG z),Ad (sG h7)])))
 refine J (Y [58] [] sr ?_)
 refine Au (λh8=>?_) λh8=>Ae ?_
 .exact Y [6,7] [] sr (Ao (Ab sr (by rw[I (sG f),I (sG i),I (sG z),I (sG h7),Ad (sG h8)])))
 exact Y [6,7] [] sr (Ao (Ab sr (by rw[I (sG f),I (sG i),I (sG z),I (sG h7),I (sG h8)])))
def Zb{p:Po}(h:Xv p=0):Tt p.len p.rules=0/\Li p.g=0/\p.en.length<=400/\Bbu p=false:=by
 unfold Xv at h
 (repeat' split at h)<;>try omega
 rename_i h1 h2 h3 a;exact⟨by omega,by omega,by omega,by simpa using a⟩
structure AdP(p:Po)(pool:List Pit):Prop where
 ok:p.ok
 pe:Xv p=0
 le:J5 pool p.g.pts.length=0
 pl:pool.length<=9
def Bcv{a:List Int}{rs:List Ru}(h:a.length<=12)(hn:∀v∈a,0<=v/\v<=1000000):Vz (Uo a rs):=by
 intro k
 have e:(Uo a rs).getD k 0=a.getD k 0:=by
  unfold Uo;rw[Dt,Dt,List.getElem?_append]
  split
  .rfl
  .rename_i g;rw[Eh (show a.length<=k by omega),Hg];split<;>rfl
 rw[e]
 by_cases g:k<a.length
 .rw[Cs g];have:=hn _ (Aw g);exact⟨this.1,this.2,λq=>by omega⟩
 .rw[Dt,Eh om];exact⟨by decide,by decide,λ_ =>rfl⟩
def Bcw(pool:List Pit)(a c giv:List Int):Int:=
 if c.any (λid=> !Wd (Aro pool a) id)=true\/giv.any (λid=> !Wd (Aro pool a) id)=true then 6 else 0
def Bcx(pool:List Pit)(c d giv:List Int):List Int:=Hb (Adb (Aro pool c)) (d.filter λa=> !decide (a∈giv))
def A66(pool:List Pit)(c d giv:List Int)(i:pool.length<=18)(j:c.length=pool.length)(e:∀v∈c,-1000000<=v/\v<=1000000)(g:d.length<=12)(f:giv.length<=1000)(k:d.Nodup):
  AE 125 [.ro 9 (C5 pool),.ro 1 (Av c),.ro 1 (Av d),.ro 1 (Av giv)] (Ahq (Bcw pool c d giv) (Bcx pool c d giv)):=by
 refine(A6u pool c d giv i j e g f).mono λr h=>?_
 unfold Bgj at h;unfold Ahq Bcw Bcx
 split at h
 .rename_i h1;rw[Ad h1];exact h
 .rename_i h1;have⟨C,n,m,l⟩:=h;rw[I h1,l,Ad rfl];rw[A65 (Aro pool c) n (k.filter (λa=> !decide (a∈giv))) (λa=>by rw[m];simp[Mz])]
def Aru(x:List Int)(pool:List Pit):∀k,k<=pool.length->(Ada x pool k).Sublist ((Qn pool).take k)
 |0,_ =>by simp[Ada]
 |k+1,h=>by
  have ih:=Aru x pool k om
  have e:(Qn pool).take (k+1)=(Qn pool).take k++[(pool.getD k default).id]:=by
   rw[Az (by simp[Qn];omega),Cs (show k<pool.length by omega)];simp[Qn]
  rw[Ada,e]
  split
  .exact ih.append (List.Sublist.refl _)
  .exact ih.trans (List.sublist_append_left _ _)
def Au9{l:List Int}(h:Tq 0 l=true):l.Nodup:=by
 exact((Ae2 h).2).imp λh=>by omega
def Jk(pool:List Pit)(t:Te):List Pit:=Aw1 pool t.elig
def Adf(p:Po)(pool:List Pit)(t:Te):Int:=
 if A6q p.len p.rules (Jk pool t) p.en (Jj t.steps) (Ho p.g t.w (Jk pool t))≠0 then A6q p.len p.rules (Jk pool t) p.en (Jj t.steps) (Ho p.g t.w (Jk pool t))
 else Bcw (Jk pool t) (Ho p.g t.w (Jk pool t)) (An3 p.len p.rules (Jk pool t) p.en (Jj t.steps) (Ho p.g t.w (Jk pool t))) (Jj t.steps)
def Adg(p:Po)(pool:List Pit)(t:Te):List Int:=
 Bcx (Jk pool t) (Ho p.g t.w (Jk pool t)) (An3 p.len p.rules (Jk pool t) p.en (Jj t.steps) (Ho p.g t.w (Jk pool t))) (Jj t.steps)
def A67(p:Po)(pool:List Pit)(t:Te)(h:AdP p pool)(hs:sumsOk p.g t.w)(ah:t.steps.length<=1000):
  Kb gv prog 68 [p.v,.ro 9 (C5 pool),t.v] (λr=>r=Ahq (Adf p pool t) (Adg p pool t)):=by
 obtain⟨ak,ar,ao,-⟩:=Zb h.pe;have av:=h.pl;have aw:=Aa7 p.rules;have ax:=(Ae6 ak).2.2.1;have d:=Aqo pool t.elig om;change AC _ _ _ (λx=>x=.ro 9 (C5 (Jk pool t)))at d;have ad:=A0e pool t.elig;have au:(Jk pool t).length<=pool.length:=ad.length_le;have ae:=A0d ad h.le;have aa:=Aqp t.steps ah;have aj:(Jj t.steps).length<=1000:=by rw[Agw];exact ah
 have s:=Aqr p.g t.w (Jk pool t) hs ae;have ai:(Ho p.g t.w (Jk pool t)).length=(Jk pool t).length:=by simp[Ho,U3]
 have ag:∀v∈Ho p.g t.w (Jk pool t),0<=v/\v<=1000000:=by
  intro v hv;simp only[Ho,U3,Bl]at hv;obtain⟨x,_,rfl⟩:=hv;exact Au4 p.g.pts x.m (Agj p.g.pts (P6 p.g t.w))
 have af:=λv hv=>(⟨by have:=ag v hv;omega,(ag v hv).2⟩:-1000000<=v/\v<=1000000);have a:=A6s p.len p.rules (Jk pool t) p.en (Jj t.steps) (Ho p.g t.w (Jk pool t)) p.g.pts.length ak ae om (Bcv om ag) ao aj ai af (Biy _ _ _) om
 have am:(An3 p.len p.rules (Jk pool t) p.en (Jj t.steps) (Ho p.g t.w (Jk pool t))).Nodup:=by
  unfold An3 shT;exact((Au9 (Xg ae).2.1).sublist (List.take_sublist _ _)).sublist (Aru _ _ _ (A7 _))
 have aq:(An3 p.len p.rules (Jk pool t) p.en (Jj t.steps) (Ho p.g t.w (Jk pool t))).length<=12:=by
  unfold An3 shT;have:=Ahp (Xy (Uo (Ho p.g t.w (Jk pool t)) p.rules) (U9 p.len p.rules (Jk pool t) p.en ((Jk pool t).length+Gd p.rules)) (Y9 (Jk pool t) (Qq p.rules (Jk pool t)) (Jj t.steps) (Jj t.steps).length)) (Jk pool t) (Jk pool t).length;omega
 have u:=A66 (Jk pool t) (Ho p.g t.w (Jk pool t)) _ (Jj t.steps) om ai af aq aj am;unfold Adf Adg;generalize A6q p.len p.rules (Jk pool t) p.en (Jj t.steps) (Ho p.g t.w (Jk pool t))=te,An3 p.len p.rules (Jk pool t) p.en (Jj t.steps) (Ho p.g t.w (Jk pool t))=tt at*;generalize Bcw (Jk pool t) (Ho p.g t.w (Jk pool t)) tt (Jj t.steps)=fe,Bcx (Jk pool t) (Ho p.g t.w (Jk pool t)) tt (Jj t.steps)=fl at*;have pf:=Af fl;unfold Ahq at*;have al:Rh p.len p.rules=.agg [.i p.len,.ro 5 (Hu p.rules)]:=rfl;have eg:p.g.v=.agg [.ro 1 (Av p.g.pts),.ro 1 (Av p.g.pri)]:=rfl;rw[eg]at s;rw[al]at a;rw[(vTe t)];have ep:=vPo p;rw[ep]at|-;clear ep;have q0:=Dr p.rules;have f:=Af p.g.pts;have q2:=Af p.g.pri;have n:=Bc p.en;have l:=Aj p.var.num.mag;have q5:=Aj p.var.den;have o:=Aj p.lvl.num.mag;have c:=Aj p.lvl.den;have e:=Aj p.rate.num.mag;have k:=Aj p.rate.den;generalize Hu p.rules=rv,Av p.g.pts=pt,Av p.g.pri=pr,Bd p.en=ev,A2 p.var.num.mag=vm,A2 p.var.den=vd,A2 p.lvl.num.mag=lm,A2 p.lvl.den=ld,A2 p.rate.num.mag=rm,A2 p.rate.den=rd at*;have s1:=Af t.elig;have i:=Bc t.steps;have j:=B1 t.w;have s4:=Cx pool;have y:=Cx (Jk pool t);have s6:=Af (Jj t.steps);have z:=Af (Ho p.g t.w (Jk pool t));have s8:=Af tt;generalize Av t.elig=ti,Bd t.steps=ts,Cb t.w=tw,C5 pool=lv,C5 (Jk pool t)=iv,Av (Jj t.steps)=gi,Av (Ho p.g t.w (Jk pool t))=vv,Av tt=tv at*
 by_cases ab:te=0
 .subst ab;simp only[if_true,ne_eq,not_true_eq_false,if_false]at a|-
  by_cases ag:fe=0
  .subst ag;simp only[if_true]at u|-;refine B0 func68 λw0 N0 hG=>?_;refine Y [1,3,5] [3,5] sr (J (Ak (Ay 3 sr ?_)));refine Ac d func121 ?_;refine Aa [3,5,8] [3,5] sr (J (Ak (Ay 2 sr ?_)));refine Ac aa func122 ?_;refine Aa [3,5,8,9] [3,5] sr (J (Ak (Ay 5 sr ?_)));refine Bq hG s func123 ?_;refine Aa [3,8,9,10,11] [3] sr (J (Y [3,8,9,10,11,30] [3] sr ?_));refine A0 rfl sA (λh1=>Ae (J (Ak (Ay 7 sr ?_))));refine Bq hG a func124 ?_;refine Aa [8,9,10,11,12] [] sr (J (Y [8,9,10,11,12,44] [] sr ?_));refine A0 rfl sA (λh2=>Ae (J (Ak (Ay 4 sr ?_))));refine Ac u func125 ?_;exact Aa [6,7] [] sr (Ao (Ab sr (rfl)))
  .simp only[I ag]at u|-;refine B0 func68 λw0 N0 hG=>?_;refine Y [1,3,5] [3,5] sr (J (Ak (Ay 3 sr ?_)));refine Ac d func121 ?_;refine Aa [3,5,8] [3,5] sr (J (Ak (Ay 2 sr ?_)));refine Ac aa func122 ?_;refine Aa [3,5,8,9] [3,5] sr (J (Ak (Ay 5 sr ?_)));refine Bq hG s func123 ?_;refine Aa [3,8,9,10,11] [3] sr (J (Y [3,8,9,10,11,30] [3] sr ?_));refine A0 rfl sA (λh1=>Ae (J (Ak (Ay 7 sr ?_))));refine Bq hG a func124 ?_;refine Aa [8,9,10,11,12] [] sr (J (Y [8,9,10,11,12,44] [] sr ?_));refine A0 rfl sA (λh2=>Ae (J (Ak (Ay 4 sr ?_))));refine Ac u func125 ?_;exact Aa [6,7] [] sr (Ao (Ab sr (rfl)))
 .simp only[I ab,Ad ab,ne_eq]at a|-;refine B0 func68 λw0 N0 hG=>?_;refine Y [1,3,5] [3,5] sr (J (Ak (Ay 3 sr ?_)));refine Ac d func121 ?_;refine Aa [3,5,8] [3,5] sr (J (Ak (Ay 2 sr ?_)));refine Ac aa func122 ?_;refine Aa [3,5,8,9] [3,5] sr (J (Ak (Ay 5 sr ?_)));refine Bq hG s func123 ?_;refine Aa [3,8,9,10,11] [3] sr (J (Y [3,8,9,10,11,30] [3] sr ?_));refine A0 rfl sA (λh1=>Ae (J (Ak (Ay 7 sr ?_))));refine Bq hG a func124 ?_;refine Aa [8,9,10,11,12] [] sr (J (Y [8,9,10,11,12,44] [] sr ?_))
  refine A0 rfl (λh2=>?_) (λh2=>by simp at h2;exact absurd h2 ab)
  .exact Y [6,7] [] sr (Ao (Ab sr rf))
variable {e:Int}
def Yh:∀(l:List Nat)(a:Nat),l.foldl Nat.gcd a∣a/\∀x∈l,l.foldl Nat.gcd a∣x
 | [],a=>⟨Nat.dvd_refl _,λx c=>by cases c⟩
 |y::r,a=>by
  have ih:=Yh r (Nat.gcd a y);rw[My];refine⟨Nat.dvd_trans ih.1 (Ua a y),λx c=>?_⟩
  rcases B8.1 c with h|h
  .rw[h];exact Nat.dvd_trans ih.1 (Nat.gcd_dvd_right a y)
  .exact ih.2 x h
def Xl:Gk w≠0↔∃x∈w,x≠0:=by
 induction w with
 |nil=>simp[Gk]
 |cons a r ih=>
  rw[Gk]
  constructor
  .intro h
   by_cases ha:a=0
   .have⟨x,hx,h2⟩:=ih.1 om;exact⟨x,Dx _ hx,h2⟩
   .exact⟨a,Fk ..,ha⟩
  .rintro⟨x,hx,h2⟩
   rcases B8.1 hx with h|h
   .omega
   .have:=ih.2 ⟨x,h,h2⟩;omega
def Afb(w:List Nat):(Ri w).length=w.length:=by simp[Ri]
def Abl(h:Ks w m):Ks (Ri w) m:=by
 intro x a;simp only[Ri,Bl]at a;obtain⟨y,c,rfl⟩:=a;exact Ag (Acu (G7 _ _)) (h y c)
def A68(h:Gk w≠0):Gk (Ri w)≠0:=by
 have⟨x,f,h2⟩:=Xl.1 h
 refine Xl.2 ⟨x/Xw w,?_,?_⟩
 .simp only[Ri,Bl];exact⟨x,f,rfl⟩
 .have d:=(Yh w 0).2 x f;change Xw w∣x at d;have⟨c,a⟩:=d;have g:0<Xw w:=H6 (λe=>by rw[e,Ma]at a;exact h2 a);rw[a,Ki _ g];intro e;rw[e,Uw]at a;exact h2 a
def Arv{g:Gr}(d:Li g=0):(Pe g.pri).length=g.pts.length/\Ks (Pe g.pri) 1/\Gk (Pe g.pri)≠0:=by
 have h:=Kc d
 refine⟨by simp[Pe,h.same],λx c=>?_,Xl.2 ?_⟩
 .simp only[Pe,Bl]at c;obtain⟨y,e,rfl⟩:=c;have:=h.pri y e;exact Fg (m:=1) om
 .have h1:=h.pos;have h2:=h.same;cases hp:g.pri with
  |nil=>rw[hp]at h2;simp at h2;omega
  |cons a r=>
   refine⟨a.toNat,by simp[Pe],?_⟩;have:=h.pri a (by rw[hp];simp);omega
def A69{m:Mo}(r:Lj m w.length=0)(hk:k<Xs m)(o:Ks w n)(t:Gk w≠0):
  (Qp w m k).length=w.length/\Ks (Qp w m k) (n+1)/\Gk (Qp w m k)≠0:=by
 have l:=Aar r;have s:=l.len
 have c:∀i,i<m.length->1<=(m.getD i []).getD k 0/\(m.getD i []).getD k 0<=1000:=by
  intro i e;have h1:=l.row (m.getD i []) (by rw[Cs e];exact Aw e);have h2:k<(m.getD i []).length:=om;exact h1.2.1 _ (by rw[Cs h2];exact Aw h2)
 have f:(Qp w m k).length=w.length:=by simp[Qp,s]
 have a:∀i(h:i<(Qp w m k).length),(Qp w m k)[i]=w[i]'(by omega)*((m.getD i []).getD k 0).toNat:=by
  intro i h;have e:i<m.length:=om;rw[Cs (d:=[]) e];simp[Qp]
 refine⟨f,λx g=>?_,Xl.2 ?_⟩
 .obtain⟨i,e,rfl⟩:=Ju.1 g;rw[a i e];have h1:=c i om;exact N7 (o _ (Aw _)) (Fg (m:=1) om)
 .have⟨x,g,j⟩:=Xl.1 t;obtain⟨i,e,rfl⟩:=Ju.1 g;refine⟨(Qp w m k)[i]'(by omega),Aw _,?_⟩;rw[a i om];have h1:=c i om;exact Jn j om
def Aob(e:Int)(l:List Int):List Int:=if e=0 then l else []
def Ava(e:Int)(l:List Int):Bj (Ahq e l) (.tup [.ro 1 (Av (Aob e l)),.i e]):=by
 unfold Ahq Aob;split
 .rename_i h;rw[h];exact Bj.refl _
 .exact Bj.tup (.cons (Bj.nils 1) (.cons (Bj.refl _) .nil))
def Alx(p:Po)(pool:List Pit)(t:Te)(h:AdP p pool)(hs:sumsOk p.g t.w)(a:t.steps.length<=1000):
  AQ 68 [p.v,.ro 9 (C5 pool),t.v] (.tup [.ro 1 (Av (Aob (Adf p pool t) (Adg p pool t))),.i (Adf p pool t)]):=
 Kb.relaxP ((A67 p pool t h hs a).mono λr c=>by rw[c];exact Ava _ _)
def Yi:Te:=⟨[],[],0,[],0,0⟩
def Arw(p:Po)(pool:List Pit)(a:List (Int × Int))(d c:Int):Te:=⟨Aa1 pool a d p.rate.val p.slack,[],0,Ri (Pe p.g.pri),U8 c,0⟩
def A7a(p:Po)(pool:List Pit)(a:List (Int × Int))(c d:Int):Int:=
 if Xv p≠0 then Xv p else if J5 pool p.g.pts.length≠0 then J5 pool p.g.pts.length else if c<0\/1000000<c then 3 else Adf p pool (Arw p pool a c d)
def teR(e:Int)(t:Te):V:=.tup [(if e=0 then t else Yi).v,.i e]
def A07:Bj (.agg [.nils,.nils,.i 0,.nils,.int .u64 0,.i 0]) Yi.v:=
 Bj.agg (.cons (Bj.nils 1) (.cons (Bj.nils 2) (.cons (Bj.refl _) (.cons (Bj.nils 1) (.cons (Bj.refl _) (.cons (Bj.refl _) .nil))))))
def Ga(h:e≠0)(t:Te):Bj (.tup [.agg [.nils,.nils,.i 0,.nils,.int .u64 0,.i 0],.i e]) (teR e t):=by
 unfold teR;rw[I h];exact Bj.tup (.cons A07 (.cons (Bj.refl _) .nil))
def Ahv(a:List Int)(w:List Nat)(d:Int):Bj (.agg [.ro 1 (Av a),.nils,.i 0,.ro 1 (Cb w),.int .u64 d,.i 0]) (Te.v ⟨a,[],0,w,d,0⟩):=
 Bj.agg (.cons (Bj.refl _) (.cons (Bj.nils 2) (.cons (Bj.refl _) (.cons (Bj.refl _) (.cons (Bj.refl _) (.cons (Bj.refl _) .nil))))))
def A08(p:Po)(pool:List Pit)(a:List (Int × Int))(c d:Int)(n:p.ok)(am:J5 pool p.g.pts.length=0->pool.length<=9):
  Kb gv prog 34 [p.v,.ro 9 (C5 pool),.ro 2 (Bd a),.i c,.int .u64 d] (λr=>r=teR (A7a p pool a c d) (Arw p pool a c d)):=by
 refine Kb.relaxP ?_;have ab:=Qo p n;have ad:=Mt pool p.g.pts.length;have l:=λh=>A44 p.g h
 have k:Xv p=0->Li p.g=0:=λh=>(Zb h).2.1
 have i:=λh=>Arv (g:=p.g) h
 have al:Li p.g=0->p.g.pts.length<=21:=λh=>(Kc h).len
 have j:=λh(h9:pool.length<=9)=>Az9 pool a c p.rate p.slack n.rate h om
 have ah:J5 pool p.g.pts.length=0->(Qn pool).Pairwise (·< ·):=λh=>(Ae2 (Xg h).2.1).2
 have z:=λh1 h2=>Agq (Pe p.g.pri) h1 h2
 have ag:=A47 d
 have ai:Xv p=0->sumsOk p.g (Ri (Pe p.g.pri)):=λh=>
  have hg:=k h
  ⟨hg,by rw[Afb];exact(i hg).1,Abl (λx hx=>Ag ((i hg).2.1 x hx) dc),A68 (i hg).2.2⟩
 have e:=λh h2=>(Alx p pool (Arw p pool a c d) h h2 (by simp[Arw])).argsR (.cons (Bj.refl _) (.cons (Bj.refl _) (.cons (Ahv (Aa1 pool a c p.rate.val p.slack) (Ri (Pe p.g.pri)) (U8 d)) .nil)))
 unfold A7a;have hT:Arw p pool a c d=⟨Aa1 pool a c p.rate.val p.slack,[],0,Ri (Pe p.g.pri),U8 d,0⟩:=rfl;have ae:=Af (Aob (Adf p pool (Arw p pool a c d)) (Adg p pool (Arw p pool a c d)));rw[hT]at e ae|-;have aj:Xv p=0->J5 pool p.g.pts.length=0->AdP p pool:=λh1 h2=>⟨n,h1,h2,am h2⟩
 have u:=Af (Aa1 pool a c p.rate.val p.slack);have w2:=B1 (Ri (Pe p.g.pri));have w3:=B1 (Pe p.g.pri);have ak:=Ahv (Aa1 pool a c p.rate.val p.slack) (Ri (Pe p.g.pri)) (U8 d);generalize Adf p pool _ =ce at*;generalize Aob ce (Adg p pool _)=cl,Aa1 pool a c p.rate.val p.slack=el,Ri (Pe p.g.pri)=av,U8 d=nd at*;have s4:=Cx pool;have s5:=Bc a;have af:=A4 p.g.pts;have eg:p.g.v=.agg [.ro 1 (Av p.g.pts),.ro 1 (Av p.g.pri)]:=rfl;rw[eg]at l;rw[(vRR p.rate)]at j;have ep:=vPo p;rw[ep]at ab e|-;clear ep;have q0:=Dr p.rules;have s:=Af p.g.pts;have q2:=Af p.g.pri;have y:=Bc p.en;have w:=Aj p.var.num.mag;have q5:=Aj p.var.den;have q6:=Aj p.lvl.num.mag;have m:=Aj p.lvl.den;have o:=Aj p.rate.num.mag;have t:=Aj p.rate.den;generalize Hu p.rules=rv,Av p.g.pts=pt,Av p.g.pri=pr,Bd p.en=ev,A2 p.var.num.mag=vm,A2 p.var.den=vd,A2 p.lvl.num.mag=lm,A2 p.lvl.den=ld,A2 p.rate.num.mag=rm,A2 p.rate.den=rd,C5 pool=lv,Bd a=uv at*;generalize aq:Xv p=pe at*;generalize au:J5 pool p.g.pts.length=qe at*;rw[<- af]at ad;refine B0 func34 λw0 N0 hG=>?_;refine Y [1,2,3,4,5,10] [5,10] sr (J (J (Ak (Ay 1 sr ?_))));refine Bq hG ab func28 ?_;refine Aa [1,2,3,4,5,10,12] [5,10] sr (Y [1,2,3,4,5,10,12,22] [5,10] sr ?_)
 refine Au (λh1=>?_) λh1=>Ae ?_
 .exact Y [10,11] [10] sr (Ao (Ab sr (by rw[Ad (sG h1)];exact Ga (sG h1) _)))
 have f:pe=0:=sG h1
 rw[I (sG h1)];refine J (J (Ak (Ay 5 sr ?_)));refine Bq hG ad func29 ?_;refine Aa [1,2,3,4,5,10,13] [5,10] sr (Y [1,2,3,4,5,10,13,32] [5,10] sr ?_)
 refine Au (λh2=>?_) λh2=>Ae ?_
 .exact Y [10,11] [10] sr (Ao (Ab sr (by rw[Ad (sG h2)];exact Ga (sG h2) _)))
 have aa:qe=0:=sG h2
 rw[I (sG h2)];refine J (Y [1,2,3,4,5,10,40] [5,10] sr ?_)
 refine Au (λh3=>?_) λh3=>Ae ?_
 .exact Y [10,11] [10] sr (Ao (Ab sr (by rw[Ad (sG h3)];exact Ga dc _)))
 rw[I (sG h3)];replace l:=l (k f);replace j:=j (ah aa) (am aa);obtain⟨ar,ao,-⟩:=i (k f);replace z:=z (λx hx=>Ag (ao x hx) dc) (by have:=al (k f);omega);replace e:=e (aj f aa) (ai f);refine J (Ak (Ay 2 sr ?_));refine Ac l func64 ?_;refine Aa [1,2,3,4,5,10,14,15] [5,10] sr (J (Y [1,2,3,4,5,10,14,15,49] [5,10] sr ?_));refine A0 rfl sA (λh4=>Ae (J (Ak (Ay 7 sr ?_))));refine Ac j func65 ?_;refine Ay 1 sr (Ac z func66 ?_);refine Ay 1 sr (Ac ag func67 ?_);refine Aa [1,5,10,16] [5,10,16] sr (J (J (Ak (Ay 3 sr ?_))));refine Bq hG e func68 ?_;refine Aa [10,16,18] [10,16] sr (Y [10,16,18,73] [10,16] sr ?_)
 refine Au (λh5=>?_) λh5=>Ae ?_
 .exact Y [10,11] [10] sr (Ao (Ab sr (Ga (sG h5) _)))
 exact Y [10,11] [10] sr (Ao (Ab sr ((λh6:ce=0=>(by unfold teR;subst h6;rw[Ad rfl];exact Bj.tup (.cons ak (.cons (Bj.refl _) .nil)):Bj _ _)) (sG h5))))
def Axr(pool:List Pit)(a:List Int)(k:Nat):Bool:= !(Md pool (a.getD k 0)).isSome||(decide (0<k)&&decide (a.getD k 0<=a.getD (k-1) 0))
def A7b(pool:List Pit)(c:List Int)(a:List (Int × Int))(k:Nat):Bool:=
 !(Md pool (a.getD k (0,0)).1).isSome||(!decide ((a.getD k (0,0)).1∈c)||decide ((a.getD k (0,0)).1∈(Jj a).take k))|| !Aja (Ajb (Md pool (a.getD k (0,0)).1)).m (a.getD k (0,0)).2
def Arx(n:Nat):Bool:=Bcl (B2 n)
def Ajp(p:Po)(pool:List Pit)(t:Te):Bool:=
 if(List.range t.elig.length).any (Axr pool t.elig)=true then false
 else if p.len<t.steps.length then false
 else if(List.range t.steps.length).any (A7b pool t.elig t.steps)=true then false
 else if t.pend≠0/\(t.pend∉t.elig\/t.pend∈Jj t.steps)then false
 else if t.w.length≠p.g.pts.length\/t.w.any Arx=false then false
 else decide (0<=t.stop)&&decide (t.stop<=4)
def A09{l:List (Int × Int)}(h:k<l.length):Hj (Bd l) k=some (.agg [.i (l.getD k (0,0)).1,.i (l.getD k (0,0)).2]):=by rw[Cs h];exact Im h
def A7c(p:Po)(pool:List Pit)(t:Te)(h:teOk t):AQ 195 [p.v,.ro 9 (C5 pool),t.v] (.bool (Ajp p pool t)):=by
 have ba:=h.el;have a0:=h.sl;have a7:=h.wd;have ad:=Aw3 pool;have au:=Aqp t.steps a0;have az:=Sc;have ab:=Aw2;have al:=(A5h t.w 249 [] [] Arx (λn hn=>Agz ((Bcm (B2 n) (Cp _) (Ag (a7 n hn) dc)).q gv) func249 kr rfl)).argsR (args:=[.ro 1 (Cb t.w),.fn 249]) (.cons (Bj.refl _) (.cons (Rl 249) .nil));have bb:(Jj t.steps).length=t.steps.length:=Agw _;have a1:∀k,(Av (Jj t.steps)).take k=Av ((Jj t.steps).take k):=λk=>by simp[Av]
 have a3:=λk=>Af ((Jj t.steps).take k)
 have a9:=Af (Jj t.steps);have bc:=A4 (Jj t.steps);unfold Ajp;have a2:∀k,Axr pool t.elig k=(!(Md pool (t.elig.getD k 0)).isSome||(decide (0<k)&&decide (t.elig.getD k 0<=t.elig.getD (k-1) 0))):=λk=>rfl
 have ay:∀k,A7b pool t.elig t.steps k=(!(Md pool (t.steps.getD k (0,0)).1).isSome||(!decide ((t.steps.getD k (0,0)).1∈t.elig)||decide ((t.steps.getD k (0,0)).1∈(Jj t.steps).take k))|| !Aja (Ajb (Md pool (t.steps.getD k (0,0)).1)).m (t.steps.getD k (0,0)).2):=λk=>rfl
 have qe:=λ(k:Nat)(h:k<t.elig.length)=>Dn h
 have qs:=λ(k:Nat)(h:k<t.steps.length)=>A09 h
 have le:=A4 t.elig;have ls:=Ei t.steps;have lw:=H5 t.w;have an:=A4 p.g.pts;have ar:∀x,AE 63 [.ro 1 (Av t.elig),.i x] (.bool (decide (x∈t.elig))):=λx=>Sc t.elig x
 have a6:∀k x,AE 63 [.ro 1 (Av ((Jj t.steps).take k)),.i x] (.bool (decide (x∈(Jj t.steps).take k))):=λk x=>Sc _ x
 have ao:∀x,AE 63 [.ro 1 (Av (Jj t.steps)),.i x] (.bool (decide (x∈Jj t.steps))):=λx=>Sc _ x
 have am:=vTe t;rw[am];clear am az;have ep:=vPo p;rw[ep]at|-;clear ep;have q0:=Dr p.rules;have q1:=Af p.g.pts;have q2:=Af p.g.pri;have q3:=Bc p.en;have q4:=Aj p.var.num.mag;have q5:=Aj p.var.den;have q6:=Aj p.lvl.num.mag;have z:=Aj p.lvl.den;have o:=Aj p.rate.num.mag;have q9:=Aj p.rate.den;generalize Hu p.rules=rv at*;generalize Av p.g.pts=pt at*;generalize Av p.g.pri=pr at*;generalize Bd p.en=ev at*;generalize A2 p.var.num.mag=vm at*;generalize A2 p.var.den=vd at*;generalize A2 p.lvl.num.mag=lm at*;generalize A2 p.lvl.den=ld at*;generalize A2 p.rate.num.mag=rm at*;generalize A2 p.rate.den=rd at*;have s1:=Af t.elig;have s:=Bc t.steps;have u:=B1 t.w;have s4:=Cx pool;have pF:=λ(x:Int)=>Gn (Ajb (Md pool x))
 have ak:=λ(x:Int)=>D7 (Ajb (Md pool x)).m
 have ax:∀m:Mo,moV m=.agg [.ro 1 (Es m)]:=λm=>rfl
 simp only[ax]at ab;generalize a8:Av t.elig=ti at*;generalize Bd t.steps=ts at*;generalize Cb t.w=tw at*;generalize C5 pool=lv at*;generalize Av (Jj t.steps)=gi at*;generalize Axr pool t.elig=be at*;generalize A7b pool t.elig t.steps=bs at*;refine B0 func195 λw0 N0 hG=>?_;refine Y [1,3,5] [3,5] sr (J (A9 [18,19,20] sr ?_));refine Ah (Bu (λk nx=>⟨[(1,V.ro 9 lv),(3,V.bp 3 (0) 18 0 0),(5,V.bp 5 (1) 6 0 0),(18,.ro 1 ti),(19,_),(20,V.i k)],[(3,{ v:=0,sz:=18,ty:=36,es:=[V.agg [.i p.len,.ro 5 rv,.ro 1 pt,.ro 1 pr,.ro 2 ev,.i p.mn,.bool p.var.num.neg,.ro 1 vm,.ro 1 vd,.i p.cut,.bool p.lvl.num.neg,.ro 1 lm,.ro 1 ld,.i p.top,.bool p.rate.num.neg,.ro 1 rm,.ro 1 rd,.i p.slack]]}),(5,{ v:=1,sz:=6,ty:=51,es:=[V.agg [.ro 1 ti,.ro 2 ts,.i t.pend,.ro 1 tw,.int .u64 t.draw,.i t.stop]]})],nx,138⟩) (λk=>((List.range t.elig.length).take k).any be=false) t.elig.length _ sm Z ?_);intro k nx hk hI;refine Y [1,3,5,18,19,20,21] [3,5] sr (J ?_)
 refine Au (λh1=>Ae ?_) λh1=>?_
 .have d:k<t.elig.length:=by simp at h1;omega
  have e:k<ti.length:=om;have ga:=qe k d;have hb:=a2 k;have Ee:=A5 (k:=k) om;have aa:=λh=>Ib t.elig.length k be d hI h
  have i:=λh=>Nq (f:=be) d h
  have a:=ad (t.elig.getD k 0);rw[pF]at a;have pm:=ak (t.elig.getD k 0);have a4:∀j,k=j+1->be k=(!(Md pool (t.elig.getD k 0)).isSome||decide (t.elig.getD k 0<=t.elig.getD j 0)):=λj hj=>by rw[hb,hj];simp
  generalize t.elig.getD k 0=x at*;generalize Es (Ajb (Md pool x)).m=mv at*;refine J (Ah (Y [1,3,5,7,8,18,19,20] [3,5] (by simp[ga,e]<;>rfl) ?_));refine J (Ak (Ay 2 sr ?_));refine Ac a func204 ?_;refine Aa [1,3,5,7,8,10,18,19,20] [3,5] sr ?_
  cases hfd:(Md pool x).isSome
  .refine J (Ak (Ay 3 sR ?_));refine Kd 12 sr ?_;refine Aa [1,3,5,18,19,20,46] [3,5] sr ?_;refine A0 rfl (λh2=>?_) sA;refine Y [6] [] sr ?_;exact Ao (Ab sr (by rw[Ad (i (by rw[hb,hfd];rfl))]))
  rcases k with _ |j
  .refine J (Ak (Ay 6 sR ?_));refine Kd 8 sr ?_;refine Aa [1,3,5,18,19,20,46] [3,5] sr ?_;refine A0 rfl sA λh2=>Ae (Ba [1,3,5,18,19,20] [3,5] sR ?_);exact⟨d,aa (by rw[hb,hfd];simp),_,Z⟩
  .have gp:=qe j om;have aw:j<ti.length:=om;have a5:IntKind.i64.wrap (((j+1:Nat):Int)-1)=(j:Int):=by rw[Bp om oM];omega
   have ai:=a4 j rfl;generalize t.elig.getD j 0=y at*;refine Y [1,3,5,18,19,20,46] [3,5] (by simp[gp,aw,a5,-Int.natCast_add]<;>rfl) ?_
   refine Au (λh2=>?_) λh2=>Ae ?_
   .refine Y [6] [] sr ?_;exact Ao (Ab sr (by rw[Ad (i (by rw[ai,hfd];simpa using h2))]))
   refine Ba [1,3,5,18,19,20] [3,5] (by simp[Ee,-Int.natCast_add]<;>rfl) ?_;exact⟨d,aa (by rw[ai,hfd];simpa using h2),_,Z⟩
 .refine A6 ?_;have af:k=t.elig.length:=sO h1
  rw[af,Bi (by simp)]at hI;simp only[hI,F4,if_false];refine J (Y [1,3,5,54] [3,5] sr ?_)
  refine Au (λh3=>?_) λh3=>Ae ?_
  .refine Y [6] [] sr ?_;exact Ao (Ab sr (by rw[Ad (by simpa[ls]using h3)]))
  rw[I (by simpa[ls]using h3)];refine J (Ak (Ay 2 sr ?_));refine Ac au func122 ?_;refine Aa [1,3,5,11] [3,5] sr ?_;refine J (A9 [59,60,61] sr ?_);refine Ah (Bu (λk nx=>⟨[(1,V.ro 9 lv),(3,V.bp 3 (0) 18 0 0),(5,V.bp 5 (1) 6 0 0),(11,_),(59,.ro 2 ts),(60,_),(61,V.i k)],[(3,{ v:=0,sz:=18,ty:=36,es:=[V.agg [.i p.len,.ro 5 rv,.ro 1 pt,.ro 1 pr,.ro 2 ev,.i p.mn,.bool p.var.num.neg,.ro 1 vm,.ro 1 vd,.i p.cut,.bool p.lvl.num.neg,.ro 1 lm,.ro 1 ld,.i p.top,.bool p.rate.num.neg,.ro 1 rm,.ro 1 rd,.i p.slack]]}),(5,{ v:=1,sz:=6,ty:=51,es:=[V.agg [.ro 1 ti,.ro 2 ts,.i t.pend,.ro 1 tw,.int .u64 t.draw,.i t.stop]]})],nx,138⟩) (λk=>((List.range t.steps.length).take k).any bs=false) t.steps.length _ sm Z ?_);intro k nx hk ae;refine Y [1,3,5,11,59,60,61,62] [3,5] sr ?_;refine J ?_
  refine Au (λh4=>Ae ?_) λh4=>?_
  .have d:k<t.steps.length:=by simp at h4;omega
   have e:k<ts.length:=om;have ga:=qs k d;have hb:=ay k;have Ee:=A5 (k:=k) om;have aa:=λh=>Ib t.steps.length k bs d ae h
   have i:=λh=>Nq (f:=bs) d h
   have a:=ad (t.steps.getD k (0,0)).1;rw[pF]at a;have pm:=ak (t.steps.getD k (0,0)).1;have l:=ab (Ajb (Md pool (t.steps.getD k (0,0)).1)).m (t.steps.getD k (0,0)).2;have av:=ar (t.steps.getD k (0,0)).1;have ah:=a6 k (t.steps.getD k (0,0)).1;have gt:=a1 k;have aq:=a3 k;have aj:(0:Int)<=(k:Int)/\(k:Int)<=gi.length:=om;generalize t.steps.getD k (0,0)=sp at*;have⟨x,y⟩:=sp;simp only at hb ga a pm l av ah;generalize Es (Ajb (Md pool x)).m=mv at*;refine J (Ah (Y [1,3,5,11,12,13,59,60,61] [3,5,13] (by simp[ga,e]<;>rfl) ?_));refine J (Ak (Ay 3 sr ?_));refine Ac a func204 ?_;refine Aa [1,3,5,11,12,13,14,15,59,60,61] [3,5,13,14] sr ?_;refine J (J (Di [(0,[]),(1,[]),(2,[]),(3,[]),(5,[]),(4,[]),(6,[]),(7,[]),(8,[]),(9,[]),(10,[]),(11,[]),(12,[]),(13,[]),(14,[]),(15,[]),(16,[]),(17,[])] Eb kr ?_));refine Ci 7 sR ?_;refine B4 (λhg=>av) func63 ?_;refine Ci 8 (by simp[aj,gt]<;>rfl) ?_;refine B4 (λhg=>ah) func63 ?_;refine Dj [1,3,5,11,13,14,59,60,61,90] [3,5,13,14] sr ?_
   refine Au (λh5=>?_) λh5=>Ae ?_
   .refine Y [6] [] sr ?_;exact Ao (Ab sr (by rw[Ad (i (by rw[hb];simp at h5|-;exact .inl (by simpa[or_assoc]using h5)))]))
   refine J (Ak (Ay 4 sr ?_));refine Ac l func205 ?_;refine Aa [1,3,5,11,59,60,61,96] [3,5] sr ?_;have ag:(!(Md pool x).isSome||(!decide (x∈t.elig)||decide (x∈(Jj t.steps).take k)))=false:=by simpa[and_assoc]using h5
   refine Au (λh6=>?_) λh6=>Ae ?_
   .refine Y [6] [] sr ?_;exact Ao (Ab sr (by rw[Ad (i (by rw[hb,ag];simpa using h6))]))
   refine Ba [1,3,5,11,59,60,61] [3,5] (by simp[Ee]<;>rfl) ?_;exact⟨d,aa (by rw[hb,ag];simpa using h6),_,Z⟩
  .refine A6 ?_;have af:k=t.steps.length:=sO h4
   rw[af,Bi (by simp)]at ae;simp only[ae,F4,if_false];refine J (J (Ak (Ay 8 sr ?_)));refine Gf (c:= !decide (t.pend=0)) (λhg=>ar t.pend) func63 ?_;refine Ay 5 sr ?_;refine Gf (c:= !decide (t.pend=0)&&decide (t.pend∈t.elig)) (λhg=>ao t.pend) func63 ?_;refine Aa [3,5,114] [3,5] sr ?_
   refine Au (λh7=>?_) λh7=>Ae ?_
   .refine Y [6] [] sr ?_;exact Ao (Ab sr (by rw[Ad (sG h7)]))
   rw[I (sG h7)];refine Y [3,5,16] [3,5] sr ?_;refine J (J (Ak (Ay 12 sr ?_)));refine Rb hG (λhg=>al) func251 rfl kr sr rfl rfl sr sM sr ?_;refine Aa [5,129] [5] sr ?_
   refine Au (λh8=>?_) λh8=>Ae ?_
   .refine Y [6] [] sr ?_;exact Ao (Ab sr (by rw[Ad (by simpa[lw,an,Int.natCast_inj]using h8)]))
   rw[I (by simpa[lw,an,Int.natCast_inj]using h8)];refine Y [6] [] sr ?_;exact Ao (Ab sr (rfl))
def Abm(p:Po)(pool:List Pit)(t:Te):Int:=if Ajp p pool t=false then 1 else if t.stop≠0 then 21 else 0
def Ary{p:Po}{pool:List Pit}{t:Te}(a:Ajp p pool t=true)(f:Li p.g=0)(j:Ks t.w 1000):sumsOk p.g t.w:=by
 unfold Ajp at a
 (repeat' split at a)<;>try(cases a)
 rename_i _ _ _ _ d
 have c:t.w.length=p.g.pts.length/\t.w.any Arx=true:=by
  refine⟨Hx λh=>d (.inl h),?_⟩
  cases e:t.w.any Arx
  .exact absurd (.inr e) d
  .rfl
 refine⟨f,c.1,j,Xl.2 ?_⟩;have⟨x,i,hp⟩:=Ew.1 c.2;refine⟨x,i,λe=>?_⟩;subst e;revert hp;simp[Arx,Bcl,C4,bitLen]
def Alz(p:Po)(pool:List Pit)(t:Te)(h:AdP p pool)(ht:teOk t):Kb gv prog 139 [p.v,.ro 9 (C5 pool),t.v] (λr=>r=.i (Abm p pool t)):=by
 have c:=Qo p h.ok;have d:=Mt pool p.g.pts.length;have a:=A7c p pool t ht;rw[h.pe]at c;rw[h.le]at d;unfold Abm;generalize Ajp p pool t=fb at*;rw[<-(A4 p.g.pts)]at d;rw[(vTe t)]at a|-;have ep:=vPo p;rw[ep]at c a|-;clear ep;have q0:=Dr p.rules;have k:=Af p.g.pts;have z:=Af p.g.pri;have y:=Bc p.en;have s:=Aj p.var.num.mag;have q5:=Aj p.var.den;have x:=Aj p.lvl.num.mag;have i:=Aj p.lvl.den;have l:=Aj p.rate.num.mag;have o:=Aj p.rate.den;generalize Hu p.rules=rv,Av p.g.pts=pt,Av p.g.pri=pr,Bd p.en=ev,A2 p.var.num.mag=vm,A2 p.var.den=vd,A2 p.lvl.num.mag=lm,A2 p.lvl.den=ld,A2 p.rate.num.mag=rm,A2 p.rate.den=rd at*;have s1:=Af t.elig;have m:=Bc t.steps;have n:=B1 t.w;have s4:=Cx pool;have aa:=Ei t.steps;generalize Av t.elig=ti,Bd t.steps=ts,Cb t.w=tw,C5 pool=lv at*;refine B0 func139 λw0 N0 hG=>?_;refine Y [1,3,5] [3,5] sr (J (J (Ak (Ay 1 sr ?_))));refine Bq hG c func28 ?_;refine Aa [1,3,5,7] [3,5] sr (Y [1,3,5,7,12] [3,5] sr ?_);refine A0 rfl sA (λh1=>Ae (J (J (Ak (Ay 5 sr ?_)))));refine Bq hG d func29 ?_;refine Aa [1,3,5,8] [3,5] sr (Y [1,3,5,8,21] [3,5] sr ?_);refine A0 rfl sA (λh2=>Ae (J (J (Ak (Ay 3 sr ?_)))));refine Bq hG a func195 ?_;refine Aa [5,27] [5] sr ?_
 refine Au (λe=>?_) λe=>Ae ?_
 .exact Y [6] [] sr (Ao (Ab sr (by rw[Ad (sG e)])))
 refine J (Y [30] [] sr ?_)
 refine Au (λj=>?_) λj=>Ae ?_
 .exact Y [6] [] sr (Ao (Ab sr (by rw[I (sG e),Ad (sG j)])))
 exact Y [6] [] sr (Ao (Ab sr (by rw[I (sG e),I (sG j)])))
def Bcy(p:Po)(n:Nat):Nat:=min p.top.toNat n
def A1a(p:Po)(pool:List Pit)(t:Te):Int:=
 if Abm p pool t≠0 then Abm p pool t else if t.pend≠0 then 0 else if(t.steps.length:Int)=p.len then 21
 else if Adf p pool t≠0 then Adf p pool t else if Bcy p (Adg p pool t).length=0 then 14 else 0
def Aoc(p:Po)(pool:List Pit)(t:Te):Te:=
 if t.pend≠0 then t else { t with pend:=(Adg p pool t).getD (Rj t.draw (Bcy p (Adg p pool t).length)) 0,draw:=U8 t.draw}
def Ahw{p:Po}{pool:List Pit}{t:Te}(h:Abm p pool t=0):Ajp p pool t=true/\t.stop=0:=by
 unfold Abm at h
 (repeat' split at h)<;>try omega
 rename_i h1 h2;exact⟨by simpa using h1,by simpa using h2⟩
def Arz(p:Po)(pool:List Pit)(t:Te)(h:AdP p pool)(ht:teOk t)(hw:Ks t.w 1000):AQ 87 [p.v,.ro 9 (C5 pool),t.v] (teR (A1a p pool t) (Aoc p pool t)):=by
 refine Kb.relaxP ?_;have f:=Alz p pool t h ht;have i:=Als t ht;have ag:=λ(hc:Abm p pool t=0)=>Ary (Ahw hc).1 (Zb h.pe).2.1 hw
 have j:=λ(hc:Abm p pool t=0)=>Alx p pool t h (ag hc) ht.sl
 have hb:=(Zb h.pe).2.2.2
 have aq:1<=p.top/\p.top<=5:=by
  unfold Bbu at hb;simp only[Fh,decide_eq_false_iff_not]at hb;omega
 unfold A1a Aoc;have pL:=Af (Aob (Adf p pool t) (Adg p pool t));have u:Adf p pool t=0->Aob (Adf p pool t) (Adg p pool t)=Adg p pool t:=λe=>by unfold Aob;rw[Ad e]
 have ah:=λ(l:List Int)(k:Nat)(h:k<l.length)=>Dn (l:=l) h
 generalize aw:Adf p pool t=ce at*;generalize Aob ce (Adg p pool t)=a at*;generalize Adg p pool t=L at*;generalize Abm p pool t=ck at*;have⟨o,aa⟩:=Cr (show 0<=p.top by omega);have ak:Bcy p L.length=min o L.length:=by unfold Bcy;rw[aa];rfl
 rw[ak];have s:∀(pd d:Int),Bj (.agg [.ro 1 (Av t.elig),.ro 2 (Bd t.steps),.i pd,.ro 1 (Cb t.w),.int .u64 d,.i t.stop]) (Te.v { t with pend:=pd,draw:=d}):=λpd d=>Bj.refl _
 have x:Bj (.agg [.ro 1 (Av t.elig),.ro 2 (Bd t.steps),.i t.pend,.ro 1 (Cb t.w),.int .u64 t.draw,.i t.stop]) (Te.v t):=Bj.refl _;have ab:=vTe t;rw[ab]at f i j;rw[ab];have ep:=vPo p;rw[ep]at f j|-;clear ep;have q0:=Dr p.rules;have q1:=Af p.g.pts;have q2:=Af p.g.pri;have q3:=Bc p.en;have q4:=Aj p.var.num.mag;have q5:=Aj p.var.den;have q6:=Aj p.lvl.num.mag;have y:=Aj p.lvl.den;have q8:=Aj p.rate.num.mag;have q9:=Aj p.rate.den;generalize Hu p.rules=rv at*;generalize Av p.g.pts=pt at*;generalize Av p.g.pri=pr at*;generalize Bd p.en=ev at*;generalize A2 p.var.num.mag=vm at*;generalize A2 p.var.den=vd at*;generalize A2 p.lvl.num.mag=lm at*;generalize A2 p.lvl.den=ld at*;generalize A2 p.rate.num.mag=rm at*;generalize A2 p.rate.den=rd at*;have s1:=Af t.elig;have s2:=Bc t.steps;have s3:=B1 t.w;have s4:=Cx pool;have ad:=Ei t.steps;generalize Av t.elig=ti at*;generalize Bd t.steps=ts at*;generalize Cb t.w=tw at*;generalize C5 pool=lv at*;refine B0 func87 λw0 N0 hG=>?_;refine Y [1,3,5,6] [3,5,6] sr (J (J (Ak (Ay 3 sr ?_))));refine Bq hG f func139 ?_;refine Aa [1,3,5,6,8] [3,5,6] sr (A9 [20] sr ?_)
 refine Au (λh1=>?_) λh1=>Ae ?_
 .exact Y [6,7] [6] sr (Ao (Ab sr (by rw[Ad (sG h1)];exact Ga (sG h1) _)))
 have ai:ck=0:=sG h1
 replace j:=j ai;rw[I (sG h1)];refine J (Y [1,3,5,6,25] [3,5,6] sr ?_)
 refine Au (λh2=>?_) λh2=>Ae ?_
 .refine J (Ak (Ay 1 sr ?_));refine Ac i func140 ?_;exact Aa [6,7] [6] sr (Ao (Ab sr (by rw[Ad (sG h2)];unfold teR;rw[Ad rfl,Ad (sG h2)];exact Bj.tup (.cons x (.cons (Bj.refl _) .nil)))))
 rw[I (sG h2)];refine J (Y [1,3,5,6,34] [3,5,6] sr ?_)
 refine Au (λh3=>?_) λh3=>Ae ?_
 .exact Y [6,7] [6] sr (Ao (Ab sr (by rw[Ad (by simpa[ad]using h3)];exact Ga dc _)))
 rw[I (by simpa[ad]using h3)];refine J (Ak (Ay 3 sr ?_));refine Bq hG j func68 ?_;refine Aa [3,5,6,9,10] [3,5,6] sr (J (A9 [44] sr ?_))
 refine Au (λz=>?_) λz=>Ae ?_
 .exact Y [6,7] [6] sr (Ao (Ab sr (by rw[Ad (sG z)];exact Ga (sG z) _)))
 have ao:ce=0:=sG z
 rw[I (sG z)];replace u:=u ao;subst u;have an:=ah a;have aj:=A4 a;rw[aa];generalize Av a=cv at*;have c:(if cv.length<o then(cv.length:Int)else(o:Int))=((min o a.length:Nat):Int):=by rw[aj];split<;>omega
 refine Y [5,6,9,11] [5,6] sr (J (A9 [53] sr ?_))
 refine Au (λh5=>?_) λh5=>Ae ?_
 .exact Y [6,7] [6] sr (Ao (Ab sr (by rw[c]at h5;rw[Ad (show min o a.length=0 by simpa using h5)];exact Ga dc _)))
 have am:¬min o a.length=0:=λe=>by rw[c,e]at h5;simp at h5
 rw[I am,c];have ar:min o a.length<=a.length:=Ub _ _;have ax:min o a.length<=5:=om;generalize min o a.length=m at*;have af:=A48 t.draw m om om;have av:=Az6 t.draw (n:=m) om;have gk:=an (Rj t.draw m) om;have al:Rj t.draw m<cv.length:=om;have s:=s (a.getD (Rj t.draw m) 0) (U8 t.draw);have ae:(if t.pend≠0 then t else { t with pend:=a.getD (Rj t.draw m) 0,draw:=U8 t.draw})= { t with pend:=a.getD (Rj t.draw m) 0,draw:=U8 t.draw}:=I (sG h2);rw[ae];unfold teR;rw[Ad rfl];generalize Rj t.draw m=bk at*;generalize a.getD bk 0=au at*;refine J (Ak (Ay 1 sr ?_));refine Ac i func140 ?_;refine Aa [5,6,9,11,12] [5,6,12] sr (J (Ak (Ay 3 sr ?_)));refine Ac af func141 ?_;refine Aa [6,9,12,13,14] [6,12] sr (Y [6,12] [6,12] (by simp[gk,al]<;>rfl) (Y [6,7] [6] sr ?_));exact Ao (Ab sr (Bj.tup (.cons s (.cons (Bj.refl _) .nil))))
def Bgo(t:Te)(g:teOk t):AC prog 95 [t.v] (λr=>r=teR (if t.stop≠0 then 21 else 0) { t with pend:=0,stop:=4}):=by
 refine AC.relaxP ?_;have a:=Als t g;have d:Bj (.agg [.ro 1 (Av t.elig),.ro 2 (Bd t.steps),.i 0,.ro 1 (Cb t.w),.int .u64 t.draw,.i 4]) (Te.v { t with pend:=0,stop:=4}):=Bj.refl _;have c:=vTe t;rw[c]at a;rw[c];have f:=Af t.elig;have h:=Bc t.steps;have e:=B1 t.w;generalize Av t.elig=ti,Bd t.steps=ts,Cb t.w=tw at*;refine Aq func95 λw0 N0=>?_;refine Y [1,2] [1,2] sr (J (Y [1,2,7] [1,2] sr ?_))
 refine Au (λh1=>?_) λh1=>Ae ?_
 .exact Y [2,3] [2] sr (Ao (Ab sr (by rw[Ad (sG h1)];exact Ga dc _)))
 refine J (Ak (Ay 1 sr ?_));refine Ac a func140 ?_;refine Aa [2,4] [2,4] sr (Y [2,4] [2,4] sr ?_);exact Y [2,3] [2] sr (Ao (Ab sr (by rw[I (sG h1)];unfold teR;rw[Ad rfl];exact Bj.tup (.cons d (.cons (Bj.refl _) .nil)))))
def A7d{p:Po}{pool:List Pit}{t:Te}(c:Ajp p pool t=true):(∀id∈t.elig,(Md pool id).isSome=true)/\(t.pend≠0->t.pend∈t.elig/\t.pend∉Jj t.steps):=by
 unfold Ajp at c
 (repeat' split at c)<;>try(cases c)
 rename_i h1 _ _ d _
 refine⟨λid a=>?_,λg=>?_⟩
 .obtain⟨k,f,rfl⟩:=Ju.1 a
  cases e:(Md pool t.elig[k]).isSome
  .exact absurd (Ew.2 ⟨k,Hq.2 f,by unfold Axr;rw[Cs f,e];rfl⟩) h1
  .rfl
 .constructor
  .exact Hx λh=>d ⟨g,.inl h⟩
  .exact λh=>d ⟨g,.inr h⟩
def P4(pool:List Pit)(id:Int):Mo:=(Ajb (Md pool id)).m
def Bcz{pool:List Pit}{n:Int}{id:Int}(h:J5 pool n=0)(hs:(Md pool id).isSome=true):Lj (P4 pool id) n=0:=by
 have⟨x,a⟩:=Ct.1 hs;unfold P4;rw[a];exact(Xg h).2.2 x (R3 a)
def X0(pool:List Pit)(t:Te)(c:Int):List Nat:=Ri (Qp t.w (P4 pool t.pend) c.toNat)
def Aod(p:Po)(pool:List Pit)(t:Te)(c:Int):Int:=
 if Abm p pool t≠0 then Abm p pool t else if t.pend=0 then 8 else if Aja (P4 pool t.pend) c=false then 3
 else(A06 p (t.steps.length+1) (X0 pool t c)).2
def Zc(p:Po)(pool:List Pit)(t:Te)(c:Int):Te:=
 { elig:=t.elig,steps:=t.steps++[(t.pend,c)],pend:=0,w:=X0 pool t c,draw:=t.draw,stop:=(A06 p (t.steps.length+1) (X0 pool t c)).1}
def Al0{p:Po}{pool:List Pit}{t:Te}{c:Int}(h:AdP p pool)(r:Ajp p pool t=true)(u:t.pend≠0)(i:Aja (P4 pool t.pend) c=true)(hn:n<=999)(l:Ks t.w n):
  sumsOk p.g (X0 pool t c)/\Ks (X0 pool t c) (n+1)/\Ks (Qp t.w (P4 pool t.pend) c.toNat) (n+1)/\(Qp t.w (P4 pool t.pend) c.toNat).length=t.w.length/\Lj (P4 pool t.pend) t.w.length=0/\c.toNat<Xs (P4 pool t.pend)/\0<=c:=by
 have hs:=Ary r (Zb h.pe).2.1 (λx d=>Ag (l x d) om);have a:=A7d r;have m:Lj (P4 pool t.pend) t.w.length=0:=by rw[hs.len];exact Bcz h.le (a.1 _ (a.2 u).1)
 have e:0<=c/\c<Xs (P4 pool t.pend):=by unfold Aja at i;simpa using i
 have k:c.toNat<Xs (P4 pool t.pend):=om;have⟨o,j,s⟩:=A69 m k l hs.pos;have f:=Abl j;exact⟨⟨hs.grid,by unfold X0;rw[Afb,o,hs.len],λx d=>Ag (f x d) om,A68 s⟩,f,j,o,m,k,e.1⟩
def Avb(p:Po)(pool:List Pit)(t:Te)(c:Int)(h:AdP p pool)(ht:teOk t)(hw:Ks t.w 999)(av:t.steps.length<=900):
  Kb gv prog 148 [p.v,.ro 9 (C5 pool),t.v,.i c] (λr=>r=teR (Aod p pool t c) (Zc p pool t c)):=by
 refine Kb.relaxP ?_;have e:=Alz p pool t h ht;have i:=Alr t ht;have f:=Aw3 pool t.pend;have l:=Aw2 (P4 pool t.pend) c;have ak:=λ(hc:Abm p pool t=0)(h0:t.pend≠0)(hh:Aja (P4 pool t.pend) c=true)=>Al0 h (Ahw hc).1 h0 hh (A7 999) hw
 have ar:=ht.wl;have a:=λh1 h2=>Az5 t.w (P4 pool t.pend) c.toNat h1 h2 (λx hx=>Ag (hw x hx) dc)
 have j:=λh1=>Agq (Qp t.w (P4 pool t.pend) c.toNat) h1
 have d:=λh1=>Au8 p (t.steps.length+1) (X0 pool t c) h.ok h.pe h1
 change∀h1 h2,AC prog 66 _ (λr=>r=.ro 1 (Cb (X0 pool t c)))at j;unfold Aod Zc;have pu:=B1 (Qp t.w (P4 pool t.pend) c.toNat);have pw:=B1 (X0 pool t c);have pm:=D7 (P4 pool t.pend);rw[(Gn (Ajb (Md pool t.pend)))]at f;change AC _ _ _ (λr=>r=V.tup [V.agg [_,_,_,_,_,_,_,_,V.ro 1 (Es (P4 pool t.pend))],_])at f;have al:moV (P4 pool t.pend)=.agg [.ro 1 (Es (P4 pool t.pend))]:=rfl;rw[al]at l a;have ah:Bd t.steps++[V.agg [.i t.pend,.i c]]=Bd (t.steps++[(t.pend,c)]):=by simp[Bd]
 have ab:=Bc (t.steps++[(t.pend,c)]);have aj:∀st:Int,Bj (.agg [.ro 1 (Av t.elig),.ro 2 (Bd (t.steps++[(t.pend,c)])),.i 0,.ro 1 (Cb (X0 pool t c)),.int .u64 t.draw,.i st]) (Te.v { elig:=t.elig,steps:=t.steps++[(t.pend,c)],pend:=0,w:=X0 pool t c,draw:=t.draw,stop:=st}):=λst=>Bj.refl _
 have ai:t.steps.length+1<=maxLen/\(t.steps.length+1)*16<=140737488355328:=by unfold maxLen;omega
 generalize(A06 p (t.steps.length+1) (X0 pool t c))=rs,Cb (X0 pool t c)=rwv,Cb (Qp t.w (P4 pool t.pend) c.toNat)=uv,Es (P4 pool t.pend)=mv,Aja (P4 pool t.pend) c=hb,Abm p pool t=ck at*;unfold teV at i;have aa:=vTe t;rw[aa]at e i;rw[aa];have ep:=vPo p;rw[ep]at e d|-;clear ep;have q0:=Dr p.rules;have s:=Af p.g.pts;have q2:=Af p.g.pri;have q3:=Bc p.en;have q4:=Aj p.var.num.mag;have q5:=Aj p.var.den;have q6:=Aj p.lvl.num.mag;have m:=Aj p.lvl.den;have n:=Aj p.rate.num.mag;have z:=Aj p.rate.den;generalize Hu p.rules=rv,Av p.g.pts=pt,Av p.g.pri=pr,Bd p.en=ev,A2 p.var.num.mag=vm,A2 p.var.den=vd,A2 p.lvl.num.mag=lm,A2 p.lvl.den=ld,A2 p.rate.num.mag=rm,A2 p.rate.den=rd at*;have s1:=Af t.elig;have u:=Bc t.steps;have y:=B1 t.w;have s4:=Cx pool;have am:=Ei t.steps;generalize Av t.elig=ti,Bd t.steps=ts,Cb t.w=tw,C5 pool=lv at*;refine B0 func148 λw0 N0 hG=>?_;refine Y [1,3,4,6,8] [4,6,8] sr (J (J (Ak (Ay 3 sr ?_))));refine Bq hG e func139 ?_;refine Aa [1,3,4,6,8,10] [4,6,8] sr (Y [1,3,4,6,8,10,21] [4,6,8] sr ?_)
 refine Au (λh1=>?_) λh1=>Ae ?_
 .exact Y [8,9] [8] sr (Ao (Ab sr (by rw[Ad (sG h1)];exact Ga (sG h1) _)))
 have af:=sG h1
 rw[I (sG h1)];refine J (Y [1,3,4,6,8,26] [4,6,8] sr ?_)
 refine Au (λh2=>?_) λh2=>Ae ?_
 .exact Y [8,9] [8] sr (Ao (Ab sr (by rw[Ad (sG h2)];exact Ga dc _)))
 rw[I (sG h2)];refine J (Ak (Ay 3 sr ?_));refine Ac f func204 ?_;refine Aa [3,4,6,8,11] [4,6,8,11] sr (J (J (Ak (Ay 3 sr ?_))));refine Ac l func205 ?_;refine Aa [3,4,6,8,11,39] [4,6,8,11] sr ?_
 refine Au (λh3=>?_) λh3=>Ae ?_
 .exact Y [8,9] [8] sr (Ao (Ab sr (by rw[Ad (sG h3)];exact Ga dc _)))
 have ae:=sG h3
 rw[I (sG h3)];have⟨r1,r2,r3,r4,r5,r6,r7⟩:=ak af (show t.pend≠0 by simpa using h2) ae;replace a:=a r5 r6;replace j:=j (λx hx=>Ag (r3 x hx) dc) om;replace d:=d r1;have an:((c.toNat:Nat):Int)=c:=om;rw[an]at a;refine J (Ak (Ay 5 sr ?_));refine Ac a func206 ?_;refine Aa [3,4,6,8,13,14] [4,6,8] sr (J (Y [3,4,6,8,13,14,51] [4,6,8] sr ?_));refine A0 rfl sA (λh4=>Ae (J (Ak (Ay 1 sr ?_))));refine D0 i func196 rfl kr rfl rfl rfl sr (λk o hk=>by cases hk) ?_ λch ad=>ad.elim;rintro r ao au⟨y1,y2,rfl,rfl⟩aq;refine⟨λk hk=>rfl,_,by simp<;>rfl,?_⟩;refine Aa [3,4,6,8,13,15] [4,6,8,15,18,101] sr (Y [4,8,13,15] [4,8,15,101] (by simp[am,ai]<;>rfl) ?_);rw[ah];refine Bw 101 [4,8,13,15] [4,8,15] Du (J (Ak (Ay 1 sr ?_)));refine Ac j func66 ?_;refine Aa [4,8,15] [4,8,15] sr (Y [4,8,15] [4,8,15] sr (J (Ak (Ay 6 sr ?_))));refine Bq hG d func207 ?_;refine Aa [8,14,15] [8,15] sr (J (Y [8,14,15,81] [8,15,63] sr ?_))
 refine Au (λh5=>?_) λh5=>Ae ?_
 .exact Y [8,9] [8] sr (Ao (Ab sr (Ga (sG h5) _)))
 exact Y [8,9] [8] sr (Ao (Ab sr ((λh6:rs.2=0=>(by unfold teR;rw[h6,Ad rfl];exact Bj.tup (.cons (aj rs.1) (.cons (Bj.refl _) .nil)):Bj _ _)) (sG h5))))
variable {de ex nu:Int}
def Ajq(nu de ex:Int):Int:=if de<1\/100<de then 3 else if nu<de\/4*de<nu then 3 else if ex<0\/86400<ex then 3 else 0
def Aef(nu de ex:Int):AC prog 33 [.agg [.i nu,.i de,.i ex]] (λr=>r=.i (Ajq nu de ex)):=by
 unfold Ajq;refine Aq func33 λw0 N0=>?_;refine Y [1] [1] sr (J (Y [1,10] [1] sr ?_))
 refine Au (λh1=>?_) λh1=>Ae ?_
 .exact Y [2] [] sr (Ao (Ab sr (by rw[Ad (sG h1)])))
 rw[I (sG h1)];have hd:=sO h1
 have c:IntKind.i64.wrap (4*de)=4*de:=Bp om om;refine J (Y [1,23] [1] Du ?_)
 refine Au (λh2=>?_) λh2=>Ae ?_
 .exact Y [2] [] sr (Ao (Ab sr (by rw[Ad (sG h2)])))
 rw[I (sG h2)];refine J (Y [31] [] sr ?_)
 refine Au (λa=>?_) λa=>Ae ?_
 .exact Y [2] [] sr (Ao (Ab sr (by rw[Ad (sG a)])))
 exact Y [2] [] sr (Ao (Ab sr (by rw[I (sG a)])))
def A1b(sc nu de ex:Int):Int:=if Ajq nu de ex≠0\/sc<0\/9999999<sc then 3 else 0
def Bc0(sc nu de ex:Int):Int:=if A1b sc nu de ex≠0 then 0 else(sc*nu+de-1)/de+ex
def Bc1(h:Ajq nu de ex=0):(1<=de/\de<=100)/\(de<=nu/\nu<=4*de)/\0<=ex/\ex<=86400:=by
 unfold Ajq at h
 (repeat' split at h)<;>omega
def Bgp{sc:Int}(h:A1b sc nu de ex=0):0<=sc*nu+de-1/\sc*nu+de-1<=4000000099/\0<=sc*nu/\(0<=(sc*nu+de-1)/de/\(sc*nu+de-1)/de<=4000000099)/\1<=de/\0<=ex/\ex<=86400:=by
 unfold A1b at h
 split at h
 .omega
 rename_i h2;have c:=Hx λe=>h2 (.inl e)
 have hs:0<=sc/\sc<=9999999:=by
  constructor
  .exact Hx λe=>h2 (.inr (.inl om))
  .exact Hx λe=>h2 (.inr (.inr om))
 have⟨a,h4,d⟩:=Bc1 c;have f:0<=sc*nu:=Int.mul_nonneg hs.1 om;have m2:sc*nu<=9999999*400:=Int.mul_le_mul hs.2 om om om;refine⟨by omega,by omega,f,⟨Int.ediv_nonneg om om,?_⟩,a.1,d⟩;exact Int.le_trans (Int.ediv_le_self _ om) om
def A7e(sc nu de ex:Int):AC prog 142 [.i sc,.agg [.i nu,.i de,.i ex]] (λr=>r=.tup [.i (Bc0 sc nu de ex),.i (A1b sc nu de ex)]):=by
 have e:=Aef nu de ex;have d:=Bgp (sc:=sc) (nu:=nu) (de:=de) (ex:=ex);have a:A1b sc nu de ex=if Ajq nu de ex≠0\/sc<0\/9999999<sc then 3 else 0:=rfl
 unfold Bc0;generalize A1b sc nu de ex=le,Ajq nu de ex=ae at*;refine Aq func142 λw0 N0=>?_;refine Y [0,3] [3] sr (J (J (Ak (Ay 1 sr ?_))));refine Ac e func33 ?_;refine Aa [0,3,16] [3] sr ?_
 refine Au (λh1=>?_) λh1=>Ae ?_
 .exact Y [4,5] [] sr (Ao (Ab sr (by rw[a.trans (Ad (by simpa[or_assoc]using h1))];rfl)))
 rw[I (by simpa[or_assoc,and_assoc]using h1)]at a;subst a;have⟨k,b2,b3,b4,b5,b6⟩:=d rfl;have j:IntKind.i64.wrap (sc*nu)=sc*nu:=Bp om om;have g:IntKind.i64.wrap (sc*nu+de)=sc*nu+de:=Bp om om;have l:IntKind.i64.wrap (sc*nu+de-1)=sc*nu+de-1:=Bp om om;have f:(sc*nu+de-1).tdiv de=(sc*nu+de-1)/de:=Int.tdiv_eq_ediv_of_nonneg k;have h:IntKind.i64.wrap ((sc*nu+de-1)/de)=(sc*nu+de-1)/de:=Bp om om;have i:IntKind.i64.wrap ((sc*nu+de-1)/de+ex)=(sc*nu+de-1)/de+ex:=Bp om om;have c:¬de=0:=om;exact Do [(0,[]),(1,[]),(4,[]),(8,[]),(11,[]),(2,[]),(3,[]),(5,[]),(6,[]),(7,[]),(9,[]),(10,[]),(12,[]),(13,[]),(14,[]),(15,[])] [4,5] [] Eb kr Du (Ao (Ab sr sm))
structure In4 where
 ki:Int
 ti:Int
 lo:Int
 gr:Int
def In4.v(i:In4):V:=.agg [.i i.ki,.i i.ti,.i i.lo,.i i.gr]
def Fp(l:List In4):List V:=l.map In4.v
@[simp]def Hc(l:List In4):(Fp l).length=l.length:=by simp[Fp]
def Adh{l:List In4}(h:k<l.length):Hj (Fp l) k=some l[k].v:=by rw[C2];simp[Fp,h]
def Fj(l:List In4):(Fp l).all V.pureE=true:=by
 rw[Ar];intro x a;simp only[Fp,Bl]at a;obtain⟨n,_,rfl⟩:=a;rfl
def Aoe(i:In4):Int:=
 if i.ki<1\/6<i.ki then 1
 else if i.ti<0\/1099511627776<i.ti\/i.lo<0\/86400<i.lo\/i.gr<0\/3<i.gr then 3 else 0
def Aeg(i:In4):AE 94 [i.v] (.i (Aoe i)):=by
 have⟨ki,ti,lo,gr⟩:=i;unfold Aoe In4.v;simp only;refine Aq func94 λw0 N0=>?_;refine Y [1] [1] sr (J (A9 [10] sr ?_))
 refine Au (λh1=>?_) λh1=>Ae ?_
 .exact Y [2] [] sr (Ao (Ab sr (by rw[Ad (sG h1)])))
 rw[I (sG h1)];refine J (Y [38] [] sr ?_)
 refine Au (λh2=>?_) λh2=>Ae ?_
 .exact Y [2] [] sr (Ao (Ab sr (by rw[Ad (by simpa[or_assoc]using h2)])))
 exact Y [2] [] sr (Ao (Ab sr (by rw[I (by simpa[or_assoc,and_assoc]using h2)])))
def Avc(l:List In4):Int:=if 300<l.length then 5 else Mk Aoe l
def Ar0(l:List In4):AC prog 198 [.ro 4 (Fp l)] (λr=>r=.i (Avc l)):=by
 have w:=λ(k:Nat)(h:k<l.length)=>Adh h
 have u:=Hc l;have pl:=Fj l;have n:=λ(k:Nat)(h:k<l.length)=>Pb Aoe h
 unfold Avc;generalize Fp l=j at*;refine Aq func198 λw0 N0=>?_;refine Y [0] [] sr (J (Y [0,8] [] sr ?_))
 refine Au (λh1=>?_) λh1=>Ae ?_
 .exact Y [2] [] sr (Ao (Ab sr (by rw[Ad (by simp[u]at h1;omega)])))
 have m:¬300<l.length:=by simp[u]at h1;omega
 rw[I m];refine J (Y [9,10,11] [] sr (Ah (Bu (λk nx=>⟨[(9,V.ro 4 j),(10,V.i j.length),(11,V.i k)],[],nx,21⟩) (λk=>Mk Aoe (l.drop k)=Mk Aoe l) l.length _ rfl Z ?_)));intro k nx hk d;refine Y [9,10,11,12] [] sr (J ?_)
 refine Au (λh2=>Ae ?_) λh2=>?_
 .have c:k<l.length:=by simp at h2;omega
  have e:k<j.length:=om;have t:=w k c;have a:=Aeg l[k];rw[(n k c)]at d;unfold In4.v at t a;generalize l[k]=i at*;refine J (Ah (Y [4,9,10,11] [4] (by simp[t,e]<;>rfl) (J (Ak (Ay 1 sr ?_)))));refine Ac a func94 ?_;refine Aa [5,9,10,11] [] sr (Y [5,9,10,11,18] [] sr ?_)
  refine Au (λf=>?_) λf=>Ae ?_
  .exact Y [2] [] sr (Ao (Ab sr (by rw[<- d,Ad (sG f)])))
  rw[I (sG f)]at d;refine Ba [9,10,11] [] (by simp[(A5 (k:=k) om)]<;>rfl) ?_;exact⟨c,d,_,Z⟩
 .refine A6 ?_;have g:k=l.length:=sO h2
  rw[g,Ck]at d;exact Y [2] [] sr (Ao (Ab sr (by rw[<- d];rfl)))
def Abn(l:List In4):Nat->Int
 |0=>0
 |k+1=>if(l.getD k ⟨0,0,0,0⟩).ki=1\/(l.getD k ⟨0,0,0,0⟩).ki=2\/(l.getD k ⟨0,0,0,0⟩).ki=3 then IntKind.i64.wrap (Abn l k+(l.getD k ⟨0,0,0,0⟩).lo)else Abn l k
def Axs(l:List In4)(a:Int):Int:=if Avc l≠0 then 0 else if S9 a<Abn l l.length then S9 a else Abn l l.length
def Bc2(l:List In4)(a:Int):AC prog 143 [.ro 4 (Fp l),.i a] (λr=>r=.tup [.i (Axs l a),.i (Avc l)]):=by
 have n:=Ar0 l;have w:∀k,k<l.length->Hj (Fp l) k=some (l.getD k ⟨0,0,0,0⟩).v:=λ(k:Nat)(h:k<l.length)=>by rw[Cs h];exact Adh h
 have lq:=Hc l;have pl:=Fj l;have j:Avc l=0->l.length<=300:=λh=>by unfold Avc at h;split at h;omega;omega
 have s:∀k,Abn l (k+1)=if(l.getD k ⟨0,0,0,0⟩).ki=1\/(l.getD k ⟨0,0,0,0⟩).ki=2\/(l.getD k ⟨0,0,0,0⟩).ki=3 then IntKind.i64.wrap (Abn l k+(l.getD k ⟨0,0,0,0⟩).lo)else Abn l k:=λk=>rfl
 have o:Abn l 0=0:=rfl;unfold Axs;generalize Abn l=x,Avc l=y,Fp l=m at*;refine Aq func143 λw0 N0=>?_;refine Y [0,1] [] sr (J (J (Ak (Ay 1 sr ?_))));refine Ac n func198 ?_;refine Aa [0,1,6] [] sr (Y [0,1,6,13] [] sr ?_)
 refine Au (λh1=>?_) λh1=>Ae ?_
 .exact Y [4,5] [] sr (Ao (Ab sr (by rw[Ad (sG h1)])))
 have f:y=0:=sG h1
 have z:=j f;rw[I (sG h1)];refine Y [0,1,7] [] sr (J (Y [1,7,15,16,17] [] sr (Ah (Bu (λk nx=>⟨[(1,V.i a),(7,V.i (x k)),(15,V.ro 4 m),(16,V.i m.length),(17,V.i k)],[],nx,43⟩) (λk=>True) l.length _ trivial (by simp only[o];exact Z) ?_))));intro k nx hk hI;refine Y [1,7,15,16,17,18] [] sr (J ?_)
 refine Au (λh2=>Ae ?_) λh2=>?_
 .have c:k<l.length:=by simp at h2;omega
  have e:k<m.length:=om;have u:=w k c;have d:=s k;have Ee:=A5 (k:=k) om;unfold In4.v at u;generalize l.getD k ⟨0,0,0,0⟩=i at*;refine J (Ah (Y [1,7,9,15,16,17] [9] (by simp[u,e]<;>rfl) (Y [1,7,9,15,16,17,33] [9] sr ?_)))
  refine Au (λg=>?_) λg=>Ae ?_
  .refine Ba [1,7,15,16,17] [] sr (Ba [1,7,15,16,17] [] (by simp[Ee]<;>rfl) ?_);exact⟨c,trivial,_,by rw[d,Ad (by simpa[or_assoc]using g)];exact Z⟩
  refine Ba [1,7,15,16,17] [] (by simp[Ee]<;>rfl) ?_;exact⟨c,trivial,_,by rw[d,I (by simpa[or_assoc,and_assoc]using g)];exact Z⟩
 .refine A6 ?_;have t:k=l.length:=sO h2
  subst t;exact Y [4,5] [] sr (Ao (Ab sr (by unfold S9;simp[f])))
structure It where
 id:Int
 ver:Int
 kind:Int
 stem:List UInt8
 opts:List (List UInt8)
 ch:List Int
 val:Int
 tol:Int
 txts:List (List UInt8)
 pts:Int
 code:List UInt8
 fam:Int
 set:Int
 wo:Int
 se:Int
 ass:List Int
 rub:Int
def Hd(l:List (List UInt8)):List V:=l.map V.str
@[simp]def Fm(l:List (List UInt8)):(Hd l).length=l.length:=by simp[Hd]
def Abo{l:List (List UInt8)}(h:k<l.length):Hj (Hd l) k=some (.str (l.getD k [])):=by rw[C2,Cs h];simp[Hd,h]
def C7(l:List (List UInt8)):(Hd l).all V.pureE=true:=by
 rw[Ar];intro x a;simp only[Hd,Bl]at a;obtain⟨n,_,rfl⟩:=a;rfl
def It.v(it:It):V:=V.agg [.i it.id,.i it.ver,.i it.kind,.str it.stem,.ro 1 (Hd it.opts),.ro 1 (Av it.ch),.i it.val,.i it.tol,.ro 1 (Hd it.txts),.i it.pts,.str it.code,.i it.fam,.i it.set,.i it.wo,.i it.se,.ro 1 (Av it.ass),.i it.rub]
def vIt(i:It):i.v=V.agg [.i i.id,.i i.ver,.i i.kind,.str i.stem,.ro 1 (Hd i.opts),.ro 1 (Av i.ch),.i i.val,.i i.tol,.ro 1 (Hd i.txts),.i i.pts,.str i.code,.i i.fam,.i i.set,.i i.wo,.i i.se,.ro 1 (Av i.ass),.i i.rub]:=rfl
def K4(n c a:Int):Bool:=decide (c<=n)&&decide (n<=a)
def Ro(n c a:Int):AE 108 [.i n,.i c,.i a] (.bool (K4 n c a)):=by
 unfold K4;refine Aq func108 λw0 N0=>?_;exact Y [0,1,2] [] sr (Y [6] [] sr (By sr rf))
def Axt(it:It):Bool:=
 K4 it.id 1 9999999&&K4 it.ver 1 50&&K4 it.pts 1 5&&K4 it.wo 0 2000&&K4 it.se 1 2000&&K4 it.fam 0 9999999&&K4 it.set 0 9999999&&K4 it.rub 0 9999999
def Bc3(it:It):AE 107 [it.v] (.bool (Axt it)):=by
 have a:=Ro;unfold Axt;have d:=vIt it;rw[d];have i1:=C7 it.opts;have i2:=Af it.ch;have i3:=C7 it.txts;have i4:=Af it.ass;have e:=Fm it.opts;have g:=A4 it.ch;have f:=Fm it.txts;have m:=A4 it.ass;generalize Hd it.opts=k,Av it.ch=h,Hd it.txts=n,Av it.ass=av at*;have j:k= []↔it.opts= []:=by rw[<- Am,e,Am]
 have i:h= []↔it.ch= []:=by rw[<- Am,g,Am]
 have l:n= []↔it.txts= []:=by rw[<- Am,f,Am]
 generalize K4=wi at*;refine Aq func107 λw0 N0=>?_;refine Y [1] [1] sr (Bn 2 sr ?_);refine Ac (a it.id 1 9999999) func108 ?_;refine Ay 3 sr (Gf (λc=>a it.ver 1 50) func108 ?_);refine Ay 4 sr (Gf (λc=>a it.pts 1 5) func108 ?_);refine Ay 4 sr ?_;refine Gf (λc=>a it.wo 0 2000) func108 ?_;refine Ay 4 sr ?_;refine Gf (λc=>a it.se 1 2000) func108 ?_;refine Ay 4 sr ?_;refine Gf (λc=>a it.fam 0 9999999) func108 ?_;refine Ay 4 sr ?_;refine Gf (λc=>a it.set 0 9999999) func108 ?_;refine Ay 4 sr ?_;refine Gf (λc=>a it.rub 0 9999999) func108 ?_;refine Aa [2] [] sr ?_;exact By sr (rfl)
def prb(b:UInt8):Bool:=decide (32<=b.toNat)&&decide (b.toNat<=126)
def prB(s:List UInt8)(a:Int):Bool:=s.all prb&&decide ((1:Int)<=s.length)&&decide ((s.length:Int)<=a)
def Avd(s:List UInt8)(a:Int)(hs:s.length<=4000000000):AC prog 168 [.str s,.i a] (λr=>r=.bool (prB s a)):=by
 unfold prB;refine Aq func168 λw0 N0=>?_;refine Y [0,1] [] sr (J (Y [0,1,5] [] sr (Ah (Bu (λk nx=>⟨[(0,V.str s),(1,V.i a),(5,V.i k)],[],nx,31⟩) (λk=>(s.take k).all prb=true) s.length _ sm Z ?_))));intro k nx hk i;refine J (Y [0,1,5,9] [] sr ?_)
 refine Au (λh1=>Ae ?_) λh1=>?_
 .have c:k<s.length:=by simp at h1;omega
  have Ee:=A5 (k:=k) om;have j:Hj s k=some s[k]:=by rw[C2];simp[c]
  have g:prb s[k]=true->(s.take (k+1)).all prb=true:=λh=>by rw[Az c,Kv,i];simp[h]
  have f:prb s[k]=false->s.all prb=false:=λh=>by rw[Jy];exact⟨s[k],Aw c,by rw[h];simp⟩
  have d:prb s[k]=(decide (32<=s[k].toNat)&&decide (s[k].toNat<=126)):=rfl;generalize s[k]=b at*;refine J (Ah (Y [0,1,5,21] [] Du ?_))
  refine Au (λh2=>?_) λh2=>Ae ?_
  .exact Y [4] [] sr (Ao (Ab sr (by rw[f (by rw[d];simp at h2|-;omega)];rfl)))
  refine Ba [0,1,5] [] Du ?_;exact⟨c,g (by rw[d];simp at h2|-;omega),_,Z⟩
 .refine A6 ?_;have e:k=s.length:=sO h1
  rw[e,Be]at i;exact Y [4] [] sr (Ao (Ab sr (by rw[i];simp)))
def A7f(l:List Int)(c a:Int)(k:Nat):Bool:= !K4 (l.getD k 0) c a||(decide (0<k)&&decide (l.getD k 0<=l.getD (k-1) 0))
def Ar1(l:List Int)(c a:Int):Bool:= !(List.range l.length).any (A7f l c a)
def Ave(l:List Int)(e d:Int)(hl:l.length<=4000000000):AE 112 [.ro 1 (Av l),.i e,.i d] (.bool (Ar1 l e d)):=by
 have ad:=λn=>Ro n e d
 have qe:=λ(k:Nat)(h:k<l.length)=>Dn h
 have le:=A4 l;have pl:=Af l;unfold Ar1;have ab:∀k,A7f l e d k=(!K4 (l.getD k 0) e d||(decide (0<k)&&decide (l.getD k 0<=l.getD (k-1) 0))):=λk=>rfl
 generalize Av l=s,A7f l e d=u at*;refine Aq func112 λw0 N0=>?_;refine Y [0,1,2] [] sr (J (A9 [9,10,11] sr (Ah (Bu (λk nx=>⟨[(0,V.ro 1 s),(1,V.i e),(2,V.i d),(9,V.ro 1 s),(10,V.i s.length),(11,V.i k)],[],nx,35⟩) (λk=>((List.range l.length).take k).any u=false) l.length _ sm Z ?_))));intro k nx hk hI;refine Y [0,1,2,9,10,11,12] [] sr (J ?_)
 refine Au (λh1=>Ae ?_) λh1=>?_
 .have c:k<l.length:=by simp at h1;omega
  have t:k<s.length:=om;have ga:=qe k c;have hb:=ab k;have Ee:=A5 (k:=k) om;have o:=λh=>Ib l.length k u c hI h
  have i:=λh=>Nq (f:=u) c h
  have z:∀j,k=j+1->u k=(!K4 (l.getD k 0) e d||decide (l.getD k 0<=l.getD j 0)):=λj hj=>by rw[hb,hj];simp
  generalize l.getD k 0=x at*;have a:=ad x;refine J (Ah (Y [0,1,2,7,8,9,10,11] [] (by simp[ga,t]<;>rfl) ?_))
  cases hfd:K4 x e d
  .rw[hfd]at a;refine J (Ak (Ay 3 sr ?_));refine Ac a func108 ?_;refine Ay 2 sr ?_;refine Kd 11 sr ?_;refine Aa [0,1,2,9,10,11,33] [] sr ?_;refine A0 rfl (λh2=>?_) sA;exact Y [6] [] sr (Ao (Ab sr (by rw[i (by rw[hb,hfd];rfl)];rfl)))
  rw[hfd]at a
  rcases k with _ |j
  .refine J (Ak (Ay 3 sr ?_));refine Ac a func108 ?_;refine Ay 5 sr ?_;refine Kd 7 sr ?_;refine Aa [0,1,2,9,10,11,33] [] sr ?_;refine A0 rfl sA λh2=>Ae (Ba [0,1,2,9,10,11] [] sR ?_);exact⟨c,o (by rw[hb,hfd];simp),_,Z⟩
  .have gp:=qe j om;have aa:j<s.length:=om;have w:IntKind.i64.wrap (((j+1:Nat):Int)-1)=(j:Int):=by rw[Bp om oM];omega
   have m:IntKind.i64.wrap (j:Int)=(j:Int):=Bp om om;have g:=z j rfl;generalize l.getD j 0=y at*;refine J (Ak (Ay 3 sr ?_));refine Ac a func108 ?_;refine Aa [0,1,2,9,10,11,33] [] (by simp[gp,aa,m,-Int.natCast_add]<;>rfl) ?_
   refine Au (λh2=>?_) λh2=>Ae ?_
   .exact Y [6] [] sr (Ao (Ab sr (by rw[i (by rw[g,hfd];simpa using h2)];rfl)))
   have Tn:IntKind.i64.wrap ((j:Int)+1+1)=((j+1+1:Nat):Int):=by rw[Bp om oM];omega
   refine Ba [0,1,2,9,10,11] [] (by simp[Tn,-Int.natCast_add]<;>rfl) ?_;exact⟨c,o (by rw[g,hfd];simpa using h2),_,Z⟩
 .refine A6 ?_;have ae:k=l.length:=sO h1
  rw[ae,Bi (by simp)]at hI;exact Y [6] [] sr (Ao (Ab sr (by rw[hI];rfl)))
def Axu(it:It):Bool:=
 if 3<it.kind/\(it.opts≠ []\/it.ch≠ [])then false
 else if it.kind≠4/\(it.val≠0\/it.tol≠0)then false
 else(decide (it.kind=5)||decide (it.txts= []))&&(decide (it.kind=6)||decide (it.rub=0))
def Bc4(it:It):AC prog 110 [it.v] (λr=>r=.bool (Axu it)):=by
 unfold Axu;rw[(vIt it)];have i1:=C7 it.opts;have i2:=Af it.ch;have i3:=C7 it.txts;have i4:=Af it.ass;have f:=Fm it.opts;have h:=A4 it.ch;have g:=Fm it.txts;have j:=A4 it.ass;generalize Hd it.opts=k,Av it.ch=i,Hd it.txts=l,Av it.ass=av at*;have c:k= []↔it.opts= []:=by rw[<- Am,f,Am]
 have a:i= []↔it.ch= []:=by rw[<- Am,h,Am]
 have e:l= []↔it.txts= []:=by rw[<- Am,g,Am]
 refine Aq func110 λw0 N0=>?_;refine Y [1] [1] sr (J (Y [1,17] [1] sr ?_))
 refine Au (λh1=>?_) λh1=>Ae ?_
 .exact Y [2] [] sr (Ao (Ab sr (by rw[Ad (by simpa[E7,c,a]using h1)])))
 rw[I (by simpa[E7,c,a]using h1)];refine J (Y [1,30] [1] sr ?_)
 refine Au (λh2=>?_) λh2=>Ae ?_
 .exact Y [2] [] sr (Ao (Ab sr (by rw[Ad (sG h2)])))
 rw[I (sG h2)];exact Y [2] [] sr (Ao (Ab sr G8))
section
open Go.RowKit Go.Sort Go.Lib
def A1d(s:List UInt8)(a b:UInt8):List UInt8:=Lib.replaceAll s [a] [b]
def A7g(s:List UInt8)(a b:UInt8)(hs:s.length<4294967281):AQ 169 [.str s,.str [a],.str [b]] (.str (A1d s a b)):=by
 intro w N xs g _ h hp
 obtain⟨x,y,z,rfl,d,f,c⟩:∃x y z,xs= [x,y,z]/\Pur w N x (.str s)/\Pur w N y (.str [a])/\Pur w N z (.str [b]):=by
  match xs,h with
  | [x,y,z],_ =>exact⟨x,y,z,rfl,hp 0 x _ rfl rfl,hp 1 y _ rfl rfl,hp 2 z _ rfl rfl⟩
 cases d;cases f;cases c
 have⟨⟨m,i⟩,_⟩:=g;have j:(⟨s.toArray⟩:ByteArray).size=s.length:=by rw[Lib.size_eq]
 have h1:(⟨#[a]⟩:ByteArray).size=1:=rfl;have hc:=Lib.countB_le ⟨#[a]⟩ (Ux h1.symm) _ ⟨s.toArray⟩ (A7 _);refine(strings_ReplaceAll ⟨s.toArray⟩ ⟨#[a]⟩ ⟨#[b]⟩ m w om i (Ux h1.symm) (by show _ +_ *1<=_;omega)).mono ?_;rintro e w'⟨rfl,k⟩;exact⟨_,_,rfl,rfl,.str _,k⟩
def Bc5(s sub:List UInt8)(hs:s.length<4294967281):AQ 222 [.str s,.str sub] (.bool (Lib.contains s sub)):=by
 intro w N xs d _ f hp;obtain⟨x,y,rfl,a,c⟩:=Ap9 f hp;cases a;cases c
 have⟨⟨m,g⟩,_⟩:=d;refine(strings_Contains ⟨s.toArray⟩ ⟨sub.toArray⟩ m w (by rw[Lib.size_eq];simpa using hs) g).mono ?_;rintro e w'⟨rfl,rfl⟩;exact⟨_,_,rfl,rfl,.bool _,Below.refl _ _⟩
end
def sfB(s:List UInt8):Bool:=decide (1<=s.length)&&decide (s.drop (s.length-1)= [32])
def A1e(s:List UInt8)(d:s.length<=4000000000):AE 264 [.str s,.str [32]] (.bool (sfB s)):=by
 unfold sfB
 by_cases hs:s= []
 .subst hs;refine Aq func264 λw0 N0=>?_;refine Y [0,1] [] sr (Bn 6 sr ?_);refine Kd 9 sr (Aa [4] [] sr ?_);exact By sr rfl
 .have c:1<=s.length:=E7.2 hs;have a:(1:Int)<=s.length:=om;have g:IntKind.i64.wrap ((s.length:Int)-1)=((s.length-1:Nat):Int):=by rw[Bp om oM];omega
  have e:((s.length-1:Nat):Int)<=s.length:=om;have f:(s.drop (s.length-1)).take (s.length-(s.length-1))=s.drop (s.length-1):=Bi sm;refine Aq func264 λw0 N0=>?_;exact Y [0,1] [] sr (Y [4] [] Du (By sr G8))
def Aof(s:List UInt8)(c:s.length<=4000000000):AE 221 [.str s,.str [32]] (.bool (sfB s)):=by
 have a:=A1e s c;generalize sfB s=b at*;refine Aq func221 λw0 N0=>?_;refine Y [0,1] [] sr (Bn 2 sr ?_);refine Ac a func264 ?_;exact Aa [4] [] sr (By sr (rfl))
def nrm(b:UInt8):Bool:=decide ((b.toNat:Int)=32)||K4 b.toNat 97 122||K4 b.toNat 48 57
def A1f(s:List UInt8):Bool:=if s.all nrm=false then false else !A0h s [32]&& !sfB s&& !Lib.contains s [32,32]
def Bc6(s:List UInt8)(hs:s.length<=4000000000):Kb gv prog 172 [.str s] (λr=>r=.bool (A1f s)):=by
 have g:=Ro;have j:=Aa2 s [32];have l:=Aof s hs;have i:=Bc5 s [32,32] om;unfold A1f;generalize A0h s [32]=hp,sfB s=y,Lib.contains s [32,32]=ct at*;refine B0 func172 λw0 N0 x=>?_;refine Y [0] [] sr (J (Y [0,3] [] sr (Ah (Bu (λk nx=>⟨[(0,V.str s),(3,V.i k)],[],nx,43⟩) (λk=>(s.take k).all nrm=true) s.length _ sm Z ?_))));intro k nx hk u;refine J (Y [0,3,7] [] sr ?_)
 refine Au (λh1=>Ae ?_) λh1=>?_
 .have a:k<s.length:=by simp at h1;omega
  have Ee:=A5 (k:=k) om;have w:Hj s k=some s[k]:=by rw[C2];simp[a]
  have t:nrm s[k]=true->(s.take (k+1)).all nrm=true:=λh=>by rw[Az a,Kv,u];simp[h]
  have o:nrm s[k]=false->s.all nrm=false:=λh=>by rw[Jy];exact⟨s[k],Aw a,by rw[h];simp⟩
  have f:nrm s[k]=(decide ((s[k].toNat:Int)=32)||K4 s[k].toNat 97 122||K4 s[k].toNat 48 57):=rfl;have d:IntKind.i64.wrap (s[k].toNat:Int)=(s[k].toNat:Int):=by have:=s[k].toNat_lt;rw[Bp om oM]
  generalize s[k]=b at*;refine J (Ah (J (Ak (Ay 9 Du ?_))));refine Ep (c:= !decide ((b.toNat:Int)=32)) (λm=>g b.toNat 97 122) func108 rfl kr sr rfl rfl sr sm sr (Ay 7 Du ?_);refine Ep (c:= !decide ((b.toNat:Int)=32)&& !K4 b.toNat 97 122) (λm=>g b.toNat 48 57) func108 rfl kr sr rfl rfl sr sm sr (Aa [0,3,29] [] sr ?_)
  refine Au (λh2=>?_) λh2=>Ae ?_
  .exact Y [2] [] sr (Ao (Ab sr (by rw[Ad (o (by rw[f];simpa[and_assoc]using h2))])))
  refine Ba [0,3] [] Du ?_;exact⟨a,t (by rw[f];by_cases e:(b.toNat:Int)=32<;>cases e2:K4 b.toNat 97 122<;>simp_all),_,Z⟩
 .refine A6 ?_;have n:k=s.length:=sO h1
  rw[n,Be]at u;rw[I (by rw[u];simp)];refine J (Ak (Ay 1 sr ?_));refine Ac j func212 ?_;refine Ay 3 sr (Ep (c:= !hp) (λm=>l) func221 rfl kr sr rfl rfl sr sm sr ?_);refine Ay 4 sr ?_;refine Rb (c:= !hp&& !y) x (λm=>i) func222 rfl kr sr rfl rfl sr sm sr ?_;refine Aa [2] [] sr ?_;exact Ao (Ab sr sm)
def Bc7(it:It):Bool:=
 if prB (A1d it.stem 10 32) 2000=false then false
 else if it.opts.all (λs=>prB s 200)=false then false
 else if it.txts.all (λs=>prB s 200)=false then false else P1 it.code
structure It.small(it:It):Prop where
 stem:it.stem.length<=2000000
 opts:it.opts.length<=2000000/\∀s∈it.opts,s.length<=2000000
 txts:it.txts.length<=2000000/\∀s∈it.txts,s.length<=2000000
 ch:it.ch.length<=2000000
 ass:it.ass.length<=2000000
def Al1(a b:UInt8):∀(k:Nat)(s:List UInt8),(Lib.replaceK [a] [b] k s).length<=s.length+k
 |0,s=>by simp[Lib.replaceK]
 |k+1,s=>by
  rw[Lib.replaceK]
  split
  .omega
  .have ih:=Al1 a b k (s.drop ((Lib.index s [a]).toNat+[a].length));simp only[A1,Da,Eu,A3,Bo]at ih|-;omega
def A7h(s:List UInt8)(hs:s.length<=2000000):(A1d s 10 32).length<=4000001:=by
 have h1:=Al1 10 32 (Lib.replaceNum s [10] (-1)) s
 have h2:Lib.replaceNum s [10] (-1)<=s.length+1:=by
  unfold Lib.replaceNum;rw[Ad om];exact(Lib.count_le s [10])
 unfold A1d Lib.replaceAll Lib.replace;split<;>omega
def A7i(it:It)(u:it.small):AQ 109 [it.v] (.bool (Bc7 it)):=by
 have af:=u.stem;have ho:=u.opts.1;have ht:=u.txts.1;have w:=A7g it.stem 10 32 om;have t:=Avd (A1d it.stem 10 32) 2000 (by have:=A7h it.stem af;omega);have i:=λ(k:Nat)(h:k<it.opts.length)=>Avd (it.opts.getD k []) 200 (Ag (Gz u.opts.2 h []) dc)
 have l:=λ(k:Nat)(h:k<it.txts.length)=>Avd (it.txts.getD k []) 200 (Ag (Gz u.txts.2 h []) dc)
 have ad:=Y1 it.code;have qo:=λ(k:Nat)(h:k<it.opts.length)=>Abo h
 have qt:=λ(k:Nat)(h:k<it.txts.length)=>Abo h
 unfold Bc7;generalize prB (A1d it.stem 10 32) 2000=b1,P1 it.code=b4 at*;generalize ab:(λs:List UInt8=>prB s 200)=c at*;have f:∀s,prB s 200=c s:=λs=>by rw[<- ab]
 have ag:=vIt it;rw[ag];have i1:=C7 it.opts;have i2:=Af it.ch;have i3:=C7 it.txts;have i4:=Af it.ass;have ae:=Fm it.opts;have aa:=A4 it.ch;have z:=Fm it.txts;have ak:=A4 it.ass;generalize Hd it.opts=o,Av it.ch=cv,Hd it.txts=n,Av it.ass=av at*;have ah:o= []↔it.opts= []:=by rw[<- Am,ae,Am]
 have aj:cv= []↔it.ch= []:=by rw[<- Am,aa,Am]
 have ai:n= []↔it.txts= []:=by rw[<- Am,z,Am]
 refine B0 func109 λw0 N0 hG=>?_;refine Y [1] [1] sr (J (J (Ak (Ay 2 sr ?_))));refine Bq hG w func169 ?_;refine Ac t func168 ?_;refine Aa [1,11] [1] sr ?_
 refine Au (λh1=>?_) λh1=>Ae ?_
 .exact Y [2] [] sr (Ao (Ab sr (by rw[Ad (sG h1)])))
 rw[I (sG h1)];refine J (Y [1,13,14,15] [1] sr (Ah (Bu (λk nx=>⟨[(1,V.bp 1 0 17 0 0),(13,V.ro 1 o),(14,V.i o.length),(15,V.i k)],[(1,⟨0,17,150,[V.agg [.i it.id,.i it.ver,.i it.kind,.str it.stem,.ro 1 o,.ro 1 cv,.i it.val,.i it.tol,.ro 1 n,.i it.pts,.str it.code,.i it.fam,.i it.set,.i it.wo,.i it.se,.ro 1 av,.i it.rub]]⟩)],nx,37⟩) (λk=>(it.opts.take k).all c=true) it.opts.length _ sm Z ?_)));intro k nx hk hI;refine Y [1,13,14,15,16] [1] sr (J ?_)
 refine Au (λh2=>Ae ?_) λh2=>?_
 .have a:k<it.opts.length:=by simp at h2;omega
  have e:k<o.length:=om;have ga:=qo k a;have Ee:=A5 (k:=k) om;have x:=i k a;rw[f]at x;have d:c (it.opts.getD k [])=true->(it.opts.take (k+1)).all c=true:=λh=>by rw[Az a,Kv,hI];rw[Cs a]at h;simp[h]
  have j:c (it.opts.getD k [])=false->it.opts.all c=false:=λh=>by rw[Cs a]at h;rw[Jy];exact⟨_,Aw a,by rw[h];simp⟩
  generalize it.opts.getD k []=s at*;refine J (Ah (Y [1,4,13,14,15] [1] (by simp[ga,e]<;>rfl) (J (Ak (Ay 1 sr ?_)))));refine Ac x func168 ?_;refine Aa [1,13,14,15,21] [1] sr ?_
  refine Au (λh3=>?_) λh3=>Ae ?_
  .exact Y [2] [] sr (Ao (Ab sr (by rw[Ad (j (sG h3))])))
  refine Ba [1,13,14,15] [1] (by simp[Ee]<;>rfl) ?_;exact⟨a,d (sG h3),_,Z⟩
 .refine A6 ?_;have m:k=it.opts.length:=sO h2
  rw[m,Be]at hI;rw[I (by rw[hI];simp)];refine J (Y [1,24,25,26] [1] sr (Ah (Bu (λk nx=>⟨[(1,V.bp 1 0 17 0 0),(24,V.ro 1 n),(25,V.i n.length),(26,V.i k)],[(1,⟨0,17,150,[V.agg [.i it.id,.i it.ver,.i it.kind,.str it.stem,.ro 1 o,.ro 1 cv,.i it.val,.i it.tol,.ro 1 n,.i it.pts,.str it.code,.i it.fam,.i it.set,.i it.wo,.i it.se,.ro 1 av,.i it.rub]]⟩)],nx,37⟩) (λk=>(it.txts.take k).all c=true) it.txts.length _ sm Z ?_)));intro k nx hk g;refine Y [1,24,25,26,27] [1] sr (J ?_)
  refine Au (λy=>Ae ?_) λy=>?_
  .have a:k<it.txts.length:=by simp at y;omega
   have e:k<n.length:=om;have ga:=qt k a;have Ee:=A5 (k:=k) om;have x:=l k a;rw[f]at x;have d:c (it.txts.getD k [])=true->(it.txts.take (k+1)).all c=true:=λh=>by rw[Az a,Kv,g];rw[Cs a]at h;simp[h]
   have j:c (it.txts.getD k [])=false->it.txts.all c=false:=λh=>by rw[Cs a]at h;rw[Jy];exact⟨_,Aw a,by rw[h];simp⟩
   generalize it.txts.getD k []=s at*;refine J (Ah (Y [1,6,24,25,26] [1] (by simp[ga,e]<;>rfl) (J (Ak (Ay 1 sr ?_)))));refine Ac x func168 ?_;refine Aa [1,24,25,26,32] [1] sr ?_
   refine Au (λh5=>?_) λh5=>Ae ?_
   .exact Y [2] [] sr (Ao (Ab sr (by rw[Ad (j (sG h5))])))
   refine Ba [1,24,25,26] [1] (by simp[Ee]<;>rfl) ?_;exact⟨a,d (sG h5),_,Z⟩
  .refine A6 ?_;have m:k=it.txts.length:=sO y
   rw[m,Be]at g;rw[I (by rw[g];simp)];refine J (Ak (Ay 2 sr ?_));refine Bq hG ad func105 ?_;refine Aa [2] [] sr ?_;exact Ao (Ab sr (rfl))
def Avf(l:List Int):AE 171 [.ro 1 (Av l)] (.fc 220 [] [.rp (.ro 1 (Av l))]):=by
 have pl:=Af l;generalize Av l=lv at*;refine Aq func171 λw0 N0=>?_;refine Y [1] [1] sr (Bw 1 [1] [] sR (Y [2] [] sr ?_));exact By Du (rfl)
def Mx:Prop:=∀l:List Int,l.length<=2000000->AE 170 [.fc 220 [] [.rp (.ro 1 (Av l))]] (.ro 1 (Av (Kt l)))
def leS(a b:List UInt8):Bool:=Op.bytesLess a b||decide (a=b)
def Bgs(l:List (List UInt8))(k:Nat):Bool:= !A1f (l.getD k [])||(decide (0<k)&&leS (l.getD k []) (l.getD (k-1) []))
def Ael(it:It):Bool:=
 if it.kind=1 then decide (1<=(it.opts.length:Int)-1)&&decide ((it.ch.length:Int)=1)&&K4 (it.ch.getD 0 0) 0 ((it.opts.length:Int)-1)
 else if it.kind=2 then decide (1<=(it.opts.length:Int)-1)&&decide ((1:Int)<=it.ch.length)&&Ar1 it.ch 0 ((it.opts.length:Int)-1)
 else if it.kind=3 then decide (1<=(it.opts.length:Int)-1)&&decide ((it.ch.length:Int)=it.opts.length)&&Ar1 (Kt it.ch) 0 ((it.opts.length:Int)-1)
 else if it.kind=4 then K4 it.val (-9999999) 9999999&&K4 it.tol 0 9999999
 else if it.kind=5 then(if(List.range it.txts.length).any (Bgs it.txts)=true then false else decide ((1:Int)<=it.txts.length))
 else decide (1<=it.rub)
def A7j(hS:Mx)(it:It)(hi:it.small):Kb gv prog 111 [it.v] (λr=>r=.bool (Ael it)):=by
 have ho:=hi.opts.1;have ht:=hi.txts.1;have hc:=hi.ch;have m:=Ro;have aw:=Ave it.ch 0 ((it.opts.length:Int)-1) om;have ab:=Ave (Kt it.ch) 0 ((it.opts.length:Int)-1) (by rw[Pg];omega);have ah:=Avf it.ch;have ad:=hS it.ch hc;have s:=λ(k:Nat)(h:k<it.txts.length)=>Bc6 (it.txts.getD k []) (Ag (Gz hi.txts.2 h []) dc)
 have qt:=λ(k:Nat)(h:k<it.txts.length)=>Abo h
 have qc:=λ(k:Nat)(h:k<it.ch.length)=>Dn h
 have l:=Af (Kt it.ch);have aq:∀k,Bgs it.txts k=(!A1f (it.txts.getD k [])||(decide (0<k)&&leS (it.txts.getD k []) (it.txts.getD (k-1) []))):=λk=>rfl
 have am:IntKind.i64.wrap ((it.opts.length:Int)-1)=(it.opts.length:Int)-1:=Bp om om;have ae:IntKind.i64.wrap ((it.opts.length:Int)-1+1)=(it.opts.length:Int):=by rw[Bp om oM];omega
 have t:IntKind.i64.wrap (it.opts.length:Int)=(it.opts.length:Int):=Bp om om;unfold Ael;generalize Ar1 (Kt it.ch) 0 ((it.opts.length:Int)-1)=rs,Ar1 it.ch 0 ((it.opts.length:Int)-1)=rc,Av (Kt it.ch)=sv,Bgs it.txts=be at*;have ay:=vIt it;rw[ay];have i1:=C7 it.opts;have i2:=Af it.ch;have i3:=C7 it.txts;have i4:=Af it.ass;have af:=Fm it.opts;have e:=A4 it.ch;have w:=Fm it.txts;have a1:=A4 it.ass;generalize Hd it.opts=ov,Av it.ch=i,Hd it.txts=n,Av it.ass=av at*;have az:ov= []↔it.opts= []:=by rw[<- Am,af,Am]
 have al:i= []↔it.ch= []:=by rw[<- Am,e,Am]
 have a0:n= []↔it.txts= []:=by rw[<- Am,w,Am]
 refine B0 func111 λw0 N0 hG=>?_;refine Y [1] [1] sr (Y [1,3] [1] Du (J (Y [1,3,11] [1] sr (Ah (Y [1,3,11,12] [1] sr ?_)))))
 refine Au (λh1=>?_) λh1=>?_
 .rw[Ad (sG h1)]
  by_cases he:it.ch= []
  .have an:=al.2 he;refine J (Ak (Ay 9 Du ?_));refine Kd 6 sr (Aa [2] [] sr ?_);exact Ao (Ab sr G8)
  have ar:0<it.ch.length:=E7.2 he;have g0:=qc 0 ar;have ax:0<i.length:=om;have cw:=m (it.ch.getD 0 0) 0 ((it.opts.length:Int)-1);generalize it.ch.getD 0 0=x0 at*;refine J (Ak (Ay 14 (by simp[g0,ax]<;>rfl) ?_));refine Ep (c:=decide (1<=(it.opts.length:Int)-1)&&decide ((i.length:Int)=1)) (λo=>cw) func108 rfl kr sr rfl rfl sr sm sr ?_;refine Aa [2] [] sr ?_;exact Ao (Ab sr G8)
 .rw[I (sG h1)];refine Y [1,3,11,30] [1] sr ?_
  refine Au (λh2=>?_) λh2=>?_
  .rw[Ad (sG h2)];refine J (Ak (Ay 12 sr ?_));refine Ep (c:=decide (1<=(it.opts.length:Int)-1)&&decide (1<=(i.length:Int))) (λo=>aw) func112 rfl kr sr rfl rfl sr sM sr ?_;refine Aa [2] [] sr ?_;exact Ao (Ab sr G8)
  .rw[I (sG h2)];refine Y [1,3,11,46] [1] sr ?_
   refine Au (λh3=>?_) λh3=>?_
   .rw[Ad (sG h3)];refine J (Ak (Ay 13 (by simp[t]<;>rfl) ?_));refine Ep (c:=decide (1<=(it.opts.length:Int)-1)&&decide ((i.length:Int)=it.opts.length)) (λo=>ah) func171 rfl kr sr rfl rfl sr sM sr ?_;refine Ep (c:=decide (1<=(it.opts.length:Int)-1)&&decide ((i.length:Int)=it.opts.length)) (λo=>ad) func170 rfl kr sr rfl rfl sr sM sr ?_;refine Ay 1 sr ?_;refine Ep (c:=decide (1<=(it.opts.length:Int)-1)&&decide ((i.length:Int)=it.opts.length)) (λo=>ab) func112 rfl kr sr rfl rfl sr sM sr ?_;refine Aa [2] [] sr ?_;exact Ao (Ab sr (by simp[e]))
   .rw[I (sG h3)];refine Y [1,11,66] [1] sr ?_
    refine Au (λh4=>?_) λh4=>?_
    .rw[Ad (sG h4)];refine J (Ak (Ay 2 sr ?_));refine Ac (m it.val (-9999999) 9999999) func108 ?_;refine Ay 3 sr ?_;refine Ep (c:=K4 it.val (-9999999) 9999999) (λo=>m it.tol 0 9999999) func108 rfl kr sr rfl rfl sr sm sr ?_;refine Aa [2] [] sr ?_;exact Ao (Ab sr sm)
    .rw[I (sG h4)];refine Y [1,76] [1] sr ?_
     refine Au (λh5=>?_) λh5=>Ae ?_
     .rw[Ad (sG h5)];refine J (Y [1,79,80,81] [1] sr (Ah (Bu (λk nx=>⟨[(1,V.bp 1 0 17 0 0),(79,V.ro 1 n),(80,V.i n.length),(81,V.i k)],[(1,⟨0,17,150,[V.agg [.i it.id,.i it.ver,.i it.kind,.str it.stem,.ro 1 ov,.ro 1 i,.i it.val,.i it.tol,.ro 1 n,.i it.pts,.str it.code,.i it.fam,.i it.set,.i it.wo,.i it.se,.ro 1 av,.i it.rub]]⟩)],nx,111⟩) (λk=>((List.range it.txts.length).take k).any be=false) it.txts.length _ sm Z ?_)));intro k nx hk hI;refine Y [1,79,80,81,82] [1] sr (J ?_)
      refine Au (λh6=>Ae ?_) λh6=>?_
      .have d:k<it.txts.length:=by simp at h6;omega
       have ai:k<n.length:=om;have ga:=qt k d;have hb:=aq k;have Ee:=A5 (k:=k) om;have ag:=λh=>Ib it.txts.length k be d hI h
       have z:=λh=>Nq (f:=be) d h
       have ak:∀j,k=j+1->be k=(!A1f (it.txts.getD k [])||leS (it.txts.getD k []) (it.txts.getD j [])):=λj hj=>by rw[hb,hj];simp
       have a:=s k d;generalize it.txts.getD k []=x at*;refine J (Ah (Y [1,4,5,79,80,81] [1] (by simp[ga,ai]<;>rfl) ?_))
       cases hfd:A1f x
       .rw[hfd]at a;refine J (Ak (Ay 1 sr ?_));refine Bq hG a func172 ?_;refine Ay 2 sr ?_;refine Kd 12 sr ?_;refine Aa [1,79,80,81,102] [1] sr ?_;refine A0 rfl (λg=>?_) sA;exact Y [2] [] sr (Ao (Ab sr (by rw[Ad (z (by rw[hb,hfd];rfl))])))
       rw[hfd]at a
       rcases k with _ |j
       .refine J (Ak (Ay 1 sr ?_));refine Bq hG a func172 ?_;refine Ay 5 sr ?_;refine Kd 8 sr ?_;refine Aa [1,79,80,81,102] [1] sr ?_;refine A0 rfl sA λg=>Ae (Ba [1,79,80,81] [1] sR ?_);exact⟨d,ag (by rw[hb,hfd];simp),_,Z⟩
       .have gp:=qt j om;have ao:j<n.length:=om;have aj:IntKind.i64.wrap (((j+1:Nat):Int)-1)=(j:Int):=by rw[Bp om oM];omega
        have aa:IntKind.i64.wrap (j:Int)=(j:Int):=Bp om om;have Tn:IntKind.i64.wrap ((j:Int)+1+1)=((j+1+1:Nat):Int):=by rw[Bp om oM];omega
        have u:=ak j rfl;generalize it.txts.getD j []=y at*;refine J (Ak (Ay 1 sr ?_));refine Bq hG a func172 ?_;refine Aa [1,79,80,81,102] [1] (by simp[gp,ao,aa,-Int.natCast_add]<;>rfl) ?_
        refine Au (λg=>?_) λg=>Ae ?_
        .exact Y [2] [] sr (Ao (Ab sr (by rw[Ad (z (by rw[u,hfd];unfold leS;simpa using g))])))
        refine Ba [1,79,80,81] [1] (by simp[Tn,-Int.natCast_add]<;>rfl) ?_;exact⟨d,ag (by rw[u,hfd];unfold leS;simpa using g),_,Z⟩
      .refine A6 ?_;have au:k=it.txts.length:=sO h6
       rw[au,Bi (by simp)]at hI;rw[I (by rw[hI];simp)];exact Y [2] [] sr (Ao (Ab sr (by simp[w])))
     rw[I (sG h5)];exact Y [2] [] sr (Ao (Ab sr sm))
def Rp(it:It):Int:=
 if Axt it=false then 3 else if K4 it.kind 1 6=false then 1 else if Bc7 it=false then 2
 else if(10:Int)<it.opts.length\/(10:Int)<it.txts.length\/(8:Int)<it.ass.length then 5
 else if Axu it=false\/Ael it=false then 19 else if Ar1 it.ass 1 9999999=false then 23 else 0
def Ar2(hS:Mx)(it:It)(n:it.small):Kb gv prog 60 [it.v] (λr=>r=.i (Rp it)):=by
 have ha:=n.ass;have l:=Bc3 it;have x:=Ro it.kind 1 6;have g:=A7i it n;have i:=Bc4 it;have j:=A7j hS it n;have w:=Ave it.ass 1 9999999 om;unfold Rp;generalize Axt it=b1,K4 it.kind 1 6=b2,Bc7 it=b3,Axu it=b4,Ael it=b5,Ar1 it.ass 1 9999999=b6 at*;have y:=vIt it;rw[y]at l g i j|-;have e:=C7 it.opts;have f:=Af it.ch;have a:=C7 it.txts;have d:=Af it.ass;have k:=Fm it.opts;have o:=A4 it.ch;have h:=Fm it.txts;have z:=A4 it.ass;generalize Hd it.opts=ov,Av it.ch=cv,Hd it.txts=xv,Av it.ass=av at*;have aa:ov= []↔it.opts= []:=by rw[<- Am,k,Am]
 have ad:cv= []↔it.ch= []:=by rw[<- Am,o,Am]
 have ab:xv= []↔it.txts= []:=by rw[<- Am,h,Am]
 refine B0 func60 λw0 N0 hG=>?_;refine Y [1] [1] sr (J (Ah (J (Ak (Ay 1 sr ?_)))));refine Ac l func107 ?_;refine Aa [1,3] [1] sr ?_
 refine Au (λh1=>?_) λh1=>?_
 .exact Y [2] [] sr (Ao (Ab sr (by rw[Ad (sG h1)])))
 .rw[I (sG h1)];refine J (Ak (Ay 2 sr ?_));refine Ac x func108 ?_;refine Aa [1,7] [1] sr ?_
  refine Au (λh2=>?_) λh2=>?_
  .exact Y [2] [] sr (Ao (Ab sr (by rw[Ad (sG h2)])))
  .rw[I (sG h2)];refine J (Ak (Ay 1 sr ?_));refine Bq hG g func109 ?_;refine Aa [1,12] [1] sr ?_
   refine Au (λt=>?_) λt=>?_
   .exact Y [2] [] sr (Ao (Ab sr (by rw[Ad (sG t)])))
   .rw[I (sG t)];refine Y [1,16] [1] Du ?_
    refine Au (λm=>?_) λm=>?_
    .exact Y [2] [] sr (Ao (Ab sr (by rw[Ad (by simpa[or_assoc]using m)])))
    .rw[I (by simpa[or_assoc,and_assoc]using m)];refine J (Ak (Ay 1 sr ?_));refine Ac i func110 ?_;refine Ay 3 sr (Rb (c:=b4) hG (λhg=>j) func111 rfl kr sr rfl rfl sr sM sr ?_);refine Aa [1,33] [1] sr ?_
     refine Au (λs=>?_) λs=>?_
     .exact Y [2] [] sr (Ao (Ab sr (by rw[Ad (sG s)])))
     .rw[I (sG s)];refine J (Ak (Ay 2 sr ?_));refine Ac w func112 ?_;refine Aa [42] [] sr ?_
      refine Au (λu=>?_) λu=>Ae ?_
      .exact Y [2] [] sr (Ao (Ab sr (by rw[Ad (sG u)])))
      rw[I (sG u)];exact Y [2] [] sr (Ao (Ab sr rf))
def Bgt(l:List Int)(k:Nat):Bool:=decide (l.getD (k+1) 0<=l.getD k 0)
def A1g(l:List Int):Bool:= !(List.range (l.length-1)).any (Bgt l)
def Axv(l:List Int)(hl:l.length<=4000000000):AC prog 199 [.ro 1 (Av l)] (λr=>r=.bool (A1g l)):=by
 have z:=λ(k:Nat)(h:k<l.length)=>Dn h
 have le:=A4 l;unfold A1g;have j:∀k,Bgt l k=decide (l.getD (k+1) 0<=l.getD k 0):=λk=>rfl
 generalize Av l=d,Bgt l=g at*;refine Aq func199 λw0 N0=>?_;refine Y [0] [] sr (J (Y [0,3] [] sr (Ah (Bu (λk nx=>⟨[(0,V.ro 1 d),(3,V.i ((k+1:Nat):Int))],[],nx,20⟩) (λk=>((List.range (l.length-1)).take k).any g=false) (l.length-1) _ sm Z ?_))));intro k nx hk u;refine J (Y [0,3,7] [] sr ?_)
 refine Au (λh1=>Ae ?_) λh1=>?_
 .have a:k<l.length-1:=by simp at h1;omega
  have i:k<d.length:=om;have w:k+1<d.length:=om;have n:((k:Int)+1)<d.length:=om;have m:(0:Int)<=(k:Int)+1:=om;have ga:=z k om;have gb:=z (k+1) om;have hb:=j k;have s:=λh=>Ib (l.length-1) k g a u h
  have t:=λh=>Nq (f:=g) a h
  generalize l.getD k 0=x,l.getD (k+1) 0=y at*;have o:IntKind.i64.wrap (((k+1:Nat):Int)-1)=(k:Int):=by rw[Bp om oM];omega
  have c:IntKind.i64.wrap (k:Int)=(k:Int):=Bp om om;have Tn:IntKind.i64.wrap ((k:Int)+1+1)=((k+1+1:Nat):Int):=by rw[Bp om oM];omega
  refine J (Ah (Do [(0,[]),(1,[]),(2,[]),(4,[]),(5,[]),(6,[]),(7,[]),(3,[]),(8,[]),(9,[])] [0,3,19] [] Eb kr (by simp[ga,gb,m,i,n,c,-Int.natCast_add]<;>rfl) ?_))
  refine Au (λh2=>?_) λh2=>Ae ?_
  .exact Y [2] [] sr (Ao (Ab sr (by rw[t (by rw[hb];simpa using h2)];rfl)))
  refine Ba [0,3] [] Du ?_;exact⟨a,s (by rw[hb];simpa using h2),_,Z⟩
 .refine A6 ?_;have e:k=l.length-1:=sO h1
  rw[e,Bi (by simp)]at u;exact Y [2] [] sr (Ao (Ab sr (by rw[u];rfl)))
def Bc8(k:Int):Bool:=decide (k=1)||decide (k=2)||decide (k=3)
def Bgu(k:Int):AE 144 [.i k] (.bool (Bc8 k)):=by
 unfold Bc8;refine Aq func144 λw0 N0=>?_;exact Y [0] [] sr (Y [2] [] sr (By sr G8))
def Bc9(k:Int):Bool:=decide (k=5)||decide (k=6)
def Bgv(k:Int):AE 145 [.i k] (.bool (Bc9 k)):=by
 unfold Bc9;refine Aq func145 λw0 N0=>?_;exact Y [0] [] sr (Y [2] [] sr (By sr sM))
def Bi0(n:Int)(c:Int):Bool:=decide (c<0)||decide (n<=c)
def A7k(it:It)(a:List Int):Bool:=
 if it.kind=1 then decide ((a.length:Int)=1)else if it.kind=2 then A1g a
 else if it.kind=3 then decide ((a.length:Int)=it.opts.length)&&A1g (Kt a)else false
def Aog(it:It)(a:List Int):Int:=if a.any (Bi0 it.opts.length)=true then 3 else if A7k it a=false then 23 else 0
def Yj(es:List V)(hp:es.all V.pureE=true)(c:es.all Mc=true)(f:es.length<=2000000):ACO prog 135 [.ro 1 es] 1 3 (λF a=>(F=λd q=>.sl d q 1 es.length)/\a=es):=by
 have e:es.length<=maxLen/\es.length*8<=140737488355328:=⟨Ag f dc,by omega⟩;refine Kn func135 λw0 N0=>?_;refine Y [0] [] sr (J (Bn 1 sr ?_));refine Nj rfl rfl sr rfl kr (λb h=>⟨_,by simp<;>rfl,?_⟩);refine Aa [0,4] [] sr ?_
 refine C1 (λh1=>?_) λh1=>?_
 .refine Y [2] [] sr ?_;have g:=Am.1 (h h1);subst g;exact Fz 2 2 1 3 [2] [2] sr sr (Ao (H2 2 sr rfl rfl sm sr ⟨rfl,rfl⟩))
 exact Y [2] [5] Du (Ao (H2 5 sr rfl rfl (sG c) sr ⟨rfl,rfl⟩))
def Aoh(es:List V)(hp:es.all V.pureE=true)(a:es.all Mc=true)(c:es.length<=2000000):AE 135 [.ro 1 es] (.ro 1 es):=by
 refine(Yj es hp a c).ac ?_;rintro F d⟨rfl,rfl⟩;exact⟨_,by simp[hp]<;>rfl,rfl⟩
def Bgw(it:It)(ch:List Int)(hc:ch.length<=2000000)(ho:it.opts.length<=2000000):AC prog 146 [it.v,.ro 1 (Av ch)] (λr=>r=.i (Aog it ch)):=by
 have w:=Axv ch om;have g:=Axv (Kt ch) (by rw[Pg];omega);have m:=Yj (Av ch) (Af ch) (Tu ch) (by rw[A4];omega);have am:=Agt ch om;have qc:=λ(k:Nat)(h:k<ch.length)=>Dn h
 have a:=A4 ch;have ab:=A4 (Kt ch);have o:=Af (Kt ch);have ag:=Tu ch;have aj:=Tu (Kt ch);have l:=Af ch;have aa:=Pg ch;unfold Aog A7k;generalize A1g (Kt ch)=rs,A1g ch=rc,Av (Kt ch)=sv,Av ch=t at*;generalize al:Bi0 it.opts.length=i at*;have ak:=vIt it;rw[ak];have i1:=C7 it.opts;have i2:=Af it.ch;have i3:=C7 it.txts;have i4:=Af it.ass;have s:=Fm it.opts;have af:=A4 it.ch;have ad:=Fm it.txts;have ar:=A4 it.ass;generalize Hd it.opts=ov,Av it.ch=cv,Hd it.txts=xv,Av it.ass=av at*;have an:ov= []↔it.opts= []:=by rw[<- Am,s,Am]
 have aq:cv= []↔it.ch= []:=by rw[<- Am,af,Am]
 have ao:xv= []↔it.txts= []:=by rw[<- Am,ad,Am]
 refine Aq func146 λw0 N0=>?_;refine Y [1,2] [2] sr (Y [1,2,5] [2] sr (J (Y [1,2,5,13,14,15] [2] sr (Ah (Bu (λk nx=>⟨[(1,V.ro 1 t),(2,V.bp 2 0 17 0 0),(5,V.i it.opts.length),(13,V.ro 1 t),(14,V.i t.length),(15,V.i k)],[(2,⟨0,17,150,[V.agg [.i it.id,.i it.ver,.i it.kind,.str it.stem,.ro 1 ov,.ro 1 cv,.i it.val,.i it.tol,.ro 1 xv,.i it.pts,.str it.code,.i it.fam,.i it.set,.i it.wo,.i it.se,.ro 1 av,.i it.rub]]⟩)],nx,54⟩) (λk=>(ch.take k).any i=false) ch.length _ sm (by simp only[s];exact Z) ?_)))));intro k nx hk hI;refine Y [1,2,5,13,14,15,16] [2] sr (J ?_)
 refine Au (λh1=>Ae ?_) λh1=>?_
 .have f:k<ch.length:=by simp at h1;omega
  have u:k<t.length:=om;have ga:=qc k f;have Ee:=A5 (k:=k) om;have ah:i (ch.getD k 0)=false->(ch.take (k+1)).any i=false:=λh=>by rw[Az f,List.any_append,hI];rw[Cs f]at h;simp[h]
  have ae:i (ch.getD k 0)=true->ch.any i=true:=λh=>by rw[Cs f]at h;exact Ew.2 ⟨_,Aw f,h⟩
  generalize ch.getD k 0=x at*;have j:i x=(decide (x<0)||decide ((it.opts.length:Int)<=x)):=by rw[<- al];rfl
  refine J (Ah (Y [1,2,5,7,13,14,15] [2] (by simp[ga,u]<;>rfl) (Y [1,2,5,13,14,15,25] [2] sr ?_)))
  refine Au (λh2=>?_) λh2=>Ae ?_
  .exact Y [4] [] sr (Ao (Ab sr (by rw[Ad (ae (by rw[j];simpa using h2))])))
  refine Ba [1,2,5,13,14,15] [2] (by simp[Ee]<;>rfl) ?_;exact⟨f,ah (by rw[j];simpa using h2),_,Z⟩
 .refine A6 ?_;have ai:k=ch.length:=sO h1
  rw[ai,Be]at hI;rw[I (by rw[hI];simp)];refine Y [1,2,5,8] [2] sr (J (Y [1,5,8,28] [] sr (Ah (Y [1,5,8,28,29] [] sr ?_))))
  refine Au (λh3=>?_) λh3=>?_
  .rw[Ad (show it.kind=1 by simpa using h3)];refine Ba [8] [] sr (J (Y [53] [] sr ?_))
   refine Au (λz=>?_) λz=>Ae ?_
   .exact Y [4] [] sr (Ao (Ab sr (by rw[Ad (by simpa[a]using z)])))
   exact Y [4] [] sr (Ao (Ab sr (by rw[I (by simpa[a]using z)])))
  .rw[I (show¬it.kind=1 by simpa using h3)];refine Y [1,5,8,28,34] [] sr ?_
   refine Au (λh5=>?_) λh5=>?_
   .rw[Ad (show it.kind=2 by simpa using h5)];refine Ak (Ay 1 sr ?_);refine Ac w func199 ?_;refine Aa [8] [] sr ?_;refine J (Y [53] [] sr ?_)
    refine Au (λh6=>?_) λh6=>Ae ?_
    .exact Y [4] [] sr (Ao (Ab sr (by rw[Ad (sG h6)])))
    exact Y [4] [] sr (Ao (Ab sr (by rw[I (sG h6)])))
   .rw[I (show¬it.kind=2 by simpa using h5)];refine Y [1,5,8,38] [] sr ?_
    refine Au (λh7=>?_) λh7=>Ae ?_
    .rw[Ad (show it.kind=3 by simpa using h7)];refine J (Ak (Ay 1 sr ?_));refine M5 110 m func135 rfl kr rfl rfl rfl sr Du sr ?_;refine Aa [1,5,9] [110] sr ?_;refine J (Ak (Ay 1 sr ?_));refine W6 (d:=110) (v:=_) am ag aj func117 rfl kr rfl rfl rfl (by simp[a]<;>rfl) sR (by simp[a]<;>rfl) ?_;refine Aa [1,5,9] [110] sr ?_;refine Bw 110 [1,5,9] [] (by simp[o,ab,aa]<;>rfl) (Ak (Ay 6 sr ?_));refine Ep (c:=decide ((t.length:Int)=it.opts.length)) (λhg=>g) func199 rfl kr sr rfl rfl sr sM sr ?_;refine Aa [8] [] sr ?_;refine J (Y [53] [] sr ?_)
     refine Au (λy=>?_) λy=>Ae ?_
     .exact Y [4] [] sr (Ao (Ab sr (by rw[Ad (by simp[a]at y|-;exact λe=>y.resolve_left (λn=>n e))])))
     exact Y [4] [] sr (Ao (Ab sr (by rw[I (by simpa[a]using y)])))
    rw[I (show¬it.kind=3 by simpa using h7)];refine J (Y [53] [] sr ?_)
    refine A0 rfl (λh9=>?_) sA
    .exact Y [4] [] sr (Ao (Ab sr (by rw[Ad rfl])))
structure An where
 item:Int
 ch:List Int
 val:Int
 txt:List UInt8
 om:Bool
def An.v(a:An):V:=V.agg [.i a.item,.ro 1 (Av a.ch),.i a.val,.str a.txt,.bool a.om]
def vAn(a:An):a.v=V.agg [.i a.item,.ro 1 (Av a.ch),.i a.val,.str a.txt,.bool a.om]:=rfl
def Bi1(it:It)(a:An):Bool:=
 ((decide (0<a.ch.length)&&(a.om|| !Bc8 it.kind))||(!decide (a.val=0)&&(a.om|| !decide (it.kind=4))))||(!decide (a.txt= [])&&(a.om|| !Bc9 it.kind))
def Adi(it:It)(a:An):Int:=
 if Rp it≠0 then Rp it else if a.item≠it.id then 6 else if Bi1 it a=true then 1 else if a.om=true then 0
 else if it.kind=4 then(if a.val< -9999999\/9999999<a.val then 3 else 0)
 else if it.kind=5 then(if(200:Int)<a.txt.length then 5 else 0)
 else if it.kind=6 then(if(2000:Int)<a.txt.length then 5 else 0)else Aog it a.ch
structure An.small(a:An):Prop where
 ch:a.ch.length<=2000000
 txt:a.txt.length<=2000000
def Abp(hS:Mx)(it:It)(a:An)(hi:it.small)(ha:a.small):Kb gv prog 90 [it.v,a.v] (λr=>r=.i (Adi it a)):=by
 have f:=Ar2 hS it hi;have w:=Bgu it.kind;have y:=Bgv it.kind;have e:=Bgw it a.ch ha.ch hi.opts.1;unfold Adi Bi1;generalize Rp it=ie,Bc8 it.kind=b1,Bc9 it.kind=b2,Aog it a.ch=ce at*;have t:=vIt it;have u:=vAn a;rw[t]at f e|-;rw[u];have i1:=C7 it.opts;have i2:=Af it.ch;have z:=C7 it.txts;have i4:=Af it.ass;have s:=Fm it.opts;have l:=A4 it.ch;have k:=Fm it.txts;have ae:=A4 it.ass;generalize Hd it.opts=ov,Av it.ch=cv,Hd it.txts=xv,Av it.ass=av at*;have aa:ov= []↔it.opts= []:=by rw[<- Am,s,Am]
 have ad:cv= []↔it.ch= []:=by rw[<- Am,l,Am]
 have ab:xv= []↔it.txts= []:=by rw[<- Am,k,Am]
 have i5:=Af a.ch;have g:=A4 a.ch;generalize Av a.ch=hv at*;refine B0 func90 λw0 N0 hG=>?_;refine Y [2,3] [2,3] sr (J (J (Ak (Ay 1 sr ?_))));refine Bq hG f func60 ?_;refine Aa [2,3,5] [2,3] sr (Y [2,3,5,9] [2,3] sr ?_)
 refine Au (λh1=>?_) λh1=>Ae ?_
 .exact Y [4] [] sr (Ao (Ab sr (by rw[Ad (sG h1)])))
 rw[I (sG h1)];refine J (Y [2,3,15] [2,3] sr ?_)
 refine Au (λh2=>?_) λh2=>Ae ?_
 .exact Y [4] [] sr (Ao (Ab sr (by rw[Ad (sG h2)])))
 rw[I (sG h2)];refine J (J (Ak (Ay 10 sr ?_)));refine Ep (c:=decide (0<hv.length)&& !a.om) (λhg=>w) func144 rfl kr sr rfl rfl sr sm sr (Ay 27 sr ?_);refine Ep (c:=(!((decide (0<hv.length)&&(a.om|| !b1))||(!decide (a.val=0)&&(a.om|| !decide (it.kind=4))))&& !decide (a.txt= []))&& !a.om) (λhg=>y) func145 rfl kr sr rfl rfl sr sm sr (Aa [2,3,58] [2,3] sr ?_)
 refine Au (λn=>?_) λn=>Ae ?_
 .exact Y [4] [] sr (Ao (Ab sr (by rw[Ad (by rw[<- g];simpa using n)])))
 rw[I (by rw[<- g];simpa using n)];refine J (Y [2,3,60] [2,3] sr ?_)
 refine Au (λh=>?_) λh=>Ae ?_
 .exact Y [4] [] sr (Ao (Ab sr (by rw[Ad (sG h)])))
 rw[I (sG h)];refine J (Y [2,3,62] [2,3] sr (Ah (Y [2,3,62,67] [2,3] sr ?_)))
 refine Au (λm=>?_) λm=>?_
 .rw[Ad (show it.kind=4 by simpa using m)];refine Y [76] [] sr ?_
  refine Au (λo=>?_) λo=>Ae ?_
  .exact Y [4] [] sr (Ao (Ab sr (by rw[Ad (sG o)])))
  exact Y [4] [] sr (Ao (Ab sr (by rw[I (sG o)])))
 .rw[I (show¬it.kind=4 by simpa using m)];refine Y [2,3,62,77] [2,3] sr ?_
  refine Au (λx=>?_) λx=>?_
  .rw[Ad (show it.kind=5 by simpa using x)];refine Y [82] [] sr ?_
   refine Au (λi=>?_) λi=>Ae ?_
   .exact Y [4] [] sr (Ao (Ab sr (by rw[Ad (sG i)])))
   exact Y [4] [] sr (Ao (Ab sr (by rw[I (sG i)])))
  .rw[I (show¬it.kind=5 by simpa using x)];refine Y [2,3,83] [2,3] sr ?_
   refine Au (λj=>?_) λj=>?_
   .rw[Ad (show it.kind=6 by simpa using j)];refine Y [88] [] sr ?_
    refine Au (λd=>?_) λd=>Ae ?_
    .exact Y [4] [] sr (Ao (Ab sr (by rw[Ad (sG d)])))
    exact Y [4] [] sr (Ao (Ab sr (by rw[I (sG d)])))
   .rw[I (show¬it.kind=6 by simpa using j)];refine J (Ak (Ay 3 sr ?_));refine Ac e func146 ?_;exact Aa [4] [] sr (Ao (Ab sr (rfl)))
def A1h(l:List (List UInt8))(x:List UInt8):AE 252 [.ro 1 (Hd l),.str x] (.i (Ia (λy=>decide (x=y)) l 0)):=by
 refine K8 0 rfl λg=>?_;have j:∀(k:Nat)(h:k<l.length),Hj (Hd l) k=some (.str l[k]):=λk h=>by rw[Abo h,Cs h]
 have n:=Fm l;rw[n]at g;have m:maxLen<=9223372036854775807:=dc;generalize Hd l=f at*;refine Aq func252 λw0 N0=>?_;refine Y [0,1] [] sr (J (A9 [7,8] sr (Ah (Bu (λk nx=>⟨[(0,V.ro 1 f),(1,V.str x),(7,V.i f.length),(8,V.i k)],[],nx,19⟩) (λk=>Ia (λy=>decide (x=y)) (l.drop k) k=Ia (λy=>decide (x=y)) l 0) l.length _ rfl Z ?_))));intro k nx hk c;refine Y [0,1,7,8,9] [] sr (J ?_)
 refine Au (λh1=>Ae ?_) λh1=>?_
 .have a:k<l.length:=by simp at h1;omega
  have d:k<f.length:=om;have i:=j k a;rw[Pf _ a]at c;generalize l[k]=y at i c;refine J (Ah (Y [0,1,5,7,8] [] sr (A9 [16] (by simp[i,d]<;>rfl) ?_)))
  refine Au (λh2=>?_) λh2=>Ae ?_
  .exact Y [4] [] sr (Ao (Ab sr (by rw[<- c,Ad h2])))
  refine Ba [0,1,7,8] [] (by simp[(A5 (k:=k) om)]<;>rfl) ?_;exact⟨a,by rw[<- c,I (by rw[h2];decide)],_,Z⟩
 .refine A6 ?_;have e:k=l.length:=sO h1
  rw[e,Ck,Ia]at c;exact Y [4] [] sr (Ao (Ab sr (by rw[<- c])))
def Bda(l:List (List UInt8))(x:List UInt8):AE 202 [.ro 1 (Hd l),.str x] (.bool (decide (x∈l))):=by
 have a:=A1h l x
 have d:decide (x∈l)=decide (0<=Ia (λy=>decide (x=y)) l 0):=by
  rw[Pu]
  by_cases h:x∈l
  .rw[Wv h];symm;rw[Ew];exact⟨x,h,by simp⟩
  .rw[decide_eq_false h];symm;rw[Sp];intro y c;simp;exact λe=>h (e▸c)
 rw[d];have pl:=C7 l;generalize Hd l=lv,Ia (λy=>decide (x=y)) l 0=z at*;refine Aq func202 λw0 N0=>?_;refine Y [0,1] [] sr (Bn 2 sr ?_);refine Ac a func252 ?_;exact Aa [4] [] sr (By sr (rfl))
def Ar3(it:It)(ch:List Int):Nat->Int
 |0=>0
 |k+1=>if ch.getD k 0∈it.ch then IntKind.i64.wrap (Ar3 it ch k+1)else IntKind.i64.wrap (Ar3 it ch k-1)
def Bdb(it:It)(ch:List Int):Int:=IntKind.i64.wrap ((IntKind.i64.wrap (S9 (Ar3 it ch ch.length)*it.pts)).tdiv it.ch.length)
def A7l(it:It)(ch:List Int)(f:it.ch≠ [])(hl:ch.length<=2000000):AE 200 [it.v,.ro 1 (Av ch)] (.i (Bdb it ch)):=by
 have t:=Sc it.ch;have qc:=λ(k:Nat)(h:k<ch.length)=>Dn h
 have ab:=A4 ch;have ae:=Af ch;have ah:0<it.ch.length:=E7.2 f;unfold Bdb;have l:∀k,Ar3 it ch (k+1)=if ch.getD k 0∈it.ch then IntKind.i64.wrap (Ar3 it ch k+1)else IntKind.i64.wrap (Ar3 it ch k-1):=λk=>rfl
 have j:Ar3 it ch 0=0:=rfl;generalize Ar3 it ch=nk,Av ch=o at*;have s:=vIt it;rw[s];have i1:=C7 it.opts;have i2:=Af it.ch;have i3:=C7 it.txts;have i4:=Af it.ass;have n:=Fm it.opts;have e:=A4 it.ch;have m:=Fm it.txts;have ag:=A4 it.ass;generalize Hd it.opts=z,Av it.ch=y,Hd it.txts=w,Av it.ass=av at*;have aa:z= []↔it.opts= []:=by rw[<- Am,n,Am]
 have af:y= []↔it.ch= []:=by rw[<- Am,e,Am]
 have ad:w= []↔it.txts= []:=by rw[<- Am,m,Am]
 refine Aq func200 λw0 N0=>?_;refine Y [1,2] [2] sr (A9 [5] sr (J (Y [2,5,8,9,10] [2] sr (Ah (Bu (λk nx=>⟨[(2,V.bp 2 0 17 0 0),(5,V.i (nk k)),(8,V.ro 1 o),(9,V.i o.length),(10,V.i k)],[(2,⟨0,17,150,[V.agg [.i it.id,.i it.ver,.i it.kind,.str it.stem,.ro 1 z,.ro 1 y,.i it.val,.i it.tol,.ro 1 w,.i it.pts,.str it.code,.i it.fam,.i it.set,.i it.wo,.i it.se,.ro 1 av,.i it.rub]]⟩)],nx,32⟩) (λk=>True) ch.length _ trivial (by simp only[j];exact Z) ?_)))));intro k nx hk hI;refine Y [2,5,8,9,10,11] [2] sr (J ?_)
 refine Cu (λh1=>?_) λh1=>?_
 .have a:k<ch.length:=by simp at h1;omega
  have g:k<o.length:=om;have ga:=qc k a;have d:=l k;have Ee:=A5 (k:=k) om;generalize ch.getD k 0=x at*;have c:=t x;refine J (Ah (Y [2,5,7,8,9,10] [2] (by simp[ga,g]<;>rfl) (Bn 3 sr ?_)));refine Ac c func63 ?_;refine Aa [2,5,8,9,10,17] [2] sr ?_
  refine Au (λh2=>?_) λh2=>?_
  .refine Ba [2,5,8,9,10] [2] sr (Cw [] (by simp[Ee]<;>rfl) ?_);exact⟨a,trivial,_,by rw[d,Ad (sG h2)];exact Z⟩
  .refine Ba [2,5,8,9,10] [2] sr (Cw [] (by simp[Ee]<;>rfl) ?_);exact⟨a,trivial,_,by rw[d,I (sG h2)];exact Z⟩
 .refine A6 ?_;have u:k=ch.length:=sO h1
  subst u;have i:¬it.ch= []:=f;exact Y [4] [] (by simp[e,i]<;>rfl) (By sr (by unfold S9;rfl))
def fIx(it:It)(x:Int):Int:=Ia (λy=>decide (x=y)) it.ch 0
def inK(it:It)(a:List Int)(k:Nat)(s:Int × Int):Nat->Int × Int
 |0=>s
 |j+1=>(if fIx it (a.getD k 0)<fIx it (a.getD (k+1+j) 0)then IntKind.i64.wrap ((inK it a k s j).1+1)else IntKind.i64.wrap ((inK it a k s j).1-1),IntKind.i64.wrap ((inK it a k s j).2+1))
def Adj(it:It)(a:List Int):Nat->Int × Int
 |0=>(0,0)
 |k+1=>inK it a k (Adj it a k) (a.length-(k+1))
def Bdc(it:It)(a:List Int):Int:=IntKind.i64.wrap ((IntKind.i64.wrap (S9 (Adj it a a.length).1*it.pts)).tdiv (Adj it a a.length).2)
def Axx(it:It)(a:List Int)(k:Nat)(s:Int × Int)(c:0<=s.2/\s.2<=1000000000):∀j:Nat,j<=1000->(inK it a k s j).2=s.2+j
 |0,_ =>by simp[inK]
 |j+1,h=>by
  rw[inK];simp only;rw[Axx it a k s c j om,Bp om oM];omega
def Ar4(it:It)(a:List Int)(d:a.length<=1000):∀k:Nat,k<=a.length->(0<=(Adj it a k).2/\(Adj it a k).2<=1000*(k:Int))/\(1<=k->2<=a.length->1<=(Adj it a k).2)
 |0,_ =>by simp[Adj]
 |k+1,h=>by
  have ih:=Ar4 it a d k om;rw[Adj,Axx it a k _ ⟨ih.1.1,by omega⟩ _ om];refine⟨by omega,λ_ h2=>?_⟩
  by_cases c:1<=k
  .have:=ih.2 c h2;omega
  .omega
def A7m(it:It)(ch:List Int)(h2:2<=ch.length)(hl:ch.length<=1000):AE 201 [it.v,.ro 1 (Av ch)] (.i (Bdc it ch)):=by
 have e:∀x,AE 113 [.ro 1 (Av it.ch),.i x] (.i (fIx it x)):=λx=>Ak2 it.ch x
 have qc:=λ(k:Nat)(h:k<ch.length)=>Dn h
 have qd:∀(k j:Nat),k+1+j<ch.length->Hj ((Av ch).drop (k+1)) j=some (.i (ch.getD (k+1+j) 0)):=λk j h=>by
  rw[C2,Dk,<- C2];exact Dn h
 have ah:∀k,((Av ch).drop (k+1)).length=ch.length-(k+1):=λk=>by simp
 have ar:=A4 ch;have ax:=Af ch;have am:¬(Adj it ch ch.length).2=0:=by have:=(Ar4 it ch hl ch.length (A7 _)).2 om h2;omega
 unfold Bdc;have ag:∀k s j,inK it ch k s (j+1)=(if fIx it (ch.getD k 0)<fIx it (ch.getD (k+1+j) 0)then IntKind.i64.wrap ((inK it ch k s j).1+1)else IntKind.i64.wrap ((inK it ch k s j).1-1),IntKind.i64.wrap ((inK it ch k s j).2+1)):=λk s j=>rfl
 have aa:∀k s,inK it ch k s 0=s:=λk s=>rfl
 have w:∀k,Adj it ch (k+1)=inK it ch k (Adj it ch k) (ch.length-(k+1)):=λk=>rfl
 have o:Adj it ch 0=(0,0):=rfl;generalize Adj it ch=ok,inK it ch=ik,fIx it=fi,Av ch=a at*;have al:=vIt it;rw[al];have i1:=C7 it.opts;have i2:=Af it.ch;have i3:=C7 it.txts;have i4:=Af it.ass;have ai:=Fm it.opts;have af:=A4 it.ch;have ae:=Fm it.txts;have az:=A4 it.ass;generalize Hd it.opts=ov,Av it.ch=cv,Hd it.txts=xv,Av it.ass=av at*;have aq:ov= []↔it.opts= []:=by rw[<- Am,ai,Am]
 have ay:cv= []↔it.ch= []:=by rw[<- Am,af,Am]
 have aw:xv= []↔it.txts= []:=by rw[<- Am,ae,Am]
 refine Aq func201 λw0 N0=>?_;refine Y [1,2] [2] sr (A9 [5,6] sr (J (A9 [11,12,13] sr (Ah (Bu (λk nx=>⟨[(1,V.ro 1 a),(2,V.bp 2 0 17 0 0),(5,V.i (ok k).1),(6,V.i (ok k).2),(11,V.ro 1 a),(12,V.i a.length),(13,V.i k)],[(2,⟨0,17,150,[V.agg [.i it.id,.i it.ver,.i it.kind,.str it.stem,.ro 1 ov,.ro 1 cv,.i it.val,.i it.tol,.ro 1 xv,.i it.pts,.str it.code,.i it.fam,.i it.set,.i it.wo,.i it.se,.ro 1 av,.i it.rub]]⟩)],nx,51⟩) (λk=>True) ch.length _ trivial (by simp only[o];exact Z) ?_)))));intro k nx hk hI;refine Y [1,2,5,6,11,12,13,14] [2] sr (J ?_)
 refine Cu (λh1=>?_) λh1=>?_
 .have l:k<ch.length:=by simp at h1;omega
  have n:k<a.length:=om;have ga:=qc k l;have an:=w k;have Ee:=A5 (k:=k) om;have t:=qd k;have au:=ah k;have u:=ag k (ok k);have g:=aa k (ok k);generalize ch.getD k 0=x at*;have c:=e x;have z:(0:Int)<=(k:Int)+1/\(k:Int)+1<=a.length:=om;have ab:(a.drop (k+1)).take (a.length-(k+1))=a.drop (k+1):=Bi sm;generalize ik k (ok k)=ii at*;refine J (Ah (Y [1,2,5,6,7,8,11,12,13] [2] (by simp[ga,n]<;>rfl) (Y [1,2,5,6,8,11,12,13,21,22,23] [2] (by simp[z,ab,Ee]<;>rfl) ?_)));generalize a.drop (k+1)=dv at*;refine Ah (Bu (λj nx=>⟨[(1,V.ro 1 a),(2,V.bp 2 0 17 0 0),(5,V.i (ii j).1),(6,V.i (ii j).2),(8,V.i x),(11,V.ro 1 a),(12,V.i a.length),(13,V.i k),(21,V.ro 1 dv),(22,V.i ((a.length-(k+1):Nat):Int)),(23,V.i j)],[(2,⟨0,17,150,[V.agg [.i it.id,.i it.ver,.i it.kind,.str it.stem,.ro 1 ov,.ro 1 cv,.i it.val,.i it.tol,.ro 1 xv,.i it.pts,.str it.code,.i it.fam,.i it.set,.i it.wo,.i it.se,.ro 1 av,.i it.rub]]⟩)],nx,51⟩) (λj=>True) (ch.length-(k+1)) _ trivial (by simp only[g];exact Z) ?_);intro j nx hj ao;refine Y [1,2,5,6,8,11,12,13,21,22,23,24] [2] sr (J ?_)
  refine Cu (λh2=>?_) λh2=>?_
  .have f:j<ch.length-(k+1):=by simp at h2;omega
   have ad:j<dv.length:=om;have gj:=t j om;have m:=u j;have d:=A5 (k:=j) om;generalize ch.getD (k+1+j) 0=y at*;have i:=e y;refine J (Ah (Y [1,2,5,6,8,10,11,12,13,21,22,23] [2] (by simp[gj,ad]<;>rfl) (A9 [] sr (J (Di [(0,[]),(2,[]),(4,[]),(6,[]),(1,[]),(3,[]),(5,[]),(7,[]),(8,[])] Eb kr ?_)))));refine Ci 5 sr ?_;refine B4 (λhg=>c) func113 ?_;refine Ci 1 sr ?_;refine B4 (λhg=>i) func113 ?_;refine Dj [1,2,5,6,8,11,12,13,21,22,23,37] [2] sr ?_
   refine Au (λh3=>?_) λh3=>?_
   .refine Ba [1,2,5,6,8,11,12,13,21,22,23] [2] sr (Cw [] (by simp[d]<;>rfl) ?_);exact⟨f,trivial,_,by rw[m,Ad (sG h3)];exact Z⟩
   .refine Ba [1,2,5,6,8,11,12,13,21,22,23] [2] sr (Cw [] (by simp[d]<;>rfl) ?_);exact⟨f,trivial,_,by rw[m,I (sG h3)];exact Z⟩
  .refine A6 ?_;have ak:j=ch.length-(k+1):=sO h2
   rw[ak,<- an];refine Ba [1,2,5,6,11,12,13] [2] (by simp[Ee]<;>rfl) ?_;exact⟨l,trivial,_,Z⟩
 .refine A6 ?_;have aj:k=ch.length:=sO h1
  subst aj;exact Y [4] [] (by simp[am]<;>rfl) (By sr (by unfold S9;rfl))
def u8v(l:List UInt8):List V:=l.map λb=>V.int .u8 (b.toNat:Int)
def Xm(l m:List UInt8):u8v (l++m)=u8v l++u8v m:=by simp[u8v]
def Xn(b:UInt8):u8v [b]= [V.int .u8 (b.toNat:Int)]:=rfl
def Axy(l:List UInt8):(u8v l).length=l.length:=by simp[u8v]
def A7n(l:List UInt8):(u8v l).all V.pureE=true:=by
 rw[Ar];intro x a;simp only[u8v,Bl]at a;obtain⟨n,_,rfl⟩:=a;rfl
def Al2:∀l:List UInt8,Q5 (u8v l)=some l
 | []=>rfl
 |b::r=>by
  have ih:=Al2 r;have h1:(0:Int)<=(b.toNat:Int)/\(b.toNat:Int)<256:=by have:=b.toNat_lt;omega
  simp only[u8v,B6]at ih|-;rw[Q5,ih];simp[h1]
def Abq(s:List UInt8 × Bool)(c:UInt8):List UInt8 × Bool:=if s.2=true then(s.1++[32]++[c],false)else(s.1++[c],s.2)
def Ar5(s:List UInt8 × Bool)(b:UInt8):List UInt8 × Bool:=
 if 65<=b.toNat/\b.toNat<=90 then Abq s (b+32)
 else if 97<=b.toNat/\b.toNat<=122 then Abq s b
 else if 48<=b.toNat/\b.toNat<=57 then Abq s b
 else if b.toNat=32 then(s.1,decide (0<s.1.length))else s
def nK(s:List UInt8):Nat->List UInt8 × Bool
 |0=>([],false)
 |k+1=>Ar5 (nK s k) (s.getD k 0)
def Axz(s:List UInt8):List UInt8:=(nK s s.length).1
def Al3(s:List UInt8 × Bool)(c:UInt8):(Abq s c).1.length<=s.1.length+2:=by unfold Abq;split<;>simp
def A1i(s:List UInt8 × Bool)(b:UInt8):(Ar5 s b).1.length<=s.1.length+2:=by
 unfold Ar5;have:=Al3 s (b+32);have:=Al3 s b
 (repeat' split)<;>first|omega|(dsimp only;omega)
def A7o(s:List UInt8):∀k,(nK s k).1.length<=2*k
 |0=>by simp[nK]
 |k+1=>by have:=A1i (nK s k) (s.getD k 0);have:=A7o s k;rw[nK];omega
def Ar6(s:List UInt8)(hs:s.length<=2000000):AE 203 [.str s] (.str (Axz s)):=by
 have aa:∀k,nK s (k+1)=Ar5 (nK s k) (s.getD k 0):=λk=>rfl
 have ab:=A7o s;have ae:∀j b,Ar5 j b=if 65<=b.toNat/\b.toNat<=90 then Abq j (b+32)else if 97<=b.toNat/\b.toNat<=122 then Abq j b else if 48<=b.toNat/\b.toNat<=57 then Abq j b else if b.toNat=32 then(j.1,decide (0<j.1.length))else j:=λj b=>rfl
 have w:∀j c,Abq j c=if j.2=true then(j.1++[32]++[c],false)else(j.1++[c],j.2):=λj c=>rfl
 refine Aq func203 λw0 N0=>?_;refine Y [0] [] sr (A9 [3] sr (A9 [4] sr (J (A9 [8,9] sr ?_))));refine Fz 3 100 1 5 [0,3,4,8,9] [100] sr sr ?_;refine Ah (C3 (λx:Nat × Nat × Nat=>⟨[(0,V.str s),(3,.sl 100 x.2.1 1 (nK s x.1).1.length),(4,V.bool (nK s x.1).2),(8,V.i s.length),(9,V.i (x.1:Nat))],[(100,⟨x.2.1,1,5,u8v (nK s x.1).1⟩)],x.2.2,54⟩) (λx=>x.1<=s.length) (λx=>s.length-x.1) (0,_,_) (Cg _) Z ?_);rintro⟨k,qv,nx⟩hk;simp only at hk|-;refine Y [0,3,4,8,9,10] [100] sr (J ?_)
 refine Cu (λh1=>?_) λh1=>?_
 .have f:k<s.length:=by simp at h1;omega
  have gb:Hj s k=some (s.getD k 0):=by rw[C2,Cs f];simp[f]
  have Ee:=A5 (k:=k) om;have d:=aa k;have ag:=ab k;rw[ae]at d;have ai:=(s.getD k 0).toNat_lt;generalize s.getD k 0=b,nK s k=j at*;have⟨e,bl⟩:=j;simp only at d ag|-;have i:=Axy e;refine J (Ah (Y [0,3,4,5,8,9] [100] sr (Y [0,3,4,6,8,9] [100] Du (J (Ah (A9 [15] sr ?_))))))
  refine Au (λh2=>?_) λh2=>?_
  .have o:65<=b.toNat/\b.toNat<=90:=by simp at h2;omega
   rw[Ad o]at d;have a:=d.trans (w _ _);simp only at a
   have ad:((b+32).toNat:Int)=(b.toNat:Int)+32:=by
    have h:(b+32).toNat=(b.toNat+32)%256:=by simp[UInt8.toNat_add]
    rw[h,Bm om];omega
   have af:IntKind.u8.wrap ((b.toNat:Int)+32)=((b+32).toNat:Int):=by rw[ad,IntKind.wrap_u8];omega
   generalize b+32=c at*;have g:e.length+1<=maxLen/\e.length+1<=140737488355328:=by constructor;exact Ag (show e.length+1<=5000000 by omega) dC;omega
   have l:e.length+1+1<=maxLen/\e.length+1+1<=140737488355328:=by constructor;exact Ag (show e.length+1+1<=5000000 by omega) dC;omega
   have m:True:=trivial;refine Ba [0,3,4,6,8,9] [100] (by simp[af]<;>rfl) (J (A9 [43] sr ?_))
   refine C1 (λh3=>?_) λh3=>?_
   .refine Y [0,3,6,8,9] [100] (by simp[g,i]<;>rfl) (Ba [0,3,4,6,8,9] [100] sr (Ba [0,3,4,8,9] [100] (by simp[l,i]<;>rfl) (Cw [] (by simp[Ee]<;>rfl) ?_)));rw[Ad (sG h3)]at a;exact⟨(k+1,_,_),f,by simp only;omega,by simp only[a,Xm,Xn,A1,A3,Bo];simp[u8v];exact Z⟩
   refine Ba [0,3,4,8,9] [100] (by simp[g,i]<;>rfl) (Cw [] (by simp[Ee]<;>rfl) ?_);rw[I (sG h3)]at a;exact⟨(k+1,_,_),f,by simp only;omega,by simp only[a,Xm,Xn,A1,A3,Bo];exact Z⟩
  .have o:¬(65<=b.toNat/\b.toNat<=90):=by simp at h2;omega
   rw[I o]at d;have g:e.length+1<=maxLen/\e.length+1<=140737488355328:=by constructor;exact Ag (show e.length+1<=5000000 by omega) dC;omega
   have l:e.length+1+1<=maxLen/\e.length+1+1<=140737488355328:=by constructor;exact Ag (show e.length+1+1<=5000000 by omega) dC;omega
   have m:True:=trivial;refine J (Y [0,3,4,6,8,9,24] [100] sr ?_)
   refine Cu (λy=>?_) λy=>?_
   .have n:97<=b.toNat/\b.toNat<=122:=by simp at y;omega
    rw[Ad n]at d;have a:=d.trans (w _ _);simp only at a
    refine A0 rfl (λh5=>Ae ?_) (λh5=>by simp at y h5;omega)
    .refine J (Y [0,3,4,6,8,9,43] [100] sr ?_)
     refine C1 (λh6=>?_) λh6=>?_
     .refine Y [0,3,6,8,9] [100] (by simp[g,i]<;>rfl) (Ba [0,3,4,6,8,9] [100] sr (Ba [0,3,4,8,9] [100] (by simp[l,i]<;>rfl) (Cw [] (by simp[Ee]<;>rfl) ?_)));rw[Ad (sG h6)]at a;exact⟨(k+1,_,_),f,by simp only;omega,by simp only[a,Xm,Xn,A1,A3,Bo];simp[u8v];exact Z⟩
     refine Ba [0,3,4,8,9] [100] (by simp[g,i]<;>rfl) (Cw [] (by simp[Ee]<;>rfl) ?_);rw[I (sG h6)]at a;exact⟨(k+1,_,_),f,by simp only;omega,by simp only[a,Xm,Xn,A1,A3,Bo];exact Z⟩
   .have n:¬(97<=b.toNat/\b.toNat<=122):=by simp at y;omega
    rw[I n]at d;refine Cw [] sr ?_
    refine Cu (λz=>?_) λz=>?_
    .have u:48<=b.toNat/\b.toNat<=57:=by simp at z;omega
     rw[Ad u]at d;have a:=d.trans (w _ _);simp only at a;refine J (Y [0,3,4,6,8,9,43] [100] sr ?_)
     refine C1 (λh9=>?_) λh9=>?_
     .refine Y [0,3,6,8,9] [100] (by simp[g,i]<;>rfl) (Ba [0,3,4,6,8,9] [100] sr (Ba [0,3,4,8,9] [100] (by simp[l,i]<;>rfl) (Cw [] (by simp[Ee]<;>rfl) ?_)));rw[Ad (sG h9)]at a;exact⟨(k+1,_,_),f,by simp only;omega,by simp only[a,Xm,Xn,A1,A3,Bo];simp[u8v];exact Z⟩
     refine Ba [0,3,4,8,9] [100] (by simp[g,i]<;>rfl) (Cw [] (by simp[Ee]<;>rfl) ?_);rw[I (sG h9)]at a;exact⟨(k+1,_,_),f,by simp only;omega,by simp only[a,Xm,Xn,A1,A3,Bo];exact Z⟩
    .have u:¬(48<=b.toNat/\b.toNat<=57):=by simp at z;omega
     rw[I u]at d;refine Y [0,3,4,8,9,37] [100] sr ?_
     refine Au (λt=>?_) λt=>?_
     .rw[Ad (show b.toNat=32 by simp at t;omega)]at d;refine Y [0,3,4,8,9] [100] sr (A6 ?_);refine Cw [] (by simp[Ee]<;>rfl) ?_;exact⟨(k+1,_,_),f,by simp only;omega,by simp only[d];exact Z⟩
     .rw[I (show¬b.toNat=32 by simp at t;omega)]at d;refine A6 ?_;refine Ba [0,3,4,8,9] [100] (by simp[Ee]<;>rfl) ?_;exact⟨(k+1,_,_),f,by simp only;omega,by simp only[d];exact Z⟩
 .refine A6 ?_;have ah:k=s.length:=sO h1
  subst ah;refine Bw 100 [3] [] (by simp[A7n,Axy]<;>rfl) ?_;exact Y [2] [] (by simp[Al2]<;>rfl) (By sr rf)
def Bgy{it:It}{a:An}(h:Adi it a=0):Rp it=0/\a.item=it.id/\(a.om=false->it.kind≠4->it.kind≠5->it.kind≠6->Aog it a.ch=0):=by
 unfold Adi at h
 split at h
 .rename_i h1;exact absurd h h1
 rename_i h1
 split at h
 .omega
 rename_i h2;refine⟨by omega,by omega,λe d c f=>?_⟩;rw[I d,I c,I f,e]at h
 split at h
 .omega
 .simpa using h
def A7p{it:It}(h:Rp it=0):Ael it=true/\K4 it.kind 1 6=true:=by
 unfold Rp at h
 (repeat' split at h)<;>try omega
 rename_i h1 h2 h3 h4 a h6
 constructor
 .cases e:Ael it
  .exact absurd (.inr e) a
  .rfl
 .cases e:K4 it.kind 1 6
  .exact absurd e h2
  .rfl
def Bdd{it:It}(h:Ael it=true)(a:it.kind=1):it.ch.length=1:=by
 unfold Ael at h;rw[Ad a]at h;simp at h;omega
def Bde{it:It}(h:Ael it=true)(a:it.kind=2):it.ch≠ []:=by
 unfold Ael at h;rw[I om,Ad a]at h;simp at h;intro e;rw[e]at h;simp at h
def A1j{it:It}(h:Ael it=true)(a:it.kind=3):2<=it.opts.length:=by
 unfold Ael at h;rw[I om,I om,Ad a]at h;simp at h;omega
def Ax0{it:It}{a:List Int}(h:Aog it a=0):A7k it a=true:=by
 unfold Aog at h
 (repeat' split at h)<;>try omega
 rename_i h1 h2;simpa using h2
def Bgz(x y:Int):Int:=if x<y then y else x
def Bi2(it:It)(a:An):Bool:=
 if it.kind=1 then decide (a.ch.getD 0 0=it.ch.getD 0 0)
 else if it.kind=4 then decide (Bgz (IntKind.i64.wrap (a.val-it.val)) (IntKind.i64.wrap (it.val-a.val))<=it.tol)
 else if it.kind=5 then decide (Axz a.txt∈it.txts)else false
def Qr(it:It)(a:An):Int × Int:=
 if Adi it a≠0 then(0,Adi it a)else if it.kind=6 then(0,8)else if a.om=true then(0,0)
 else if it.kind=2 then(Bdb it a.ch,0)else if it.kind=3 then(Bdc it a.ch,0)
 else if Bi2 it a=true then(it.pts,0)else(0,0)
def A1k(hS:Mx)(it:It)(a:An)(hi:it.small)(ha:a.small)(a7:a.ch.length<=2000000):
  Kb gv prog 147 [it.v,a.v] (λr=>r=.tup [.i (Qr it a).1,.i (Qr it a).2]):=by
 have l:=Abp hS it a hi ha;have e:=λh=>A7l it a.ch h ha.ch
 have f:=λh1 h2=>A7m it a.ch h1 h2
 have af:=Ar6 a.txt ha.txt;have ax:=Bda it.txts (Axz a.txt)
 have ao:Rp it=0->it.opts.length<=10:=λh=>by
  unfold Rp at h
  (repeat' split at h)<;>omega
 have aa:=λ(h:Adi it a=0)=>Bgy h
 have ab:=λ(h:Rp it=0)=>A7p h
 have ad:=λh=>Bdd (it:=it) h
 have al:=λh=>Bde (it:=it) h
 have au:=λh=>A1j (it:=it) h
 have am:Aog it a.ch=0->it.kind=1->a.ch.length=1:=λh c=>by
  have:=Ax0 h;unfold A7k at this;rw[Ad c]at this;simp at this;omega
 have aw:Aog it a.ch=0->it.kind=3->a.ch.length=it.opts.length:=λh c=>by
  have:=Ax0 h;unfold A7k at this;rw[I om,I om,Ad c]at this;simp at this;omega
 have q1:=λ(h:0<it.ch.length)=>Dn h
 have q2:=λ(h:0<a.ch.length)=>Dn h
 unfold Qr Bi2;generalize Adi it a=ve,Bdb it a.ch=mv at*;generalize Bdc it a.ch=a2 at*;generalize Axz a.txt=nf,it.ch.getD 0 0=y0,a.ch.getD 0 0=x0 at*;have k:=vIt it;have w:=vAn a;rw[k,w]at l;rw[k]at e f;rw[k,w];have u:=C7 it.opts;have x:=Af it.ch;have m:=C7 it.txts;have n:=Af it.ass;have an:=Fm it.opts;have ai:=A4 it.ch;have ag:=Fm it.txts;have a8:=A4 it.ass;generalize Hd it.opts=ov,Av it.ch=cv,Hd it.txts=xv,Av it.ass=av at*;have az:ov= []↔it.opts= []:=by rw[<- Am,an,Am]
 have a3:cv= []↔it.ch= []:=by rw[<- Am,ai,Am]
 have a1:xv= []↔it.txts= []:=by rw[<- Am,ag,Am]
 have t:=Af a.ch;have a5:=A4 a.ch;generalize Av a.ch=hv at*;refine B0 func147 λw0 N0 hG=>?_;refine Y [2,3] [2,3] sr (J (J (Ak (Ay 2 sr ?_))));refine Bq hG l func90 ?_;refine Aa [2,3,6] [2,3] sr (Y [2,3,6,12] [2,3] sr ?_)
 refine Au (λh1=>?_) λh1=>Ae ?_
 .exact Y [4,5] [] sr (Ao (Ab sr (by rw[Ad (sG h1)])))
 have aj:ve=0:=sG h1
 have⟨o,a0,y⟩:=aa aj;have d:=ab o;rw[I (sG h1)];refine J (Y [2,3,16] [2,3] sr ?_)
 refine Au (λh2=>?_) λh2=>Ae ?_
 .exact Y [4,5] [] sr (Ao (Ab sr (by rw[Ad (sG h2)])))
 have j:¬it.kind=6:=sG h2
 rw[I j];refine J (Y [2,3,18] [2,3] sr ?_)
 refine Au (λh3=>?_) λh3=>Ae ?_
 .exact Y [4,5] [] sr (Ao (Ab sr (by rw[Ad (sG h3)])))
 have z:a.om=false:=sG h3
 rw[I (sG h3)];refine Y [2,3,7] [2,3] sr (J (Y [2,3,7,20] [2,3] sr (Ah (Y [2,3,7,20,21] [2,3] sr ?_))))
 refine Au (λh4=>?_) λh4=>?_
 .have c:it.kind=2:=sG h4
  rw[Ad c];replace e:=e (al d.1 c);refine J (Ak (Ay 3 sr ?_));refine Ac e func200 ?_;exact Aa [4,5] [] sr (Ao (Ab sr (rfl)))
 .have aq:¬it.kind=2:=sG h4
  rw[I aq];refine Y [2,3,7,20,27] [2,3] sr ?_
  refine Au (λh5=>?_) λh5=>?_
  .have c:it.kind=3:=sG h5
   rw[Ad c];have ay:=ao o;have a6:=aw (y z om om j) c;have a4:=au d.1 c;replace f:=f om om;refine J (Ak (Ay 3 sr ?_));refine Ac f func201 ?_;exact Aa [4,5] [] sr (Ao (Ab sr (rfl)))
  .have ak:¬it.kind=3:=sG h5
   rw[I ak];refine Y [2,3,7,20,33] [2,3] sr ?_
   refine Au (λh6=>?_) λh6=>?_
   .have c:it.kind=1:=sG h6
    rw[Ad c];have l1:=ad d.1 c;have l2:=am (y z om om j) c;have g1:=q1 om;have g2:=q2 om;have k1:0<cv.length:=om;have k2:0<hv.length:=om;refine R8 [(0,[]),(4,[]),(1,[]),(2,[]),(3,[]),(5,[]),(6,[]),(7,[]),(8,[]),(9,[])] [2,7] [2] Eb kr Du (J (Y [2,68] [2] sr ?_))
    refine Au (λh7=>?_) λh7=>Ae ?_
    .exact Y [4,5] [] sr (Ao (Ab sr (by rw[Ad (sG h7)])))
    exact Y [4,5] [] sr (Ao (Ab sr (by rw[I (sG h7)])))
   .have ah:¬it.kind=1:=sG h6
    rw[I ah];refine Y [2,3,7,20,44] [2,3] sr ?_
    refine Au (λh8=>?_) λh8=>?_
    .have c:it.kind=4:=sG h8
     rw[Ad c];refine Ba [2,7] [2] sr (J (Y [2,68] [2] sr ?_))
     refine Au (λh9=>?_) λh9=>Ae ?_
     .exact Y [4,5] [] sr (Ao (Ab sr (by unfold Bgz;rw[Ad (sG h9)])))
     exact Y [4,5] [] sr (Ao (Ab sr (by unfold Bgz;rw[I (sG h9)])))
    .have ar:¬it.kind=4:=sG h8
     rw[I ar];refine Y [2,3,7,60] [2,3] sr ?_
     refine Au (λi=>?_) λi=>Ae ?_
     .have c:it.kind=5:=sG i
      rw[Ad c];refine Di [(0,[]),(2,[]),(1,[]),(3,[]),(4,[]),(5,[]),(6,[])] Eb kr (Ci 4 sr ?_);refine E8 (λhg=>af) func203 rfl kr rfl rfl sr rfl rfl sr sM sr (E8 (λhg=>ax) func202 rfl kr rfl rfl sr rfl rfl sr sM sr ?_);refine Dj [2,7] [2] sr (J (Y [2,68] [2] sr ?_))
      refine Au (λg=>?_) λg=>Ae ?_
      .exact Y [4,5] [] sr (Ao (Ab sr (by rw[Ad (sG g)])))
      exact Y [4,5] [] sr (Ao (Ab sr (by rw[I (sG g)])))
     have ae:¬it.kind=5:=sG i
     rw[I ae];refine J (Y [2,68] [2] sr ?_);refine A0 rfl sA λs=>Ae ?_;exact Y [4,5] [] sr (Ao (Ab sr sm))
def Oe(l:List It):List V:=l.map It.v
@[simp]def Jd(l:List It):(Oe l).length=l.length:=by simp[Oe]
def Ar7{l:List It}(h:k<l.length):Hj (Oe l) k=some l[k].v:=by rw[C2];simp[Oe,h]
def Bdf(it:It):it.v.pureE=true:=by
 have h1:=C7 it.opts;have h2:=Af it.ch;have a:=C7 it.txts;have c:=Af it.ass;unfold It.v;simp[V.pureE,V.pureC]
def Ih(l:List It):(Oe l).all V.pureE=true:=by
 rw[Ar];intro x a;simp only[Oe,Bl]at a;obtain⟨n,_,rfl⟩:=a;exact Bdf n
def Hv(l:List An):List V:=l.map An.v
@[simp]def Iu(l:List An):(Hv l).length=l.length:=by simp[Hv]
def Abr{l:List An}(h:k<l.length):Hj (Hv l) k=some l[k].v:=by rw[C2];simp[Hv,h]
def Bdg(a:An):a.v.pureE=true:=by
 have h2:=Af a.ch;unfold An.v;simp[V.pureE,V.pureC]
def Gb(l:List An):(Hv l).all V.pureE=true:=by
 rw[Ar];intro x a;simp only[Hv,Bl]at a;obtain⟨n,_,rfl⟩:=a;exact Bdg n
structure Dl where
 ses:Int
 cand:Int
 p:Po
 pool:List Pit
 items:List It
 ess:List Int
 uses:List (Int × Int)
 served:Int
 sec:Int
 nu:Int
 de:Int
 ex:Int
 seed:Int
def Dl.v(d:Dl):V:=V.agg [.i d.ses,.i d.cand,.i d.p.len,.ro 5 (Hu d.p.rules),.ro 1 (Av d.p.g.pts),.ro 1 (Av d.p.g.pri),.ro 2 (Bd d.p.en),.i d.p.mn,.bool d.p.var.num.neg,.ro 1 (A2 d.p.var.num.mag),.ro 1 (A2 d.p.var.den),.i d.p.cut,.bool d.p.lvl.num.neg,.ro 1 (A2 d.p.lvl.num.mag),.ro 1 (A2 d.p.lvl.den),.i d.p.top,.bool d.p.rate.num.neg,.ro 1 (A2 d.p.rate.num.mag),.ro 1 (A2 d.p.rate.den),.i d.p.slack,.ro 9 (C5 d.pool),.ro 17 (Oe d.items),.ro 1 (Av d.ess),.ro 2 (Bd d.uses),.i d.served,.i d.sec,.i d.nu,.i d.de,.i d.ex,.int .u64 d.seed]
def vDl(d:Dl):d.v=V.agg [.i d.ses,.i d.cand,.i d.p.len,.ro 5 (Hu d.p.rules),.ro 1 (Av d.p.g.pts),.ro 1 (Av d.p.g.pri),.ro 2 (Bd d.p.en),.i d.p.mn,.bool d.p.var.num.neg,.ro 1 (A2 d.p.var.num.mag),.ro 1 (A2 d.p.var.den),.i d.p.cut,.bool d.p.lvl.num.neg,.ro 1 (A2 d.p.lvl.num.mag),.ro 1 (A2 d.p.lvl.den),.i d.p.top,.bool d.p.rate.num.neg,.ro 1 (A2 d.p.rate.num.mag),.ro 1 (A2 d.p.rate.den),.i d.p.slack,.ro 9 (C5 d.pool),.ro 17 (Oe d.items),.ro 1 (Av d.ess),.ro 2 (Bd d.uses),.i d.served,.i d.sec,.i d.nu,.i d.de,.i d.ex,.int .u64 d.seed]:=rfl
structure Se where
 st:Int
 us:Int
 la:Int
 sh:Int
 t:Te
 ans:List An
 inc:List In4
def Se.v(s:Se):V:=V.agg [.i s.st,.i s.us,.i s.la,.i s.sh,.ro 1 (Av s.t.elig),.ro 2 (Bd s.t.steps),.i s.t.pend,.ro 1 (Cb s.t.w),.int .u64 s.t.draw,.i s.t.stop,.ro 5 (Hv s.ans),.ro 4 (Fp s.inc)]
def vSe(s:Se):s.v=V.agg [.i s.st,.i s.us,.i s.la,.i s.sh,.ro 1 (Av s.t.elig),.ro 2 (Bd s.t.steps),.i s.t.pend,.ro 1 (Cb s.t.w),.int .u64 s.t.draw,.i s.t.stop,.ro 5 (Hv s.ans),.ro 4 (Fp s.inc)]:=rfl
def Ar8(n:Int):AE 27 [.i n] (.bool (K4 n 1 9999999)):=by
 unfold K4;refine Aq func27 λw0 N0=>?_;exact Y [0] [] sr (Y [2] [] sr (By sr rf))
def Ahx(s:Se)(n:Int):Bool:=decide (0<=n)&&decide (s.la<=n)&&decide (n<=1099511627776)
def A1l(s:Se)(n:Int):AE 46 [s.v,.i n] (.bool (Ahx s n)):=by
 unfold Ahx;rw[(vSe s)];have z1:=Af s.t.elig;have z2:=Bc s.t.steps;have z3:=B1 s.t.w;have z4:=Gb s.ans;have z5:=Fj s.inc;have c:=Iu s.ans;have e:=Hc s.inc;generalize Av s.t.elig=ti,Bd s.t.steps=ts,Cb s.t.w=tw,Hv s.ans=d,Fp s.inc=f at*;refine Aq func46 λw0 N0=>?_;exact Y [1,2] [2] sr (Y [4] [] sr (By sr rf))
def Oz(s:Se)(n:Int):Int:=if s.st=1 then IntKind.i64.wrap (IntKind.i64.wrap (s.us+n)-s.la)else s.us
def Abs(s:Se)(n:Int):AE 88 [s.v,.i n] (.i (Oz s n)):=by
 unfold Oz;rw[(vSe s)];have z1:=Af s.t.elig;have z2:=Bc s.t.steps;have z3:=B1 s.t.w;have z4:=Gb s.ans;have z5:=Fj s.inc;have c:=Iu s.ans;have e:=Hc s.inc;generalize Av s.t.elig=ti,Bd s.t.steps=ts,Cb s.t.w=tw,Hv s.ans=d,Fp s.inc=f at*;refine Aq func88 λw0 N0=>?_;refine Y [1,2] [2] sr (J (A9 [7] sr ?_))
 refine Au (λh1=>?_) λh1=>Ae ?_
 .exact Y [4] [] sr (Ao (Ab sr (by rw[Ad (sG h1)])))
 exact Y [4] [] sr (Ao (Ab sr (by rw[I (sG h1)])))
def Bdh(s:Se):Bool:=decide (s.st=1)||decide (s.st=2)
def Ax1(s:Se):AE 93 [s.v] (.bool (Bdh s)):=by
 unfold Bdh;rw[(vSe s)];have z1:=Af s.t.elig;have z2:=Bc s.t.steps;have z3:=B1 s.t.w;have z4:=Gb s.ans;have z5:=Fj s.inc;have c:=Iu s.ans;have e:=Hc s.inc;generalize Av s.t.elig=ti,Bd s.t.steps=ts,Cb s.t.w=tw,Hv s.ans=d,Fp s.inc=f at*;refine Aq func93 λw0 N0=>?_;exact Y [1] [1] sr (Y [2] [] sr (By sr rf))
def Rz(d:Dl)(s:Se):Int:=IntKind.i64.wrap (Bc0 d.sec d.nu d.de d.ex+Axs s.inc d.sec)
def Ahy(d:Dl)(s:Se):AE 89 [d.v,s.v] (.i (Rz d s)):=by
 have k:=A7e d.sec d.nu d.de d.ex;have i:=Bc2 s.inc d.sec;unfold Rz;generalize Bc0 d.sec d.nu d.de d.ex=x1,Axs s.inc d.sec=x2 at*;rw[(vDl d),(vSe s)];have d0:=Dr d.p.rules;have d1:=Af d.p.g.pts;have d2:=Af d.p.g.pri;have o:=Bc d.p.en;have x:=Aj d.p.var.num.mag;have z:=Aj d.p.var.den;have d6:=Aj d.p.lvl.num.mag;have y:=Aj d.p.lvl.den;have u:=Aj d.p.rate.num.mag;have d9:=Aj d.p.rate.den;have e:=Cx d.pool;have a:=Ih d.items;have f:=Af d.ess;have c:=Bc d.uses;generalize Hu d.p.rules=rv,Av d.p.g.pts=pt,Av d.p.g.pri=pr,Bd d.p.en=ev,A2 d.p.var.num.mag=vm,A2 d.p.var.den=vd,A2 d.p.lvl.num.mag=lm,A2 d.p.lvl.den=ld,A2 d.p.rate.num.mag=rm,A2 d.p.rate.den=rd at*;have ad:=E4 d.pool;have ag:=Jd d.items;have ai:=A4 d.ess;generalize C5 d.pool=lv,Oe d.items=aj,Av d.ess=af,Bd d.uses=uv at*;have z1:=Af s.t.elig;have m:=Bc s.t.steps;have n:=B1 s.t.w;have z4:=Gb s.ans;have l:=Fj s.inc;have ah:=Iu s.ans;have aa:=Hc s.inc;generalize Av s.t.elig=ti,Bd s.t.steps=ts,Cb s.t.w=tw,Hv s.ans=ae,Fp s.inc=ab at*;refine Aq func89 λw0 N0=>?_;refine Y [2,3] [2,3] sr (Bn 4 sr ?_);refine Ac k func142 ?_;refine Aa [2,3,5] [2,3] sr (Bn 4 sr ?_);refine Ac i func143 ?_;exact Aa [5,7] [] sr (Y [4] [] sr (By sr rf))
def it0:It:=⟨0,0,0,[],[],[],0,0,[],0,[],0,0,0,0,[],0⟩
def J8(l:List It)(id:Int):Option It:=l.find? λit=>decide (it.id=id)
def L7(o:Option It):It:=match o with|some it=>it|none=>it0
def A1m:Bj (.agg [.i 0,.i 0,.i 0,.str [],.nils,.nils,.i 0,.i 0,.nils,.i 0,.str [],.i 0,.i 0,.i 0,.i 0,.nils,.i 0]) it0.v:=
 Bj.agg (.cons (Bj.refl _) (.cons (Bj.refl _) (.cons (Bj.refl _) (.cons (Bj.refl _) (.cons (Bj.nils 1) (.cons (Bj.nils 1) (.cons (Bj.refl _) (.cons (Bj.refl _) (.cons (Bj.nils 1) (.cons (Bj.refl _) (.cons (Bj.refl _) (.cons (Bj.refl _) (.cons (Bj.refl _) (.cons (Bj.refl _) (.cons (Bj.refl _) (.cons (Bj.nils 1) (.cons (Bj.refl _) .nil)))))))))))))))))
def Ahz(l:List It)(id:Int)(hl:l.length<=4000000):AC prog 61 [.ro 17 (Oe l),.i id] (λr=>r=.tup [(L7 (J8 l id)).v,.bool (J8 l id).isSome]):=by
 refine AC.relaxP ?_;have n:=λ(k:Nat)(h:k<l.length)=>Ar7 h
 have lq:=Jd l;have i:=λ(k:Nat)(h:k<l.length)=>Acx (λit:It=>decide (it.id=id)) h
 unfold J8;generalize Oe l=e at*;refine Aq func61 λw0 N0=>?_;refine Y [0,1,4] [4] sr (J (Y [1,4,8,9,10] [4] sr (Ah (Bu (λk nx=>⟨[(1,V.i id),(4,V.bp 4 (0) 17 0 0),(8,V.ro 17 e),(9,V.i e.length),(10,V.i k)],[(4,{ v:=0,sz:=17,ty:=150,es:=[.agg [.i 0,.i 0,.i 0,.str [],.nils,.nils,.i 0,.i 0,.nils,.i 0,.str [],.i 0,.i 0,.i 0,.i 0,.nils,.i 0]]})],nx,21⟩) (λk=>(l.drop k).find? (λit=>decide (it.id=id))=l.find? (λit=>decide (it.id=id))) l.length _ sm Z ?_))));intro k nx hk c;refine Y [1,4,8,9,10,11] [4] sr (J ?_)
 refine Au (λh1=>Ae ?_) λh1=>?_
 .have a:k<l.length:=by simp at h1;omega
  have d:k<e.length:=om;have j:=n k a;rw[i k a]at c;generalize l[k]=it at*;rw[(vIt it)]at j;have m:=C7 it.opts;have o:=Af it.ch;have t:=C7 it.txts;have s:=Af it.ass;refine J (Ah (Y [1,4,7,8,9,10] [4,7] (by simp[j,d]<;>rfl) (Y [1,4,7,8,9,10,17] [4,7] sr ?_)))
  refine Au (λh2=>?_) λh2=>Ae ?_
  .exact Y [4,5] [4] sr (Ao (Ab Du (by rw[<- c,Ad (sG h2)];exact Bj.refl _)))
  rw[I (sG h2)]at c;refine Ba [1,4,8,9,10] [4] (by simp[(A5 (k:=k) om)]<;>rfl) ?_;exact⟨a,c,_,Z⟩
 .refine A6 ?_;have f:k=l.length:=sO h1
  rw[f,Ck]at c;exact Y [4,5] [4] sr (Ao (Ab sr (by rw[<- c];exact Bj.tup (.cons A1m (.cons (Bj.refl _) .nil)))))
instance:Inhabited It:=⟨it0⟩
def Bdi{l:List It}(h:k<l.length):Hj (Oe l) k=some (l.getD k it0).v:=by rw[Cs h];exact Ar7 h
def Bg0(l:List It)(k:Nat):Bool:=decide ((l.getD (k+1) it0).id<=(l.getD k it0).id)
def ciE(l:List It):Int:=if(60:Int)<l.length then 5 else if(List.range (l.length-1)).any (Bg0 l)=true then 23 else Mk Rp l
def Ah0(hS:Mx)(l:List It)(hl:l.length<=4000000)(s:∀it∈l,it.small):Kb gv prog 30 [.ro 17 (Oe l)] (λr=>r=.i (ciE l)):=by
 have af:=λ(k:Nat)(h:k<l.length)=>Ar2 hS (l.getD k it0) (Gz s h it0)
 have t:=λ(k:Nat)(h:k<l.length)=>Bdi h
 have li:=Jd l;have ak:=Ih l;have ah:=λ(k:Nat)(h:k<l.length)=>Pb Rp h
 have aj:=λ(k:Nat)(h:k<l.length)=>Cs h it0
 unfold ciE;have aa:∀k,Bg0 l k=decide ((l.getD (k+1) it0).id<=(l.getD k it0).id):=λk=>rfl
 generalize Oe l=e,Bg0 l=be at*;refine B0 func30 λw0 N0 hG=>?_;refine Y [0] [] sr (J (Y [0,9] [] sr ?_))
 refine Au (λh1=>?_) λh1=>Ae ?_
 .exact Y [2] [] sr (Ao (Ab sr (by rw[Ad (by simpa[li]using h1)])))
 rw[I (by simpa[li]using h1)];refine J (Y [0,3] [] sr (Ah (Bu (λk nx=>⟨[(0,V.ro 17 e),(3,V.i ((k+1:Nat):Int))],[],nx,40⟩) (λk=>((List.range (l.length-1)).take k).any be=false) (l.length-1) _ sm Z ?_)));intro k nx hk hI;refine J (Y [0,3,13] [] sr ?_)
 refine Au (λh2=>Ae ?_) λh2=>?_
 .have a:k<l.length-1:=by simp at h2;omega
  have ag:k<e.length:=om;have w:k+1<e.length:=om;have ad:((k:Int)+1)<e.length:=om;have ab:(0:Int)<=(k:Int)+1:=om;have i:=t k om;have gb:=t (k+1) om;have hb:=aa k;have ae:=λh=>Ib (l.length-1) k be a hI h
  have u:=λh=>Nq (f:=be) a h
  unfold It.v at i gb;generalize l.getD k it0=x,l.getD (k+1) it0=y at*;have ai:IntKind.i64.wrap (((k+1:Nat):Int)-1)=(k:Int):=by rw[Bp om oM];omega
  have j:IntKind.i64.wrap (k:Int)=(k:Int):=Bp om om;have Tn:IntKind.i64.wrap ((k:Int)+1+1)=((k+1+1:Nat):Int):=by rw[Bp om oM];omega
  refine J (Ah (Do [(0,[]),(1,[]),(2,[]),(3,[]),(5,[]),(6,[]),(7,[]),(8,[]),(9,[]),(4,[]),(10,[]),(11,[])] [0,3,27] [] Eb kr (by simp[i,gb,ab,ag,ad,j,-Int.natCast_add]<;>rfl) ?_))
  refine Au (λh3=>?_) λh3=>Ae ?_
  .exact Y [2] [] sr (Ao (Ab sr (by rw[Ad (u (by rw[hb];simpa using h3))])))
  refine Ba [0,3] [] Du ?_;exact⟨a,ae (by rw[hb];simpa using h3),_,Z⟩
 .refine A6 ?_;have g:k=l.length-1:=sO h2
  rw[g,Bi (by simp)]at hI;rw[I (by rw[hI];simp)];refine J (Y [28,29,30] [] sr (Ah (Bu (λk nx=>⟨[(28,V.ro 17 e),(29,V.i e.length),(30,V.i k)],[],nx,40⟩) (λk=>Mk Rp (l.drop k)=Mk Rp l) l.length _ rfl Z ?_)));intro k nx hk c;refine Y [28,29,30,31] [] sr (J ?_)
  refine Au (λn=>Ae ?_) λn=>?_
  .have a:k<l.length:=by simp at n;omega
   have m:k<e.length:=om;have i:=t k a;have o:=ah k a;have d:=af k a;have Ee:=A5 (k:=k) om;rw[o,<- aj k a]at c;generalize l.getD k it0=it at*;have j1:=C7 it.opts;have j2:=Af it.ch;have j3:=C7 it.txts;have j4:=Af it.ass;unfold It.v at i d;refine J (Ah (Y [5,28,29,30] [5] (by simp[i,m]<;>rfl) (J (Ak (Ay 1 sr ?_)))));refine Bq hG d func60 ?_;refine Aa [6,28,29,30] [] sr (Y [6,28,29,30,37] [] sr ?_)
   refine Au (λz=>?_) λz=>Ae ?_
   .exact Y [2] [] sr (Ao (Ab sr (by rw[<- c,Ad (sG z)])))
   rw[I (sG z)]at c;refine Ba [28,29,30] [] (by simp[Ee]<;>rfl) ?_;exact⟨a,c,_,Z⟩
  .refine A6 ?_;have g:k=l.length:=sO n
   rw[g,Ck]at c;exact Y [2] [] sr (Ao (Ab sr (by rw[<- c];rfl)))
def A1n(l:List It)(x:Pit):Int:=
 if(J8 l x.id).isSome=false then 6
 else if(L7 (J8 l x.id)).kind=6\/(L7 (J8 l x.id)).pts≠x.pt\/(Xs x.m:Int)≠IntKind.i64.wrap ((L7 (J8 l x.id)).pts+1)then 19 else 0
def Aoi(l:List It)(x:Pit)(g:l.length<=4000000):AC prog 31 [.ro 17 (Oe l),x.v] (λr=>r=.i (A1n l x)):=by
 have c:=Ahz l x.id g;have a:=Anf x.m;have d:=Ih l;unfold A1n;have j1:=C7 (L7 (J8 l x.id)).opts;have j2:=Af (L7 (J8 l x.id)).ch;have j3:=C7 (L7 (J8 l x.id)).txts;have j4:=Af (L7 (J8 l x.id)).ass;have e:=D7 x.m;have f:moV x.m=.agg [.ro 1 (Es x.m)]:=rfl;rw[f]at a;unfold It.v at c;rw[Gn];generalize(J8 l x.id).isSome=fs,L7 (J8 l x.id)=it,Oe l=lv,Es x.m=mv at*;refine Aq func31 λw0 N0=>?_;refine Y [0,3] [3] sr (J (Ak (Ay 3 sr ?_)));refine Ac c func61 ?_;refine Aa [3,5,6] [3,5] sr (J (Y [3,5,15] [3,5] sr ?_))
 refine Au (λh1=>?_) λh1=>Ae ?_
 .exact Y [4] [] sr (Ao (Ab sr (by rw[Ad (sG h1)])))
 rw[I (sG h1)];refine J (J (Di [(0,[]),(1,[]),(2,[]),(3,[]),(4,[]),(6,[]),(5,[]),(7,[]),(8,[]),(9,[]),(10,[]),(11,[]),(14,[]),(12,[]),(13,[]),(15,[]),(16,[]),(17,[]),(18,[])] Eb kr ?_));refine Ci 14 sr (E8 (λhg=>a) func62 rfl kr rfl rfl sr rfl rfl sr sM sr ?_);refine Dj [34] [] sr ?_
 refine Au (λh2=>?_) λh2=>Ae ?_
 .exact Y [4] [] sr (Ao (Ab sr (by rw[Ad (by simpa[or_assoc]using h2)])))
 exact Y [4] [] sr (Ao (Ab sr (by rw[I (by simpa[or_assoc,and_assoc]using h2)])))
def A1o(d:Dl)(i:Nat):Int:=
 if decide (d.ess.getD i 0∈d.ess.take i)=true then 7 else if(J8 d.items (d.ess.getD i 0)).isSome=false then 6 else if(L7 (J8 d.items (d.ess.getD i 0))).kind≠6 then 1 else 0
def Ajr(d:Dl)(i:Nat)(hi:i<d.ess.length)(hl:d.items.length<=4000000)(he:d.ess.length<=4000000):AC prog 32 [d.v,.i i] (λr=>r=.i (A1o d i)):=by
 have c:=Ahz d.items (d.ess.getD i 0) hl;have t:=Sc (d.ess.take i) (d.ess.getD i 0);have ge:=Dn hi;have n:(Av d.ess).take i=Av (d.ess.take i):=by simp[Av]
 have l:=Af (d.ess.take i);unfold A1o;have j1:=C7 (L7 (J8 d.items (d.ess.getD i 0))).opts;have j2:=Af (L7 (J8 d.items (d.ess.getD i 0))).ch;have j3:=C7 (L7 (J8 d.items (d.ess.getD i 0))).txts;have j4:=Af (L7 (J8 d.items (d.ess.getD i 0))).ass;unfold It.v at c;generalize(J8 d.items (d.ess.getD i 0)).isSome=fs at*;generalize L7 (J8 d.items (d.ess.getD i 0))=it at*;generalize decide (d.ess.getD i 0∈d.ess.take i)=mb at*;generalize d.ess.getD i 0=x at*;rw[(vDl d)];have d0:=Dr d.p.rules;have d1:=Af d.p.g.pts;have d2:=Af d.p.g.pri;have u:=Bc d.p.en;have y:=Aj d.p.var.num.mag;have d5:=Aj d.p.var.den;have d6:=Aj d.p.lvl.num.mag;have z:=Aj d.p.lvl.den;have w:=Aj d.p.rate.num.mag;have d9:=Aj d.p.rate.den;have h:=Cx d.pool;have a:=Ih d.items;have j:=Af d.ess;have f:=Bc d.uses;generalize Hu d.p.rules=rv at*;generalize Av d.p.g.pts=pt at*;generalize Av d.p.g.pri=pr at*;generalize Bd d.p.en=ev at*;generalize A2 d.p.var.num.mag=vm at*;generalize A2 d.p.var.den=vd at*;generalize A2 d.p.lvl.num.mag=lm at*;generalize A2 d.p.lvl.den=ld at*;generalize A2 d.p.rate.num.mag=rm at*;generalize A2 d.p.rate.den=rd at*;have aa:=E4 d.pool;have ab:=Jd d.items;have ad:=A4 d.ess;generalize C5 d.pool=lv at*;generalize Oe d.items=ae at*;generalize Av d.ess=e at*;generalize Bd d.uses=uv at*;have o:i<e.length:=om;have m:(0:Int)<=(i:Int)/\(i:Int)<=e.length:=om;refine Aq func32 λw0 N0=>?_;refine Y [1,2] [2] sr (Y [1,2,5] [2] Du (J (J (Ak (Ay 5 (by simp[m,n]<;>rfl) ?_)))));refine Ac t func63 ?_;refine Aa [2,5,18] [2] sr ?_
 refine Au (λh1=>?_) λh1=>Ae ?_
 .exact Y [4] [] sr (Ao (Ab sr (by rw[Ad (sG h1)])))
 rw[I (sG h1)];refine J (Ak (Ay 3 sr ?_));refine Ac c func61 ?_;refine Aa [6,7] [6] sr (J (Y [6,27] [6] sr ?_))
 refine Au (λh2=>?_) λh2=>Ae ?_
 .exact Y [4] [] sr (Ao (Ab sr (by rw[Ad (sG h2)])))
 rw[I (sG h2)];refine J (Y [30] [] sr ?_)
 refine Au (λs=>?_) λs=>Ae ?_
 .exact Y [4] [] sr (Ao (Ab sr (by rw[Ad (sG s)])))
 exact Y [4] [] sr (Ao (Ab sr (by rw[I (sG s)])))
structure DlOk(d:Dl):Prop where
 pok:d.p.ok
 pl:J5 d.pool d.p.g.pts.length=0->d.pool.length<=9
 il:d.items.length<=4000000
 is:∀it∈d.items,it.small
 el:d.ess.length<=4000000
def M8(d:Dl):Int:=
 if K4 d.ses 1 9999999=false\/K4 d.cand 1 9999999=false\/K4 d.sec 1 9999999=false then 3
 else if Xv d.p≠0 then Xv d.p
 else if J5 d.pool d.p.g.pts.length≠0 then J5 d.pool d.p.g.pts.length
 else if ciE d.items≠0 then ciE d.items
 else if Mk (A1n d.items) d.pool≠0 then Mk (A1n d.items) d.pool
 else if(5:Int)<d.ess.length then 5
 else if Mk (A1o d) (List.range d.ess.length)≠0 then Mk (A1o d) (List.range d.ess.length)
 else if Ajq d.nu d.de d.ex≠0 then Ajq d.nu d.de d.ex
 else A7a d.p d.pool d.uses d.served d.seed
def Nt(d:Dl):Te:=Arw d.p d.pool d.uses d.served d.seed
def Ah1(hS:Mx)(d:Dl)(h:DlOk d):AQ 17 [d.v] (teR (M8 d) (Nt d)):=by
 refine Kb.relaxP ?_;have ab:=Ar8;have ah:=Qo d.p h.pok;have al:=Mt d.pool d.p.g.pts.length;have a3:=Ah0 hS d.items h.il h.is;have av:=λx=>Aoi d.items x h.il
 have aj:=λ(i:Nat)(hi:i<d.ess.length)=>Ajr d i hi h.il h.el
 have ay:=Aef d.nu d.de d.ex;have u:=A08 d.p d.pool d.uses d.served d.seed h.pok h.pl;have a6:=h.pl;have a7:=h.el;have qp:=λ(k:Nat)(h:k<d.pool.length)=>I8 h
 have az:=λ(k:Nat)(h:k<d.pool.length)=>Pb (A1n d.items) h
 have a0:=λ(k:Nat)(h:k<(List.range d.ess.length).length)=>Pb (A1o d) h
 have aq:=A4 d.p.g.pts;have hT:∀e,teR e (Nt d)=.tup [(if e=0 then Nt d else Yi).v,.i e]:=λe=>rfl
 change Kb _ _ _ _ (λr=>r=teR (A7a d.p d.pool d.uses d.served d.seed) (Nt d))at u;unfold M8;generalize A7a d.p d.pool d.uses d.served d.seed=s at*;have aw:=hT s;rw[aw]at u;have a1:∀t:Te,t.v=.agg [.ro 1 (Av t.elig),.ro 2 (Bd t.steps),.i t.pend,.ro 1 (Cb t.w),.int .u64 t.draw,.i t.stop]:=λt=>rfl
 rw[a1]at u;have y1:=Af (if s=0 then Nt d else Yi).elig;have y2:=Bc (if s=0 then Nt d else Yi).steps;have y3:=B1 (if s=0 then Nt d else Yi).w;have ax:Bj (.tup [.agg [.ro 1 (Av (if s=0 then Nt d else Yi).elig),.ro 2 (Bd (if s=0 then Nt d else Yi).steps),.i (if s=0 then Nt d else Yi).pend,.ro 1 (Cb (if s=0 then Nt d else Yi).w),.int .u64 (if s=0 then Nt d else Yi).draw,.i (if s=0 then Nt d else Yi).stop],.i s]) (teR s (Nt d)):=Bj.refl _;generalize(if s=0 then Nt d else Yi)=tt at*;have a2:=vPo d.p;rw[a2]at ah u;have ar:=vDl d;rw[ar]at aj;rw[ar];rw[<- aq]at al;generalize ak:J5 d.pool (Av d.p.g.pts).length=qe at*;rw[aq]at ak;rw[ak];generalize Xv d.p=pe at*;generalize ciE d.items=ce at*;generalize Ajq d.nu d.de d.ex=ae at*;generalize A1o d=eE at*;generalize A1n d.items=pE at*;have d0:=Dr d.p.rules;have d1:=Af d.p.g.pts;have d2:=Af d.p.g.pri;have d3:=Bc d.p.en;have d4:=Aj d.p.var.num.mag;have d5:=Aj d.p.var.den;have d6:=Aj d.p.lvl.num.mag;have d7:=Aj d.p.lvl.den;have d8:=Aj d.p.rate.num.mag;have d9:=Aj d.p.rate.den;have n:=Cx d.pool;have f:=Ih d.items;have l:=Af d.ess;have o:=Bc d.uses;generalize Hu d.p.rules=rv at*;generalize Av d.p.g.pts=pt at*;generalize Av d.p.g.pri=pr at*;generalize Bd d.p.en=ev at*;generalize A2 d.p.var.num.mag=vm at*;generalize A2 d.p.var.den=vd at*;generalize A2 d.p.lvl.num.mag=lm at*;generalize A2 d.p.lvl.den=ld at*;generalize A2 d.p.rate.num.mag=rm at*;generalize A2 d.p.rate.den=rd at*;have a4:=E4 d.pool;have a5:=Jd d.items;have am:=A4 d.ess;generalize C5 d.pool=lv at*;generalize Oe d.items=ao at*;generalize Av d.ess=au at*;generalize Bd d.uses=uv at*;refine B0 func17 λw0 N0 hG=>?_;refine Y [1,2] [1,2] sr (J (J (Ak (Ay 2 sr ?_))));refine Ac (ab d.ses) func27 ?_;refine Ay 4 sr ?_;refine Gf (c:=K4 d.ses 1 9999999) (λhg=>ab d.cand) func27 ?_;refine Ay 5 sr ?_;refine Gf (c:=K4 d.ses 1 9999999&&K4 d.cand 1 9999999) (λhg=>ab d.sec) func27 ?_;refine Aa [1,2,28] [1,2] sr ?_
 refine Au (λh1=>?_) λh1=>Ae ?_
 .refine Y [2,3] [2] sr ?_;exact Ao (Ab sr (by rw[Ad (by simpa[or_assoc]using h1)];exact Ga dc _))
 rw[I (by simpa[or_assoc,and_assoc]using h1)];refine J (J (Ak (Ay 2 sr ?_)));refine Bq hG ah func28 ?_;refine Aa [1,2,4] [1,2] sr ?_;refine A9 [34] sr ?_
 refine Au (λh2=>?_) λh2=>Ae ?_
 .refine Y [2,3] [2] sr ?_;exact Ao (Ab sr (by rw[Ad (sG h2)];exact Ga (sG h2) _))
 rw[I (sG h2)];refine J (J (Ak (Ay 7 sr ?_)));refine Bq hG al func29 ?_;refine Aa [1,2,5] [1,2] sr ?_;refine A9 [46] sr ?_
 refine Au (λh3=>?_) λh3=>Ae ?_
 .refine Y [2,3] [2] sr ?_;exact Ao (Ab sr (by rw[Ad (sG h3)];exact Ga (sG h3) _))
 rw[I (sG h3)];have a6:=a6 (by have h3':=h3;rw[<- ak]at h3';simpa using h3');refine J (J (Ak (Ay 2 sr ?_)));refine Bq hG a3 func30 ?_;refine Aa [1,2,6] [1,2] sr ?_;refine A9 [53] sr ?_
 refine Au (λh4=>?_) λh4=>Ae ?_
 .refine Y [2,3] [2] sr ?_;exact Ao (Ab sr (by rw[Ad (sG h4)];exact Ga (sG h4) _))
 rw[I (sG h4)];refine J (Y [1,2,57,58,59] [1,2] sr ?_);refine Ah (Bu (λk nx=>⟨[(1,V.bp 1 (0) 30 0 0),(2,V.bp 2 (1) 6 0 0),(57,.ro 9 lv),(58,_),(59,V.i k)],[(1,{ v:=0,sz:=30,ty:=44,es:=[V.agg [.i d.ses,.i d.cand,.i d.p.len,.ro 5 rv,.ro 1 pt,.ro 1 pr,.ro 2 ev,.i d.p.mn,.bool d.p.var.num.neg,.ro 1 vm,.ro 1 vd,.i d.p.cut,.bool d.p.lvl.num.neg,.ro 1 lm,.ro 1 ld,.i d.p.top,.bool d.p.rate.num.neg,.ro 1 rm,.ro 1 rd,.i d.p.slack,.ro 9 lv,.ro 17 ao,.ro 1 au,.ro 2 uv,.i d.served,.i d.sec,.i d.nu,.i d.de,.i d.ex,.int .u64 d.seed]]}),(2,{ v:=1,sz:=6,ty:=51,es:=[.agg [.nils,.nils,.i 0,.nils,.int .u64 0,.i 0]]})],nx,111⟩) (λk=>Mk pE (d.pool.drop k)=Mk pE d.pool) d.pool.length _ sm Z ?_);intro k nx hk hI;refine Y [1,2,57,58,59,60] [1,2] sr ?_;refine J ?_
 refine Au (λh5=>Ae ?_) λh5=>?_
 .have j:k<d.pool.length:=by simp at h5;omega
  have an:k<lv.length:=om;have ga:=qp k j;have aa:=az k j;have Ee:=A5 (k:=k) om;rw[aa]at hI;generalize d.pool[k]=x at*;have z:=av x;have pm:=D7 x.m;rw[Gn]at ga z;refine J (Ah (Y [1,2,8,57,58,59] [1,2,8] (by simp[ga,an]<;>rfl) ?_));refine J (Ak (Ay 3 sr ?_));refine Ac z func31 ?_;refine Aa [1,2,9,57,58,59] [1,2] sr ?_;refine A9 [68] sr ?_
  refine Au (λh6=>?_) λh6=>Ae ?_
  .refine Y [2,3] [2] sr ?_;exact Ao (Ab sr (by have ai:pE x≠0:=(sG h6);rw[Ad ai]at hI;rw[<- hI,Ad ai];exact Ga (sG h6) _))
  rw[I (sG h6)]at hI;refine Ba [1,2,57,58,59] [1,2] (by simp[Ee]<;>rfl) ?_;exact⟨j,hI,_,Z⟩
 .refine A6 ?_;have ad:k=d.pool.length:=sO h5
  rw[ad,Ck]at hI;rw[I (by rw[<- hI];simp[Mk])];refine J (Y [1,2,75] [1,2] sr ?_)
  refine Au (λh7=>?_) λh7=>Ae ?_
  .refine Y [2,3] [2] sr ?_;exact Ao (Ab sr (by rw[Ad (by simpa[am]using h7)];exact Ga dc _))
  rw[I (by simpa[am]using h7)];refine J (Y [1,2,79,80] [1,2] sr ?_);refine Ah (Bu (λk nx=>⟨[(1,V.bp 1 (0) 30 0 0),(2,V.bp 2 (1) 6 0 0),(79,_),(80,V.i k)],[(1,{ v:=0,sz:=30,ty:=44,es:=[V.agg [.i d.ses,.i d.cand,.i d.p.len,.ro 5 rv,.ro 1 pt,.ro 1 pr,.ro 2 ev,.i d.p.mn,.bool d.p.var.num.neg,.ro 1 vm,.ro 1 vd,.i d.p.cut,.bool d.p.lvl.num.neg,.ro 1 lm,.ro 1 ld,.i d.p.top,.bool d.p.rate.num.neg,.ro 1 rm,.ro 1 rd,.i d.p.slack,.ro 9 lv,.ro 17 ao,.ro 1 au,.ro 2 uv,.i d.served,.i d.sec,.i d.nu,.i d.de,.i d.ex,.int .u64 d.seed]]}),(2,{ v:=1,sz:=6,ty:=51,es:=[.agg [.nils,.nils,.i 0,.nils,.int .u64 0,.i 0]]})],nx,111⟩) (λk=>Mk eE ((List.range d.ess.length).drop k)=Mk eE (List.range d.ess.length)) d.ess.length _ sm Z ?_);intro k nx hk a;refine Y [1,2,79,80,81] [1,2] sr ?_;refine J ?_
  refine Au (λh8=>Ae ?_) λh8=>?_
  .have j:k<d.ess.length:=by simp at h8;omega
   have aa:=a0 k (sG j);have Ee:=A5 (k:=k) om;rw[aa]at a;simp only[List.getElem_range]at a;have af:=aj k j;generalize eE k=ek at*;refine J (Ah (Y [1,2,10,79,80] [1,2] sr ?_));refine J (Ak (Ay 2 sr ?_));refine Ac af func32 ?_;refine Aa [1,2,11,79,80] [1,2] sr ?_;refine A9 [87] sr ?_
   refine Au (λh9=>?_) λh9=>Ae ?_
   .refine Y [2,3] [2] sr ?_;exact Ao (Ab sr (by have ag:ek≠0:=(sG h9);rw[Ad ag]at a;rw[<- a,Ad ag];exact Ga (sG h9) _))
   rw[I (sG h9)]at a;refine Ba [1,2,79,80] [1,2] (by simp[Ee]<;>rfl) ?_;exact⟨j,a,_,Z⟩
  .refine A6 ?_;have ad:k=d.ess.length:=sO h8
   rw[ad,I0 (by simp)]at a;rw[I (by rw[<- a];simp[Mk])];refine J (J (Ak (Ay 2 sr ?_)));refine Ac ay func33 ?_;refine Aa [1,2,12] [1,2] sr ?_;refine A9 [95] sr ?_
   refine Au (λy=>?_) λy=>Ae ?_
   .refine Y [2,3] [2] sr ?_;exact Ao (Ab sr (by rw[Ad (sG y)];exact Ga (sG y) _))
   rw[I (sG y)];refine J (Ak (Ay 10 sr ?_));refine Bq hG u func34 ?_;refine Aa [2,3] [2] sr ?_;exact Ao (Ab (by simp[results17]<;>rfl) (ax))
def Bdj(e:Int)(t:Te):teR e t=.tup [(if e=0 then t else Yi).v,.i e]:=rfl
def Ah2(hS:Mx)(d:Dl)(h:DlOk d):AQ 7 [d.v] (.i (M8 d)):=by
 have a:=Ah1 hS d h;rw[Bdj]at a;generalize(if M8 d=0 then Nt d else Yi)=tt at*;generalize M8 d=e at*;rw[(vTe tt)]at a;have y1:=Af tt.elig;have y2:=Bc tt.steps;have y3:=B1 tt.w;rw[(vDl d)]at a|-;have z:=Dr d.p.rules;have d1:=Af d.p.g.pts;have d2:=Af d.p.g.pri;have m:=Bc d.p.en;have o:=Aj d.p.var.num.mag;have u:=Aj d.p.var.den;have x:=Aj d.p.lvl.num.mag;have t:=Aj d.p.lvl.den;have n:=Aj d.p.rate.num.mag;have d9:=Aj d.p.rate.den;have k:=Cx d.pool;have f:=Ih d.items;have l:=Af d.ess;have j:=Bc d.uses;generalize Hu d.p.rules=rv at*;generalize Av d.p.g.pts=pt at*;generalize Av d.p.g.pri=pr at*;generalize Bd d.p.en=ev at*;generalize A2 d.p.var.num.mag=vm at*;generalize A2 d.p.var.den=vd at*;generalize A2 d.p.lvl.num.mag=lm at*;generalize A2 d.p.lvl.den=ld at*;generalize A2 d.p.rate.num.mag=rm at*;generalize A2 d.p.rate.den=rd at*;have s:=E4 d.pool;have aa:=Jd d.items;have ab:=A4 d.ess;generalize C5 d.pool=lv at*;generalize Oe d.items=ad at*;generalize Av d.ess=y at*;generalize Bd d.uses=uv at*;refine B0 func7 λw0 N0 hG=>?_;refine Y [1] [1] sr (Bn 1 sr ?_);refine Bq hG a func17 ?_;exact Aa [4] [] sr (Y [2] [] sr (By sr rf))
def A7q(l:List An)(g:FuncId)(us vs:List V)(f:An->Bool)(x:∀p∈l,Yz gv prog (.fc g us vs) [An.v p] (λr=>r=.bool (f p))):Kb gv prog 208 [.ro 5 (Hv l),.fc g us vs] (λr=>r=.i (Ia f l 0)):=by
 have s:=λ(k:Nat)(h:k<l.length)=>Abr h
 have u:=Iu l;refine Q9 0 rfl λn=>?_;rw[u]at n
 have o:(l.length:Int)<=9223372036854775807:=by
  have:maxLen<=9223372036854775807:=dc;omega
 generalize Hv l=m at*;refine B0 func208 λw0 N0 t=>?_;refine Y [0,1] [] sr (J (Y [0,1,7,8] [] sr (Ah (Bu (λk nx=>⟨[(0,V.ro 5 m),(1,V.fc g us vs),(7,V.i m.length),(8,V.i k)],[],nx,19⟩) (λk=>Ia f (l.drop k) k=Ia f l 0) l.length _ rfl Z ?_))));intro k nx hk c;refine Y [0,1,7,8,9] [] sr (J ?_)
 refine Au (λh1=>Ae ?_) λh1=>?_
 .have a:k<l.length:=by simp at h1;omega
  have d:k<m.length:=om;have i:=s k a;have e:=x _ (Aw a);have Ee:=A5 (k:=k) om;rw[Pf _ a]at c;generalize l[k]=y at i c e;have w:=Af y.ch;unfold An.v at i e;generalize f _ =fb at c e;refine J (Ah (Y [0,1,5,7,8] [] sr (J (Ak (Ay 5 (by simp[i,d]<;>rfl) ?_)))));refine Nk t e sm rfl rfl sr sr sM sr (Aa [0,1,5,7,8,16] [] sr ?_)
  refine Au (λh2=>?_) λh2=>Ae ?_
  .exact Y [4] [] sr (Ao (Ab sr (by rw[<- c,Ad h2])))
  refine Ba [0,1,7,8] [] (by simp[Ee]<;>rfl) ?_;exact⟨a,by rw[<- c,I (by rw[h2];decide)],_,Z⟩
 .refine A6 ?_;have j:k=l.length:=sO h1
  rw[j,Ck,Ia]at c;exact Y [4] [] sr (Ao (Ab sr (by rw[<- c])))
def A7r(l:List An)(g:FuncId)(us vs:List V)(f:An->Bool)(d:∀p∈l,Yz gv prog (.fc g us vs) [An.v p] (λr=>r=.bool (f p))):AQ 149 [.ro 5 (Hv l),.fc g us vs] (.bool (l.any f)):=by
 have a:=A7q l g us vs f d;rw[<- Pu f l 0];have pl:=Gb l;generalize Hv l=lv,Ia f l 0=z at*;refine B0 func149 λw0 N0 c=>?_;refine Y [0,1] [] sr (Bn 2 sr ?_);refine Bq c a func208 ?_;exact Aa [4] [] sr (By sr (rfl))
def Bdk(a:An)(id:Int):AE 150 [a.v,.rp (.i id)] (.bool (decide (a.item=id))):=by
 rw[(vAn a)];have i5:=Af a.ch;have d:=A4 a.ch;generalize Av a.ch=hv at*;refine Aq func150 λw0 N0=>?_;exact Y [1,2] [2] sr (Y [3] [] sr (By sr rf))
def Aoj(c:List An)(id:Int):Bool:=c.any λa=>decide (a.item=id)
def A7s(a:List Int)(c:List An):Option Int:=a.find? λid=> !Aoj c id
def A1p(c:List Int)(d:List An)(he:c.length<=4000000):AQ 92 [.ro 1 (Av c),.ro 5 (Hv d)] (.i ((A7s c d).getD 0)):=by
 have e:=λ(id:Int)=>A7r d 150 [] [.rp (.i id)] (λa=>decide (a.item=id)) (λa _ =>Att (us:=[]) (vs:=[.rp (.i id)]) (args:=[a.v]) ((Bdk a id).q gv) func150 kr rfl)
 have u:=λ(k:Nat)(h:k<c.length)=>Fu h
 have le:=A4 c;have n:=λ(k:Nat)(h:k<c.length)=>Acx (λid=> !Aoj d id) h
 have m:∀id,Aoj d id=d.any λa=>decide (a.item=id):=λid=>rfl
 unfold A7s;have t:=Gb d;simp only[<- m]at e;generalize Aoj d=o,Av c=ev,Hv d=w at*;refine B0 func92 λw0 N0 y=>?_;refine Y [0,1] [] sr (J (Y [1,7,8,9] [] sr (Ah (Bu (λk nx=>⟨[(1,V.ro 5 w),(7,V.ro 1 ev),(8,V.i ev.length),(9,V.i k)],[],nx,19⟩) (λk=>(c.drop k).find? (λid=> !o id)=c.find? (λid=> !o id)) c.length _ sm Z ?_))));intro k nx hk j;refine Y [1,7,8,9,10] [] sr (J ?_)
 refine Au (λh1=>Ae ?_) λh1=>?_
 .have f:k<c.length:=by simp at h1;omega
  have i:k<ev.length:=om;have s:=u k f;have Ee:=A5 (k:=k) om;rw[n k f]at j;generalize c[k]=x at*;have g:=e x;refine J (Ah (Y [1,6,7,8,9] [6] (by simp[s,i]<;>rfl) (Bw 6 [1,6,7,8,9] [] sr (J (Ak (Ay 2 sr ?_))))));refine Bq y g func149 ?_;refine Aa [1,6,7,8,9,16] [] sr ?_
  refine Au (λh2=>?_) λh2=>Ae ?_
  .exact Y [4] [] sr (Ao (Ab sr (by rw[<- j,Ad (sG h2)];rfl)))
  refine Ba [1,7,8,9] [] (by simp[Ee]<;>rfl) ?_;exact⟨f,by rw[<- j,I (sG h2)],_,Z⟩
 .refine A6 ?_;have l:k=c.length:=sO h1
  rw[l,Ck]at j;exact Y [4] [] sr (Ao (Ab sr (by rw[<- j];rfl)))
def Ar9(a:An)(ha:a.ch.length<=2000000):AE 85 [a.v] a.v:=by
 have c:=Aoh (Av a.ch) (Af _) (Tu _) (by rw[A4];omega);rw[(vAn a)];have e:=Af a.ch;have f:=A4 a.ch;generalize Av a.ch=hv at*;refine Aq func85 λw0 N0=>?_;refine Y [1,2] [1,2] sr (Bn 2 sr ?_);refine Ac c func135 ?_;refine Aa [1,2] [1,2] sr (Y [2] [2] sr ?_);exact By Du (rfl)
def A7t(t:Te)(h:teOk t):AE 83 [t.v] t.v:=by
 have af:=h.sl;have ad:=h.el;have ae:=h.wl;have x:=λ(k:Nat)(f:k<t.w.length)=>h.wd _ (Aw f)
 have g:=Aec (Av t.elig) (Af _) (Tu _) (by rw[A4];omega);have l:=Ara (Bd t.steps) (Bc _) (flatP _) (by rw[Ei];omega);have e:=Anw (Cb t.w) (B1 _) (by rw[H5];omega);have j:=λ(n:Nat)(h:(Gv n).length<=100000)=>Aed (Gv n) (F9 n) (Alq n) h
 have hq:∀(k:Nat)(h:k<t.w.length),Hj (Cb t.w) k=some (.ro 1 (Gv t.w[k])):=λk h=>Ky h
 have z:∀(k:Nat)(h:k<t.w.length),(Cb t.w)[k]? =some (.ro 1 (Gv t.w[k])):=λk h=>Q0 h
 have u:=vTe t;rw[u];have s1:=Af t.elig;have s2:=Bc t.steps;have s3:=B1 t.w;have m:=H5 t.w;generalize Av t.elig=ti,Bd t.steps=ts,Cb t.w=tw at*;refine Aq func83 λw0 N0=>?_;refine Y [1,2] [1,2] sr (Bn 2 sr ?_);refine Ac g func135 ?_;refine Aa [1,2] [1,2] sr (Bn 2 sr ?_);refine Ac l func136 ?_;refine Aa [1,2] [1,2] sr ?_;refine Bn 2 sr ?_;refine D0 e func137 rfl kr rfl rfl rfl sr (λk o f=>by cases f) ?_ λch s=>s.elim;rintro r aa ag⟨v,rfl,rfl⟩ab;refine⟨λk f=>rfl,_,by simp<;>rfl,?_⟩;refine Aa [1,2] [1,2,5] sr ?_;refine J (A9 [18,19,20] sr (Ah (Bu (λk nx=>⟨[(1,V.bp 1 0 6 0 0),(2,V.bp 2 1 6 0 0),(18,V.sl 5 v 1 t.w.length),(19,V.i t.w.length),(20,V.i k)],[(1,⟨0,6,51,[V.agg [V.ro 1 ti,V.ro 2 ts,V.i t.pend,V.sl 5 v 1 t.w.length,V.int .u64 t.draw,V.i t.stop]]⟩),(2,⟨1,6,51,[V.agg [V.nils,V.nils,V.i 0,V.nils,V.int .u64 0,V.i 0]]⟩),(5,⟨v,1,30,tw⟩)],nx,33⟩) (λk=>True) t.w.length _ trivial (by simp only[m];exact Z) ?_)));intro k nx f hI;refine Y [1,2,18,19,20,21] [1,2,5] sr (J ?_)
 refine Cu (λh1=>?_) λh1=>?_
 .have a:k<t.w.length:=by simp at h1;omega
  have c:k<tw.length:=om;have ga:=hq k a;have gg:=z k a;have Ee:=A5 (k:=k) om;have y:(Gv t.w[k]).length<=100000:=by have:=x k a;simpa[Gv,A2]using this
  have d:=j t.w[k] y;have pn:=F9 t.w[k];generalize Gv t.w[k]=nv at*;have i:=Ahr gg;refine J (Ah (Y [1,2,3,4,18,19,20] [1,2,5] (by simp[ga,a]<;>rfl) ?_));refine Di [(0,[]),(2,[]),(3,[]),(4,[]),(1,[]),(5,[]),(6,[])] Eb kr ?_;refine Ci 3 sr ?_;refine B4 (λz=>d) func138 ?_;refine Dj [1,2,18,19,20] [1,2,5] Du ?_;refine Cw [] Du ?_;exact⟨a,trivial,_,Z⟩
 .refine A6 ?_;refine Bw 5 [1,2] [1,2] Du (Y [2] [2] sr ?_);exact By Du (rfl)
def Asa(es:List V)(hp:es.all V.pureE=true)(f:es.length<=100000):Qv prog 84 [.ro 5 es] [] (λr c=>∃v,r=.sl 85 v 5 es.length/\c= [(85,⟨v,5,75,es⟩)]) (λ_ =>False):=by
 have e:=No (b:=64) f dc;refine Ec func84 λw0 N0 a=>?_;refine Y [0] [] sr (J (Bn 1 sr ?_));refine Nj rfl rfl sr rfl kr (λb h=>⟨_,by simp<;>rfl,?_⟩);refine Aa [0,4] [] sr ?_
 refine C1 (λh1=>?_) λh1=>?_
 .refine Y [2] [] sr ?_;have g:=Am.1 (h h1);subst g;exact Fz 2 85 5 75 [2] [85] sr sr (Db a (Ea (A8 _ _) sr ⟨_,rfl,rfl⟩ (λk o d=>B5 gt d)))
 exact Jp 80 [2] [85] Du (Db a (Ea (A8 _ _) sr ⟨_,rfl,rfl⟩ (λk o d=>B5 gt d)))
def Asb(es:List V)(hp:es.all V.pureE=true)(c:es.all Mc=true)(f:es.length<=100000):ACO prog 86 [.ro 4 es] 4 77 (λF a=>(F=λd q=>.sl d q 4 es.length)/\a=es):=by
 have e:=No (b:=32) f dc;refine Kn func86 λw0 N0=>?_;refine Y [0] [] sr (J (Bn 1 sr ?_));refine Nj rfl rfl sr rfl kr (λb h=>⟨_,by simp<;>rfl,?_⟩);refine Aa [0,4] [] sr ?_
 refine C1 (λh1=>?_) λh1=>?_
 .refine Y [2] [] sr ?_;have g:=Am.1 (h h1);subst g;exact Fz 2 2 4 77 [2] [2] sr sr (Ao (H2 2 sr rfl rfl sm sr ⟨rfl,rfl⟩))
 exact Y [2] [5] Du (Ao (H2 5 sr rfl rfl (sG c) sr ⟨rfl,rfl⟩))
def seC(s:Se)(a c:V):V:=
 V.agg [.i s.st,.i s.us,.i s.la,.i s.sh,.ro 1 (Av s.t.elig),.ro 2 (Bd s.t.steps),.i s.t.pend,.ro 1 (Cb s.t.w),.int .u64 s.t.draw,.i s.t.stop,a,c]
structure SeOk(s:Se):Prop where
 t:teOk s.t
 al:s.ans.length<=1000
 ac:∀a∈s.ans,a.small
 il:s.inc.length<=1000
def Bi4(l:List In4):(Fp l).all Mc=true:=by
 rw[Ar];intro x a;simp only[Fp,Bl]at a;obtain⟨k,_,rfl⟩:=a;rfl
def A1q(s:Se)(h:SeOk s):
  Qv prog 47 [s.v] [] (λr g=>∃q1 q2,r=seC s (.sl 85 q1 5 s.ans.length) (.sl 73 q2 4 s.inc.length)/\g= [(85,⟨q1,5,75,Hv s.ans⟩),(73,⟨q2,4,77,Fp s.inc⟩)]) (λ_ =>False):=by
 have ai:=h.al;have ag:=h.il;have m:=A7t s.t h.t;have u:=Asa (Hv s.ans) (Gb _) (by rw[Iu];omega);have z:=Asb (Fp s.inc) (Fj _) (Bi4 _) (by rw[Hc];omega);have aa:=λ(k:Nat)(c:k<s.ans.length)=>Ar9 s.ans[k] (h.ac _ (Aw c)).ch
 have hq:=λ(k:Nat)(c:k<s.ans.length)=>Abr c
 have hg:∀(k:Nat)(c:k<s.ans.length),(Hv s.ans)[k]? =some s.ans[k].v:=λk c=>by rw[<- C2];exact Abr c
 have ad:=vTe s.t;rw[ad]at m;unfold seC;have ab:=vSe s;rw[ab];have z1:=Af s.t.elig;have z2:=Bc s.t.steps;have z3:=B1 s.t.w;have z4:=Gb s.ans;have z5:=Fj s.inc;have ae:=Iu s.ans;have x:=Hc s.inc;generalize Av s.t.elig=ti,Bd s.t.steps=ts,Cb s.t.w=tw,Hv s.ans=e,Fp s.inc=y at*;refine Ec func47 λw0 N0 d=>?_;refine Y [1,2] [1,2] sr (Bn 2 sr ?_);refine Ac m func83 ?_;refine Aa [1,2] [1,2] sr (Bn 2 sr ?_);refine D0 u func84 rfl kr rfl rfl rfl sr (λk o c=>by cases c) ?_ λch n=>n.elim;rintro r g ah⟨v,rfl,rfl⟩af;refine⟨λk c=>rfl,_,by simp<;>rfl,?_⟩;refine Aa [1,2] [1,2,85] sr ?_;refine J (A9 [14,15,16] sr (Ah (Bu (λk nx=>⟨[(1,V.bp 1 d 12 0 0),(2,V.bp 2 (d+1) 12 0 0),(14,V.sl 85 v 5 e.length),(15,V.i e.length),(16,V.i k)],[(1,⟨d,12,55,[V.agg [.i s.st,.i s.us,.i s.la,.i s.sh,.ro 1 ti,.ro 2 ts,.i s.t.pend,.ro 1 tw,.int .u64 s.t.draw,.i s.t.stop,V.sl 85 v 5 e.length,V.ro 4 y]]⟩),(2,⟨d+1,12,55,[V.agg [V.i 0,V.i 0,V.i 0,V.i 0,V.nils,V.nils,V.i 0,V.nils,V.int .u64 0,V.i 0,V.nils,V.nils]]⟩),(85,⟨v,5,75,e⟩)],nx,33⟩) (λk=>True) s.ans.length _ trivial Z ?_)));intro k nx c hI;refine Y [1,2,14,15,16,17] [1,2,85] sr (J ?_)
 refine Cu (λh1=>?_) λh1=>?_
 .have f:k<s.ans.length:=by simp at h1;omega
  have j:k<e.length:=om;have ga:=hq k f;have gg:=hg k f;have Ee:=A5 (k:=k) om;have i:=aa k f;have pn:=Af s.ans[k].ch;unfold An.v at ga gg i;generalize s.ans[k]=a at*;have l:=Ahr gg;refine J (Ah (Y [1,2,3,4,14,15,16] [1,2,4,85] (by simp[ga,j]<;>rfl) ?_));refine Di [(0,[]),(2,[]),(1,[]),(3,[]),(4,[]),(5,[]),(6,[])] Eb kr ?_;refine Ci 4 sr ?_;refine B4 (λhg=>i) func85 ?_;refine Dj [1,2,14,15,16] [1,2,85] (by simp[ga,l,j]<;>rfl) ?_;refine Cw [] (by simp[Ee]<;>rfl) ?_;exact⟨f,trivial,_,Z⟩
 .refine A6 ?_;refine Bn 2 sr ?_;refine M5 73 z func86 rfl kr rfl rfl rfl sr (by simp[AS.views,AS.view,AS.viewC]<;>rfl) sr ?_;refine Aa [1,2] [1,2,73,85] sr ?_;refine Y [2] [2,73,85] sr ?_;exact Db d (Ea (A8 _ _) sr ⟨_,_,by rw[ae,x],rfl⟩ (λk o c=>Axj gt gt c))
def Asc(l:List Int):AE 37 [.ro 1 (Av l),.ro 1 (Av l)] (.bool true):=by
 refine K8 0 rfl λe=>?_;have q:=λ(k:Nat)(h:k<l.length)=>Dn h
 have j:=A4 l;rw[j,Pc]at e;have p1:=Af l;generalize Av l=lv at*;refine Aq func37 λw0 N0=>?_;refine Y [0,1] [] sr (J (A9 [10] sr ?_));refine A0 rfl sA (λh1=>Ae (J (Y [0,1,12,13] [] sr (Ah (Bu (λk nx=>⟨[(0,V.ro 1 lv),(1,V.ro 1 lv),(12,V.i lv.length),(13,V.i k)],[],nx,26⟩) (λk=>True) l.length _ trivial Z ?_)))));intro k nx hk hI;refine Y [0,1,12,13,14] [] sr (J ?_)
 refine Cu (λh2=>?_) λh2=>?_
 .have c:k<l.length:=by simp at h2;omega
  have d:k<lv.length:=om;refine J (Ah (Y [0,1,5,12,13] [] sr ?_));refine Do [(0,[]),(1,[]),(2,[]),(4,[]),(5,[]),(6,[]),(3,[]),(7,[]),(8,[])] [0,1,12,13,24] [] Eb kr (by simp[(q k c),d]<;>rfl) (A0 rfl sA (λf=>Ae (Ba [0,1,12,13] [] (by simp[(A5 (k:=k) om)]<;>rfl) ?_)));exact⟨c,trivial,_,Z⟩
 .exact A6 (Y [4] [] sr (By sr rf))
def A7u(l:List (Int × Int)):AE 38 [.ro 2 (Bd l),.ro 2 (Bd l)] (.bool true):=by
 refine K8 0 rfl λe=>?_;have q:=λ(k:Nat)(h:k<l.length)=>Im h
 have j:=Ei l;rw[j,Pc]at e;have p1:=Bc l;generalize Bd l=lv at*;refine Aq func38 λw0 N0=>?_;refine Y [0,1] [] sr (J (A9 [10] sr ?_));refine A0 rfl sA (λh1=>Ae (J (Y [0,1,12,13] [] sr (Ah (Bu (λk nx=>⟨[(0,V.ro 2 lv),(1,V.ro 2 lv),(12,V.i lv.length),(13,V.i k)],[],nx,26⟩) (λk=>True) l.length _ trivial Z ?_)))));intro k nx hk hI;refine Y [0,1,12,13,14] [] sr (J ?_)
 refine Cu (λh2=>?_) λh2=>?_
 .have c:k<l.length:=by simp at h2;omega
  have d:k<lv.length:=om;generalize l[k]=p at*;refine J (Ah (Y [0,1,5,12,13] [] sr ?_));refine Do [(0,[]),(1,[]),(2,[]),(4,[]),(5,[]),(6,[]),(3,[]),(7,[]),(8,[])] [0,1,12,13,24] [] Eb kr (by simp[(q k c),d]<;>rfl) (A0 rfl sA (λf=>Ae (Ba [0,1,12,13] [] (by simp[(A5 (k:=k) om)]<;>rfl) ?_)));exact⟨c,trivial,_,Z⟩
 .exact A6 (Y [4] [] sr (By sr rf))
def A7v(l:List In4):AE 21 [.ro 4 (Fp l),.ro 4 (Fp l)] (.bool true):=by
 refine K8 0 rfl λe=>?_;have q:=λ(k:Nat)(h:k<l.length)=>Adh h
 have j:=Hc l;rw[j,Pc]at e;have p1:=Fj l;generalize Fp l=lv at*;refine Aq func21 λw0 N0=>?_;refine Y [0,1] [] sr (J (A9 [10] sr ?_));refine A0 rfl sA (λh1=>Ae (J (Y [0,1,12,13] [] sr (Ah (Bu (λk nx=>⟨[(0,V.ro 4 lv),(1,V.ro 4 lv),(12,V.i lv.length),(13,V.i k)],[],nx,26⟩) (λk=>True) l.length _ trivial Z ?_)))));intro k nx hk hI;refine Y [0,1,12,13,14] [] sr (J ?_)
 refine Cu (λh2=>?_) λh2=>?_
 .have c:k<l.length:=by simp at h2;omega
  have d:k<lv.length:=om;have f:=q k c;unfold In4.v at f;generalize l[k]=p at*;refine J (Ah (Y [0,1,5,12,13] [] sr ?_));refine Do [(0,[]),(1,[]),(2,[]),(4,[]),(5,[]),(6,[]),(3,[]),(7,[]),(8,[])] [0,1,12,13,24] [] Eb kr (by simp[f,d]<;>rfl) (A0 rfl sA (λg=>Ae (Ba [0,1,12,13] [] (by simp[(A5 (k:=k) om)]<;>rfl) ?_)));exact⟨c,trivial,_,Z⟩
 .exact A6 (Y [4] [] sr (By sr rf))
def A7w(a:An):AE 20 [a.v,a.v] (.bool true):=by
 have d:=Asc a.ch;rw[(vAn a)];have f:=Af a.ch;generalize Av a.ch=hv at*;refine Aq func20 λw0 N0=>?_;refine Y [2,3] [2,3] sr (Bn 10 sr ?_);refine Ep (c:=True) (λhg=>d) func37 rfl kr sr rfl rfl sr sM sr (Aa [4] [] sr ?_);exact By sr (rfl)
def Avi(l:List An):Kb G0 prog 19 [.ro 5 (Hv l),.ro 5 (Hv l),.fn 20] (λr=>r=.bool true):=by
 refine Q9 0 rfl λf=>?_;have q:=λ(k:Nat)(h:k<l.length)=>Abr h
 have o:=Iu l;rw[o,Pc]at f;have p1:=Gb l;generalize Hv l=lv at*;refine B0 func19 λw0 N0 n=>?_;refine Y [0,1,2] [] sr (J (A9 [14] sr ?_));refine A0 rfl sA (λh1=>Ae (J (Y [1,2,15,16,17] [] sr (Ah (Bu (λk nx=>⟨[(1,V.ro 5 lv),(2,.fn 20),(15,V.ro 5 lv),(16,V.i lv.length),(17,V.i k)],[],nx,32⟩) (λk=>True) l.length _ trivial Z ?_)))));intro k nx hk hI;refine Y [1,2,15,16,17,18] [] sr (J ?_)
 refine Cu (λh2=>?_) λh2=>?_
 .have d:k<l.length:=by simp at h2;omega
  have c:k<lv.length:=om;have e:=q k d;have Ee:=A5 (k:=k) om;have m:=Af l[k].ch;have j:Yz G0 prog (.fn 20) [l[k].v,l[k].v] (λr=>r=.bool true):=⟨20,[],[],_,.inr ⟨rfl,rfl,rfl⟩,func20,by kernel_rfl,rfl,(A7w l[k]).q G0⟩;unfold An.v at e j;generalize l[k]=a at*;refine J (Ah (Y [1,2,7,8,15,16,17] [8] (by simp[e,c]<;>rfl) (Y [1,2,8,9,15,16,17] [8,9] (by simp[e,c]<;>rfl) (Bn 3 sr ?_))));refine Nk n j sm rfl rfl sr sr sM sr (Aa [1,2,15,16,17,30] [] sr ?_);refine A0 rfl sA (λg=>Ae (Ba [1,2,15,16,17] [] (by simp[Ee]<;>rfl) ?_));exact⟨d,trivial,_,Z⟩
 .refine A6 ?_;exact Y [6] [] sr (By sr rf)
def A7x(n:Nat):AE 35 [.ro 1 (Gv n),.ro 1 (Gv n)] (.bool true):=by
 have c:=Acr (B2 n) (B2 n) (Cp n) (Cp n);have e0:Rf (Bf (B2 n)) (Bf (B2 n))=0:=by unfold Rf;rw[I (Yo _),I (Yo _)]
 rw[e0]at c;change AC _ _ [.ro 1 (Gv n),.ro 1 (Gv n)] _ at c;have d:=F9 n;generalize Gv n=nv at*;refine Aq func35 λw0 N0=>?_;refine Y [0,1] [] sr (Bn 2 sr ?_);refine Ac c func36 ?_;exact Aa [4] [] sr (By sr (rfl))
def A1r(l:List Nat):Kb G0 prog 39 [.ro 1 (Cb l),.ro 1 (Cb l),.fn 35] (λr=>r=.bool true):=by
 refine Q9 0 rfl λf=>?_;have q:=λ(k:Nat)(h:k<l.length)=>Ky h
 have e:∀n,A2 (B2 n)=Gv n:=λn=>rfl
 simp only[e]at q;have t:=H5 l;rw[t,Pc]at f;have p1:=B1 l;generalize Cb l=lv at*;refine B0 func39 λw0 N0 s=>?_;refine Y [0,1,2] [] sr (J (A9 [14] sr ?_));refine A0 rfl sA (λh1=>Ae (J (Y [1,2,15,16,17] [] sr (Ah (Bu (λk nx=>⟨[(1,V.ro 1 lv),(2,.fn 35),(15,V.ro 1 lv),(16,V.i lv.length),(17,V.i k)],[],nx,32⟩) (λk=>True) l.length _ trivial Z ?_)))));intro k nx hk hI;refine Y [1,2,15,16,17,18] [] sr (J ?_)
 refine Cu (λh2=>?_) λh2=>?_
 .have d:k<l.length:=by simp at h2;omega
  have c:k<lv.length:=om;have g:=q k d;have Ee:=A5 (k:=k) om;generalize l[k]=n at*;have o:Yz G0 prog (.fn 35) [.ro 1 (Gv n),.ro 1 (Gv n)] (λr=>r=.bool true):=⟨35,[],[],_,.inr ⟨rfl,rfl,rfl⟩,func35,by kernel_rfl,rfl,(A7x n).q G0⟩;have m:=F9 n;generalize Gv n=nv at*;refine J (Ah (Y [1,2,7,8,15,16,17] [] (by simp[g,c]<;>rfl) (Y [1,2,8,9,15,16,17] [] (by simp[g,c]<;>rfl) (Bn 3 sr ?_))));refine Nk s o sm rfl rfl sr sr sM sr (Aa [1,2,15,16,17,30] [] sr ?_);refine A0 rfl sA (λj=>Ae (Ba [1,2,15,16,17] [] (by simp[Ee]<;>rfl) ?_));exact⟨d,trivial,_,Z⟩
 .refine A6 ?_;exact Y [6] [] sr (By sr rf)
def Ah3(s:Se)(v c a:Nat):List (Nat × Ob):=
 [(10,⟨v,12,55,[seC s (.sl 85 c 5 s.ans.length) (.sl 73 a 4 s.inc.length)]⟩),(85,⟨c,5,75,Hv s.ans⟩),(73,⟨a,4,77,Fp s.inc⟩)]
def evR(e:Int)(v:Nat)(s':Se)(r:V)(a:List (Nat × Ob)):Prop:=
 r=.i e/\((e≠0/\a= [])\/(e=0/\a= [(10,⟨v,12,55,[s'.v]⟩)]))
def Jf{v:Nat}{s':Se}(h:e≠0):evR e v s' (.i e) []:=⟨rfl,.inl ⟨h,rfl⟩⟩
def Avj{v:Nat}{s':Se}:evR 0 v s' (.i 0) [(10,⟨v,12,55,[s'.v]⟩)]:=⟨rfl,.inr ⟨rfl,rfl⟩⟩
def Jg{a:List (Nat × Ob)}(k:Nat)(o:Ob)(h:Eng.get ([]:List (Nat × Ob)) k=some o):Eng.get a k=some o:=by cases h
def A7y(d:Dl)(st:Te)(s:Se):Int:=if s.st≠0 then 8 else A1a d.p d.pool st
def Zd(d:Dl)(st:Te)(s:Se):Se:={ s with st:=1,t:=Aoc d.p d.pool st,sh:=(Aoc d.p d.pool st).pend}
def A1s(d:Dl)(t:Te)(s:Se)(v aq iq:Nat)(h:AdP d.p d.pool)(ht:teOk t)(hw:Ks t.w 1000):
  Xr gv prog 48 [d.v,t.v,.bp 10 v 12 0 0] (Ah3 s v aq iq) (evR (A7y d t s) v (Zd d t s)):=by
 have c:=Arz d.p d.pool t h ht hw;have hT:∀e x,teR e x=.tup [(if e=0 then x else Yi).v,.i e]:=λe x=>rfl
 rw[hT]at c;have aa:∀x:Te,Se.v { s with st:=1,t:=x,sh:=x.pend}=V.agg [.i 1,.i s.us,.i s.la,.i x.pend,.ro 1 (Av x.elig),.ro 2 (Bd x.steps),.i x.pend,.ro 1 (Cb x.w),.int .u64 x.draw,.i x.stop,.ro 5 (Hv s.ans),.ro 4 (Fp s.inc)]:=λx=>rfl
 unfold A7y Zd Ah3;generalize Aoc d.p d.pool t=a,A1a d.p d.pool t=ne at*;have m:=λ(h:ne≠0)=>Jf (v:=v) (s':={ s with st:=1,t:=a,sh:=a.pend}) h
 have f:ne=0->∀r o,r=V.i 0->o= [(10,(⟨v,12,55,[V.agg [.i 1,.i s.us,.i s.la,.i (if ne=0 then a else Yi).pend,.ro 1 (Av (if ne=0 then a else Yi).elig),.ro 2 (Bd (if ne=0 then a else Yi).steps),.i (if ne=0 then a else Yi).pend,.ro 1 (Cb (if ne=0 then a else Yi).w),.int .u64 (if ne=0 then a else Yi).draw,.i (if ne=0 then a else Yi).stop,.ro 5 (Hv s.ans),.ro 4 (Fp s.inc)]]⟩:Ob))]->evR ne v { s with st:=1,t:=a,sh:=a.pend} r o:=by
  intro h0 r o hr ho;rw[h0,Ad rfl]at ho;rw[h0,hr,ho,<- aa];exact Avj
 have j:∀x:Te,x.v=.agg [.ro 1 (Av x.elig),.ro 2 (Bd x.steps),.i x.pend,.ro 1 (Cb x.w),.int .u64 x.draw,.i x.stop]:=λx=>rfl
 rw[j,j]at c;rw[j];have l:=Af (if ne=0 then a else Yi).elig;have u:=Bc (if ne=0 then a else Yi).steps;have n:=B1 (if ne=0 then a else Yi).w;have x1:=Af t.elig;have x2:=Bc t.steps;have x3:=B1 t.w;generalize(if ne=0 then a else Yi)=tt at*;rw[(vPo d.p)]at c;unfold seC;rw[(vDl d)];have d0:=Dr d.p.rules;have d1:=Af d.p.g.pts;have d2:=Af d.p.g.pri;have d3:=Bc d.p.en;have d4:=Aj d.p.var.num.mag;have d5:=Aj d.p.var.den;have d6:=Aj d.p.lvl.num.mag;have d7:=Aj d.p.lvl.den;have d8:=Aj d.p.rate.num.mag;have d9:=Aj d.p.rate.den;have ag:=Cx d.pool;have ab:=Ih d.items;have ai:=Af d.ess;have af:=Bc d.uses;generalize Hu d.p.rules=rv,Av d.p.g.pts=pt,Av d.p.g.pri=pr,Bd d.p.en=ev,A2 d.p.var.num.mag=vm,A2 d.p.var.den=vd,A2 d.p.lvl.num.mag=lm,A2 d.p.lvl.den=ld,A2 d.p.rate.num.mag=rm,A2 d.p.rate.den=rd at*;have ak:=E4 d.pool;have ao:=Jd d.items;have ar:=A4 d.ess;generalize C5 d.pool=lv,Oe d.items=au,Av d.ess=an,Bd d.uses=uv at*;have z1:=Af s.t.elig;have z2:=Bc s.t.steps;have z3:=B1 s.t.w;have z4:=Gb s.ans;have z5:=Fj s.inc;have ae:=Iu s.ans;have z:=Hc s.inc;generalize Av s.t.elig=ti,Bd s.t.steps=ts,Cb s.t.w=tw,Hv s.ans=am,Fp s.inc=aj at*;have al:=F8 z4;have ad:=F8 z5;generalize Av t.elig=xi,Bd t.steps=xs,Cb t.w=xw,Av tt.elig=yi,Bd tt.steps=ys,Cb tt.w=yw at*;refine H9 func48 λw0 N0 i hG=>?_;refine Y [2,3,4] [3,4,10,73,85] sr (J (A9 [13] sr ?_))
 refine C1 (λh1=>?_) λh1=>?_
 .exact Y [6] [10,73,85] sr (Db i (Ea (A8 _ _) sr (by rw[Ad (sG h1)];exact Jf dc) Jg))
 rw[I (sG h1)];refine Bn 5 sr (Bq hG c func87 ?_);refine Aa [2,7,8] [7,10,73,85] sr (J (A9 [24] sr ?_))
 refine C1 (λh2=>?_) λh2=>?_
 .exact Y [6] [10,73,85] sr (Db i (Ea (A8 _ _) sr (m (sG h2)) Jg))
 refine Y [2,7] [7,10,73,85] sR (A9 [] sR (Y [] [10,73,85] sR (A9 [6] sr (Bw 85 [6] [10,73] Du (Bw 73 [6] [10] Du ?_)))));exact Db i (Ea (A8 _ _) sr (f (sG h2) _ _ rfl rfl) (λk o hk=>B5 gt hk))
def A7z(s:Se):Int:=if s.st≠1 then 8 else 0
def Wi(d:Dl)(s:Se)(n:Int):Se:={ s with st:=2,us:=P3 (Oz s n) (Rz d s)}
def A1t(d:Dl)(s:Se)(n:Int)(v aq iq:Nat):
  Xr gv prog 50 [d.v,.bp 10 v 12 0 0,.i n] (Ah3 s v aq iq) (evR (A7z s) v (Wi d s n)):=by
 have m:=Abs s n;have f:=Ahy d s;have e:Se.v (Wi d s n)=V.agg [.i 2,.i (P3 (Oz s n) (Rz d s)),.i s.la,.i s.sh,.ro 1 (Av s.t.elig),.ro 2 (Bd s.t.steps),.i s.t.pend,.ro 1 (Cb s.t.w),.int .u64 s.t.draw,.i s.t.stop,.ro 5 (Hv s.ans),.ro 4 (Fp s.inc)]:=rfl;unfold P3 at e
 have a:∀r o,r=V.i 0->o= [(10,(⟨v,12,55,[V.agg [.i 2,.i (if Rz d s<Oz s n then Rz d s else Oz s n),.i s.la,.i s.sh,.ro 1 (Av s.t.elig),.ro 2 (Bd s.t.steps),.i s.t.pend,.ro 1 (Cb s.t.w),.int .u64 s.t.draw,.i s.t.stop,.ro 5 (Hv s.ans),.ro 4 (Fp s.inc)]]⟩:Ob))]->evR 0 v (Wi d s n) r o:=by
  intro r o hr ho;rw[hr,ho,<- e];exact Avj
 unfold A7z Ah3 seC;clear e;generalize Wi d s n=ps,Oz s n=uu,Rz d s=ll at*;have aa:=vSe s;have i:=vDl d;rw[aa]at m f;rw[i]at f;rw[i];have d0:=Dr d.p.rules;have d1:=Af d.p.g.pts;have d2:=Af d.p.g.pri;have d3:=Bc d.p.en;have d4:=Aj d.p.var.num.mag;have d5:=Aj d.p.var.den;have d6:=Aj d.p.lvl.num.mag;have d7:=Aj d.p.lvl.den;have d8:=Aj d.p.rate.num.mag;have d9:=Aj d.p.rate.den;have x:=Cx d.pool;have l:=Ih d.items;have y:=Af d.ess;have u:=Bc d.uses;generalize Hu d.p.rules=rv,Av d.p.g.pts=pt,Av d.p.g.pri=pr,Bd d.p.en=ev,A2 d.p.var.num.mag=vm,A2 d.p.var.den=vd,A2 d.p.lvl.num.mag=lm,A2 d.p.lvl.den=ld,A2 d.p.rate.num.mag=rm,A2 d.p.rate.den=rd at*;have ae:=E4 d.pool;have ah:=Jd d.items;have ai:=A4 d.ess;generalize C5 d.pool=lv,Oe d.items=aj,Av d.ess=ag,Bd d.uses=uv at*;have z1:=Af s.t.elig;have z2:=Bc s.t.steps;have z3:=B1 s.t.w;have z4:=Gb s.ans;have z:=Fj s.inc;have h:=Iu s.ans;have c:=Hc s.inc;generalize Av s.t.elig=ti,Bd s.t.steps=ts,Cb s.t.w=tw,Hv s.ans=af,Fp s.inc=ad at*;have ab:=F8 z;refine H9 func50 λw0 N0 j hG=>?_;refine Y [1,2,3] [3,10,73,85] sr (Bw 85 [1,2,3] [3,10,73] Du (Bw 73 [1,2,3] [3,10] Du (J (A9 [11] sr ?_))))
 refine C1 (λh1=>?_) λh1=>?_
 .exact Y [6] [10] sr (Db j (Ea (A8 _ _) sr (by rw[Ad (sG h1)];exact Jf dc) Jg))
 rw[I (sG h1)];refine J (Di [(0,[]),(1,[]),(2,[]),(4,[]),(7,[]),(8,[]),(3,[]),(5,[]),(6,[]),(9,[]),(10,[]),(11,[]),(12,[]),(13,[]),(14,[])] Eb kr ?_);refine Ci 7 sr (B4 (λhg=>m) func88 ?_);refine Ci 2 sr ?_;refine B4 (λhg=>f) func89 ?_;refine Dj [1] [10] sr ?_;refine Y [] [10] sr (A9 [6] sr ?_);exact Db j (Ea (A8 _ _) sr (a _ _ rfl rfl) (λk o hk=>B5 gt hk))
variable {r:V}
def A70(s:Se):Int:=if Bdh s=false then 8 else 0
def T0(t:Te):Te:=if t.stop=0 then { t with pend:=0,stop:=4}else t
def X1(d:Dl)(s:Se)(n:Int):Se:={ s with st:=3,us:=P3 (Oz s n) (Rz d s),sh:=0,t:=T0 s.t}
def Ze{v:Nat}{s':Se}{x:V}{o:List (Nat × Ob)}(a:s'.v=x)(d:r=.i 0)(c:o= [(10,⟨v,12,55,[x]⟩)]):evR 0 v s' r o:=by
 rw[d,c,<- a];exact Avj
def Avk(d:Dl)(s:Se)(n:Int)(v aq iq:Nat)(ht:teOk s.t):
  Xr gv prog 52 [d.v,.bp 10 v 12 0 0,.i n] (Ah3 s v aq iq) (evR (A70 s) v (X1 d s n)):=by
 have ad:=Ax1 s;have ab:=Bgo s.t ht;have aj:=Abs s n;have ae:=Ahy d s;have i:=Abs { s with t:=T0 s.t} n;have e:=Ahy d { s with t:=T0 s.t};change AC _ _ _ (λr=>r=.i (Oz s n))at i;change AC _ _ _ (λr=>r=.i (Rz d s))at e
 have f:∀r o,r=V.i 0->o= [(10,(⟨v,12,55,[V.agg [.i 3,.i (if Rz d s<Oz s n then Rz d s else Oz s n),.i s.la,.i 0,.ro 1 (Av (T0 s.t).elig),.ro 2 (Bd (T0 s.t).steps),.i (T0 s.t).pend,.ro 1 (Cb (T0 s.t).w),.int .u64 (T0 s.t).draw,.i (T0 s.t).stop,.ro 5 (Hv s.ans),.ro 4 (Fp s.inc)]]⟩:Ob))]->evR 0 v (X1 d s n) r o:=
  λr o hr ho=>Ze rfl hr ho
 unfold A70 Ah3 seC;generalize X1 d s n=ps,Oz s n=uu,Rz d s=ll at*;have ak:Se.v { s with t:=T0 s.t}=V.agg [.i s.st,.i s.us,.i s.la,.i s.sh,.ro 1 (Av (T0 s.t).elig),.ro 2 (Bd (T0 s.t).steps),.i (T0 s.t).pend,.ro 1 (Cb (T0 s.t).w),.int .u64 (T0 s.t).draw,.i (T0 s.t).stop,.ro 5 (Hv s.ans),.ro 4 (Fp s.inc)]:=rfl;rw[ak]at i e;have an:=vTe s.t;rw[an]at ab;have hT:teR 0 { s.t with pend:=0,stop:=4}=.tup [.agg [.ro 1 (Av s.t.elig),.ro 2 (Bd s.t.steps),.i 0,.ro 1 (Cb s.t.w),.int .u64 s.t.draw,.i 4],.i 0]:=rfl;have ag:s.t.stop=0->T0 s.t= { s.t with pend:=0,stop:=4}:=λh=>Ad h
 have ah:¬s.t.stop=0->T0 s.t=s.t:=λh=>I h
 have am:=vSe s;have ai:=vDl d;rw[am]at ad aj ae;rw[ai]at ae e;rw[ai];have d0:=Dr d.p.rules;have d1:=Af d.p.g.pts;have d2:=Af d.p.g.pri;have d3:=Bc d.p.en;have d4:=Aj d.p.var.num.mag;have d5:=Aj d.p.var.den;have d6:=Aj d.p.lvl.num.mag;have d7:=Aj d.p.lvl.den;have d8:=Aj d.p.rate.num.mag;have d9:=Aj d.p.rate.den;have m:=Cx d.pool;have j:=Ih d.items;have u:=Af d.ess;have l:=Bc d.uses;generalize Hu d.p.rules=rv,Av d.p.g.pts=pt,Av d.p.g.pri=pr,Bd d.p.en=ev,A2 d.p.var.num.mag=vm,A2 d.p.var.den=vd,A2 d.p.lvl.num.mag=lm,A2 d.p.lvl.den=ld,A2 d.p.rate.num.mag=rm,A2 d.p.rate.den=rd at*;have au:=E4 d.pool;have aw:=Jd d.items;have ax:=A4 d.ess;generalize C5 d.pool=lv,Oe d.items=ay,Av d.ess=av,Bd d.uses=uv at*
 by_cases aa:s.t.stop=0
 .rw[ag aa]at i e f;have ar:(if s.t.stop≠0 then(21:Int)else 0)=0:=I G8;rw[ar,hT]at ab;clear ag ah;have z1:=Af s.t.elig;have z2:=Bc s.t.steps;have z3:=B1 s.t.w;have y:=Gb s.ans;have x:=Fj s.inc;have c:=Iu s.ans;have a:=Hc s.inc;generalize Av s.t.elig=ti,Bd s.t.steps=ts,Cb s.t.w=tw,Hv s.ans=ao,Fp s.inc=al at*;have af:=F8 x;refine H9 func52 λw0 N0 z hG=>?_;refine Y [1,2,3] [3,10,73,85] sr (Bw 85 [1,2,3] [3,10,73] (by simp[y,c,af]<;>rfl) (Bw 73 [1,2,3] [3,10] (by simp[x,a]<;>rfl) (J (Bn 3 sr ?_))));refine Ac ad func93 ?_;refine Aa [1,2,3,13] [3,10] sr ?_
  refine C1 (λh1=>?_) λh1=>?_
  .refine Y [6] [10] sr ?_;exact Db z (Ea (A8 _ _) sr (by rw[Ad (sG h1)];exact Jf dc) Jg)
  rw[I (sG h1)];refine J (Y [1,2,3,19] [3,10] sr ?_)
  refine A0 rfl (λh2=>?_) (λh2=>by simp[aa]at h2)
  .refine Bn 4 sr ?_;refine Ac ab func95 ?_;refine Aa [1,2,3,7,8] [3,7,10] sr ?_;refine J (A9 [29] sr ?_);refine A0 rfl sA (λh3=>Ae (Ba [1,2,3] [3,10] sr (J (Di [(0,[]),(1,[]),(2,[]),(4,[]),(7,[]),(8,[]),(3,[]),(5,[]),(6,[]),(9,[]),(10,[]),(11,[]),(12,[]),(13,[]),(14,[])] Eb kr ?_))));refine Ci 7 sr ?_;refine B4 (λhg=>i) func88 ?_;refine Ci 2 sr ?_;refine B4 (λhg=>e) func89 ?_;refine Dj [1] [10] sr ?_;refine A9 [] sr (Y [] [10] sr (A9 [6] sr ?_));exact Db z (Ea (A8 _ _) sr (f _ _ rfl rfl) (λk o hk=>B5 gt hk))
 .rw[ah aa]at i e f;clear ag ah hT;have z1:=Af s.t.elig;have z2:=Bc s.t.steps;have z3:=B1 s.t.w;have y:=Gb s.ans;have x:=Fj s.inc;have c:=Iu s.ans;have a:=Hc s.inc;generalize Av s.t.elig=ti,Bd s.t.steps=ts,Cb s.t.w=tw,Hv s.ans=ao,Fp s.inc=al at*;have af:=F8 x;refine H9 func52 λw0 N0 z hG=>?_;refine Y [1,2,3] [3,10,73,85] sr (Bw 85 [1,2,3] [3,10,73] (by simp[y,c,af]<;>rfl) (Bw 73 [1,2,3] [3,10] (by simp[x,a]<;>rfl) (J (Bn 3 sr ?_))));refine Ac ad func93 ?_;refine Aa [1,2,3,13] [3,10] sr ?_
  refine C1 (λh1=>?_) λh1=>?_
  .refine Y [6] [10] sr ?_;exact Db z (Ea (A8 _ _) sr (by rw[Ad (sG h1)];exact Jf dc) Jg)
  rw[I (sG h1)];refine J (Y [1,2,3,19] [3,10] sr ?_);refine A0 rfl (λh2=>absurd (sG h2) aa) (λh2=>Ae (J (Di [(0,[]),(1,[]),(2,[]),(4,[]),(7,[]),(8,[]),(3,[]),(5,[]),(6,[]),(9,[]),(10,[]),(11,[]),(12,[]),(13,[]),(14,[])] Eb kr ?_)));refine Ci 7 sr ?_;refine B4 (λhg=>aj) func88 ?_;refine Ci 2 sr ?_;refine B4 (λhg=>ae) func89 ?_;refine Dj [1] [10] sr ?_;refine A9 [] sr (Y [] [10] sr (A9 [6] sr ?_));exact Db z (Ea (A8 _ _) sr (f _ _ rfl rfl) (λk o hk=>B5 gt hk))
structure Ev where
 kind:Int
 time:Int
 an:An
 inc:In4
def Ev.v(e:Ev):V:=V.agg [.i e.kind,.i e.time,.i e.an.item,.ro 1 (Av e.an.ch),.i e.an.val,.str e.an.txt,.bool e.an.om,.i e.inc.ki,.i e.inc.ti,.i e.inc.lo,.i e.inc.gr]
def vEv(e:Ev):e.v=V.agg [.i e.kind,.i e.time,.i e.an.item,.ro 1 (Av e.an.ch),.i e.an.val,.str e.an.txt,.bool e.an.om,.i e.inc.ki,.i e.inc.ti,.i e.inc.lo,.i e.inc.gr]:=rfl
def A71(s:Se)(e:Ev):Int:=
 if Bdh s=false then 8 else if e.inc.ti≠e.time then 1 else if Aoe e.inc≠0 then Aoe e.inc else if(300:Int)<=s.inc.length then 5 else 0
def X2(d:Dl)(s:Se)(e:Ev):Se:={ s with us:=P3 (Oz s e.time) (Rz d s),inc:=s.inc++[e.inc]}
def Avl(d:Dl)(s:Se)(e:Ev)(v aq iq:Nat)(al:s.inc.length<=1000):
  Xr gv prog 51 [d.v,.bp 10 v 12 0 0,e.v] (Ah3 s v aq iq) (evR (A71 s e) v (X2 d s e)):=by
 have af:=Ax1 s;have ag:=Aeg e.inc;have aa:=Abs s e.time;have y:=Ahy d s
 have m:∀r o,r=V.i 0->o= [(10,(⟨v,12,55,[V.agg [.i s.st,.i (if Rz d s<Oz s e.time then Rz d s else Oz s e.time),.i s.la,.i s.sh,.ro 1 (Av s.t.elig),.ro 2 (Bd s.t.steps),.i s.t.pend,.ro 1 (Cb s.t.w),.int .u64 s.t.draw,.i s.t.stop,.ro 5 (Hv s.ans),.ro 4 (Fp (s.inc++[e.inc]))]]⟩:Ob))]->evR 0 v (X2 d s e) r o:=
  λr o hr ho=>Ze rfl hr ho
 have ab:Fp s.inc++[V.agg [.i e.inc.ki,.i e.inc.ti,.i e.inc.lo,.i e.inc.gr]]=Fp (s.inc++[e.inc]):=by simp[Fp,In4.v]
 have ad:=Fj (s.inc++[e.inc]);have x:s.inc.length+1<=maxLen/\(s.inc.length+1)*32<=140737488355328:=⟨Ag (show s.inc.length+1<=1001 by omega) dc,by omega⟩;unfold A71 Ah3 seC;unfold In4.v at ag;generalize X2 d s e=ps,Oz s e.time=uu,Rz d s=ll,Aoe e.inc=ie at*;have ai:=vEv e;rw[ai];have i5:=Af e.an.ch;generalize Av e.an.ch=hv at*;have ah:=vSe s;have ae:=vDl d;rw[ah]at af aa y;rw[ae]at y;rw[ae];have d0:=Dr d.p.rules;have d1:=Af d.p.g.pts;have d2:=Af d.p.g.pri;have d3:=Bc d.p.en;have d4:=Aj d.p.var.num.mag;have d5:=Aj d.p.var.den;have d6:=Aj d.p.lvl.num.mag;have d7:=Aj d.p.lvl.den;have d8:=Aj d.p.rate.num.mag;have d9:=Aj d.p.rate.den;have j:=Cx d.pool;have f:=Ih d.items;have l:=Af d.ess;have h:=Bc d.uses;generalize Hu d.p.rules=rv,Av d.p.g.pts=pt,Av d.p.g.pri=pr,Bd d.p.en=ev,A2 d.p.var.num.mag=vm,A2 d.p.var.den=vd,A2 d.p.lvl.num.mag=lm,A2 d.p.lvl.den=ld,A2 d.p.rate.num.mag=rm,A2 d.p.rate.den=rd at*;have am:=E4 d.pool;have au:=Jd d.items;have av:=A4 d.ess;generalize C5 d.pool=lv,Oe d.items=aw,Av d.ess=ar,Bd d.uses=uv at*;have z1:=Af s.t.elig;have z2:=Bc s.t.steps;have z3:=B1 s.t.w;have u:=Gb s.ans;have z:=Fj s.inc;have c:=Iu s.ans;have a:=Hc s.inc;generalize Av s.t.elig=ti,Bd s.t.steps=ts,Cb s.t.w=tw,Hv s.ans=ao,Fp s.inc=ak at*;have aj:=F8 z;refine H9 func51 λw0 N0 n hG=>?_;refine Y [1,3,5] [3,5,10,73,85] sr (Bw 85 [1,3,5] [3,5,10,73] Du (J (Bn 3 sr ?_)));refine Afu af func93 rfl kr rfl rfl rfl sr Du rfl sr (Aa [1,3,5,12] [3,5,10,73] sr ?_)
 refine C1 (λh1=>?_) λh1=>?_
 .exact Y [6] [10,73] sr (Db n (Ea (A8 _ _) sr (by rw[Ad (sG h1)];exact Jf dc) Jg))
 rw[I (sG h1)];refine J (Y [1,3,5,18] [3,5,10,73] sr ?_)
 refine C1 (λh2=>?_) λh2=>?_
 .exact Y [6] [10,73] sr (Db n (Ea (A8 _ _) sr (by rw[Ad (sG h2)];exact Jf dc) Jg))
 rw[I (sG h2)];refine J (Bn 2 sr ?_);refine Ac ag func94 ?_;refine Aa [1,3,5,7] [3,5,10,73] sr (A9 [23] sr ?_)
 refine C1 (λh3=>?_) λh3=>?_
 .exact Y [6] [10,73] sr (Db n (Ea (A8 _ _) sr (by rw[Ad (sG h3)];exact Jf (sG h3)) Jg))
 rw[I (sG h3)];refine J (Y [1,3,5,30] [3,5,10,73] sr ?_)
 refine C1 (λh4=>?_) λh4=>?_
 .exact Y [6] [10,73] sr (Db n (Ea (A8 _ _) sr (by rw[Ad (sG h4)];exact Jf dc) Jg))
 rw[I (sG h4)];refine J (Ir [6,11] Eb ?_);refine F6 [(0,[]),(1,[]),(2,[]),(4,[]),(8,[]),(9,[]),(3,[]),(5,[])] kr sr ?_
 refine Pm [6,7,10] kr ?_;intro i hi;simp only[B8,Dw,or_false]at hi
 rcases hi with rfl|rfl|rfl
 .refine⟨_,_,rfl,I9 sm aa func88 rfl kr sr rfl rfl sr Du rfl sr,?_⟩;refine F6 [(7,[]),(10,[])] kr sr ?_
  refine Hm (i:=11) (ks:=[]) kr rfl sm (I9 sm y func89 rfl kr sr rfl rfl sr Du rfl sr) (F6 [(12,[]),(13,[]),(14,[]),(15,[])] kr sr ?_)
  refine H4 [1,5] [5,10,73] kr sr (Do [(0,[]),(1,[]),(2,[]),(3,[]),(5,[]),(4,[53]),(6,[53]),(7,[]),(8,[]),(9,[]),(10,[]),(11,[])] [] [10,73] Eb kr (by simp[x,a]<;>rfl) ?_);rw[ab];refine A9 [6] sr (Bw 73 [6] [10] (by simp[ad]<;>rfl) ?_);exact Db n (Ea (A8 _ _) sr (m _ _ rfl rfl) (λk o hk=>B5 gt hk))
 .refine⟨_,_,rfl,O2 sr,?_⟩;refine Pm [6,10] kr ?_;intro i hi;simp only[B8,Dw,or_false]at hi
  rcases hi with rfl|rfl
  .refine⟨_,_,rfl,I9 sm aa func88 rfl kr sr rfl rfl sr (by simp[AS.views,AS.view,AS.viewL,AS.viewC,z,a]<;>rfl) rfl sr,?_⟩;refine F6 [(10,[])] kr sr ?_
   refine Hm (i:=11) (ks:=[]) kr rfl sm (I9 sm y func89 rfl kr sr rfl rfl sr (by simp[AS.views,AS.view,AS.viewL,AS.viewC,z,a]<;>rfl) rfl sr) ?_;refine F6 [(12,[]),(13,[]),(14,[]),(15,[])] kr sr ?_
   refine H4 [1,5] [5,10,73] kr sr ?_;refine Do [(0,[]),(1,[]),(2,[]),(3,[]),(5,[]),(4,[53]),(6,[53]),(7,[]),(8,[]),(9,[]),(10,[]),(11,[])] [] [10,73] Eb kr (by simp[x,a]<;>rfl) ?_;rw[ab];refine A9 [6] sr (Bw 73 [6] [10] (by simp[ad]<;>rfl) ?_);exact Db n (Ea (A8 _ _) sr (m _ _ rfl rfl) (λk o hk=>B5 gt hk))
  .refine⟨_,_,rfl,O2 sr,?_⟩;refine Hm (i:=6) (ks:=[]) kr rfl sm (I9 sm aa func88 rfl kr sr rfl rfl sr (by simp[AS.views,AS.view,AS.viewL,AS.viewC,z,a]<;>rfl) rfl sr) ?_;refine Hm (i:=11) (ks:=[]) kr rfl sm (I9 sm y func89 rfl kr sr rfl rfl sr (by simp[AS.views,AS.view,AS.viewL,AS.viewC,z,a]<;>rfl) rfl sr) ?_;refine F6 [(12,[]),(13,[]),(14,[]),(15,[])] kr sr ?_
   refine H4 [1,5] [5,10,73] kr sr ?_;refine Do [(0,[]),(1,[]),(2,[]),(3,[]),(5,[]),(4,[53]),(6,[53]),(7,[]),(8,[]),(9,[]),(10,[]),(11,[])] [] [10,73] Eb kr (by simp[x,a]<;>rfl) ?_;rw[ab];refine A9 [6] sr (Bw 73 [6] [10] (by simp[ad]<;>rfl) ?_);exact Db n (Ea (A8 _ _) sr (m _ _ rfl rfl) (λk o hk=>B5 gt hk))
 .refine⟨_,_,rfl,O2 sr,?_⟩;refine Pm [6,7] kr ?_;intro i hi;simp only[B8,Dw,or_false]at hi
  rcases hi with rfl|rfl
  .refine⟨_,_,rfl,I9 sm aa func88 rfl kr sr rfl rfl sr (by simp[AS.views,AS.view,AS.viewL,AS.viewC,z,a]<;>rfl) rfl sr,?_⟩;refine F6 [(7,[])] kr sr ?_
   refine Hm (i:=11) (ks:=[]) kr rfl sm (I9 sm y func89 rfl kr sr rfl rfl sr (by simp[AS.views,AS.view,AS.viewL,AS.viewC,z,a]<;>rfl) rfl sr) ?_;refine F6 [(12,[]),(13,[]),(14,[]),(15,[])] kr sr ?_
   refine H4 [1,5] [5,10,73] kr sr ?_;refine Do [(0,[]),(1,[]),(2,[]),(3,[]),(5,[]),(4,[53]),(6,[53]),(7,[]),(8,[]),(9,[]),(10,[]),(11,[])] [] [10,73] Eb kr (by simp[x,a]<;>rfl) ?_;rw[ab];refine A9 [6] sr (Bw 73 [6] [10] (by simp[ad]<;>rfl) ?_);exact Db n (Ea (A8 _ _) sr (m _ _ rfl rfl) (λk o hk=>B5 gt hk))
  .refine⟨_,_,rfl,O2 sr,?_⟩;refine Hm (i:=6) (ks:=[]) kr rfl sm (I9 sm aa func88 rfl kr sr rfl rfl sr (by simp[AS.views,AS.view,AS.viewL,AS.viewC,z,a]<;>rfl) rfl sr) ?_;refine Hm (i:=11) (ks:=[]) kr rfl sm (I9 sm y func89 rfl kr sr rfl rfl sr (by simp[AS.views,AS.view,AS.viewL,AS.viewC,z,a]<;>rfl) rfl sr) ?_;refine F6 [(12,[]),(13,[]),(14,[]),(15,[])] kr sr ?_
   refine H4 [1,5] [5,10,73] kr sr ?_;refine Do [(0,[]),(1,[]),(2,[]),(3,[]),(5,[]),(4,[53]),(6,[53]),(7,[]),(8,[]),(9,[]),(10,[]),(11,[])] [] [10,73] Eb kr (by simp[x,a]<;>rfl) ?_;rw[ab];refine A9 [6] sr (Bw 73 [6] [10] (by simp[ad]<;>rfl) ?_);exact Db n (Ea (A8 _ _) sr (m _ _ rfl rfl) (λk o hk=>B5 gt hk))
def Bdl{p:Po}{pool:List Pit}{t:Te}{c:Int}(h:Aod p pool t c=0):Abm p pool t=0/\t.pend≠0/\Aja (P4 pool t.pend) c=true:=by
 unfold Aod at h
 (repeat' split at h)<;>try omega
 rename_i h1 h2 a;exact⟨by omega,h2,by simpa using a⟩
def A72{p:Po}{pool:List Pit}{t:Te}{c:Int}(k:AdP p pool)(h:Aod p pool t c=0)(d:teOk t)(f:t.steps.length<=900)(hn:n<=998)(j:Ks t.w n):
  teOk (Zc p pool t c)/\Ks (Zc p pool t c).w (n+1)/\(Zc p pool t c).steps.length=t.steps.length+1:=by
 have⟨h1,h2,e⟩:=Bdl h;have⟨r1,a,r3,i,r5,r6,r7⟩:=Al0 k (Ahw h1).1 h2 e (n:=n) om j;have l:(X0 pool t c).length=t.w.length:=by unfold X0;rw[Afb,i]
 refine⟨⟨d.el,by simp[Zc];omega,by show(X0 pool t c).length<=1000;rw[l];exact d.wl,λx g=>Ag (a x g) om⟩,a,by simp[Zc]⟩
def Abt(d:Dl)(s:Se)(c:Int):Te:=
 if(Zc d.p d.pool s.t c).stop=0 then Aoc d.p d.pool (Zc d.p d.pool s.t c)else Zc d.p d.pool s.t c
def Ase(d:Dl)(s:Se)(it:It)(a:An):Int:=
 if(Qr it a).2≠0 then(Qr it a).2 else if Aod d.p d.pool s.t (Qr it a).1≠0 then Aod d.p d.pool s.t (Qr it a).1
 else if(Zc d.p d.pool s.t (Qr it a).1).stop=0 then A1a d.p d.pool (Zc d.p d.pool s.t (Qr it a).1)else 0
def Bg1(d:Dl)(s:Se)(it:It)(a:An):Se:={ s with t:=Abt d s (Qr it a).1,sh:=(Abt d s (Qr it a).1).pend}
def Avm(hS:Mx)(d:Dl)(s:Se)(it:It)(a:An)(v:Nat)(hi:it.small)(ha:a.small)(h:AdP d.p d.pool)(ht:teOk s.t)(hw:Ks s.t.w 998)(aj:s.t.steps.length<=900):
  Xr gv prog 91 [d.v,.bp 10 v 12 0 0,it.v,a.v] [(10,⟨v,12,55,[s.v]⟩)] (evR (Ase d s it a) v (Bg1 d s it a)):=by
 have al:=A1k hS it a hi ha ha.ch;unfold Ase Bg1 Abt;generalize Qr it a=sc at*;have f:=Avb d.p d.pool s.t sc.1 h ht (λx hx=>Ag (hw x hx) dc) aj;have ak:=λh0=>A72 h h0 ht aj (c:=sc.1) (n:=998) dc hw
 have i:=λh0=>Arz d.p d.pool (Zc d.p d.pool s.t sc.1) h (ak h0).1 (λx hx=>Ag ((ak h0).2.1 x hx) dc)
 have hT:∀e x,teR e x=.tup [(if e=0 then x else Yi).v,.i e]:=λe x=>rfl
 rw[hT]at f;simp only[hT]at i;generalize Zc d.p d.pool s.t sc.1=rT at*;generalize bb:Aod d.p d.pool s.t sc.1=re at*;generalize A1a d.p d.pool rT=ne,Aoc d.p d.pool rT=nT at*;generalize aa:(if re=0 then rT else Yi)=t1 at*;generalize ab:(if ne=0 then nT else Yi)=t2 at*;have an:∀x:Te,x.v=.agg [.ro 1 (Av x.elig),.ro 2 (Bd x.steps),.i x.pend,.ro 1 (Cb x.w),.int .u64 x.draw,.i x.stop]:=λx=>rfl
 simp only[an]at f i;have ah:∀x:Te,Se.v { s with t:=x,sh:=x.pend}=V.agg [.i s.st,.i s.us,.i s.la,.i x.pend,.ro 1 (Av x.elig),.ro 2 (Bd x.steps),.i x.pend,.ro 1 (Cb x.w),.int .u64 x.draw,.i x.stop,.ro 5 (Hv s.ans),.ro 4 (Fp s.inc)]:=λx=>rfl
 have l:∀(x:Te)r o,r=V.i 0->o= [(10,(⟨v,12,55,[V.agg [.i s.st,.i s.us,.i s.la,.i x.pend,.ro 1 (Av x.elig),.ro 2 (Bd x.steps),.i x.pend,.ro 1 (Cb x.w),.int .u64 x.draw,.i x.stop,.ro 5 (Hv s.ans),.ro 4 (Fp s.inc)]]⟩:Ob))]->evR 0 v { s with t:=x,sh:=x.pend} r o:=
  λx r o hr ho=>Ze (ah x) hr ho
 have y:=λx:Te=>Af x.elig
 have z:=λx:Te=>Bc x.steps
 have u:=λx:Te=>B1 x.w
 rw[(vPo d.p)]at f i;have ao:=vIt it;have am:=vAn a;rw[ao,am]at al;rw[ao,am,(vDl d),(vSe s)];clear ah an;have d0:=Dr d.p.rules;have d1:=Af d.p.g.pts;have d2:=Af d.p.g.pri;have d3:=Bc d.p.en;have d4:=Aj d.p.var.num.mag;have d5:=Aj d.p.var.den;have d6:=Aj d.p.lvl.num.mag;have d7:=Aj d.p.lvl.den;have d8:=Aj d.p.rate.num.mag;have d9:=Aj d.p.rate.den;have af:=Cx d.pool;have ad:=Ih d.items;have ae:=Af d.ess;have ag:=Bc d.uses;generalize Hu d.p.rules=rv,Av d.p.g.pts=pt,Av d.p.g.pri=pr,Bd d.p.en=ev,A2 d.p.var.num.mag=vm,A2 d.p.var.den=vd,A2 d.p.lvl.num.mag=lm,A2 d.p.lvl.den=ld,A2 d.p.rate.num.mag=rm,A2 d.p.rate.den=rd at*;have a1:=E4 d.pool;have a3:=Jd d.items;have a6:=A4 d.ess;generalize C5 d.pool=lv,Oe d.items=a7,Av d.ess=be,Bd d.uses=uv at*;have z1:=Af s.t.elig;have z2:=Bc s.t.steps;have z3:=B1 s.t.w;have z4:=Gb s.ans;have z5:=Fj s.inc;have a9:=Iu s.ans;have a5:=Hc s.inc;generalize Av s.t.elig=ti,Bd s.t.steps=ts,Cb s.t.w=tw,Hv s.ans=a2,Fp s.inc=bd at*;have i1:=C7 it.opts;have i2:=Af it.ch;have i3:=C7 it.txts;have i4:=Af it.ass;have az:=Fm it.opts;have ay:=A4 it.ch;have au:=Fm it.txts;have ba:=A4 it.ass;generalize Hd it.opts=ov,Av it.ch=cv,Hd it.txts=xv,Av it.ass=av at*;have bc:ov= []↔it.opts= []:=by rw[<- Am,az,Am]
 have a0:cv= []↔it.ch= []:=by rw[<- Am,ay,Am]
 have a8:xv= []↔it.txts= []:=by rw[<- Am,au,Am]
 have i5:=Af a.ch;have a4:=A4 a.ch;generalize Av a.ch=hv at*;refine H9 func91 λw0 N0 m hG=>?_;refine Y [1,4,6,7] [4,6,7,10] sr (Bn 2 sr ?_);refine Bq hG al func147 ?_;refine Aa [1,4,9,10] [4,10] sr (J (A9 [19] sr ?_))
 refine C1 (λh1=>?_) λh1=>?_
 .exact Y [8] [10] sr (Db m (Ea (A8 _ _) sr (by rw[Ad (sG h1)];exact Jf (sG h1)) Jg))
 rw[I (sG h1)];refine J (Di [(0,[]),(2,[]),(4,[]),(5,[]),(6,[]),(8,[]),(1,[11]),(3,[11]),(7,[11]),(9,[]),(10,[]),(11,[]),(12,[]),(13,[]),(14,[]),(15,[])] Eb kr ?_);refine Ci 9 sr (Acj hG (λhg=>f) func148 rfl kr rfl rfl sr rfl rfl sr sM sr ?_);refine Dj [1,4,10,11] [4,10,11] sr (J (A9 [35] sr ?_))
 refine C1 (λh2=>?_) λh2=>?_
 .exact Y [8] [10] sr (Db m (Ea (A8 _ _) sr (by rw[Ad (sG h2)];exact Jf (sG h2)) Jg))
 have aq:re=0:=sG h2
 rw[I (sG h2)];rw[Ad aq]at aa;subst aa;replace i:=i aq;refine J (Y [1,4,11,39] [4,10,11] sr ?_)
 refine C1 (λh3=>?_) λh3=>?_
 .have j:rT.stop=0:=sG h3
  rw[Ad j,Ad j];refine Bn 5 sr (Bq hG i func87 ?_);refine Aa [1,10,11] [10,11] sR (A9 [50] sr ?_)
  refine C1 (λh4=>?_) λh4=>?_
  .exact Y [8] [10] sr (Db m (Ea (A8 _ _) sr (Jf (sG h4)) Jg))
  have ai:ne=0:=sG h4
  rw[Ad ai]at ab;subst ab;rw[ai];refine Y [1,11] [10,11] sR (Y [] [10] sR (A9 [8] sr ?_));exact Db m (Ea (A8 _ _) sr (l _ _ _ rfl rfl) (λk o hk=>B5 gt hk))
 have j:¬rT.stop=0:=sG h3
 rw[I j,I j];refine Y [1,11] [10,11] sR (Y [] [10] sR (A9 [8] sr ?_));exact Db m (Ea (A8 _ _) sr (l _ _ _ rfl rfl) (λk o hk=>B5 gt hk))
def A1u:it0.small:=⟨by decide,⟨by decide,λs h=>by cases h⟩,⟨by decide,λs h=>by cases h⟩,by decide,by decide⟩
def Avn{l:List It}(h:∀it∈l,it.small)(id:Int):(L7 (J8 l id)).small:=by
 cases e:J8 l id with
 |none=>exact A1u
 |some x=>exact h x (R3 e)
def Ah4(d:Dl)(s:Se):It:=L7 (J8 d.items s.sh)
def X3(d:Dl)(s:Se)(e:Ev):Te:=if s.t.pend=s.sh then Abt d s (Qr (Ah4 d s) e.an).1 else s.t
def Asf(d:Dl)(s:Se)(e:Ev):Int:=if(X3 d s e).stop≠0 then(A7s d.ess (s.ans++[e.an])).getD 0 else if s.t.pend=s.sh then(X3 d s e).pend else s.sh
def Zf(d:Dl)(s:Se)(e:Ev):Se:={ st:=s.st,us:=Oz s e.time,la:=s.la,sh:=Asf d s e,t:=X3 d s e,ans:=s.ans++[e.an],inc:=s.inc}
def Wj(d:Dl)(s:Se)(e:Ev):Int:=
 if s.st≠1 then 8 else if Rz d s<Oz s e.time then 15 else if s.sh=0 then 21 else if e.an.item≠s.sh then 11
 else if Adi (Ah4 d s) e.an≠0 then Adi (Ah4 d s) e.an else if s.t.pend=s.sh then Ase d s (Ah4 d s) e.an else 0
def Avo(hS:Mx)(d:Dl)(s:Se)(e:Ev)(v aq iq:Nat)(hd:DlOk d)(ha:e.an.small)(h:AdP d.p d.pool)(ht:teOk s.t)(hw:Ks s.t.w 998)(a0:s.t.steps.length<=900)(bg:s.ans.length<=1000):
  Xr gv prog 49 [d.v,.bp 10 v 12 0 0,e.v] (Ah3 s v aq iq) (evR (Wj d s e) v (Zf d s e)):=by
 have au:=Avn hd.is s.sh;have ay:=Abs s e.time;have ai:=Ahy d s;have av:=Ahz d.items s.sh hd.il;have aj:=Abp hS (L7 (J8 d.items s.sh)) e.an au ha;have am:=Ar9 e.an ha.ch;have ao:=A1p d.ess (s.ans++[e.an]) hd.el;have ab:=Avm hS d { s with ans:=s.ans++[e.an],us:=Oz s e.time} (L7 (J8 d.items s.sh)) e.an v au ha h ht hw a0;have e1:s.st≠1->Wj d s e=8:=λa=>by unfold Wj;rw[Ad a]
 have e2:s.st=1->Rz d s<Oz s e.time->Wj d s e=15:=λa b=>by unfold Wj;rw[I G8,Ad b]
 have e3:s.st=1->¬Rz d s<Oz s e.time->s.sh=0->Wj d s e=21:=λa b c=>by unfold Wj;rw[I G8,I b,Ad c]
 have e4:s.st=1->¬Rz d s<Oz s e.time->¬s.sh=0->e.an.item≠s.sh->Wj d s e=11:=λa b c f=>by unfold Wj;rw[I G8,I b,I c,Ad f]
 have e5:s.st=1->¬Rz d s<Oz s e.time->¬s.sh=0->e.an.item=s.sh->Wj d s e=if Adi (Ah4 d s) e.an≠0 then Adi (Ah4 d s) e.an else if s.t.pend=s.sh then Ase d s (Ah4 d s) e.an else 0:=λa b c f=>by unfold Wj;rw[I G8,I b,I c,I G8]
 have hI:Ah4 d s=L7 (J8 d.items s.sh):=rfl;rw[hI]at e5;have t1:s.t.pend=s.sh->X3 d s e=Abt d s (Qr (L7 (J8 d.items s.sh)) e.an).1:=λa=>by unfold X3;rw[Ad a];rfl
 have t0:¬s.t.pend=s.sh->X3 d s e=s.t:=λa=>by unfold X3;rw[I a]
 have ah:∀(x:Te)(z:Int),X3 d s e=x->Asf d s e=z->(Zf d s e).v=V.agg [.i s.st,.i (Oz s e.time),.i s.la,.i z,.ro 1 (Av x.elig),.ro 2 (Bd x.steps),.i x.pend,.ro 1 (Cb x.w),.int .u64 x.draw,.i x.stop,.ro 5 (Hv (s.ans++[e.an])),.ro 4 (Fp s.inc)]:=λx z a b=>by
  subst a b;rfl
 have ak:X3 d s e≠X3 d s e\/(X3 d s e).stop≠0->Asf d s e=(A7s d.ess (s.ans++[e.an])).getD 0:=λa=>by unfold Asf;rw[Ad (a.resolve_left (λn=>n rfl))]
 have a5:(X3 d s e).stop=0->s.t.pend=s.sh->Asf d s e=(X3 d s e).pend:=λa b=>by unfold Asf;rw[I (by simp[a]),Ad b]
 have a4:(X3 d s e).stop=0->¬s.t.pend=s.sh->Asf d s e=s.sh:=λa b=>by unfold Asf;rw[I (by simp[a]),I b]
 have aw:(Bg1 d { s with ans:=s.ans++[e.an],us:=Oz s e.time} (L7 (J8 d.items s.sh)) e.an).v=V.agg [.i s.st,.i (Oz s e.time),.i s.la,.i (Abt d s (Qr (L7 (J8 d.items s.sh)) e.an).1).pend,.ro 1 (Av (Abt d s (Qr (L7 (J8 d.items s.sh)) e.an).1).elig),.ro 2 (Bd (Abt d s (Qr (L7 (J8 d.items s.sh)) e.an).1).steps),.i (Abt d s (Qr (L7 (J8 d.items s.sh)) e.an).1).pend,.ro 1 (Cb (Abt d s (Qr (L7 (J8 d.items s.sh)) e.an).1).w),.int .u64 (Abt d s (Qr (L7 (J8 d.items s.sh)) e.an).1).draw,.i (Abt d s (Qr (L7 (J8 d.items s.sh)) e.an).1).stop,.ro 5 (Hv (s.ans++[e.an])),.ro 4 (Fp s.inc)]:=rfl;change Xr _ _ _ _ [(10,⟨v,12,55,[V.agg [.i s.st,.i (Oz s e.time),.i s.la,.i s.sh,.ro 1 (Av s.t.elig),.ro 2 (Bd s.t.steps),.i s.t.pend,.ro 1 (Cb s.t.w),.int .u64 s.t.draw,.i s.t.stop,.ro 5 (Hv (s.ans++[e.an])),.ro 4 (Fp s.inc)]]⟩)] (evR (Ase d s (L7 (J8 d.items s.sh)) e.an) v _)at ab;unfold evR at ab;rw[aw]at ab;clear aw hI;generalize Ase d s (L7 (J8 d.items s.sh)) e.an=rE,Abt d s (Qr (L7 (J8 d.items s.sh)) e.an).1=rT at*;generalize bd:Adi (L7 (J8 d.items s.sh)) e.an=ve at*;generalize(A7s d.ess (s.ans++[e.an])).getD 0=un at*;have y1:=λx:Te=>Af x.elig
 have y2:=λx:Te=>Bc x.steps
 have y3:=λx:Te=>B1 x.w
 have az:Hv s.ans++[V.agg [.i e.an.item,.ro 1 (Av e.an.ch),.i e.an.val,.str e.an.txt,.bool e.an.om]]=Hv (s.ans++[e.an]):=by simp[Hv,An.v]
 have m:=Gb (s.ans++[e.an]);have ar:s.ans.length+1<=maxLen/\(s.ans.length+1)*64<=140737488355328:=⟨Ag (show s.ans.length+1<=1001 by omega) dc,by omega⟩;generalize L7 (J8 d.items s.sh)=it,(J8 d.items s.sh).isSome=fs at*;have ei:=vIt it;have k1:=C7 it.opts;have k2:=Af it.ch;have k3:=C7 it.txts;have k4:=Af it.ass;have ea:=vAn e.an;have a2:=vEv e;unfold Ah3 seC;rw[ei]at av aj ab;rw[ea]at aj am ab;rw[a2];have i5:=Af e.an.ch;generalize Av e.an.ch=hv at*;have ag:=ah s.t;have a1:=vSe s;have ax:=vDl d;rw[a1]at ay ai;rw[ax]at ai ab;rw[ax];have d0:=Dr d.p.rules;have d1:=Af d.p.g.pts;have d2:=Af d.p.g.pri;have d3:=Bc d.p.en;have d4:=Aj d.p.var.num.mag;have d5:=Aj d.p.var.den;have d6:=Aj d.p.lvl.num.mag;have d7:=Aj d.p.lvl.den;have d8:=Aj d.p.rate.num.mag;have d9:=Aj d.p.rate.den;have ae:=Cx d.pool;have aa:=Ih d.items;have ad:=Af d.ess;have af:=Bc d.uses;generalize Hu d.p.rules=rv,Av d.p.g.pts=pt,Av d.p.g.pri=pr,Bd d.p.en=ev,A2 d.p.var.num.mag=vm,A2 d.p.var.den=vd,A2 d.p.lvl.num.mag=lm,A2 d.p.lvl.den=ld,A2 d.p.rate.num.mag=rm,A2 d.p.rate.den=rd at*;have a9:=E4 d.pool;have bc:=Jd d.items;have be:=A4 d.ess;generalize C5 d.pool=lv,Oe d.items=bf,Av d.ess=bi,Bd d.uses=uv at*;have z1:=Af s.t.elig;have z2:=Bc s.t.steps;have z3:=B1 s.t.w;have z4:=Gb s.ans;have z5:=Fj s.inc;have y:=Iu s.ans;have u:=Hc s.inc;generalize Av s.t.elig=ti,Bd s.t.steps=ts,Cb s.t.w=tw,Hv s.ans=bb,Fp s.inc=bh at*;have a6:=F8 z4;refine H9 func49 λw0 N0 j hG=>?_;refine Y [1,3,5] [3,5,10,73,85] sr (Bw 73 [1,3,5] [3,5,10,85] (by simp[z5,u,a6]<;>rfl) (J (A9 [16] sr ?_)))
 refine C1 (λh1=>?_) λh1=>?_
 .refine Y [6] [10,85] sr ?_;exact Db j (Ea (A8 _ _) sr (by rw[e1 (sG h1)];exact Jf dc) Jg)
 have s1:s.st=1:=sG h1
 refine J (Ir [5] Eb ?_);refine F6 [(0,[]),(1,[]),(3,[]),(2,[]),(4,[])] kr sr ?_
 refine Hm (i:=5) (ks:=[]) kr rfl sm (I9 sm ay func88 rfl kr sr rfl rfl sr (by simp[AS.views,AS.view,AS.viewL,AS.viewC,z4,y]<;>rfl) rfl sr) ?_;refine F6 [(6,[])] kr sr ?_
 refine H4 [1,3,5,7] [3,5,10,85] kr sr ?_;refine J (J (Ir [5] Eb ?_));refine F6 [(0,[]),(2,[]),(3,[]),(1,[]),(4,[])] kr sr ?_
 refine Hm (i:=5) (ks:=[]) kr rfl sm (I9 sm ai func89 rfl kr sr rfl rfl sr (by simp[AS.views,AS.view,AS.viewL,AS.viewC,z4,y]<;>rfl) rfl sr) ?_;refine F6 [(6,[])] kr sr ?_
 refine H4 [1,3,5,7,29] [3,5,10,85] kr sr ?_
 refine C1 (λh2=>?_) λh2=>?_
 .refine Y [6] [10,85] sr ?_;exact Db j (Ea (A8 _ _) sr (by rw[e2 s1 (sG h2)];exact Jf dc) Jg)
 have s2:¬Rz d s<Oz s e.time:=sG h2
 refine J (Y [1,3,5,7,34] [3,5,10,85] sr ?_)
 refine C1 (λh3=>?_) λh3=>?_
 .refine Y [6] [10,85] sr ?_;exact Db j (Ea (A8 _ _) sr (by rw[e3 s1 s2 (sG h3)];exact Jf dc) Jg)
 have s3:¬s.sh=0:=sG h3
 refine J (Do [(0,[]),(1,[]),(3,[]),(4,[]),(5,[]),(2,[]),(6,[]),(7,[])] [1,3,5,7,42] [3,5,10,85] Eb kr sr ?_)
 refine C1 (λh4=>?_) λh4=>?_
 .refine Y [6] [10,85] sr ?_;exact Db j (Ea (A8 _ _) sr (by rw[e4 s1 s2 s3 (sG h4)];exact Jf dc) Jg)
 have s4:e.an.item=s.sh:=sG h4
 have l:=e5 s1 s2 s3 s4;refine J (Di [(0,[]),(2,[]),(3,[]),(4,[]),(1,[8]),(5,[8]),(6,[]),(7,[]),(8,[]),(9,[]),(10,[]),(11,[]),(12,[])] Eb kr ?_);refine Ci 6 sr ?_;refine B4 (λhg=>av) func61 ?_;refine Dj [1,3,5,7,8] [3,5,8,10,85] sr ?_;refine J (Bn 3 sr ?_);refine Bq hG aj func90 ?_;refine Aa [1,3,5,7,8,10] [3,5,8,10,85] sr ?_;refine A9 [58] sr ?_
 refine C1 (λh5=>?_) λh5=>?_
 .refine Y [6] [10,85] sr ?_;exact Db j (Ea (A8 _ _) sr (by rw[l,Ad (sG h5)];exact Jf (sG h5)) Jg)
 rw[I (sG h5)]at l;refine J (Di [(0,[]),(1,[]),(2,[]),(3,[]),(5,[]),(4,[68]),(6,[68]),(7,[]),(8,[]),(9,[]),(10,[]),(11,[]),(12,[])] Eb kr ?_);refine Ci 7 sr ?_;refine B4 (λhg=>am) func85 ?_;refine Dj [1,3,5,7,8] [3,5,8,10,85] (by simp[ar,y]<;>rfl) ?_;rw[az];refine Bw 85 [1,3,5,7,8] [3,5,8,10] (by simp[m]<;>rfl) (Y [1,3,5,8] [3,5,8,10] sr (J (Do [(0,[]),(1,[]),(2,[]),(3,[]),(5,[]),(6,[]),(7,[]),(4,[]),(8,[]),(9,[])] [1,3,5,8,85] [3,5,8,10] Eb kr sr ?_)))
 refine C1 (λh6=>?_) λh6=>?_
 .have s6:s.t.pend=s.sh:=sG h6
  rw[Ad s6]at l;refine Bn 5 sr ?_;refine O8 hG ab func91 rfl kr rfl rfl rfl sr (λk o hk=>B5 gt hk) ?_;rintro r a7 ba⟨rfl,hh⟩a8
  rcases hh with⟨al,rfl⟩|⟨a3,rfl⟩
  .refine⟨_,by simp[J4]<;>rfl,?_⟩;refine Aa [1,3,11] [3] sr ?_;refine A9 [93] sr ?_;refine A0 rfl (λh7=>?_) (λh7=>by simp at h7;exact absurd h7 al);refine Y [6] [] sr ?_;exact Db j (Ea (A8 _ _) sr (by rw[l];exact Jf al) Jg)
  refine⟨_,by simp[J4]<;>rfl,?_⟩;subst a3;refine Aa [1,3,11] [3,10] sr ?_;refine A9 [93] sr ?_;refine A0 rfl sA (λh7=>Ae (J (Y [1,3,100] [3,10] sr ?_)))
  refine C1 (λh8=>?_) λh8=>?_
  .refine Di [(0,[]),(1,[]),(3,[]),(4,[]),(5,[]),(2,[]),(6,[]),(7,[]),(8,[]),(9,[]),(10,[])] Eb kr ?_;refine Ci 7 sr ?_;refine Acj hG (λhg=>ao) func92 rfl kr rfl rfl sr rfl rfl sr sM sr ?_;refine Dj [] [10] sr ?_;refine A9 [6] sr ?_;exact Db j (Ea (A8 _ _) sr (by rw[l];exact Ze (ah _ _ (t1 s6) (ak (.inr (by rw[t1 s6];simpa using h8)))) rfl rfl) (λk o hk=>B5 gt hk))
  refine Y [6] [10] sr ?_;exact Db j (Ea (A8 _ _) sr (by rw[l];exact Ze (ah _ _ (t1 s6) ((a5 (by rw[t1 s6];simpa using h8) s6).trans (by rw[t1 s6]))) rfl rfl) (λk o hk=>B5 gt hk))
 have s6:¬s.t.pend=s.sh:=sG h6
 rw[I s6]at l;refine J (Y [1,3,100] [3,10] sr ?_)
 refine C1 (λh9=>?_) λh9=>?_
 .refine Di [(0,[]),(1,[]),(3,[]),(4,[]),(5,[]),(2,[]),(6,[]),(7,[]),(8,[]),(9,[]),(10,[])] Eb kr ?_;refine Ci 7 sr ?_;refine Acj hG (λhg=>ao) func92 rfl kr rfl rfl sr rfl rfl sr sM sr ?_;refine Dj [] [10] sr ?_;refine A9 [6] sr ?_;exact Db j (Ea (A8 _ _) sr (by rw[l];exact Ze (ag _ (t0 s6) (ak (.inr (by rw[t0 s6];simpa using h9)))) rfl rfl) (λk o hk=>B5 gt hk))
 refine Y [6] [10] sr ?_;exact Db j (Ea (A8 _ _) sr (by rw[l];exact Ze (ag _ (t0 s6) (a4 (by rw[t0 s6];simpa using h9) s6)) rfl rfl) (λk o hk=>B5 gt hk))
def Zg:Se:=⟨0,0,0,0,Yi,[],[]⟩
def seR(e:Int)(s:Se):V:=.tup [(if e=0 then s else Zg).v,.i e]
def Nr(h:e≠0)(s:Se):Bj (.tup [.agg [.i 0,.i 0,.i 0,.i 0,.nils,.nils,.i 0,.nils,.int .u64 0,.i 0,.nils,.nils],.i e]) (seR e s):=by
 unfold seR;rw[I h];have r:=λx:V=>Bj.refl x
 exact Bj.tup (.cons (Bj.agg (.cons (r _) (.cons (r _) (.cons (r _) (.cons (r _) (.cons (Bj.nils 1) (.cons (Bj.nils 2) (.cons (r _) (.cons (Bj.nils 1) (.cons (r _) (.cons (r _) (.cons (Bj.nils 5) (.cons (Bj.nils 4) .nil))))))))))))) (.cons (r _) .nil))
def Q1{s:Se}{x:V}(h:s.v=x):Bj (.tup [x,.i 0]) (seR 0 s):=by
 unfold seR;rw[Ad rfl,h];exact Bj.refl _
def swE(d:Dl)(t:Te)(s:Se)(e:Ev):Int:=
 if e.kind=1 then A7y d t s else if e.kind=2 then Wj d s e else if e.kind=3 then A7z s else if e.kind=4 then(if s.st≠2 then 8 else 0)else if e.kind=5 then A71 s e else if e.kind=6 then A70 s else 0
def swS(d:Dl)(t:Te)(s:Se)(e:Ev):Se:=
 if e.kind=1 then Zd d t s else if e.kind=2 then Zf d s e else if e.kind=3 then Wi d s e.time else if e.kind=4 then { s with st:=1}else if e.kind=5 then X2 d s e else if e.kind=6 then X1 d s e.time else s
def Lm(d:Dl)(t:Te)(s:Se)(e:Ev):Int:=if e.kind<1\/6<e.kind then 1 else if Ahx s e.time=false then 15 else swE d t s e
def Of(d:Dl)(t:Te)(s:Se)(e:Ev):Se:={ swS d t s e with la:=e.time}
def Asg(hS:Mx)(d:Dl)(t:Te)(s:Se)(e:Ev)(hd:DlOk d)(ha:e.an.small)(h:AdP d.p d.pool)(ht:teOk t)(hw:Ks t.w 1000)(hs:SeOk s)(az:Ks s.t.w 998)(a0:s.t.steps.length<=900):
  Kb gv prog 24 [d.v,t.v,s.v,e.v] (λr=>r=seR (Lm d t s e) (Of d t s e)):=by
 refine Kb.relaxP ?_;have ao:=A1l s e.time;have ai:=A1q s hs;have ab:=λv aq iq=>A1s d t s v aq iq h ht hw
 have aa:=λv aq iq=>Avo hS d s e v aq iq hd ha h hs.t az a0 hs.al
 have ae:=λv aq iq=>A1t d s e.time v aq iq
 have ad:=λv aq iq=>Avl d s e v aq iq hs.il
 have ag:=λv aq iq=>Avk d s e.time v aq iq hs.t
 have e0:(e.kind<1\/6<e.kind)->Lm d t s e=1:=λx=>by unfold Lm;rw[Ad x]
 have e1:¬(e.kind<1\/6<e.kind)->Ahx s e.time=false->Lm d t s e=15:=λx y=>by unfold Lm;rw[I x,Ad y]
 have a8:¬(e.kind<1\/6<e.kind)->¬Ahx s e.time=false->e.kind=1->Lm d t s e=A7y d t s:=λx y c=>by unfold Lm swE;rw[I x,I y,Ad c]
 have bo:¬(e.kind<1\/6<e.kind)->¬Ahx s e.time=false->e.kind≠1->e.kind=2->Lm d t s e=Wj d s e:=λx y c f=>by unfold Lm swE;rw[I x,I y,I c,Ad f]
 have a7:¬(e.kind<1\/6<e.kind)->¬Ahx s e.time=false->e.kind≠1->e.kind≠2->e.kind=3->Lm d t s e=A7z s:=λx y c f u=>by unfold Lm swE;rw[I x,I y,I c,I f,Ad u]
 have br:¬(e.kind<1\/6<e.kind)->¬Ahx s e.time=false->e.kind≠1->e.kind≠2->e.kind≠3->e.kind=4->Lm d t s e=(if s.st≠2 then 8 else 0):=λx y c f u a4=>by unfold Lm swE;rw[I x,I y,I c,I f,I u,Ad a4]
 have bh:¬(e.kind<1\/6<e.kind)->¬Ahx s e.time=false->e.kind≠1->e.kind≠2->e.kind≠3->e.kind≠4->e.kind=5->Lm d t s e=A71 s e:=λx y c f u a4 a5=>by unfold Lm swE;rw[I x,I y,I c,I f,I u,I a4,Ad a5]
 have a9:¬(e.kind<1\/6<e.kind)->¬Ahx s e.time=false->e.kind≠1->e.kind≠2->e.kind≠3->e.kind≠4->e.kind≠5->e.kind=6->Lm d t s e=A70 s:=λx y c f u a4 a5 a6=>by unfold Lm swE;rw[I x,I y,I c,I f,I u,I a4,I a5,Ad a6]
 have bk:e.kind=1->(Of d t s e).v=V.agg [.i (Zd d t s).st,.i (Zd d t s).us,.i e.time,.i (Zd d t s).sh,.ro 1 (Av (Zd d t s).t.elig),.ro 2 (Bd (Zd d t s).t.steps),.i (Zd d t s).t.pend,.ro 1 (Cb (Zd d t s).t.w),.int .u64 (Zd d t s).t.draw,.i (Zd d t s).t.stop,.ro 5 (Hv (Zd d t s).ans),.ro 4 (Fp (Zd d t s).inc)]:=λc=>by unfold Of swS;rw[Ad c];rfl
 have be:e.kind≠1->e.kind=2->(Of d t s e).v=V.agg [.i (Zf d s e).st,.i (Zf d s e).us,.i e.time,.i (Zf d s e).sh,.ro 1 (Av (Zf d s e).t.elig),.ro 2 (Bd (Zf d s e).t.steps),.i (Zf d s e).t.pend,.ro 1 (Cb (Zf d s e).t.w),.int .u64 (Zf d s e).t.draw,.i (Zf d s e).t.stop,.ro 5 (Hv (Zf d s e).ans),.ro 4 (Fp (Zf d s e).inc)]:=λc f=>by unfold Of swS;rw[I c,Ad f];rfl
 have bd:e.kind≠1->e.kind≠2->e.kind=3->(Of d t s e).v=V.agg [.i (Wi d s e.time).st,.i (Wi d s e.time).us,.i e.time,.i (Wi d s e.time).sh,.ro 1 (Av (Wi d s e.time).t.elig),.ro 2 (Bd (Wi d s e.time).t.steps),.i (Wi d s e.time).t.pend,.ro 1 (Cb (Wi d s e.time).t.w),.int .u64 (Wi d s e.time).t.draw,.i (Wi d s e.time).t.stop,.ro 5 (Hv (Wi d s e.time).ans),.ro 4 (Fp (Wi d s e.time).inc)]:=λc f u=>by unfold Of swS;rw[I c,I f,Ad u];rfl
 have bj:e.kind≠1->e.kind≠2->e.kind≠3->e.kind=4->(Of d t s e).v=V.agg [.i 1,.i s.us,.i e.time,.i s.sh,.ro 1 (Av s.t.elig),.ro 2 (Bd s.t.steps),.i s.t.pend,.ro 1 (Cb s.t.w),.int .u64 s.t.draw,.i s.t.stop,.ro 5 (Hv s.ans),.ro 4 (Fp s.inc)]:=λc f u a4=>by unfold Of swS;rw[I c,I f,I u,Ad a4];rfl
 have bf:e.kind≠1->e.kind≠2->e.kind≠3->e.kind≠4->e.kind=5->(Of d t s e).v=V.agg [.i (X2 d s e).st,.i (X2 d s e).us,.i e.time,.i (X2 d s e).sh,.ro 1 (Av (X2 d s e).t.elig),.ro 2 (Bd (X2 d s e).t.steps),.i (X2 d s e).t.pend,.ro 1 (Cb (X2 d s e).t.w),.int .u64 (X2 d s e).t.draw,.i (X2 d s e).t.stop,.ro 5 (Hv (X2 d s e).ans),.ro 4 (Fp (X2 d s e).inc)]:=λc f u a4 a5=>by unfold Of swS;rw[I c,I f,I u,I a4,Ad a5];rfl
 have bg:e.kind≠1->e.kind≠2->e.kind≠3->e.kind≠4->e.kind≠5->e.kind=6->(Of d t s e).v=V.agg [.i (X1 d s e.time).st,.i (X1 d s e.time).us,.i e.time,.i (X1 d s e.time).sh,.ro 1 (Av (X1 d s e.time).t.elig),.ro 2 (Bd (X1 d s e.time).t.steps),.i (X1 d s e.time).t.pend,.ro 1 (Cb (X1 d s e.time).t.w),.int .u64 (X1 d s e.time).t.draw,.i (X1 d s e.time).t.stop,.ro 5 (Hv (X1 d s e.time).ans),.ro 4 (Fp (X1 d s e.time).inc)]:=λc f u a4 a5 a6=>by unfold Of swS;rw[I c,I f,I u,I a4,I a5,Ad a6];rfl
 generalize A7y d t s=E1,Zd d t s=S1,Wj d s e=E2,Zf d s e=S2,A7z s=E3,Wi d s e.time=S3,A71 s e=E5,X2 d s e=S5,A70 s=E6,X1 d s e.time=S6,Lm d t s e=PE,Of d t s e=PS at*;have m:∀x:Se,x.v=V.agg [.i x.st,.i x.us,.i x.la,.i x.sh,.ro 1 (Av x.t.elig),.ro 2 (Bd x.t.steps),.i x.t.pend,.ro 1 (Cb x.t.w),.int .u64 x.t.draw,.i x.t.stop,.ro 5 (Hv x.ans),.ro 4 (Fp x.inc)]:=λx=>rfl
 unfold evR Ah3 seC at ab aa ae ad ag;unfold seC at ai;rw[m S1]at ab;rw[m S2]at aa;rw[m S3]at ae;rw[m S5]at ad;rw[m S6]at ag;have y1:=λx:Te=>Af x.elig
 have y2:=λx:Te=>Bc x.steps
 have y3:=λx:Te=>B1 x.w
 have y4:=λx:Se=>Gb x.ans
 have y5:=λx:Se=>Fj x.inc
 rw[(vTe t)]at ab|-;rw[(vEv e)]at aa ad|-;have i5:=Af e.an.ch;have x1:=Af t.elig;have x2:=Bc t.steps;have x3:=B1 t.w;generalize Av e.an.ch=hv,Av t.elig=xi,Bd t.steps=xs,Cb t.w=xw at*;rw[(vSe s)]at ao ai|-;rw[(vDl d)]at ab aa ae ad ag|-;have d0:=Dr d.p.rules;have d1:=Af d.p.g.pts;have d2:=Af d.p.g.pri;have d3:=Bc d.p.en;have d4:=Aj d.p.var.num.mag;have d5:=Aj d.p.var.den;have d6:=Aj d.p.lvl.num.mag;have d7:=Aj d.p.lvl.den;have d8:=Aj d.p.rate.num.mag;have d9:=Aj d.p.rate.den;have bl:=Cx d.pool;have ay:=Ih d.items;have bc:=Af d.ess;have bs:=Bc d.uses;generalize Hu d.p.rules=rv,Av d.p.g.pts=pt,Av d.p.g.pri=pr,Bd d.p.en=ev,A2 d.p.var.num.mag=vm,A2 d.p.var.den=vd,A2 d.p.lvl.num.mag=lm,A2 d.p.lvl.den=ld,A2 d.p.rate.num.mag=rm,A2 d.p.rate.den=rd at*;have bu:=E4 d.pool;have bx:=Jd d.items;have bz:=A4 d.ess;generalize C5 d.pool=lv,Oe d.items=b0,Av d.ess=b2,Bd d.uses=uv at*;have z1:=Af s.t.elig;have z2:=Bc s.t.steps;have z3:=B1 s.t.w;have z4:=Gb s.ans;have z5:=Fj s.inc;have ax:=Iu s.ans;have au:=Hc s.inc;generalize Av s.t.elig=ti,Bd s.t.steps=ts,Cb s.t.w=tw,Hv s.ans=bw,Fp s.inc=b1 at*;have bp:=F8 z4;have bq:=F8 z5;refine B0 func24 λw0 N0 hG=>?_;refine Y [4,5,6,7,8] [4,5,6,7,8] sr (J (Y [4,5,6,7,8,19] [4,5,6,7,8] sr ?_))
 refine Au (λh1=>?_) λh1=>Ae ?_
 .exact Y [8,9] [8] sr (Ao (Ab sr (by rw[e0 (sG h1)];exact Nr dc _)))
 have kk:¬(e.kind<1\/6<e.kind):=sG h1
 refine J (J (Ak (Ay 3 sr ?_)));refine Ac ao func46 ?_;refine Aa [4,5,6,7,8,25] [4,5,6,7,8] sr ?_
 refine Au (λh2=>?_) λh2=>Ae ?_
 .exact Y [8,9] [8] sr (Ao (Ab sr (by rw[e1 kk (sG h2)];exact Nr dc _)))
 have tt:¬Ahx s e.time=false:=sG h2
 refine J (Ak (Ay 1 sr ?_));refine D0 ai func47 rfl kr rfl rfl rfl sr (λk o hk=>by cases hk) ?_ λch bm=>bm.elim;rintro r n bv⟨q1,q2,rfl,rfl⟩bt;refine⟨λk hk=>rfl,_,by simp<;>rfl,?_⟩;refine Aa [4,5,6,7,8,10] [4,5,6,7,8,10,73,85] sr (Y [4,5,6,7,8,10,11] [4,5,6,7,8,10,73,85] sr (J (Y [4,5,6,7,8,10,11,30] [4,5,6,7,8,10,73,85] sr (Ah (Y [4,5,6,7,8,10,11,30,31] [4,5,6,7,8,10,73,85] sr ?_)))))
 refine Au (λh3=>?_) λh3=>?_
 .have k1:e.kind=1:=sG h3
  refine Ak (Ay 2 sr ?_);refine O8 hG (ab _ q1 q2) func48 rfl kr rfl rfl rfl sr (λk o hk=>Fv Du gt gt hk) ?_;rintro r n af⟨rfl,hh⟩z;have l:=a8 kk tt k1
  rcases hh with⟨a,rfl⟩|⟨i,rfl⟩
  .refine⟨_,by simp[J4]<;>rfl,?_⟩;refine Aa [8,11] [8] sr (J (Y [8,11,65] [8] sr ?_));refine A0 rfl (λj=>?_) (λj=>by simp at j;exact absurd j a);exact Y [8,9] [8] sr (Ao (Ab sr (by rw[l];exact Nr a _)))
  subst i;refine⟨_,by simp[J4]<;>rfl,?_⟩;refine Aa [7,8,10,11] [7,8,10] sr (J (Y [7,8,10,11,65] [7,8,10] sr ?_));refine A0 rfl sA λh4=>Ae (Y [8,10] [8,10] sr ?_);exact Y [8,9] [8] sr (Ao (Ab sr (by rw[l];exact Q1 (bk k1))))
 .have k1:e.kind≠1:=sG h3
  refine Y [4,6,7,8,10,11,30,36] [4,6,7,8,10,73,85] sr ?_
  refine Au (λh5=>?_) λh5=>?_
  .have k2:e.kind=2:=sG h5
   refine Ak (Ay 2 sr ?_);refine O8 hG (aa _ q1 q2) func49 rfl kr rfl rfl rfl sr (λk o hk=>Fv Du gt gt hk) ?_;rintro r n af⟨rfl,hh⟩z;have l:=bo kk tt k1 k2
   rcases hh with⟨a,rfl⟩|⟨i,rfl⟩
   .refine⟨_,by simp[J4]<;>rfl,?_⟩;refine Aa [8,11] [8] sr (J (Y [8,11,65] [8] sr ?_));refine A0 rfl (λj=>?_) (λj=>by simp at j;exact absurd j a);exact Y [8,9] [8] sr (Ao (Ab sr (by rw[l];exact Nr a _)))
   subst i;refine⟨_,by simp[J4]<;>rfl,?_⟩;refine Aa [7,8,10,11] [7,8,10] sr (J (Y [7,8,10,11,65] [7,8,10] sr ?_));refine A0 rfl sA λh6=>Ae (Y [8,10] [8,10] sr ?_);exact Y [8,9] [8] sr (Ao (Ab sr (by rw[l];exact Q1 (be k1 k2))))
  .have k2:e.kind≠2:=sG h5
   refine Y [4,6,7,8,10,11,30,41] [4,6,7,8,10,73,85] sr ?_
   refine Au (λh7=>?_) λh7=>?_
   .have k3:e.kind=3:=sG h7
    refine Ak (Ay 3 sr ?_);refine O8 hG (ae _ q1 q2) func50 rfl kr rfl rfl rfl sr (λk o hk=>Fv Du gt gt hk) ?_;rintro r n af⟨rfl,hh⟩z;have l:=a7 kk tt k1 k2 k3
    rcases hh with⟨a,rfl⟩|⟨i,rfl⟩
    .refine⟨_,by simp[J4]<;>rfl,?_⟩;refine Aa [8,11] [8] sr (J (Y [8,11,65] [8] sr ?_));refine A0 rfl (λj=>?_) (λj=>by simp at j;exact absurd j a);exact Y [8,9] [8] sr (Ao (Ab sr (by rw[l];exact Nr a _)))
    subst i;refine⟨_,by simp[J4]<;>rfl,?_⟩;refine Aa [7,8,10,11] [7,8,10] sr (J (Y [7,8,10,11,65] [7,8,10] sr ?_));refine A0 rfl sA λh8=>Ae (Y [8,10] [8,10] sr ?_);exact Y [8,9] [8] sr (Ao (Ab sr (by rw[l];exact Q1 (bd k1 k2 k3))))
   .have k3:e.kind≠3:=sG h7
    refine Y [4,6,7,8,10,11,30,47] [4,6,7,8,10,73,85] sr ?_
    refine Au (λh9=>?_) λh9=>?_
    .have k4:e.kind=4:=sG h9
     have l:=br kk tt k1 k2 k3 k4;refine J (Y [7,8,10,11,51] [7,8,10,73,85] sr ?_)
     refine Au (λak=>?_) λak=>Ae ?_
     .refine Ba [7,8,10,11] [7,8,10] sr (Ba [7,8,10,11] [7,8,10] sr (J (Y [7,8,10,11,65] [7,8,10] sr ?_)))
      refine A0 rfl (λam=>?_) sA
      .exact Y [8,9] [8] sr (Ao (Ab sr (by rw[l,Ad (sG ak)];exact Nr dc _)))
     refine Ba [7,8,10,11] [7,8,10,73,85] sr ?_;rw[I (sG ak)]at l;refine Bw 85 [7,8,10,11] [7,8,10,73] Du (Bw 73 [7,8,10,11] [7,8,10] Du (J (Y [7,8,10,11,65] [7,8,10] sr ?_)));refine A0 rfl sA λav=>Ae (Y [8,10] [8,10] sr ?_);exact Y [8,9] [8] sr (Ao (Ab sr (by rw[l];exact Q1 (bj k1 k2 k3 k4))))
    .have k4:e.kind≠4:=sG h9
     refine Y [4,7,8,10,11,30,53] [4,7,8,10,73,85] sr ?_
     refine Au (λah=>?_) λah=>?_
     .have k5:e.kind=5:=sG ah
      refine Ak (Ay 2 sr ?_);refine O8 hG (ad _ q1 q2) func51 rfl kr rfl rfl rfl sr (λk o hk=>Fv Du gt gt hk) ?_;rintro r n af⟨rfl,hh⟩z;have l:=bh kk tt k1 k2 k3 k4 k5
      rcases hh with⟨a,rfl⟩|⟨i,rfl⟩
      .refine⟨_,by simp[J4]<;>rfl,?_⟩;refine Aa [8,11] [8] sr (J (Y [8,11,65] [8] sr ?_));refine A0 rfl (λj=>?_) (λj=>by simp at j;exact absurd j a);exact Y [8,9] [8] sr (Ao (Ab sr (by rw[l];exact Nr a _)))
      subst i;refine⟨_,by simp[J4]<;>rfl,?_⟩;refine Aa [7,8,10,11] [7,8,10] sr (J (Y [7,8,10,11,65] [7,8,10] sr ?_));refine A0 rfl sA λar=>Ae (Y [8,10] [8,10] sr ?_);exact Y [8,9] [8] sr (Ao (Ab sr (by rw[l];exact Q1 (bf k1 k2 k3 k4 k5))))
     .have k5:e.kind≠5:=sG ah
      refine Y [4,7,8,10,11,58] [4,7,8,10,73,85] sr ?_
      refine A0 rfl (λaj=>?_) (λaj=>absurd (show e.kind=6 by omega) (sG aj))
      .have k6:e.kind=6:=sG aj
       refine Ak (Ay 3 sr ?_);refine O8 hG (ag _ q1 q2) func52 rfl kr rfl rfl rfl sr (λk o hk=>Fv Du gt gt hk) ?_;rintro r n af⟨rfl,hh⟩z;have l:=a9 kk tt k1 k2 k3 k4 k5 k6
       rcases hh with⟨a,rfl⟩|⟨i,rfl⟩
       .refine⟨_,by simp[J4]<;>rfl,?_⟩;refine Aa [8,11] [8] sr (J (Y [8,11,65] [8] sr ?_));refine A0 rfl (λj=>?_) (λj=>by simp at j;exact absurd j a);exact Y [8,9] [8] sr (Ao (Ab sr (by rw[l];exact Nr a _)))
       subst i;refine⟨_,by simp[J4]<;>rfl,?_⟩;refine Aa [7,8,10,11] [7,8,10] sr (J (Y [7,8,10,11,65] [7,8,10] sr ?_));refine A0 rfl sA λaw=>Ae (Y [8,10] [8,10] sr ?_);exact Y [8,9] [8] sr (Ao (Ab sr (by rw[l];exact Q1 (bg k1 k2 k3 k4 k5 k6))))
structure SeB(n:Nat)(s:Se):Prop where
 t:teOk s.t
 w:Ks s.t.w (n+1)
 st:s.t.steps.length<=n
 al:s.ans.length<=n
 ac:∀a∈s.ans,a.small
 il:s.inc.length<=n
def SeB.ok{s:Se}(h:SeB n s)(hn:n<=800):SeOk s:=⟨h.t,Ag h.al om,h.ac,Ag h.il om⟩
def SeB.w998{s:Se}(h:SeB n s)(hn:n<=800):Ks s.t.w 998:=λx a=>Ag (h.w x a) om
def Ash(m:Nat):Ks [] m:=λx a=>by cases a
def SeB.new:SeB 0 Zg:=⟨⟨Cg _,Cg _,Cg _,Ash _⟩,Ash _,A7 _,A7 _,(λa c=>by cases c),A7 _⟩
def teB(n:Nat)(t:Te):Prop:=teOk t/\Ks t.w (n+1)/\t.steps.length<=n
def Ax3{t:Te}(h:teB n t)(p d s:Int):teB n { t with pend:=p,draw:=d,stop:=s}:=⟨⟨h.1.el,h.1.sl,h.1.wl,h.1.wd⟩,h.2.1,h.2.2⟩
def Ah5{t:Te}(h:teB n t)(a:n<=m):teB m t:=⟨h.1,λx c=>Ag (h.2.1 x c) om,Ag h.2.2 a⟩
def Asi{t:Te}(h:teB n t)(p:Po)(pool:List Pit):teB n (Aoc p pool t):=by
 unfold Aoc;split
 .exact h
 .exact Ax3 h _ _ t.stop
def Avp{d:Dl}(h:M8 d=0)(a:DlOk d):AdP d.p d.pool/\teB 0 (Nt d)/\(Nt d).steps= []:=by
 unfold M8 at h
 (repeat' split at h)<;>try omega
 have h2:Xv d.p=0:=om;have e:J5 d.pool d.p.g.pts.length=0:=om;refine⟨⟨a.pok,h2,e,a.pl e⟩,?_,rfl⟩;have⟨j,c,p3⟩:=Arv (Zb h2).2.1;have i:(Ri (Pe d.p.g.pri)).length<=1000:=by rw[Afb,j];have:=(Kc (Zb h2).2.1).len;omega
 refine⟨⟨Ag (by show(Aa1 d.pool d.uses d.served d.p.rate.val d.p.slack).length<=d.pool.length;exact Ak0 _ _) (Ag (a.pl e) dc),Cg _,i,λx f=>Ag (Abl c x f) dc⟩,Abl c,A7 _⟩
def SeB.te{s:Se}(h:SeB n s):teB n s.t:=⟨h.t,h.w,h.st⟩
def SeB.mk'{s:Se}(h:teB n s.t)(c:s.ans.length<=n)(ac:∀a∈s.ans,a.small)(d:s.inc.length<=n):SeB n s:=⟨h.1,h.2.1,h.2.2,c,ac,d⟩
def Bg2{d:Dl}{s:Se}{e:Ev}(k:AdP d.p d.pool)(h:Wj d s e=0)(hs:SeB n s)(hn:n<=800):teB (n+1) (X3 d s e):=by
 unfold X3;split
 .rename_i hp
  have c:Ase d s (Ah4 d s) e.an=0:=by
   unfold Wj at h
   (repeat' split at h)<;>first|exact h|omega
  unfold Ase at c
  have a:Aod d.p d.pool s.t (Qr (Ah4 d s) e.an).1=0:=by
   (repeat' split at c)<;>first|omega
  have⟨j,g,i⟩:=A72 k a hs.t (Ag hs.st om) (n:=n+1) om hs.w;have f:teB (n+1) (Zc d.p d.pool s.t (Qr (Ah4 d s) e.an).1):=⟨j,g,by rw[i];have:=hs.st;omega⟩
  unfold Abt;split
  .exact Asi f _ _
  .exact f
 .exact Ah5 hs.te (Nat.le_succ n)
def A73{d:Dl}{t:Te}{s:Se}{e:Ev}(r:AdP d.p d.pool)(m:teB 0 t)(o:e.an.small)(h:Lm d t s e=0)(hs:SeB n s)(l:n<=800):SeB (n+1) (Of d t s e):=by
 have k:swE d t s e=0:=by
  unfold Lm at h
  (repeat' split at h)<;>first|omega
 have i:=hs.al;have f:=hs.il;have c:=Ah5 hs.te (Nat.le_succ n)
 have g:SeB (n+1) (swS d t s e):=by
  unfold swS
  split
  .exact SeB.mk' (Asi (Ah5 m (Cg _)) _ _) (Fi i) hs.ac (Fi f)
  split
  .rename_i h1 h2;have u:Wj d s e=0:=by unfold swE at k;rwa[I h1,Ad h2]at k
   refine SeB.mk' (Bg2 r u hs l) (by show(s.ans++[e.an]).length<=n+1;simp;omega) (λa j=>?_) (Fi f)
   rcases Cn.1 j with j|j
   .exact hs.ac a j
   .rw[B3.1 j];exact o
  split
  .exact SeB.mk' c (Fi i) hs.ac (Fi f)
  split
  .exact SeB.mk' c (Fi i) hs.ac (Fi f)
  split
  .exact SeB.mk' c (Fi i) hs.ac (by show(s.inc++[e.inc]).length<=n+1;simp;omega)
  split
  .refine SeB.mk' ?_ (Fi i) hs.ac (Fi f);show teB (n+1) (T0 s.t)
   unfold T0;split
   .exact Ax3 c 0 s.t.draw 4
   .exact c
  .exact SeB.mk' c (Fi i) hs.ac (Fi f)
 exact⟨g.t,g.w,g.st,g.al,g.ac,g.il⟩
def Adk:Bj (.agg [.i 0,.i 0,.i 0,.i 0,.nils,.nils,.i 0,.nils,.int .u64 0,.i 0,.nils,.nils]) Zg.v:=by
 have r:=λx:V=>Bj.refl x
 exact(Bj.agg (.cons (r _) (.cons (r _) (.cons (r _) (.cons (r _) (.cons (Bj.nils 1) (.cons (Bj.nils 2) (.cons (r _) (.cons (Bj.nils 1) (.cons (r _) (.cons (r _) (.cons (Bj.nils 5) (.cons (Bj.nils 4) .nil)))))))))))))
def Bdo:AE 14 [] Zg.v:=by
 refine AC.relaxP (Aq func14 (λw0 N0=>?_));refine Y [0] [0] sr (A9 [] sr ?_);exact By sr (Adk)
variable {S:AS}
section
def Zh(l:List Ev):List V:=l.map Ev.v
@[simp]def Asj(l:List Ev):(Zh l).length=l.length:=by simp[Zh]
def A74{l:List Ev}(h:k<l.length):Hj (Zh l) k=some l[k].v:=by rw[C2];simp[Zh,h]
def Ax4(e:Ev):(Ev.v e).pureE=true:=by
 have h:=Af e.an.ch;unfold Ev.v;simp[V.pureE,V.pureC]
def Bdp(t:Te):(Te.v t).pureE=true:=by
 have h1:=Af t.elig;have h2:=Bc t.steps;have a:=B1 t.w;unfold Te.v teV;simp[V.pureE,V.pureC]
def Bdq(s:Se):(Se.v s).pureE=true:=by
 have h1:=Af s.t.elig;have h2:=Bc s.t.steps;have a:=B1 s.t.w;have c:=Gb s.ans;have d:=Fj s.inc;unfold Se.v;simp[V.pureE,V.pureC]
def Bdr(d:Dl):(Dl.v d).pureE=true:=by
 have m:=Dr d.p.rules;have r:=Af d.p.g.pts;have l:=Af d.p.g.pri;have n:=Bc d.p.en;have o:=Aj d.p.var.num.mag;have h:=Aj d.p.var.den;have k:=Aj d.p.lvl.num.mag;have j:=Aj d.p.lvl.den;have s:=Aj d.p.rate.num.mag;have i:=Aj d.p.rate.den;have e:=Cx d.pool;have f:=Ih d.items;have c:=Af d.ess;have a:=Bc d.uses;unfold Dl.v;simp[V.pureE,V.pureC]
def Adl(l:List Ev):(Zh l).all V.pureE=true:=by
 rw[Ar];intro x a;simp only[Zh,Bl]at a;obtain⟨n,_,rfl⟩:=a;exact Ax4 n
def M9:∀ {cs:List V},cs.all V.pureC=true->S.viewL cs=some cs
 | [],_ =>rfl
 |v::r,h=>by
  rw[List.all_cons,Bg]at h
  have h1:S.viewC v=some v:=by
   have a:=h.1;clear h;unfold AS.viewC
   split
   .exact absurd a G8
   .exact absurd a G8
   .rw[Ad a]
  simp only[AS.viewL,h1,M9 h.2]
def Be7{v:V}{cs:List V}(h:v.pureE=true)(e:v=.agg cs):cs.all V.pureC=true:=by subst e;exact h
def Abu{v:V}{cs:List V}(h:v.pureE=true)(e:v=.agg cs)(d:cs.length=n):∃c,v=.agg c/\c.length=n/\c.take n=c/\c.all V.pureC=true/\c.all V.isCell=true:=
 ⟨cs,e,d,Bi om,Be7 h e,Ar.2 λx a=>Afs (Ar.1 (Be7 h e) x a)⟩
def Ah6(d:Dl):∃c,d.v=.agg c/\c.length=30/\c.take 30=c/\c.all V.pureC=true/\c.all V.isCell=true:=Abu (Bdr d) rfl rfl
def A75(t:Te):∃c,t.v=.agg c/\c.length=6/\c.take 6=c/\c.all V.pureC=true/\c.all V.isCell=true:=Abu (Bdp t) rfl rfl
def Rq(s:Se):∃c,s.v=.agg c/\c.length=12/\c.take 12=c/\c.all V.pureC=true/\c.all V.isCell=true:=Abu (Bdq s) rfl rfl
def Asl(e:Ev):∃c,e.v=.agg c/\c.length=11/\c.take 11=c/\c.all V.pureC=true/\c.all V.isCell=true:=Abu (Ax4 e) rfl rfl
attribute [-simp] V.pureC V.isCell List.all_eq_true
@[simp]def Bib(k:IntKind)(n:Int):(V.int k n).pureC=true:=rfl
@[simp]def Bg3:V.nils.pureC=true:=rfl
@[simp]def Bg4(k:IntKind)(n:Int):(V.int k n).isCell=true:=rfl
@[simp]def Be8:V.nils.isCell=true:=rfl
def K5(d:Dl)(t:Te):Se->Nat->List Ev->Se × Nat × Int
 |s,k,[]=>(s,k,0)
 |s,k,e::l=>if Lm d t s e≠0 then(s,k,Lm d t s e)else K5 d t (Of d t s e) (k+1) l
def Jl(d:Dl)(l:List Ev):Se × Nat × Int:=if M8 d≠0 then(Zg,0,M8 d)else K5 d (Nt d) Zg 0 l
def A76(x:Se × Nat × Int):V:=.tup [x.1.v,.i x.2.1,.i x.2.2]
def ev0:Ev:=⟨0,0,⟨0,[],0,[],false⟩,⟨0,0,0,0⟩⟩
def Va(d:Dl)(t:Te)(l:List Ev):Nat->Se
 |0=>Zg
 |k+1=>Of d t (Va d t l k) (l.getD k ev0)
def Ax5(hS:Mx)(d:Dl)(l:List Ev)(hd:DlOk d)(hl:l.length<=700)(ha:∀e∈l,e.an.small):
  Kb gv prog 11 [d.v,.ro 11 (Zh l)] (λr=>r=A76 (Jl d l)):=by
 refine Kb.relaxP ?_;have af:=Ah1 hS d hd;unfold teR at af;have aq:=Bdo;obtain⟨tt,aj⟩:∃tt,tt=(if M8 d=0 then Nt d else Yi):=⟨_,rfl⟩;rw[<- aj]at af;have hE:M8 d≠0->Jl d l=(Zg,0,M8 d):=λh0=>by unfold Jl;rw[Ad h0]
 have hG:M8 d=0->tt=Nt d/\Jl d l=K5 d tt Zg 0 l/\AdP d.p d.pool/\teB 0 tt:=λh0=>by
  have:tt=Nt d:=by rw[aj,Ad h0]
  refine⟨this,?_,(Avp h0 hd).1,this▸(Avp h0 hd).2.1⟩;unfold Jl;rw[I G8,this]
 have ba:=Asj l;have qn:=λ(k:Nat)(h:k<l.length)=>A74 h
 have pl:=Adl l;have a3:l.length<=700:=hl;clear aj;have ah:Va d tt l 0=Zg:=rfl;have al:∀k,Va d tt l (k+1)=Of d tt (Va d tt l k) (l.getD k ev0):=λk=>rfl
 have a5:∀(s:Se)(e:Ev)(n:Nat),M8 d=0->e∈l->SeB n s->n<=800->Kb gv prog 24 [d.v,tt.v,s.v,e.v] (λr=>r=.tup [(if Lm d tt s e=0 then Of d tt s e else Zg).v,.i (Lm d tt s e)]):=λs e n h0 he hs hn=>by
  have⟨_,_,h1,h2⟩:=hG h0;exact Asg hS d tt s e hd (ha e he) h1 h2.1 (λx hx=>Ag (h2.2.1 x hx) dc) (hs.ok hn) (hs.w998 hn) (Ag hs.st om)
 have ai:∀k(hk:k<l.length),Jl d l=K5 d tt (Va d tt l k) k (l.drop k)->Lm d tt (Va d tt l k) l[k]=0->Jl d l=K5 d tt (Va d tt l (k+1)) (k+1) (l.drop (k+1)):=λk hk h1 h2=>by
  rw[h1,Bt hk,K5,I G8,al,Dt,Ai hk];rfl
 have ak:∀k(hk:k<l.length),Jl d l=K5 d tt (Va d tt l k) k (l.drop k)->Lm d tt (Va d tt l k) l[k]≠0->Jl d l=(Va d tt l k,k,Lm d tt (Va d tt l k) l[k]):=λk hk h1 h2=>by
  rw[h1,Bt hk,K5,Ad h2]
 have a0:Jl d l=K5 d tt (Va d tt l l.length) l.length (l.drop l.length)->Jl d l=(Va d tt l l.length,l.length,0):=λh1=>by
  rw[h1,Ck,K5]
 have hB:∀k(hk:k<l.length),M8 d=0->SeB k (Va d tt l k)->Lm d tt (Va d tt l k) l[k]=0->SeB (k+1) (Va d tt l (k+1)):=λk hk h0 hs h1=>by
  have⟨_,_,h2,h3⟩:=hG h0;rw[al,Dt,Ai hk];exact A73 h2 h3 (ha _ (Aw hk)) h1 hs om
 have⟨dc,a2,d1,d2,i,j⟩:=Ah6 d;have⟨tc,av,w,o,y,t⟩:=A75 tt;have ad:∀k,∃c,(Va d tt l k).v=.agg c/\c.length=12/\c.take 12=c/\c.all V.pureC=true/\c.all V.isCell=true:=λk=>Rq _
 have⟨sc,ad⟩:=Classical.axiomOfChoice ad;have bf:∀k,∃c,(l.getD k ev0).v=.agg c/\c.length=11/\c.take 11=c/\c.all V.pureC=true/\c.all V.isCell=true:=λk=>Asl _
 have⟨z0,ao,u,g,f,z⟩:=Rq Zg;rw[a2]at af|-;rw[ao]at aq;rw[av]at af;generalize be:Jl d l=RF at*;generalize bd:Va d tt l=K at*;generalize Zh l=lv at*;have m:=λS:AS=>M9 (S:=S) f
 have a7:sc 0=z0:=by have h:=(ad 0).1;rw[ah,ao]at h;injection h with h;exact h.symm
 refine B0 func11 λw0 N0 au=>?_;refine Y [1,2,4] [2,4] Du (J (Ak (Ay 1 Du ?_)));refine I7 au af func17 rfl kr sm rfl rfl rfl sR G8 sR (Aa [1,2,4,7,8] [2,4,7] Du ?_);refine J (Y [1,2,4,7,8,20] [2,4,7] sR ?_)
 refine Au (λh1=>?_) λh1=>Ae ?_
 .refine Y [4,5,6] [4] sR ?_;exact Ao (Ab (by simp[results11]<;>rfl) (by rw[hE (sG h1)];exact Bj.tup (.cons Adk (.cons (Bj.refl _) (.cons (Bj.refl _) .nil)))))
 have h0:M8 d=0:=sG h1
 have⟨_,a6,bc,bb⟩:=hG h0;refine J (Ak (Fe aq func14 rfl kr rfl rfl rfl sR sm sR ?_));refine Aa [1,2,4,7,9] [2,4,7,9] (by simp[u,z]<;>rfl) ?_;refine J (Y [1,2,4,7,9,24,25,26] [2,4,7,9] sR (Ah ?_));refine Bu (λk nx=>⟨[(1,V.ro 11 lv),(2,V.bp 2 0 30 0 0),(4,V.bp 4 1 12 0 0),(7,V.bp 7 9 6 0 0),(9,V.bp 9 15 12 0 0),(24,V.ro 11 lv),(25,V.i lv.length),(26,V.i k)],[(2,⟨0,30,44,[V.agg dc]⟩),(4,⟨1,12,55,[V.agg [.i 0,.i 0,.i 0,.i 0,.nils,.nils,.i 0,.nils,.int .u64 0,.i 0,.nils,.nils]]⟩),(7,⟨9,6,51,[V.agg tc]⟩),(9,⟨15,12,55,[V.agg (sc k)]⟩)],nx,49⟩) (λk=>RF=K5 d tt (K k) k (l.drop k)/\SeB k (K k)) l.length _ ⟨by rw[ah];exact a6,by rw[ah];exact SeB.new⟩ (by simp only[a7];exact Z) ?_;intro k nx hk hI;refine Y [1,2,4,7,9,24,25,26,27] [2,4,7,9] sR (J ?_)
 refine Au (λh2=>Ae ?_) λh2=>?_
 .have ab:k<l.length:=by simp at h2;omega
  have ga:=qn k ab;have ar:k<lv.length:=om;have Ee:=A5 (k:=k) om;have ag:=a5 (K k) l[k] k h0 (Aw ab) hI.2 om;have ay:=ai k ab hI.1;have ax:=ak k ab hI.1;have a8:=hB k ab h0 hI.2;have⟨ec,a1,e1,e2,e3,e4⟩:=Asl l[k];have a:=ad k;have aa:(sc k).drop 12= []:=Ou (Ux a.2.1);have vk:=λS:AS=>M9 (S:=S) a.2.2.2.1
  have az:=ad (k+1);have⟨rc,ae,r1,r2,r3,r4⟩:=Rq (if Lm d tt (K k) l[k]=0 then Of d tt (K k) l[k]else Zg);rw[a2,av,a.1,a1,ae]at ag;rw[a1]at ga;have aw:K (k+1)=Of d tt (K k) l[k]:=by rw[al,Dt,Ai ab];rfl
  generalize l[k]=e at*;generalize bg:Lm d tt (K k) e=PE at*;refine J (Ah (Y [1,2,4,7,9,10,11,24,25,26] [2,4,7,9,11] (by simp[ga,ar,e1,e2,e4]<;>rfl) (J (Ak (Ay 4 (by simp[e1,e2,a.2.1,a.2.2.1,d1,d2,w,o]<;>rfl) ?_)))));refine I7 au ag func24 rfl kr sm rfl rfl rfl sR (by simp[i,y,e3,a.2.2.2.1]) sR ?_;refine Aa [1,2,4,7,9,10,12,13,24,25,26] [2,4,7,9,12] (by simp[r1,r4]<;>rfl) ?_;refine J (Y [1,2,4,7,9,10,12,13,24,25,26,40] [2,4,7,9,12] sR ?_)
  refine Au (λh3=>?_) λh3=>Ae ?_
  .refine Y [4,5,6] [4] (by simp[a.2.1,a.2.2.1,a.2.2.2.2]<;>rfl) ?_;exact Ao (Ab (by simp[results11,a.2.1,a.2.2.1,vk]<;>rfl) (by rw[ax (sG h3)];unfold A76;rw[a.1];exact Bj.refl _))
  have hz:PE=0:=sG h3
  rw[Ad hz,<- aw]at ae;have a4:rc=sc (k+1):=by rw[az.1]at ae;injection ae with ae;exact ae.symm
  subst a4;refine Ba [1,2,4,7,9,24,25,26] [2,4,7,9] (by simp[r1,r2,r4,aa,a.2.1]<;>rfl) (Ba [1,2,4,7,9,24,25,26] [2,4,7,9] (by simp[Ee]<;>rfl) ?_);exact⟨ab,⟨ay hz,a8 hz⟩,_,Z⟩
 .refine A6 ?_;have a:=ad k;have aa:(sc k).drop 12= []:=Ou (Ux a.2.1);have vk:=λS:AS=>M9 (S:=S) a.2.2.2.1
  have am:k=l.length:=sO h2
  have a9:=a0 (am▸hI.1);refine Y [4,5,6] [4] (by simp[a.2.1,a.2.2.1,a.2.2.2.2]<;>rfl) ?_;exact Ao (Ab (by simp[results11,a.2.1,a.2.2.1,vk]<;>rfl) (by rw[a9];unfold A76;rw[<- am,a.1,am,<- ba];exact Bj.refl _))
end
open Go.RowKit Go.Shelf
variable {c:Nat}
attribute [local go_sem] Oper.semAt_some
def P9(a:List Int)(k:Nat):List Int:=(List.range k).map λj=>a[j]?.getD 0
def Avq(a:List Int)(k:Nat):P9 a (k+1)=P9 a k++[a[k]?.getD 0]:=by simp[P9,List.range_succ]
def A1v(a:List Int)(k:Nat):(P9 a k).length=k:=by simp[P9]
def A1w(a:List Int):P9 a a.length=a:=by
 apply Pl
 .simp[P9]
 .intro i h1 h2;simp[P9,h2]
def Uq(f:Nat)(W:World)(e:Value)(a:List Int):Prop:=
 ∃A c,e=.slice A a.length c/\(0<a.length->∃d:Addr,A=some d/\d.block<f/\∀j,j<a.length->W.cell? (d.add j)=some (.int .i64 (a[j]?.getD 0)))
def Uq.below{A B:World}(h:Below c A B){f:Value}{g:List Int}:Uq c A f g->Uq c B f g
 |⟨X,a,e,l⟩=>⟨X,a,e,λn=>by
   have⟨d,k,i,h2⟩:=l n;exact⟨d,k,i,λj m=>(h.cell (p:=d.add j) (by rw[Go.Eng.add_block];exact i)).trans (h2 j m)⟩⟩
set_option maxRecDepth 100000 in
def Bds(F:Fence)(n:Nat)(h7:F.fn 220)(hro:F.round=none)(hn:1<=n)(l n₀:Nat)(bd:Addr)(sv:Value)(zs:List Int)(hreach:zs.length*8<=140737488351232)(J Jx:List Int->World->Prop)
  (hY:∀pre x W,J pre W->pre.length<zs.length->YieldAt F (n-1) prog l #[.int .i64 x] W λe W'=>
   (e=.returned (.bool true)/\J (pre++[x]) W'/\Below n₀ W W')\/(e=.returned (.bool false)/\Jx (pre++[x]) W'))
  (W:World)(hBs:W.cell? bd=some sv)(hI:Uq n₀ W sv zs)(h0:J [] W):
  CallsIn F n prog 220 #[.func (.yield l) #[] #[],.pointer (some bd)] W λe W'=>(∃v,e=.returned v)/\
   ((∃ys,ys=zs/\J ys W')\/(∃pre,pre<+:zs/\Jx pre W')):=by
 obtain⟨A,cap,rfl,hc⟩:=hI;refine callsIn_of_wp func220 rfl h7 ?_ hro;simp only[ntmps220,C8,A3,Bo,Nat.reduceAdd,Nat.reduceSub,Lq,Lr,Ov,Mn,Ff,Co]
 gi_wp2
 gi_loopw [7] (λi wr=>∃k:Nat,k<=zs.length/\i=.int .i64 k/\J (P9 zs k) wr/\Below n₀ W wr)
  (λi _ =>zs.length-(intOf i).toNat)
 case atStart=>exact⟨0,Cg _,rfl,h0,Below.refl _ _⟩
 case round=>
  obtain⟨k,hk,rfl,hJs,hnx⟩:=hrel
  by_cases hlt:k<zs.length
  .obtain⟨ad,rfl,hb,hcs⟩:=hc om;have hcx':=(hnx.cell (p:=ad.add k) (by rw[Go.Eng.add_block];exact hb)).trans (hcs k hlt);have ex:zs[k]?.getD 0=zs[k]:=by simp[hlt]
   rw[ex]at hcx';have hup:P9 zs (k+1)=P9 zs k++[zs[k]]:=by rw[Avq,ex]
   have⟨fn,tmps,assign,body,hy,hR⟩:=hY _ zs[k] wr hJs (by rw[A1v];exact hlt)
   gi_wp2
   refine hR.mono ?_
   rintro e W3(⟨rfl,hJ3,hk3⟩|⟨rfl,hJx3⟩)
   .gi_wp2
    go_roundw
    case rel=>exact⟨k+1,by omega,by simp,by rw[hup];exact hJ3,hnx.trans hk3⟩
    case measure=>simp[intOf];omega
   .gi_wp2
    refine bodyPost_ret (results_none rfl _ _ _) rfl ?_;refine⟨⟨_,rfl⟩,.inr ⟨P9 zs (k+1),?_,by rw[hup];exact hJx3⟩⟩
    have:P9 zs (k+1)=zs.take (k+1):=by
     apply Pl
     .simp[P9];omega
     .intro i h1 h2;have:i<zs.length:=by simp[P9]at h1;omega
      simp[P9,this]
    rw[this];exact List.take_prefix _ _
  .obtain rfl:k=zs.length:=by omega
   gi_wp2
   go_end0
   exact⟨⟨_,rfl⟩,.inl ⟨_,A1w zs,hJs⟩⟩
def Aok(F:Fence)(n:Nat)(u:F.fn 220)(h:F.round=none)(m:1<=n)(d:Addr)(e:Nat)(i:Value)(c:List Int)(a:c.length*8<=140737488351232)(w:World)(f:d.block<w.heap.size)(g:e<=w.heap.size)
  (o:w.cell? d=some i)(y:Uq e w i c):
  SeqStopsK F n prog 220 #[.pointer (some d)] (λx:Int=> #[Value.int .i64 x]) (Below e) (λs=>s=c) (λpre=>pre<+:c) c.length w:=λl J r W j _ _ t k=>
 Bds F n u h m l e d i c a J r t W ((j.cell (p:=d) f).trans o) (y.below (j.mono g)) k
end Go.Proofs.YtnoignhlamifmaaGreatDoor
