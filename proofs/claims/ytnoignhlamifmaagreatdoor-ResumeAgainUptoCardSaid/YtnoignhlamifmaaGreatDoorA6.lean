/- Resuming, part 6. No condition. -/
import Derived.Test.YtnoignhlamifmaaGreatDoorA5
import Derived.Shelf.SlIterI.Sorted
import Derived.Stop.Asserts
import Derived.Test.YtnoignhlamifmaaGreatDoorCards
import Derived.Test.YtnoignhlamifmaaGreatDoorTie
import Derived.Deep.DeepHandedRow
import Derived.Lib.LaidTab
import Derived.Stop.LaidErr
set_option maxHeartbeats 8000000
set_option linter.all false
set_option maxRecDepth 10000
open Go.Proofs.Tryz
namespace Go.Proofs.YtnoignhlamifmaaGreatDoor
open Go.RowKit Go.Shelf Go.Sort
attribute [local go_sem] Oper.semAt_some
def Bi6:(prog.info? 3).map (λi=>(i.zero,i.size,i.bytes))=some (some (.int .i64 0),1,8):=by kernel_rfl
set_option maxRecDepth 100000 in
set_option maxHeartbeats 2000000 in
def A1x(F:Fence)(n:Nat)(h3:F.fn 263)(h5:F.fn 220)(k:F.round=none)(hn:3<=n)(g:Addr)(sv:Value)(m:List Int)(ai:m.length<=maxLen)(f:m.length*8<=140737488351232)(w:World)
  (af:g.block<w.heap.size)(ab:w.cell? g=some sv)(hI:Uq w.heap.size w sv m):
  CallsIn F n prog 263 #[.slice none 0 0,.func (.func 220) #[] #[.pointer (some g)]] w λe W'=>∃v,e=.returned v/\W'.ownsRow w.heap.size 3 1 v m.length (m.map (Value.int .i64))/\Below w.heap.size w W':=by
 have h1:1<=n:=by omega
 have⟨i0,hi,ag,z,ad⟩:=info_parts Bi6
 refine callsIn_of_wp_marks func263 rfl h3 ?_ k
 simp only[ntmps263,C8,A3,Bo,Nat.reduceAdd,Nat.reduceSub,Lq,Lr,Ov,Mn,Ff,Co]
 gi_wp2
 have bO:=Boxed.new w 25 (.slice none 0 0)
 have j:Below w.heap.size w (w.alloc (.cells #[.slice none 0 0] 25)):=(Below.refl _ w).alloc (A7 _) _
 refine wpIn_rangeFunc_ownG k h1 (gf:=220) (lb:= #[.pointer (some g)]) rfl h5 (enters_of func220 (by kernel_rfl) rfl)
  (Aok F (n-1) h5 k om g w.heap.size sv m f _ (by simp;omega) sM ((j.cell (p:=g) af).trans ab) (hI.below j)) belowK_t (belowK_b sM) (Below.refl _ _) (λ_ =>rfl)
  (λpre W=>(∃v,Boxed W w.heap.size 25 v/\W.ownsRow w.heap.size 3 1 v pre.length (pre.map (Value.int .i64))/\True)/\Below w.heap.size w W)
  (λ_ _ _ =>False)
  (OwnFrom.and (Go.Own.from (holdsRow_own w.heap.size w.heap.size 25 3 1 (λpre:List Int=>pre.length) (λpre=>pre.map (Value.int .i64)) (λ_ _ =>True)) _) (ownFrom_below (A7 _) sM))
  (λ_ _ _ _ _ hs _ _ =>hs)
  ⟨⟨_,bO,World.ownsRow_nil _ _ _ _,trivial⟩,j⟩
  (λx=>{ tmps:= #[.slice none 0 0,(.func (.func 220) #[] #[.pointer (some g)]),.pointer (some ⟨w.heap.size,0,none⟩),undef,.slice none 0 0,.int .i64 x,(.func (.func 220) #[] #[.pointer (some g)]),.int .i64 x,undef,undef,undef,undef,undef],defers:=[]}) ?assign ?body ?done ?stop
 case assign=>
  intro l x W K o
  gi_wp2
  exact o
 case body=>
  rintro l pre x W⟨⟨v,u,a,_⟩,s⟩ak
  have hc:=u.cell
  gi_wp2_with (gi_at_builtin;refine wpListIn_append_own _ rfl _ _ 25 rfl w.heap.size 3 i0 (.int .i64 0) 1 8 underlying25 hi ag z ad rfl dC _ _ _ rfl (a.alloc _) ⟨W.heap.size,0,none⟩ 1 1 [.int .i64 x] rfl rfl (cell_one_new _ _ _) (by simp[Value.oneCell']) om om (by have:=s.size;simp;omega) ?_;intro v' w1 d i _;obtain⟨g',ah,rfl⟩:=ownsRow_succ d;have⟨r,aa,y,ae,t⟩:=u.appended dC a s.size (A7 _) d i;have aj:=r.cell;have al:=r.frozen)
  exact⟨ae.from _,t,⟨_,aa,by simpa using y,trivial⟩,s.trans t⟩
 case done=>
  rintro D ys W hD rfl⟨⟨v,u,a,_⟩,s⟩o
  have hc:=u.cell
  gi_wp2
  refine⟨by simp,.inl ⟨_,_,rfl,run_takeDeferred o,?_⟩⟩
  exact⟨_,results_tmp rfl _ _ _,v,rfl,ownsRow_putObj a _ o rfl,s.trans (belowK_b (w:=w) (A7 _) W D _ _ (sO hD) o rfl rfl)⟩
 case stop=>
  rintro D c pre W _ _ h _
  exact h.elim
def Avr(F:Fence)(n:Nat)(h1:F.fn 219)(m:F.fn 263)(t:F.fn 220)(f:F.round=none)(hn:4<=n)(h:Addr)(k:Value)(c:List Int)(g:c.length<=maxLen)(a:c.length*8<=140737488351232)(w:World)
  (i:h.block<w.heap.size)(j:w.cell? h=some k)(s:Uq w.heap.size w k c):
  CallsIn F n prog 219 #[.func (.func 220) #[] #[.pointer (some h)]] w λe l=>∃v,e=.returned v/\l.ownsRow w.heap.size 3 1 v c.length (c.map (Value.int .i64))/\Below w.heap.size w l:=by
 have r:1<=n:=om;refine callsIn_of_wp func219 rfl h1 ?_ f;simp only[ntmps219,C8,A3,Bo,Nat.reduceAdd,Nat.reduceSub,Lq,Lr,Ov,Mn,Ff,Co]
 gi_wp2_with (gi_at_call 263;refine(A1x F (n-1) m t f om h k c g a w i j s).mono ?_;rintro e w'⟨v,rfl,d,u⟩)
 go_ret
 exact⟨v,rfl,d,u⟩
def A1y(l:Addr)(z:Value)(a:List Int)(k:a.length<=maxLen)(d:a.length*8<=140737488351232)(w:World)
  (t:l.block<w.heap.size)(o:w.cell? l=some z)(hI:Uq w.heap.size w z a):
  Calls prog 170 #[.func (.func 220) #[] #[.pointer (some l)]] w λe W'=>∃v,e=.returned v/\W'.ownsRow w.heap.size 3 1 v a.length ((Kt a).map (Value.int .i64))/\Below w.heap.size w W':=by
 refine(callsIn_wide (n:=6)).1 ?_;have ad:Fence.wide.fn 219:=trivial;have aa:Fence.wide.fn 117:=trivial;refine callsIn_of_wp func170 rfl trivial ?_ rfl;simp only[ntmps170,C8,A3,Bo,Nat.reduceAdd,Nat.reduceSub,Lq,Lr,Ov,Mn,Ff,Co]
 gi_wp2_with (gi_at_call 219;refine(Avr Fence.wide 5 trivial trivial trivial rfl om l z a k d w t o hI).mono ?_;rintro e W⟨v,rfl,f,s⟩)
 rcases f.2 with⟨rfl,hz⟩|⟨i,h,ab,rfl,c,g,r1,r2,r3,r4⟩
 .have u:=Fx hz;subst u;have m:CallsIn Fence.wide 5 prog 117 #[.slice none 0 0] W λe w'=>e=.returned (.tuple #[])/\w'=W:=callsIn_wide.2 (Yd none 0 W)
  gi_wp2_with (gi_at_call 117;refine m.mono ?_;rintro e w'⟨rfl,rfl⟩)
  go_ret
  exact⟨.slice none 0 0,rfl,by simpa[Kt]using f,s⟩
 .have hH:Holds (Value.int .i64) W i 0 a.toArray:=holds_of_block_i g (sG r4);have r:i<W.heap.size:=(B7.1 g).1
  have m:CallsIn Fence.wide 5 prog 117 #[.slice (some ⟨i,0,none⟩) a.length h] W λe w'=>e=.returned (.tuple #[])/\∃n os,w'=grow (putRow (Value.int .i64) (Sort.ahead W n) i 0 (a.mergeSort λx y=>decide (x<=y)).toArray) os:=
   callsIn_wide.2 (slices_Sort_int i 0 h a W hH r om)
  gi_wp2_with (gi_at_call 117;refine m.mono ?_;rintro e w'⟨rfl,nn,os,rfl⟩)
  go_ret
  exact⟨_,rfl,ownsRow_sorted_i sm c g r1 r2 r3,s.grown (grownBy_sorted_i _) s.size (λj hj=>by cases hj;exact c)⟩
open Go.Eng Go.Eng.Limb
variable {N:Nat->Prop}{d:Nat}
def Asm{w:World}{v:Value}{a:List Int}(hN:∀b,d<=b->¬N b)(h:w.ownsRow d 3 1 v a.length (a.map (Value.int .i64))):Pur w N v (.ro 1 (Av a)):=by
 rcases h.2 with⟨rfl,r⟩|⟨g,t,m,rfl,i,l,r1,r2,r3,r4⟩
 .have:=Fx r;subst this;exact(Pur.nils none).nils_ro 1
 .have u:=(B7.1 l).1
  have f:∀k,k<a.length->w.cell? ((⟨g,0,none⟩:Addr).add k)=some (.int .i64 (a.getD k 0)):=λk n=>by
   have h1:m[k]? =some (.int .i64 (a.getD k 0)):=by
    have h2:(m.toList.take (a.length*1))[k]? =(a.map (Value.int .i64))[k]? :=by rw[r4]
    rw[List.getElem?_take,Ad om,Bb,Ai n]at h2;rw[Dt,Ai n];simpa using h2
   unfold Addr.add
   split
   .rename_i h0;subst h0;simp[World.cell?,l,h1]
   .simp[World.cell?,l,h1]
  refine .ro (some ⟨g,0,none⟩) ⟨g,0,none⟩ a.length t 1 (Av a) (λk _ =>.int .i64 (a.getD k 0)) (A4 a) r1 r2 (λ_ =>⟨rfl,u,hN g i⟩) (Aky a) (λk e j c x o=>?_) λk e j c x o=>?_
  all_goals
   simp only[Av,Bb,Ax]at x;obtain⟨z,r,rfl⟩:=x;have n:=(Al.1 r).1
   have y:j=0:=by
    rcases j with _ |j
    .rfl
    .simp[V.cells]at o
   subst y;simp only[V.cells,D6,Ap]at o;subst o;have s:a.getD k 0=z:=by rw[Dt,r];rfl
  .rw[Gq,Ef];exact f k n
  .rw[s];exact .int _ _
def Afc:Mx:=by
 intro l hl w N xs hN m hx
 obtain⟨i,rfl⟩:∃i,xs= [i]:=by
  match xs,m with
  | [i],_ =>exact⟨i,rfl⟩
 cases(hx 0 i _ rfl rfl)with
 |fc f us ys ah ai ab u h k=>
  have t:=Fx ab;subst t
  obtain⟨y,rfl⟩:∃y,ys= [y]:=by
   match ys,u with
   | [y],_ =>exact⟨y,rfl⟩
  cases(k 0 y _ rfl rfl)with
  |rp ad sz e g z ak hf hc h=>
   have c:=hc 0 _ rfl;rw[show ad.add 0=ad from by unfold Addr.add;rw[Ad rfl]]at c;have hp:=h 0 (.ro 1 (Av l)) rfl;generalize g 0=sv at c hp
   have hI:Uq w.heap.size w sv l:=by
    cases hp with
    |ro A x n o sz2 es g2 hn ag af hA aj ae h2=>
     rw[A4]at hn;subst hn;refine⟨A,o,rfl,λd=>?_⟩;have⟨a1,a2,a3⟩:=hA d;refine⟨x,a1,a2,λj hj=>?_⟩;have he:(Av l)[j]? =some (V.i l[j]):=by simp[Av,hj]
     have h3:=ae j _ 0 (V.i l[j]) he rfl;have h4:=h2 j _ 0 (V.i l[j]) he rfl;rw[Gq,Ef]at h3;rw[h3];generalize g2 j 0=gv at h4;cases h4
     simp[hj]
   refine(A1y ad sv l (Ag hl dc) om w z c hI).mono ?_;rintro e w'⟨v,rfl,a,r⟩;refine⟨v,_,rfl,rfl,?_,r⟩;rw[<-(Pg l)]at a;exact Asm (λb z aa=>Yo _ (Cd (hN b aa) z)) a
@[simp]def Bkn:H7 prog 2=some 1/\E0 prog 2=some false/\Zu prog 2=some .i64/\H7 prog 3=some 1/\E0 prog 3=some false/\D8 prog 3=some (.i 0)/\Tb prog 3=some 1/\Ji prog 3=some 8/\Zu prog 3=some .i64/\H7 prog 4=some 1/\E0 prog 4=some false/\H7 prog 5=some 1:=ka
@[simp]def Bi7:E0 prog 5=some false:=by kernel_rfl
@[simp]def Zzz5:D8 prog 5=some (.int .u8 0)/\Tb prog 5=some 1/\Ji prog 5=some 1/\tz8 prog 5=true/\Zu prog 5=some .u8/\H7 prog 9=some 1/\E0 prog 9=some false/\Ab3 prog 9=true/\Zu prog 9=none/\H7 prog 45=some 1:=ka
@[simp]def Zzz22:D8 prog 45=some (.nils)/\Tb prog 45=some 1/\Ji prog 45=some 24/\Gc prog 45=some 5/\Afi prog 45=true/\H7 prog 25=some 1/\E0 prog 25=some false/\Gc prog 25=some 3/\H7 prog 75=some 5/\E0 prog 75=some true/\D8 prog 75=some (.agg [.i 0,.nils,.i 0,.str [],.bool false])/\Tb prog 75=some 5/\Bk prog 75 0=some (0,1,false)/\Bk prog 75 1=some (1,1,false)/\Bk prog 75 2=some (2,1,false)/\Bk prog 75 3=some (3,1,false)/\Bk prog 75 4=some (4,1,false)/\Er prog 75=true/\H7 prog 77=some 4/\E0 prog 77=some true/\D8 prog 77=some (.agg [.i 0,.i 0,.i 0,.i 0])/\Bk prog 77 0=some (0,1,false)/\Bk prog 77 1=some (1,1,false)/\Bk prog 77 2=some (2,1,false):=ka
@[simp]def Bg5:E0 prog 45=some false:=by kernel_rfl
@[simp]def Bi8:Bk prog 77 3=some (3,1,false)/\Er prog 77=true/\Ajw prog 77=some [0,0,0,0]/\H7 prog 79=some 11/\E0 prog 79=some true/\D8 prog 79=some (.agg [.i 0,.i 0,.i 0,.nils,.i 0,.str [],.bool false,.i 0,.i 0,.i 0,.i 0])/\Tb prog 79=some 11/\Bk prog 79 0=some (0,1,false)/\Bk prog 79 1=some (1,1,false)/\Bk prog 79 2=some (2,5,true)/\Bk prog 79 3=some (7,4,true)/\Er prog 79=true/\H7 prog 56=some 1/\E0 prog 56=some false/\D8 prog 56=some (.i 0)/\Tb prog 56=some 1/\H7 prog 90=some 1/\E0 prog 90=some false/\Gc prog 90=some 94/\H7 prog 94=some 5/\E0 prog 94=some true/\D8 prog 94=some (.agg [.i 0,.i 0,.i 0,.str [],.nils])/\Tb prog 94=some 5/\Ji prog 94=some 64:=ka
@[simp]def Bi9:Bk prog 94 0=some (0,1,false)/\Bk prog 94 1=some (1,1,false)/\Bk prog 94 2=some (2,1,false)/\Bk prog 94 3=some (3,1,false)/\Bk prog 94 4=some (4,1,false)/\Er prog 94=true/\Zu prog 42=some .u64/\H7 prog 129=some 1/\D8 prog 129=some (.agg [.i 0])/\Tb prog 129=some 1/\Nf prog 129=true/\Bk prog 129 0=some (0,1,false)/\Er prog 129=true/\Nf prog 131=true/\D8 prog 235=some (.i 0)/\Nf prog 235=true/\H7 prog 238=some 3/\D8 prog 238=some (.agg [.nils,.i 0,.i 0])/\Tb prog 238=some 3/\Bk prog 238 0=some (0,1,false)/\Bk prog 238 1=some (1,1,false)/\Bk prog 238 2=some (2,1,false)/\Er prog 238=true:=ka
variable {k:Nat}{t x:Int}
def Sj:prog.follows .mixedOrders=true:=by kernel_rfl
def J1(h:(k:Int)<9223372036854775807):IntKind.i64.wrap ((k:Int)+1)=((k+1:Nat):Int):=by
 rw[IntKind.wrap_i64];omega
def En(h1: -9223372036854775808<=x)(h2:x<9223372036854775808):IntKind.i64.wrap x=x:=by
 rw[IntKind.wrap_i64];omega
inductive Nd where
 |mk (tag kind n:Int) (s:List UInt8) (kids:List Nd)
def Nd.kids:Nd->List Nd
 | .mk _ _ _ _ ks=>ks
def Nd.v:Nd->V
 | .mk t k n s ks=>.agg [.i t,.i k,.i n,.str s,.ro 5 (ks.map Nd.v)]
def Nd.kid_lt{k n:Int}{s:List UInt8}{ks:List Nd}{x:Nd}(h:x∈ks):SizeOf.sizeOf x<SizeOf.sizeOf (Nd.mk t k n s ks):=by
 have:=List.sizeOf_lt_of_mem h;simp only[Nd.mk.sizeOf_spec];omega
def Nd.v_pure(x:Nd):x.v.pureE=true:=by
 have⟨t,k,n,s,ks⟩:=x;rw[Nd.v];rfl
def Wk(l:List Nd):(l.map Nd.v).all V.pureE=true:=by
 rw[Ar];intro x c;simp only[Bl]at c;obtain⟨y,_,rfl⟩:=c;exact y.v_pure
def A77{l:List Nd}(h:k<l.length):Hj (l.map Nd.v) k=some l[k].v:=by rw[C2];simp[h]
inductive Sm:Nd->Prop
 |mk {t k n:Int} {s:List UInt8} {ks:List Nd} (h:ks.length<=1000) (hk:∀x∈ks,Sm x):Sm (.mk t k n s ks)
def zN:V:=.agg [.i 0,.i 0,.i 0,.str [],.nils]
def A1z:∀(m:Nat)(l:List Nd),SizeOf.sizeOf l<m->l.length<=1000->(∀x∈l,Sm x)->AE 134 [.ro 5 (l.map Nd.v)] (.ro 5 (l.map Nd.v)):=by
 intro m
 induction m with
 |zero=>intro l h;omega
 |succ m ih=>
 intro l hm hl hs
 have ah:∀x∈l,AE 134 [.ro 5 (x.kids.map Nd.v)] (.ro 5 (x.kids.map Nd.v)):=by
  intro x hx;have:=List.sizeOf_lt_of_mem hx;have af:=hs x hx;have⟨h1,h2⟩:=af;rename_i t k n s ks;have h3:SizeOf.sizeOf ks<SizeOf.sizeOf (Nd.mk t k n s ks):=by simp only[Nd.mk.sizeOf_spec];omega
  exact ih ks om h1 h2
 have u:=λ(k:Nat)(h:k<l.length)=>A77 h
 have aa:(l.map Nd.v).length=l.length:=sm;have hp:=Wk l;generalize l.map Nd.v=lv at u aa hp
 by_cases he:lv.length=0
 .have ai:lv= []:=Am.1 he;subst ai;refine AC.relax (v:=.nils) ?_ (Bj.nils 5);refine Aq func134 λw0 N0=>?_;refine Y [0] [] sr (J (A9 [8] sr ?_));refine A0 rfl (λh1=>?_) sA;exact Y [2] [] sr (Ao (Ab sr rf))
 have ad:¬lv= []:=λh=>he (by rw[h];rfl)
 refine Aq func134 λw0 N0=>?_;refine Y [0] [] sr (J (A9 [8] sr ?_));refine A0 rfl (λh1=>by simp[ad]at h1) λh1=>Ae ?_;have ae:(lv.length:Int)<=9223372036854775807:=om;have ag:64*(lv.length:Int)<=281474976710656:=om;refine Y [0,3] [11] (by simp[ae,ag]<;>rfl) (J (Y [3,12,13,14] [11] sr (Ah (Bu (λk nx=>⟨[(3,.sl 11 6 5 lv.length),(12,.ro 5 lv),(13,.i lv.length),(14,.i k)],[(11,⟨6,5,94,E9 lv zN k⟩)],nx,32⟩) (λk=>True) l.length _ trivial (by rw[H3];exact Z) ?_))));intro k nx hk hI;have f:=I3 lv zN k om;refine Y [3,12,13,14,15] [11] sr (J ?_)
 refine Au (λh2=>Ae ?_) λh2=>?_
 .have j:k<l.length:=by simp at h2;omega
  have d:k<lv.length:=om;have y:=u k j;have z:=ah l[k] (Aw j);have e:=Wk l[k].kids;have c:=I5 lv zN k d (x:=l[k].v) (by rw[<- C2];exact y);have hz:Hj (E9 lv zN k) k=some (.agg [.i 0,.i 0,.i 0,.str [],.nils]):=I4 lv zN k d;have hw:=J1 (k:=k) om;rcases hka:l[k]with⟨t2,k2,n2,s2,ab⟩;rw[hka]at y z c e;rw[Nd.v]at y c;simp only[Nd.kids]at z e;generalize ab.map Nd.v=w at y z c e;have o:=Bah (l:=E9 lv zN k) (k:=k) (x:=.agg [.i t2,.i k2,.i n2,.str s2,.ro 5 w]) om;generalize E9 lv zN k=row at hz c f o|-;rw[c]at o;have g:(E9 lv zN (k+1)).set k (.agg [.i t2,.i k2,.i n2,.str s2,.ro 5 w])=E9 lv zN (k+1):=by rw[<- c];simp
  refine J (Ah (Y [3,4,5,12,13,14] [11,5] (by simp[y,d]<;>rfl) (A9 [] (by simp[d,hz]<;>rfl) (Ak (Ay 4 sr ?_)))));refine Ac z func134 ?_ (ha:=rfl) (hp:=rfl);refine Aa [3,12,13,14] [11] (by simp[d,c,o,g]<;>rfl) ?_;refine Cw [] (by simp[hw]<;>rfl) ?_;exact⟨j,trivial,_,Z⟩
 .refine A6 ?_;have aj:k=lv.length:=sO h2
  rw[Jm lv zN k oM];refine Y [2] [11] sr ?_;exact Ao (Ab (by simp[results134,hp]<;>rfl) rfl)
def Zi(a b c:Int)(s:List UInt8):Bj (.agg [.i a,.i b,.i c,.str s,.nils]) (Nd.mk a b c s []).v:=by
 rw[Nd.v];exact Bj.agg (.cons (Bj.refl _) (.cons (Bj.refl _) (.cons (Bj.refl _) (.cons (Bj.refl _) (.cons (Bj.nils 5) .nil)))))
def Bg6(t n:Int):AE 132 [.i t,.i n] ((Nd.mk t 1 n [] []).v):=by
 refine AC.relax (v:=.agg [.i t,.i 1,.i n,.str [],.nils]) ?_ (Zi _ _ _ _);refine Aq func132 λw0 N0=>?_;exact Y [0,1,4] [4] sr (Y [4] [4] sr (By sr rf))
def A10(t:Int)(s:List UInt8):AE 133 [.i t,.str s] ((Nd.mk t 2 0 s []).v):=by
 refine AC.relax (v:=.agg [.i t,.i 2,.i 0,.str s,.nils]) ?_ (Zi _ _ _ _);refine Aq func133 λw0 N0=>?_;exact Y [0,1,4] [4] sr (Y [4] [4] sr (By sr rf))
def Al4(t n:Int):AE 79 [.i t,.i n] ((Nd.mk t 1 n [] []).v):=by
 have c:=Bg6 t n;simp only[Nd.v,C6]at c|-;refine Aq func79 λw0 N0=>?_;refine Y [0,1,4] [4] sr (Bn 2 sr ?_);refine Fe c func132 rfl kr rfl rfl rfl rfl rfl sr (Aa [4] [4] sr ?_);exact By sr rfl
def Ax6(t:Int)(l:List Nd)(d:l.length<=1000)(hs:∀x∈l,Sm x):AE 81 [.i t,.ro 5 (l.map Nd.v)] ((Nd.mk t 3 0 [] l).v):=by
 have c:=A1z _ l (T6 _) d hs;have hp:=Wk l;rw[Nd.v];generalize l.map Nd.v=lv at c hp;refine Aq func81 λw0 N0=>?_;refine Y [0,1,4] [4] sr (Bn 2 sr ?_);refine Fe c func134 rfl kr rfl rfl rfl rfl rfl sr (Aa [4] [4] sr ?_);exact By sr rfl
structure Jv where
 kind:Int
 time:Int
 item:Int
 ch:List Int
 value:Int
 text:List UInt8
 om:Bool
 ik:Int
 it:Int
 il:Int
 ig:Int
 deriving DecidableEq
def Qs(l:List Int):List V:=l.map (V.int .i64)
def Jv.v(e:Jv):V:=.agg [.i e.kind,.i e.time,.i e.item,.ro 1 (Qs e.ch),.i e.value,.str e.text,.bool e.om,.i e.ik,.i e.it,.i e.il,.i e.ig]
def Jv.a(e:Jv):V:=.agg [.i e.item,.ro 1 (Qs e.ch),.i e.value,.str e.text,.bool e.om]
def zE:Jv:=⟨0,0,0,[],0,[],false,0,0,0,0⟩
def Asn(l:List Int):(Qs l).all V.pureE=true:=by
 rw[Ar];intro x c;simp only[Qs,Bl]at c;obtain⟨n,_,rfl⟩:=c;rfl
def Be9(l:List Int):(Qs l).length=l.length:=by simp[Qs]
def A78(l:List Int):Qs l= []↔l= []:=by simp[Qs]
def Yk(e:Jv):Bool:=decide (e.item=0)&&decide (e.ch= [])&&decide (e.value=0)&&decide (e.text= [])&& !e.om
def Ajs(e:Jv):Bool:=decide (e.ik=0)&&(decide (e.it=0)&&(decide (e.il=0)&&decide (e.ig=0)))
def fmd(e:Jv):Bool:=
 if e.kind=1 then Yk e&&Ajs e else if e.kind=3 then Yk e&&Ajs e else if e.kind=4 then Yk e&&Ajs e else if e.kind=6 then Yk e&&Ajs e
 else if e.kind=2 then Ajs e else if e.kind=5 then Yk e&&decide (e.it=e.time)else false
def Wl(e:Jv):Int:=if fmd e=false then 1 else if(decide (e.time<0)||decide (1099511627776<e.time))=true then 3 else if(decide ((10:Int)<e.ch.length)||decide ((1000:Int)<e.text.length))=true then 5 else 0
def A11(e:Jv):AC prog 78 [e.v] (λr=>r=.bool (fmd e)):=by
 have l:=A78 e.ch;simp only[Jv.v];generalize Qs e.ch=cv at l;refine Aq func78 λw0 N0=>?_;refine Y [1] [1] sr (Y [1,3] [1,3] sr (Y [1,4] [1] sr (J (Y [1,4,32] [1] sr (Ah (J (Y [1,4,32,33] [1] sr ?_)))))))
 refine Au (λh1=>Ae ?_) λh1=>?_
 .refine Au (λh2=>?_) λh2=>?_
  .refine Y [2] [] sr (Ao (Ab sr (by simp_all[fmd,Yk,Ajs])))
  .refine Y [1,4,32,45] [1] sr ?_
   refine Au (λu=>?_) λu=>?_
   .refine Y [2] [] sr (Ao (Ab sr (by simp_all)))
   .refine Y [1,4,51] [1] sr ?_
    refine Au (λk=>?_) λk=>Ae ?_
    .refine Y [2] [] sr (Ao (Ab sr (by simp_all)))
    refine Y [2] [] sr (Ao (Ab sr (by simp_all)))
 .refine Y [1,4,32,33] [1] sr ?_
  refine Au (λt=>Ae ?_) λt=>?_
  .refine Au (λs=>?_) λs=>?_
   .refine Y [2] [] sr (Ao (Ab sr (by simp_all[fmd,Yk,Ajs])))
   .refine Y [1,4,32,45] [1] sr ?_
    refine Au (λo=>?_) λo=>?_
    .refine Y [2] [] sr (Ao (Ab sr (by simp_all)))
    .refine Y [1,4,51] [1] sr ?_
     refine Au (λm=>?_) λm=>Ae ?_
     .refine Y [2] [] sr (Ao (Ab sr (by simp_all)))
     refine Y [2] [] sr (Ao (Ab sr (by simp_all)))
  .refine Y [1,4,32,33] [1] sr ?_
   refine Au (λn=>Ae ?_) λn=>?_
   .refine Au (λg=>?_) λg=>?_
    .refine Y [2] [] sr (Ao (Ab sr (by simp_all[fmd,Yk,Ajs])))
    .refine Y [1,4,32,45] [1] sr ?_
     refine Au (λd=>?_) λd=>?_
     .refine Y [2] [] sr (Ao (Ab sr (by simp_all)))
     .refine Y [1,4,51] [1] sr ?_
      refine Au (λj=>?_) λj=>Ae ?_
      .refine Y [2] [] sr (Ao (Ab sr (by simp_all)))
      refine Y [2] [] sr (Ao (Ab sr (by simp_all)))
   .refine Ba [1,4,32,33] [1] sr ?_
    refine Au (λc=>?_) λc=>?_
    .refine Y [2] [] sr (Ao (Ab sr (by simp_all[fmd,Yk,Ajs])))
    .refine Y [1,4,32,45] [1] sr ?_
     refine Au (λh=>?_) λh=>?_
     .refine Y [2] [] sr (Ao (Ab sr (by simp_all[fmd,Ajs])))
     .refine Y [1,4,51] [1] sr ?_
      refine Au (λf=>?_) λf=>Ae ?_
      .refine Y [2] [] sr (Ao (Ab sr (by simp_all[fmd,Yk])))
      refine Y [2] [] sr (Ao (Ab sr (by simp_all[fmd])))
def num(t n:Int):Nd:=.mk t 1 n [] []
def chN(l:List Int):List Nd:=l.map (num 0)
def Adm(e:Jv):List Nd:=[num 3 e.item,.mk 4 3 0 [] (chN e.ch),num 5 e.value,.mk 6 2 0 e.text [],num 7 (if e.om=true then 1 else 0)]
def Zj(e:Jv):List Nd:=[num 1 e.kind,num 2 e.time]++(if e.kind=2 then Adm e else if e.kind=5 then [num 8 e.ik,num 9 e.il,num 10 e.ig]else [])
def zNd:Nd:=.mk 0 0 0 [] []
def Aso(e:Jv):Nd:=if Wl e=0 then .mk 50 3 0 [] (Zj e)else zNd
def Adn(t n:Int):Sm (num t n):=.mk sm sm
def Bfa(l:List Int):∀x∈chN l,Sm x:=by
 intro x c;simp only[chN,Bl]at c;obtain⟨n,_,rfl⟩:=c;exact Adn _ _
def Bdt(t k n:Int)(s:List UInt8):Sm (.mk t k n s []):=.mk sm sm
def Bg7(e:Jv)(h:e.ch.length<=1000):∀x∈Adm e,Sm x:=by
 intro x c;simp only[Adm,B8,Dw,or_false]at c
 rcases c with rfl|rfl|rfl|rfl|rfl
 .exact Adn _ _
 .exact .mk (by simpa[chN]using h) (Bfa _)
 .exact Adn _ _
 .exact Bdt _ _ _ _
 .exact Adn _ _
def Bg8(e:Jv)(h:e.ch.length<=1000):(∀x∈Zj e,Sm x)/\(Zj e).length<=1000:=by
 unfold Zj
 refine⟨λx c=>?_,?_⟩
 .rcases Cn.1 c with c|c
  .simp only[B8,Dw,or_false]at c;rcases c with rfl|rfl<;>exact Adn _ _
  .split at c
   .exact Bg7 e h x c
   .split at c
    .simp only[B8,Dw,or_false]at c;rcases c with rfl|rfl|rfl<;>exact Adn _ _
    .cases c
 .split
  .simp[Adm]
  .split<;>simp
set_option maxRecDepth 100000 in
def Ajt(e:Jv)(ad:e.ch.length<=10):AE 80 [e.a] (.ro 5 ((Adm e).map Nd.v)):=by
 have hl:=Be9 e.ch
 have m:∀(k:Nat)(h:k<e.ch.length),Hj (Qs e.ch) k=some (.i e.ch[k]):=by
  intro k h;rw[C2];simp[Qs,h]
 have u:((chN e.ch).map Nd.v).length=e.ch.length:=by simp[chN]
 have o:∀(k:Nat)(h:k<e.ch.length),((chN e.ch).map Nd.v)[k]? =some (num 0 e.ch[k]).v:=by
  intro k h;simp[chN,h]
 have s:=Wk (chN e.ch);have hL:=Ax6 4 (chN e.ch) (by simp[chN];omega) (Bfa _);have c:=λt n=>Al4 t n
 have l:=A10 6 e.text;simp only[Jv.a,Adm,B6,C6];simp only[num,Nd.v,C6]at c l hL o|-;generalize Qs e.ch=d at hl m;generalize(chN e.ch).map Nd.v=nv at u o s hL|-;refine Aq func80 (λw0 N0=>?_);refine Y [1] [1] sr ?_;have z:(d.length:Int)<=9223372036854775807:=om;have aa:64*(d.length:Int)<=281474976710656:=om;refine Y [1,3] [1,10] (by simp[z,aa]<;>rfl) (J (A9 [12,13,14] sr (Ah (Bu (λk nx=>⟨[(1,.bp 1 0 5 0 0),(3,.sl 10 5 5 d.length),(12,.ro 1 d),(13,.i d.length),(14,.i k)],[(1,⟨0,5,75,[.agg [.i e.item,.ro 1 d,.i e.value,.str e.text,.bool e.om]]⟩),(10,⟨5,5,94,E9 nv zN k⟩)],nx,41⟩) (λk=>True) d.length _ trivial (by rw[H3,u,<- hl];exact Z) ?_))));intro k nx hk hI;have x:=I3 nv zN k om;refine Y [1,3,12,13,14,15] [1,10] sr (J ?_)
 refine Cu (λh1=>?_) (λh1=>?_)
 .have w:k<e.ch.length:=by simp at h1;omega
  have f:k<d.length:=om;have g:k<nv.length:=om;have ga:=m k w;have j:=I5 nv zN k g (o k w);have hz:Hj (E9 nv zN k) k=some (.agg [.i 0,.i 0,.i 0,.str [],.nils]):=I4 nv zN k g;have hw:=J1 (k:=k) om;have hc:=c 0 e.ch[k];generalize E9 nv zN k=row at hz j x|-;refine J (Ah (Y [1,3,4,5,12,13,14] [1,10] (by simp[ga,f]<;>rfl) (Mr 3 sr ?_)));refine Ac hc func79 ?_ (ha:=rfl) (hp:=rfl);refine Aa [1,3,12,13,14] [1,10] (by simp[f,hz,j]<;>rfl) ?_;refine Cw [] (by simp[hw]<;>rfl) ?_;exact⟨f,trivial,_,Z⟩
 .refine A6 ?_;have ab:k=d.length:=sO h1
  rw[Jm nv zN k om];have y:nv.length=d.length:=om;refine Y [1,3,6] [1,10] sr ?_
  refine N3 ⟨[(1,.bp 1 0 5 0 0),(3,.sl 10 5 5 d.length),(6,.i (if e.om=true then 1 else 0))],[(1,⟨0,5,75,[.agg [.i e.item,.ro 1 d,.i e.value,.str e.text,.bool e.om]]⟩),(10,⟨5,5,94,nv⟩)],nx+1000,41⟩ ?_ ?_
  .refine A9 [26] sr ?_
   refine C1 (λh2=>?_) (λh2=>?_)
   .refine Ba [1,3,6] [1,10] sr ?_;refine⟨rfl,?_⟩;rw[Ad h2];exact N4 [1,3,6] [1,10] sr sr rfl sy
   .refine⟨rfl,?_⟩;rw[I (by rw[h2];simp)];exact N4 [1,3,6] [1,10] sr sr rfl sy
  refine Bw 10 [1,3,6] [1] (by simp[s,y]<;>rfl) ?_;generalize(if e.om=true then(1:Int)else 0)=om;refine J (Di [(0,[]),(3,[]),(5,[]),(8,[]),(11,[]),(1,[40]),(2,[]),(4,[]),(6,[40]),(7,[]),(9,[40]),(10,[]),(12,[]),(13,[]),(14,[])] Sj kr ?_);refine Ci 6 sr ?_;refine B4 (λm=>c 3 e.item) func79 ?_;refine B4 (λm=>hL) func81 ?_;refine Ci 1 sr ?_;refine B4 (λm=>c 5 e.value) func79 ?_;refine Ci 1 sr ?_;refine B4 (λm=>l) func133 ?_;refine B4 (λm=>c 7 om) func79 ?_;refine Dj [2] [40] sr ?_;exact By sr rfl
def A12{e:Jv}(h:Wl e=0):fmd e=true/\0<=e.time/\e.time<=1099511627776/\e.ch.length<=10/\e.text.length<=1000:=by
 unfold Wl at h
 split at h
 .cases h
 rename_i h1
 split at h
 .cases h
 rename_i h2
 split at h
 .cases h
 rename_i c;simp at h1 h2 c;exact⟨h1,by omega,by omega,by omega,by omega⟩
def A79:Bj (.agg [.i 0,.i 0,.i 0,.str [],.nils]) zNd.v:=Zi 0 0 0 []
def A13(e:Jv):V:=.tup [(Aso e).v,.i (Wl e)]
def A14(c:Int){e:Jv}(h:Wl e=c)(d:c≠0):Bj (.tup [.agg [.i 0,.i 0,.i 0,.str [],.nils],.i c]) (A13 e):=by
 subst h;rw[A13,Aso,I d];exact Bj.tup (.cons A79 (.cons (Bj.refl _) .nil))
set_option maxRecDepth 100000 in
def A15(e:Jv):AC prog 44 [e.v] (λr=>r=A13 e):=by
 have f:=A11 e;have hl:=Be9 e.ch;have hp:=Asn e.ch;have g:=λh=>Ajt e h
 have d:=λt n=>Al4 t n
 by_cases w:Wl e=0
 .have⟨z,aj,ah,ae,ai⟩:=A12 w;have x:=Bg8 e om;have hL:=Ax6 50 (Zj e) x.2 x.1;have g:=g ae;have s:=Wk (Adm e);have u:=Wk (Zj e);have hR:A13 e=.tup [(Nd.mk 50 3 0 [] (Zj e)).v,.i 0]:=by rw[A13,Aso,Ad w,w]
  rw[hR];rw[z]at f;have l:((Adm e).map Nd.v).length=5:=by simp[Adm]
  have j:(Zj e).map Nd.v= [(num 1 e.kind).v,(num 2 e.time).v]++(if e.kind=2 then(Adm e).map Nd.v else if e.kind=5 then [(num 8 e.ik).v,(num 9 e.il).v,(num 10 e.ig).v]else []):=by
   unfold Zj
   split
   .simp
   .split<;>simp
  rw[Nd.v]at hL|-;generalize ag:(Zj e).map Nd.v=kv at hL j u|-;simp only[num,Nd.v,C6]at d j;simp only[Jv.v,Jv.a]at f g|-;generalize Qs e.ch=cv at f hl hp g;generalize(Adm e).map Nd.v=av at g s l j;have ab:¬e.time<0:=om;have ad:¬1099511627776<e.time:=om;have aa:¬(10:Int)<cv.length:=om;have af:¬(1000:Int)<e.text.length:=om;refine Aq func44 (λw0 N0=>?_);refine Y [1,2] [1,2] sr (J (J (Ak (Ay 1 sr ?_))));refine Fe f func78 rfl kr rfl rfl rfl rfl sM sr (Aa [1,2,7] [1,2] sr ?_);refine A0 rfl sA (λh1=>Ae (J (Y [1,2,16] [1,2] Du ?_)));refine A0 rfl sA (λh2=>Ae (J (Y [1,2,29] [1,2] (by simp[aa,af]<;>rfl) ?_)));refine A0 rfl sA (λo=>Ae (J (Di [(0,[]),(3,[]),(1,[37]),(2,[]),(4,[37]),(5,[]),(6,[]),(7,[])] Sj kr ?_)));refine Ci 3 sr ?_;refine E8 (λy=>d 1 e.kind) func79 rfl kr rfl rfl sr rfl rfl sr sm sr ?_;refine Ci 1 sr ?_;refine E8 (λy=>d 2 e.time) func79 rfl kr rfl rfl sr rfl rfl sr sm sr ?_;refine Dj [1,2,4] [1,2,37] sr ?_
  refine N3 ⟨[(2,.bp 2 1 5 0 0),(4,.ro 5 kv)],[(2,⟨1,5,94,[.agg [.i 0,.i 0,.i 0,.str [],.nils]]⟩)],1000,66⟩ ?_ ?_
  .refine Y [1,2,4,39] [1,2,37] sr (Ah (Y [1,2,4,39,40] [1,2,37] sr ?_))
   refine Au (λk=>?_) (λk=>?_)
   .have k:e.kind=2:=sG k
    rw[Ad k]at j;refine Ak (Ay 3 sr ?_);refine Fe g func80 rfl kr rfl rfl rfl rfl sM sr ?_;refine Aa [2,4] [2,37] (by simp[l,maxLen]<;>rfl) ?_;refine⟨rfl,?_⟩;rw[j];refine Atm 37 [2,4] [2] (by simp[s,l]<;>rfl) ?_ ?_ ?_ ?_ <;>first|rfl|simp
   .have k:¬e.kind=2:=sG k
    rw[I k]at j;refine Y [1,2,4,47] [1,2,37] sr ?_
    refine Au (λm=>?_) (λm=>Ae ?_)
    .have m:e.kind=5:=sG m
     rw[Ad m]at j;refine Di [(0,[]),(1,[]),(2,[]),(5,[]),(6,[]),(9,[]),(10,[]),(3,[62]),(4,[]),(7,[62]),(8,[]),(11,[62]),(12,[]),(13,[]),(14,[]),(15,[])] Sj kr ?_;refine Ci 8 sr ?_;refine E8 (λy=>d 8 e.ik) func79 rfl kr rfl rfl sr rfl rfl sr sm sr ?_;refine Ci 1 sr ?_;refine E8 (λy=>d 9 e.il) func79 rfl kr rfl rfl sr rfl rfl sr sm sr ?_;refine Ci 1 sr ?_;refine E8 (λy=>d 10 e.ig) func79 rfl kr rfl rfl sr rfl rfl sr sm sr ?_;refine Dj [2,4] [2,37] (by simp[maxLen]<;>rfl) ?_;refine⟨rfl,?_⟩;rw[j];refine Atm 37 [2,4] [2] sr ?_ ?_ ?_ ?_ <;>first|rfl|simp
    .have m:¬e.kind=5:=sG m
     rw[I m]at j;refine⟨rfl,?_⟩;rw[j];refine Atm 37 [2,4] [2] sr ?_ ?_ ?_ ?_ <;>first|rfl|simp
  refine J (Ak (Ay 1 sr ?_));refine Fe hL func81 rfl kr rfl rfl rfl rfl sM sr ?_;refine Aa [2,3] [2] sr ?_;exact Ao (Ab sr rfl)
 .refine AC.relax ?_ (A14 _ rfl w);have c:Wl e=if fmd e=false then 1 else if(decide (e.time<0)||decide (1099511627776<e.time))=true then 3 else if(decide ((10:Int)<(Qs e.ch).length)||decide ((1000:Int)<e.text.length))=true then 5 else 0:=by rw[hl];rfl
  simp only[Jv.v]at f|-;generalize Qs e.ch=cv at f hl hp c;generalize fmd e=fb at f c;refine Aq func44 (λw0 N0=>?_);refine Y [1,2] [1,2] sr (J (J (Ak (Ay 1 sr ?_))));refine Fe f func78 rfl kr rfl rfl rfl rfl sM sr ?_;refine Aa [1,2,7] [1,2] sr ?_
  refine Au (λh1=>?_) (λh1=>Ae ?_)
  .rw[Ad (sG h1)]at c;exact Y [2,3] [2] sr (Ao (Ab sr (by rw[c])))
  rw[I (sG h1)]at c;refine J (Y [1,2,16] [1,2] sr ?_)
  refine Au (λh2=>?_) (λh2=>Ae ?_)
  .rw[Ad h2]at c;exact Y [2,3] [2] sr (Ao (Ab sr (by rw[c])))
  rw[I (by rw[h2];simp)]at c;refine J (Y [1,2,29] [1,2] sr ?_)
  refine Au (λo=>?_) (λo=>Ae ?_)
  .rw[Ad o]at c;exact Y [2,3] [2] sr (Ao (Ab sr (by rw[c])))
  rw[I (by rw[o];simp)]at c;exact absurd c w
def lb(p:Int × Int):Int × Int:=if decide (65536<=p.1)=true then(p.1.fdiv 65536,p.2+16)else p
def lc(p:Int × Int):Int × Int:=if decide (256<=p.1)=true then(p.1.fdiv 256,p.2+8)else p
variable {n:Nat}
def Abv(a b:Nat)(c:a<2^64/\b<2^64):bits .or .u64 a b=((a|||b:Nat):Int)/\bits .and .u64 a b=((a&&& b:Nat):Int)/\bits .xor .u64 a b=((a^^^b:Nat):Int):=by
 have d:BitVec.ofInt 64 (a:Int)=BitVec.ofNat 64 a:=sm;have f:BitVec.ofInt 64 (b:Int)=BitVec.ofNat 64 b:=sm;have h1:=On c.1 c.2
 have h2:a&&& b<2^64:=Nat.and_lt_two_pow _ c.2;have e:∀n:Nat,n<2^64->IntKind.u64.wrap (n:Int)=n:=λn hn=>by rw[IntKind.wrap_u64];omega
 refine⟨?_,?_,?_⟩
 .show IntKind.u64.wrap ((BitVec.ofInt 64 (a:Int)|||BitVec.ofInt 64 (b:Int)).toNat:Int)=_
  rw[d,f,M0,Dm,Dm,Bm c.1,Bm c.2];exact e _ h1
 .show IntKind.u64.wrap ((BitVec.ofInt 64 (a:Int)&&& BitVec.ofInt 64 (b:Int)).toNat:Int)=_
  rw[d,f,BitVec.toNat_and,Dm,Dm,Bm c.1,Bm c.2];exact e _ h2
 .show IntKind.u64.wrap ((BitVec.ofInt 64 (a:Int)^^^BitVec.ofInt 64 (b:Int)).toNat:Int)=_
  rw[d,f,BitVec.toNat_xor,Dm,Dm,Bm c.1,Bm c.2];exact e _ (Nat.xor_lt_two_pow c.1 c.2)
def A16(a b:Nat)(c:a<2^8/\b<2^8):bits .or .u8 a b=((a|||b:Nat):Int)/\bits .and .u8 a b=((a&&& b:Nat):Int):=by
 have e:BitVec.ofInt 8 (a:Int)=BitVec.ofNat 8 a:=sm;have f:BitVec.ofInt 8 (b:Int)=BitVec.ofNat 8 b:=sm;have h1:=On c.1 c.2
 have h2:a&&& b<2^8:=Nat.and_lt_two_pow _ c.2;have d:∀n:Nat,n<2^8->IntKind.u8.wrap (n:Int)=n:=λn hn=>by rw[IntKind.wrap_u8];omega
 refine⟨?_,?_⟩
 .show IntKind.u8.wrap ((BitVec.ofInt 8 (a:Int)|||BitVec.ofInt 8 (b:Int)).toNat:Int)=_
  rw[e,f,M0,Dm,Dm,Bm c.1,Bm c.2];exact d _ h1
 .show IntKind.u8.wrap ((BitVec.ofInt 8 (a:Int)&&& BitVec.ofInt 8 (b:Int)).toNat:Int)=_
  rw[e,f,BitVec.toNat_and,Dm,Dm,Bm c.1,Bm c.2];exact d _ h2
def Ph(x:Nat):List UInt8:=if h:x<128 then [UInt8.ofNat x]else UInt8.ofNat (x%128+128)::Ph (x/128)
termination_by x
decreasing_by omega
def Ax8{x:Nat}(h:x<128):Ph x= [UInt8.ofNat x]:=by rw[Ph,dif_pos h]
def Ax9{x:Nat}(h:128<=x):Ph x=UInt8.ofNat (x%128+128)::Ph (x/128):=by rw[Ph,dif_neg om]
abbrev Ls(l:List UInt8):List V:=l.map Zw
def A8a(l:List UInt8):(Ls l).all Mc=true:=by
 rw[Ar];intro x c;simp only[Bl]at c;obtain⟨b,_,rfl⟩:=c;rfl
def Mv(l:List UInt8):(Ls l).all V.pureE=true:=by
 rw[Ar];intro x c;simp only[Bl]at c;obtain⟨b,_,rfl⟩:=c;rfl
def Bg9(h:n<256):Zw (UInt8.ofNat n)=.int .u8 n:=by
 unfold Zw;rw[UInt8.toNat_ofNat',Bm om]
variable {l:List UInt8}
def A8b(h:k<l.length):Hj (Ls l) k=some (Zw l[k]):=by rw[C2];simp[h]
def Abw(l:List UInt8):(Ls l).length=l.length:=by simp
def Ado(h:n<2^64):IntKind.u64.wrap (n:Int)=n:=by rw[IntKind.wrap_u64];omega
def Aol(h:Int)(c:UInt8):Int:=IntKind.u64.wrap (bits .xor .u64 h (IntKind.u64.wrap (c.toNat:Int))*1099511628211)
def dig(h:Int)(l:List UInt8):Int:=l.foldl Aol h
def Avs(h:Int)(c:UInt8):0<=Aol h c/\Aol h c<2^64:=by unfold Aol;rw[IntKind.wrap_u64];omega
def A8c(h:Int)(c:k<l.length):dig h (l.take (k+1))=Aol (dig h (l.take k)) l[k]:=by
 unfold dig;rw[Az c,Ot];rfl
def Aya(h:Int)(l:List UInt8):AE 70 [.int .u64 h,.ro 1 (Ls l)] (.int .u64 (dig h l)):=by
 have n:=λ(k:Nat)(h:k<l.length)=>A8b h
 have s:=Abw l;generalize Ls l=lv at n s;refine K8 1 rfl λf=>?_;unfold maxLen at f;refine Aq func70 λw0 N0=>?_;refine Y [0,1] [] sr (J (Y [0,7,8,9] [] sr (Ah (Bu (λk nx=>⟨[(0,.int .u64 (dig h (l.take k))),(7,.ro 1 lv),(8,.i lv.length),(9,.i k)],[],nx,20⟩) (λk=>True) l.length _ trivial (by simp[dig];exact Z) ?_))));intro k nx hk _;refine Y [0,7,8,9,10] [] sr (J ?_)
 refine Cu (λh1=>?_) λh1=>?_
 .have d:k<l.length:=by simp at h1;omega
  have e:k<lv.length:=om;have m:=n k d;have g:=A8c h d;simp only[Zw]at m;generalize hc:l[k]=c at m g;generalize dig h (l.take k)=q at g;unfold Aol at g;refine J (Ah (Y [0,6,7,8,9] [] (by simp[m,e]<;>rfl) (Ba [0,7,8,9] [] sr (Cw [] (by simp[(J1 (k:=k) om)]<;>rfl) ?_))));simp only[g];exact⟨d,trivial,_,Z⟩
 .refine A6 (Y [4] [] sr ?_);refine By sr ?_;have j:k=l.length:=sO h1
  rw[j,Be]
def P5(x:Nat):Nat->List UInt8
 |0=>[]
 |n+1=>UInt8.ofNat (x/256^n%256)::P5 x n
def Ln(x:Nat):∀n,(P5 x n).length=n
 |0=>rfl
 |n+1=>by simp[P5,Ln x n]
def A8d(x:Nat)(k:Nat)(hk:k<=7):(x:Int).fdiv (2^min (8*(k:Int)).toNat IntKind.u64.bits)=((x/256^k:Nat):Int):=by
 have c:k=0\/k=1\/k=2\/k=3\/k=4\/k=5\/k=6\/k=7:=om
 rcases c with rfl|rfl|rfl|rfl|rfl|rfl|rfl|rfl
 .show(x:Int).fdiv 1=_;rw[Ca _ dC];omega
 .show(x:Int).fdiv 256=_;rw[Ca _ dC];omega
 .show(x:Int).fdiv 65536=_;rw[Ca _ dC];omega
 .show(x:Int).fdiv 16777216=_;rw[Ca _ dC];omega
 .show(x:Int).fdiv 4294967296=_;rw[Ca _ dC];omega
 .show(x:Int).fdiv 1099511627776=_;rw[Ca _ dC];omega
 .show(x:Int).fdiv 281474976710656=_;rw[Ca _ dC];omega
 .show(x:Int).fdiv 72057594037927936=_;rw[Ca _ dC];omega
def Bha(a:Nat)(h:a<2^64):bits .and .u64 (a:Int) 255=((a%256:Nat):Int):=by
 have:=(Abv a 255 ⟨h,by decide⟩).2.1;rw[show(255:Int)=((255:Nat):Int)from rfl,this]
 congr 1
 exact Kj a 8
def Avt(h:Int)(n:Nat)(hn:n<2^64):AE 126 [.int .u64 h,.int .u64 n] (.int .u64 (dig h (P5 n 8))):=by
 refine Aq func126 λw0 N0=>?_;refine Y [0,1] [] sr (J (A9 [5] sr (Ah (C3 (λp:Nat × Int × Nat=>⟨[(0,.int .u64 p.2.1),(1,.int .u64 n),(5,.i (8*(p.1:Int)-8))],[],p.2.2,18⟩) (λp=>p.1<=8/\dig p.2.1 (P5 n p.1)=dig h (P5 n 8)) (λp=>p.1) (8,h,_) ⟨A7 _,rfl⟩ Z ?_))));rintro⟨k,q,nx⟩⟨hk,z⟩;simp only at hk z;refine J (Y [0,1,5,7] [] sr ?_)
 refine Cu (λh1=>?_) λh1=>?_
 .have aa:0<k:=by simp at h1;omega
  obtain⟨j,rfl⟩:∃j,k=j+1:=⟨k-1,by omega⟩;have l:=A8d n j om;have u:n/256^j<2^64:=Fl (G7 _ _) hn;have hand:=Bha (n/256^j) u;obtain⟨c,w,f⟩:∃c:Int,8*((j+1:Nat):Int)-8=c/\c=8*(j:Int):=⟨_,rfl,by omega⟩;rw[<- f]at l;have t:¬c<0:=om;obtain⟨s,d⟩:∃s:Int,(n:Int).fdiv (2^min c.toNat IntKind.u64.bits)=s:=⟨_,rfl⟩;have m:s=((n/256^j:Nat):Int):=by rw[<- d,l]
  rw[<- m]at hand;obtain⟨o,e⟩:∃o:Int,bits .and .u64 s 255=o:=⟨_,rfl⟩;have g:o=((n/256^j%256:Nat):Int):=by rw[<- e,hand]
  have y:IntKind.i64.wrap (c-8)=8*(j:Int)-8:=by rw[En om oM];omega
  rw[w];refine J (Ah (Ba [0,1,5] [] (by simp[d,e,t]<;>rfl) (Cw [] (by simp[y]<;>rfl) ?_)))
  refine⟨(j,Aol q (UInt8.ofNat (n/256^j%256)),nx+13),⟨by simp only;omega,?_⟩,by simp only;omega,?_⟩
  .rw[<- z];rfl
  .have:Aol q (UInt8.ofNat (n/256^j%256))=IntKind.u64.wrap (bits .xor .u64 q o*1099511628211):=by
    unfold Aol;rw[UInt8.toNat_ofNat',Bm om,Ado om,g]
   simp only[this];exact Z
 .have x:k=0:=by simp at h1;omega
  subst x;refine A6 (Y [4] [] sr ?_);refine By sr ?_;rw[<- z];rfl
def Ah7:Int:=14695981039346656037
def Bhb(l:List UInt8):AE 40 [.ro 1 (Ls l)] (.int .u64 (dig Ah7 l)):=by
 refine Aq func40 λw0 N0=>?_;refine Y [0] [] sr (Bn 1 sr ?_);refine Fe (Aya Ah7 l) func70 rfl kr rfl rfl rfl rfl rfl sr (Aa [2] [] sr ?_);exact By sr rfl
def A8e:AE 40 [.nils] (.int .u64 Ah7):=AC.argsR (Bhb []) (.cons (Bj.nils 1) .nil)
def chn(c:Nat)(l:List UInt8):Int:=dig (dig Ah7 (P5 c 8)) l
def A8g(c:Nat)(hp:c<2^64)(l:List UInt8):AE 72 [.int .u64 c,.ro 1 (Ls l)] (.int .u64 (chn c l)):=by
 have e:=Avt Ah7 c hp;have d:=Aya (dig Ah7 (P5 c 8)) l;have hp:=Mv l;unfold chn;generalize dig Ah7 (P5 c 8)=q at e d;generalize Ls l=lv at d;refine Aq func72 λw0 N0=>?_;refine Y [0,1] [] sr (Bn 1 sr ?_);refine Fe e func126 rfl kr rfl rfl rfl rfl rfl sr (Ay 1 sr ?_);refine Fe d func70 rfl kr rfl rfl rfl rfl rfl sr (Aa [4] [] sr ?_);exact By sr rfl
def Gw(l:List UInt8):Nat:=l.foldl (λv c=>(v*256+c.toNat)%2^64) 0
def A17(c:k<l.length):Gw (l.take (k+1))=(Gw (l.take k)*256+l[k].toNat)%2^64:=by
 unfold Gw;rw[Az c,Ot];rfl
def Bdu(l:List UInt8):Gw l<2^64:=by
 rcases l.eq_nil_or_concat with rfl|⟨l',b,rfl⟩
 .decide
 .unfold Gw;rw[List.concat_eq_append,Ot];exact Dc _ dc
def Bhc(v c:Nat)(hc:c<256):bits .or .u64 (IntKind.u64.wrap ((v:Int)*2^min (8:Int).toNat IntKind.u64.bits)) (IntKind.u64.wrap (c:Int))=(((v*256+c)%2^64:Nat):Int):=by
 have h1:IntKind.u64.wrap ((v:Int)*2^min (8:Int).toNat IntKind.u64.bits)=((v*256%2^64:Nat):Int):=by
  show IntKind.u64.wrap ((v:Int)*256)=_
  rw[IntKind.wrap_u64];omega
 rw[h1,Ado om,(Abv _ _ ⟨Dc _ dc,by omega⟩).1]
 congr 1
 have h2:v*256%2^64=2^8*(v%2^56):=om;rw[h2,<- Hh oM];omega
def A8h(l:List UInt8):AE 71 [.ro 1 (Ls l)] (.int .u64 (Gw l)):=by
 have s:=λ(k:Nat)(h:k<l.length)=>A8b h
 have w:=Abw l;generalize Ls l=lv at s w;refine K8 0 rfl λg=>?_;unfold maxLen at g;refine Aq func71 λw0 N0=>?_;refine Y [0] [] sr (A9 [3] sr (J (Y [3,6,7,8] [] sr (Ah (Bu (λk nx=>⟨[(3,.int .u64 (Gw (l.take k))),(6,.ro 1 lv),(7,.i lv.length),(8,.i k)],[],nx,19⟩) (λk=>True) l.length _ trivial (by simp[Gw];exact Z) ?_)))));intro k nx hk _;refine Y [3,6,7,8,9] [] sr (J ?_)
 refine Cu (λh1=>?_) λh1=>?_
 .have e:k<l.length:=by simp at h1;omega
  have f:k<lv.length:=om;have n:=s k e;have u:=J1 (k:=k) om;have o:=A17 e;simp only[Zw]at n;generalize hc:l[k]=c at n o;have d:=Bhc (Gw (l.take k)) c.toNat c.toNat_lt;rw[<- o]at d;generalize Gw (l.take k)=q at d;generalize Gw (l.take (k+1))=t at d;have j:bits .or .u64 (IntKind.u64.wrap ((q:Int)*2^min 8 IntKind.u64.bits)) (IntKind.u64.wrap (c.toNat:Int))=(t:Int):=d;refine J (Ah (Y [3,5,6,7,8] [] (by simp[n,f]<;>rfl) (Ba [3,6,7,8] [] (by simp[j]<;>rfl) (Cw [] (by simp[u]<;>rfl) ?_))));exact⟨e,trivial,_,Z⟩
 .refine A6 ?_;refine Y [2] [] sr ?_;refine By sr ?_;have m:k=l.length:=sO h1
  rw[m,Be]
def A18(l:List UInt8):Int:=if l.length<8 then Ah7 else Gw (l.drop (l.length-8))
def Ah8:∀l:List UInt8,Q5 (Ls l)=some l
 | []=>rfl
 |b::l=>by
  have h1:((b.toNat:Int)).toNat=b.toNat:=sm;have h2:=b.toNat_lt;simp only[B6,Zw,Q5,(Ah8 l),h1];rw[Ad om];simp
def A8i(n:Int):Int:=bits .xor .u64 (IntKind.u64.wrap (IntKind.u64.wrap n*2)) (IntKind.u64.wrap (n.fdiv (2^63)))
def Avu(c:BinOp)(x y:Int):0<=bits c .u64 x y/\bits c .u64 x y<2^64:=by
 unfold bits;simp only[IntKind.wrap_u64];omega
def Al5(n:Int):Nat:=(A8i n).toNat
def Asp(n:Int):Al5 n<2^64:=by have:=Avu .xor (IntKind.u64.wrap (IntKind.u64.wrap n*2)) (IntKind.u64.wrap (n.fdiv (2^63)));unfold Al5 A8i;omega
def Zk:Nd->List UInt8
 | .mk t k n s ks=>Ph t.toNat++UInt8.ofNat k.toNat::(if k=1 then Ph (Al5 n)else if k=2 then Ph s.length++s else Ph ks.length++(ks.map Zk).flatten)
variable {c:Nat}
def Nd.tx:Nd->List UInt8
 | .mk _ _ _ s _ =>s
def c1(x:Nd):Int:=21+x.tx.length+21*x.kids.length
variable {bs:List UInt8}{e:Int}
def pan(c:Int):List PanicEntry:=[{ v:=.iface 235 (.int .i64 c),recovered:=false}]
def T1(c:Int):Qv prog 190 [.i c] [] (λ_ _ =>False) (λd=>d=pan c):=by
 refine Ec func190 λw0 N0 nx=>?_;exact Mr 2 sr (Ay5 rfl rfl sr rfl rfl)
def rd(bs:List UInt8)(c:Nat)(e:Int):V:=.agg [.ro 1 (Ls bs),.i c,.i e]
def Aom(d v:Nat)(bs:List UInt8)(c n:Nat)(e:Int)(h:c+n<=bs.length)(hb:bs.length<=1048576):
  Qv prog 192 [.bp d v 3 0 0,.i n] [(d,⟨v,3,238,[rd bs c e]⟩)] (λr q=>r=.ro 1 (Ls ((bs.drop c).take n))/\q= [(d,⟨v,3,238,[rd bs (c+n) e]⟩)]) (λ_ =>False):=by
 have hl:=Abw bs;have w:Ls ((bs.drop c).take n)=((Ls bs).drop c).take n:=sm;rw[w];unfold rd;generalize Ls bs=m at hl;obtain⟨s1,j,ab⟩:∃s:Int,IntKind.i64.wrap ((m.length:Int)-c)=s/\s=(m.length:Int)-c:=⟨_,rfl,En om om⟩;obtain⟨g,u,f⟩:∃s:Int,IntKind.i64.wrap ((c:Int)+n)=s/\s=((c+n:Nat):Int):=⟨_,rfl,by rw[En om oM];omega⟩;obtain⟨l,z,aa⟩:∃s:Int,IntKind.i64.wrap (g-n)=s/\s=(c:Int):=⟨_,rfl,by rw[En om oM];omega⟩;have y:0<=l/\l<=g/\g<=m.length:=om;have t:l.toNat=c:=om;have x:g.toNat-c=n:=om;refine Ec func192 λw0 N0 nx=>?_;refine Y [0,1] [d] sr (J (Do [(0,[]),(1,[]),(2,[]),(3,[]),(6,[]),(7,[]),(8,[]),(4,[]),(5,[]),(9,[]),(10,[]),(11,[])] [0,1,16] [d] Sj kr (by simp[j]<;>rfl) ?_));refine A0 rfl (λh1=>by simp at h1;omega) (λh1=>Ae (Y [0,1] [d] (by simp[u]<;>rfl) ?_));refine Do [(0,[]),(1,[]),(2,[]),(4,[]),(5,[]),(6,[]),(8,[]),(10,[]),(11,[]),(12,[]),(3,[]),(7,[]),(9,[]),(13,[]),(14,[]),(15,[])] [4] [d] Sj kr (by simp[z,y]<;>rfl) ?_
 refine Ao (Apn sy ?_ (λk o hk=>B5 ?_ hk))
 .simp[results192,t,x]
 .simp[f]
def Ah9(d v:Nat)(bs:List UInt8)(c n:Nat)(e:Int)(h:bs.length<c+n)(o:c<=bs.length)(r:n<=1048576)(hb:bs.length<=1048576):
  Qv prog 192 [.bp d v 3 0 0,.i n] [(d,⟨v,3,238,[rd bs c e]⟩)] (λ_ _ =>False) (λm=>m=pan e):=by
 have u:=Abw bs;unfold rd;generalize Ls bs=j at u;obtain⟨s1,f,l⟩:∃s:Int,IntKind.i64.wrap ((j.length:Int)-c)=s/\s=(j.length:Int)-c:=⟨_,rfl,En om om⟩;refine Ec func192 λw0 N0 nx=>?_;refine Y [0,1] [d] sr (J (Do [(0,[]),(1,[]),(2,[]),(3,[]),(6,[]),(7,[]),(8,[]),(4,[]),(5,[]),(9,[]),(10,[]),(11,[])] [0,1,16] [d] Sj kr (by simp[f]<;>rfl) ?_));refine A0 rfl (λh1=>?_) (λh1=>by simp at h1;omega);exact Mr 4 sr (Ja (T1 e) func190 rfl kr rfl rfl rfl sr (λk q t=>by simp[Eng.get]at t) (λm g=>g))
def rdV(bs:List UInt8)(e:Int):Nat->Nat->Nat->Nat->Except Int (Nat × Nat)
 |0,_,_,_ =>.error 2
 |k+1,i,x,d=>match bs[d]? with
  |none=>.error e
  |some c=>if(i=9/\1<c.toNat)\/(0<i/\c.toNat=0)then .error 2 else
   if c.toNat<128 then .ok (x+c.toNat*128^i,d+1)else rdV bs e k (i+1) (x+c.toNat%128*128^i) (d+1)
def Ayb(x y i:Nat)(m:x<128^i)(hi:i<=9)(hy:y<128)(o:i=9->y<=1):
  bits .or .u64 (x:Int) (IntKind.u64.wrap ((y:Int)*2^min (7*(i:Int)).toNat IntKind.u64.bits))=((x+y*128^i:Nat):Int)/\x+y*128^i<128^(i+1)/\x+y*128^i<2^64:=by
 have l:(7*(i:Int)).toNat=7*i:=om;have g:min (7*i) 64=7*i:=om;have d:(2:Nat)^(7*i)=128^i:=by rw[Nat.pow_mul]
 have k:(2:Int)^(7*i)=((128^i:Nat):Int):=by rw[<- d];simp
 have f:128^i<=2^63:=by rw[<- d];exact Dz om om
 have e:x+y*128^i<128^(i+1):=by
  rw[Ce];have:y*128^i<=127*128^i:=Bz _ om;omega
 have c:x+y*128^i<2^64:=by
  by_cases h:i=9
  .subst h;have:=o rfl;have h1:y*128^9<=1*128^9:=Bz _ this;omega
  .have:128^(i+1)<=128^9:=Dz om om;omega
 refine⟨?_,e,c⟩
 have j:IntKind.u64.wrap ((y:Int)*2^min (7*(i:Int)).toNat IntKind.u64.bits)=((y*128^i:Nat):Int):=by
  rw[l];show IntKind.u64.wrap ((y:Int)*2^min (7*i) 64)=_
  rw[g,k];have:=Ado (n:=y*128^i) om;rw[<- this]
  congr 1
 rw[j,(Abv x (y*128^i) ⟨by omega,by omega⟩).1]
 congr 1
 rw[Wq,Bh y,<- d,<- Hh (by rw[d];exact m)];omega
def Bhd(c:Nat)(h:c<256):bits .and .u8 (c:Int) 127=((c%128:Nat):Int):=by
 have:=(A16 c 127 ⟨h,by decide⟩).2;rw[show(127:Int)=((127:Nat):Int)from rfl,this]
 congr 1
 exact Kj c 7
def Aia(d v:Nat)(bs:List UInt8)(j:Nat)(e:Int)(aa:j<=bs.length)(hb:bs.length<=1048576):
  Qv prog 191 [.bp d v 3 0 0] [(d,⟨v,3,238,[rd bs j e]⟩)] (λr q=>∃x a,rdV bs e 10 0 0 j=.ok (x,a)/\r=.int .u64 x/\q= [(d,⟨v,3,238,[rd bs a e]⟩)]/\a<=bs.length/\x<2^64) (λch=>∃er,rdV bs e 10 0 0 j=.error er/\ch=pan er):=by
 refine Ec func191 λw0 N0 z=>?_;refine Y [0] [d] sr (Y [0,3] [d] sr (Y [0,3,4] [d] sr (Ah ?_)));refine C3 (λp:Nat × Nat × Nat × Nat=>⟨[(0,.bp d v 3 0 0),(3,.int .u64 p.2.1),(4,.i p.1)],[(d,⟨v,3,238,[rd bs p.2.2.1 e]⟩)],p.2.2.2,38⟩) (λp=>p.1<=9/\p.2.1<128^p.1/\p.2.2.1<=bs.length/\z<=p.2.2.2/\rdV bs e (10-p.1) p.1 p.2.1 p.2.2.1=rdV bs e 10 0 0 j) (λp=>10-p.1) (0,0,j,z+1+1+1) ⟨by simp,by simp,aa,by simp only;omega,rfl⟩ Z ?_;rintro⟨i,x,f,nx⟩⟨hi,hx,ad,ak,h⟩;simp only at hi hx ad ak h;obtain⟨m,hm⟩:∃m,10-i=m+1:=⟨9-i,by omega⟩;rw[hm,rdV]at h;refine J (Ah (Bn 1 sr ?_))
 by_cases ah:f<bs.length
 .have ar:bs[f]? =some bs[f]:=Ai ah;rw[ar]at h;simp only at h;have af:(bs.drop f).take 1= [bs[f]]:=by rw[Bt ah];rfl
  have n:=Aom d v bs f 1 e om hb;rw[af]at n;generalize bs[f]=c at h n;have an:c.toNat<256:=c.toNat_lt;refine J0 n func192 rfl kr (by simp[rd,Eng.get]) rfl dc rfl rfl rfl sr (λk o w=>B5 gt w) sr (Aa [0,3,4,5] [d] (by simp[Zw]<;>rfl) ?_);refine J (Y [0,3,4,5,25] [d] sr ?_)
  refine C1 (λh1=>?_) λh1=>?_
  .have aj:(i=9/\1<c.toNat)\/(0<i/\c.toNat=0):=by
    simp only[G6,Bg,decide_eq_true_eq]at h1;omega
   rw[Ad aj]at h;refine Ak (Ja (T1 2) func190 rfl kr rfl rfl rfl sr (λk o w=>by simp[Eng.get]at w) (λch t=>?_));exact⟨2,h.symm,t⟩
  .have u:¬((i=9/\1<c.toNat)\/(0<i/\c.toNat=0)):=by
    simp only[Fh,Bool.and_eq_false_iff,decide_eq_false_iff_not]at h1;omega
   rw[I u]at h;have hand:=Bhd c.toNat an;have ai:IntKind.u64.wrap ((c.toNat%128:Nat):Int)=((c.toNat%128:Nat):Int):=Ado om;have⟨l,au,y⟩:=Ayb x (c.toNat%128) i hx hi om (λh9=>by omega);obtain⟨av,ae⟩:∃av:Int,bits .and .u8 (c.toNat:Int) 127=av:=⟨_,rfl⟩;rw[ae]at hand;rw[<- hand]at ai l;obtain⟨si,ao,ag⟩:∃si:Int,IntKind.i64.wrap (7*(i:Int))=si/\si=7*(i:Int):=⟨_,rfl,En om om⟩;rw[<- ag]at l;have aq:¬si<0:=om;obtain⟨ov,ab⟩:∃ov:Int,bits .or .u64 (x:Int) (IntKind.u64.wrap (av*2^min si.toNat IntKind.u64.bits))=ov:=⟨_,rfl⟩;rw[ab]at l;have al:=J1 (k:=i) om;refine Y [0,3,4,5] [d] (by simp[ae,ai,ao,aq,ab]<;>rfl) (Y [0,3,4,36] [d] sr ?_)
   refine C1 (λh2=>?_) λh2=>?_
   .have g:c.toNat<128:=by simp at h2;omega
    rw[Ad g]at h;rw[Bm g]at l y;refine Y [2] [d] sr ?_;refine Ao ⟨by simp only;omega,.int .u64 ov,[(d,⟨v,3,238,[rd bs (f+1) e]⟩)],by simp[results191],λk o w=>B5 gt w,_,_,h.symm,by rw[l],rfl,by omega,y⟩
   .have g:¬c.toNat<128:=by simp at h2;omega
    rw[I g]at h;have aw:i≠9:=λh9=>by omega
    refine Ba [0,3,4] [d] (by simp[al]<;>rfl) ?_
    refine⟨(i+1,x+c.toNat%128*128^i,f+1,nx+33),⟨by simp only;omega,au,by simp only;omega,by simp only;omega,?_⟩,by simp only;omega,?_⟩
    .simp only;rw[show 10-(i+1)=m by omega];exact h
    .have am:((i+1:Nat):Int)=(i:Int)+1:=om;simp only[l,am];exact Z
 .have s:bs[f]? =none:=Eh om;rw[s]at h;have n:=Ah9 d v bs f 1 e om ad om hb;refine Ja n func192 rfl kr rfl rfl rfl sr (λk o w=>B5 gt w) λch t=>?_;exact⟨e,h.symm,t⟩
def Xo(d v:Nat)(bs:List UInt8)(c x a:Nat)(e:Int)(f:c<=bs.length)(g:bs.length<=1048576)(h:rdV bs e 10 0 0 c=.ok (x,a)):
  Qv prog 191 [.bp d v 3 0 0] [(d,⟨v,3,238,[rd bs c e]⟩)] (λr q=>r=.int .u64 x/\q= [(d,⟨v,3,238,[rd bs a e]⟩)]) (λ_ =>False):=
 (Aia d v bs c e f g).mono (λr q⟨x',a',h1,h2,h3,_,_⟩=>by rw[h]at h1;injection h1 with h1;injection h1 with h4 h5;subst h4 h5;exact⟨h2,h3⟩) (λch⟨er,h1,_⟩=>by rw[h]at h1;cases h1)
def Zl(d v:Nat)(bs:List UInt8)(c:Nat)(e g:Int)(f:c<=bs.length)(k:bs.length<=1048576)(h:rdV bs e 10 0 0 c=.error g):
  Qv prog 191 [.bp d v 3 0 0] [(d,⟨v,3,238,[rd bs c e]⟩)] (λ_ _ =>False) (λj=>j=pan g):=
 (Aia d v bs c e f k).mono (λr q⟨x',a',h1,_⟩=>by rw[h]at h1;cases h1) (λj⟨er',h1,h2⟩=>by rw[h]at h1;cases h1;exact h2)
def Pj:∀ {k i x d y a:Nat},i+k=10->x<128^i->d<=bs.length->rdV bs e k i x d=.ok (y,a)->y<2^64/\a<=bs.length/\d<a
 |0,i,x,d,y,a,_,_,_,h=>by simp[rdV]at h
 |k+1,i,x,d,y,a,hk,o,m,h=>by
  rw[rdV]at h
  split at h
  .cases h
  .rename_i c s;have n:=(Al.1 s).1
   split at h
   .cases h
   .rename_i hg;have r:=c.toNat_lt;have⟨_,h2,l⟩:=Ayb x (c.toNat%128) i o om om (λh9=>by omega)
    split at h
    .rename_i g;rw[Bm g]at l;injection h with h;injection h with f j;subst f j;exact⟨l,by omega,by omega⟩
    .have⟨f,j,h6⟩:=Pj om h2 om h;exact⟨f,j,by omega⟩
def rdC(bs:List UInt8)(e:Int)(c d:Nat):Except Int (Nat × Nat):=
 match rdV bs e 10 0 0 d with
 | .error f=>.error f
 | .ok (x,a)=>if c<x then .error 5 else .ok (x,a)
def Asq(d v:Nat)(bs:List UInt8)(f x a c:Nat)(e:Int)(g:f<=bs.length)(t:bs.length<=1048576)(hm:c<=2000)(h:rdC bs e c f=.ok (x,a)):
  Qv prog 194 [.bp d v 3 0 0,.i c] [(d,⟨v,3,238,[rd bs f e]⟩)] (λr q=>r=.i x/\q= [(d,⟨v,3,238,[rd bs a e]⟩)]) (λ_ =>False):=by
 unfold rdC at h
 split at h
 .cases h
 rename_i y n m
 split at h
 .cases h
 rename_i u;injection h with h;injection h with h1 h2;subst h1 h2;have s:=Xo d v bs f y n e g t m;have Ee:IntKind.u64.wrap (c:Int)=c:=Ado om;have Tn:IntKind.i64.wrap (y:Int)=y:=En om om;have l:¬((c:Int)<y):=om;refine Ec func194 λw0 N0 nx=>?_;refine Y [0,1] [d] sr (Bn 1 sr ?_);refine J0 s func191 rfl kr (by simp[rd,Eng.get]) rfl dc rfl rfl rfl sr (λk o j=>B5 gt j) sr (Aa [1,5] [d] sr ?_);refine J (Y [5,11] [d] (by simp[Ee]<;>rfl) ?_);refine A0 rfl (λh1=>by simp at h1;omega) λh1=>Ae (Y [4] [d] Du ?_)
 refine Ao (Apn sy ?_ (λk o j=>B5 ?_ j))
 .simp[results194]
 .simp
def Al6(d v:Nat)(bs:List UInt8)(f c:Nat)(e r:Int)(g:f<=bs.length)(s:bs.length<=1048576)(hm:c<=2000)(h:rdC bs e c f=.error r):
  Qv prog 194 [.bp d v 3 0 0,.i c] [(d,⟨v,3,238,[rd bs f e]⟩)] (λ_ _ =>False) (λn=>n=pan r):=by
 unfold rdC at h;have Ee:IntKind.u64.wrap (c:Int)=c:=Ado om;refine Ec func194 λw0 N0 nx=>?_;refine Y [0,1] [d] sr (Bn 1 sr ?_)
 split at h
 .rename_i u m;cases h;exact Ja (Zl d v bs f e _ g s m) func191 rfl kr rfl rfl rfl sr (λk o l=>B5 gt l) λn j=>j
 .rename_i y a m;split at h
  case isFalse=>cases h
  rename_i t;cases h;refine J0 (Xo d v bs f y a e g s m) func191 rfl kr (by simp[rd,Eng.get]) rfl dc rfl rfl rfl sr (λk o l=>B5 gt l) sr (Aa [1,5] [d] sr ?_);refine J (Y [5,11] [d] (by simp[Ee]<;>rfl) ?_);refine A0 rfl (λh1=>?_) (λh1=>by simp at h1;omega);exact Ak (Ja (T1 5) func190 rfl kr rfl rfl rfl sr (λk o l=>by simp[Eng.get]at l) (λn j=>j))
def Avv(x:Nat):Int:=bits .xor .i64 (IntKind.i64.wrap ((x:Int).fdiv (2^min 1 IntKind.u64.bits))) (IntKind.i64.wrap (-(IntKind.i64.wrap (bits .and .u64 (x:Int) 1))))
def A19(x:Nat):AE 193 [.int .u64 x] (.i (Avv x)):=by
 refine Aq func193 λw0 N0=>?_;exact Y [0] [] sr (Y [2] [] sr (By sr (by simp[Avv])))
def rdL(f:Nat->Except Int (Nd × Nat)):Nat->Nat->Except Int (List Nd × Nat)
 |0,a=>.ok ([],a)
 |n+1,a=>match f a with
  | .error c=>.error c
  | .ok (x,e)=>match rdL f n e with
   | .error c=>.error c
   | .ok (l,d)=>.ok (x::l,d)
def Yl(bs:List UInt8)(e:Int):Nat->Nat->Except Int (Nd × Nat)
 |0,_ =>.error 5
 |lv+1,h=>match rdV bs e 10 0 0 h with
  | .error d=>.error d
  | .ok (c,g)=>if 9999999<c then .error 3 else match bs[g]? with
   |none=>.error e
   |some k=>if k.toNat=1 then(match rdV bs e 10 0 0 (g+1)with
     | .error d=>.error d
     | .ok (x,f)=>.ok (.mk c 1 (Avv x) [] [],f))
    else if k.toNat=2 then(match rdC bs e 2000 (g+1)with
     | .error d=>.error d
     | .ok (n,f)=>if f+n<=bs.length then .ok (.mk c 2 0 ((bs.drop f).take n) [],f+n)else .error e)
    else if k.toNat=3 then(match rdC bs e 1024 (g+1)with
     | .error d=>.error d
     | .ok (n,f)=>match rdL (Yl bs e lv) n f with
      | .error d=>.error d
      | .ok (l,j)=>.ok (.mk c 3 0 [] l,j))
    else .error 2
def T2{y a:Nat}(f:d<=bs.length)(h:rdC bs e c d=.ok (y,a)):y<=c/\a<=bs.length/\d<a:=by
 unfold rdC at h
 split at h
 .cases h
 .rename_i x a' j
  split at h
  .cases h
  .injection h with h;injection h with h1 h2;subst h1 h2;have⟨_,k,g⟩:=Pj (i:=0) om sm f j;exact⟨by omega,k,g⟩
def Al7{f:Nat->Except Int (Nd × Nat)}(e:∀c x a,c<=bs.length->f c=.ok (x,a)->a<=bs.length):∀ {n c:Nat}{l:List Nd}{a:Nat},c<=bs.length->rdL f n c=.ok (l,a)->a<=bs.length/\l.length=n
 |0,c,l,a,d,h=>by simp only[rdL,Except.ok.injEq,Bx]at h;obtain⟨rfl,rfl⟩:=h;exact⟨d,rfl⟩
 |n+1,c,l,a,d,h=>by
  rw[rdL]at h
  split at h
  .cases h
  .rename_i x a1 j
   split at h
   .cases h
   .rename_i l' a2 m;injection h with h;injection h with h1 h2;subst h1 h2;have⟨k,g⟩:=Al7 e (e _ _ _ d j) m;exact⟨k,by simp[g]⟩
def Adp:∀ {lv c a:Nat}{x:Nd},c<=bs.length->Yl bs e lv c=.ok (x,a)->a<=bs.length
 |0,c,a,x,d,h=>by simp[Yl]at h
 |lv+1,c,a,x,d,h=>by
  rw[Yl]at h
  split at h
  .cases h
  rename_i m z t;have⟨_,j,_⟩:=Pj (i:=0) om sm d t
  split at h
  .cases h
  split at h
  .cases h
  rename_i k u;have o:=(Al.1 u).1
  split at h
  .split at h
   .cases h
   .rename_i y r g;have⟨_,f,_⟩:=Pj (i:=0) om sm om g;injection h with h;injection h with h1 h2;subst h2;exact f
  .split at h
   .split at h
    .cases h
    .split at h
     .injection h with h;injection h with h1 h2;subst h2;assumption
     .cases h
   .split at h
    .split at h
     .cases h
     .rename_i n r w;have⟨_,f,_⟩:=T2 om w
      split at h
      .cases h
      .rename_i l a3 hl;injection h with h;injection h with h1 h2;subst h2;exact(Al7 (λc x a d s=>Adp d s) f hl).1
    .cases h
def Bdv(c:List Nd):Except Int (List Nd × Nat)->Except Int (List Nd × Nat)
 | .error d=>.error d
 | .ok (l,a)=>.ok (c++l,a)
def Ur(l:List Nd):(l.map Nd.v).all V.pureE=true:=Wk l
def A8k(bs:List UInt8)(e:Int)(hb:bs.length<=1048576):∀(lv d v t:Nat),lv<=8->t<=bs.length->
  Qv prog 128 [.bp d v 3 0 0,.i (9-lv:Int)] [(d,⟨v,3,238,[rd bs t e]⟩)] (λr q=>∃x a,Yl bs e lv t=.ok (x,a)/\r=x.v/\q= [(d,⟨v,3,238,[rd bs a e]⟩)]) (λy=>∃s,Yl bs e lv t=.error s/\y=pan s):=by
 intro lv
 induction lv with
 |zero=>
  intro d v t _ _;refine Ec func128 λw0 N0 g=>?_;refine Jp (d+1) [0,1,4] [d,d+1+4] sr (J (Jp (d+1) [0,1,4,8] [d,d+1+4] sr ?_));refine A0 rfl (λh1=>?_) sA;exact Ak (Ja (T1 5) func190 rfl kr rfl rfl rfl sr (λk o c=>by simp[Eng.get]at c) (λy f=>⟨5,rfl,f⟩))
 |succ lv ih=>
 intro d v t bv au;rw[Yl];obtain⟨ak,a0⟩:∃l:Int,(9-((lv+1:Nat):Int))=l:=⟨_,rfl⟩;rw[a0];have bt:¬(8<ak):=om;refine Ec func128 λw0 N0 g=>?_;refine Jp (d+1) [0,1,4] [d,d+1+4] sr (J (Jp (d+1) [0,1,4,8] [d,d+1+4] sr ?_));refine A0 rfl (λh1=>by simp at h1;omega) (λh1=>Ae (J (Ak (W4 (d+1) 1 sr ?_))));cases hv:rdV bs e 10 0 0 t with
 |error s=>exact Ja (Zl d v bs t e s au hb hv) func191 rfl kr rfl rfl rfl sr (λk o c=>B5 gt c) (λy f=>⟨s,rfl,f⟩)
 |ok p=>
 have⟨h,u⟩:=p;have⟨bo,bj,_⟩:=Pj (i:=0) om sm au hv;refine J0 (Xo d v bs t h u e au hb hv) func191 rfl kr (by simp[rd,Eng.get]) rfl dc rfl rfl rfl sr (λk o c=>B5 gt c) sr ?_;refine Tc (d+1) [0,1,4,5] [d,d+1+4] sr ?_;refine J (Jp (d+1) [0,1,4,5,13] [d,d+1+4] sr ?_);simp only
 refine C1 (λh2=>?_) λh2=>?_
 .have a4:9999999<h:=by simp at h2;omega
  rw[Ad a4];refine Ak ?_;exact Ja (T1 3) func190 rfl kr rfl rfl rfl sr (λk o c=>by simp[Eng.get]at c) λy f=>⟨3,rfl,f⟩
 have a9:¬9999999<h:=sO h2
 rw[I a9];have bh:IntKind.i64.wrap (h:Int)=h:=En om om;refine J (Ak (W4 (d+1) 3 Du ?_));by_cases ba:u<bs.length
 case neg=>
  have ao:bs[u]? =none:=Eh om;rw[ao];exact Ja (Ah9 d v bs u 1 e om bj om hb) func192 rfl kr rfl rfl rfl sr (λk o c=>B5 gt c) λy f=>⟨e,rfl,f⟩
 have bl:bs[u]? =some bs[u]:=Ai ba;rw[bl];have a8:(bs.drop u).take 1= [bs[u]]:=by rw[Bt ba];rfl
 have az:=Aom d v bs u 1 e om hb;rw[a8]at az;generalize bs[u]=k at az;have bu:k.toNat<256:=k.toNat_lt;have bn:IntKind.i64.wrap (k.toNat:Int)=k.toNat:=En om om;refine J0 az func192 rfl kr (by simp[rd,Eng.get]) rfl dc rfl rfl rfl sr (λk o c=>B5 gt c) sr ?_;refine Tc (d+1) [0,1,4,6] [d,d+1+4,d+1+6] (by simp[Zw,bn]<;>rfl) ?_;refine J (Jp (d+1) [0,1,4,6,24] [d,d+1+4,d+1+6] sr ?_);refine Ah (Jp (d+1) [0,1,4,6,24,26] [d,d+1+4,d+1+6] sr ?_);simp only
 refine Au (λh3=>?_) λh3=>?_
 .have al:k.toNat=1:=by simp at h3;omega
  rw[Ad al];refine Ak (W4 (d+1) 1 sr ?_);cases hv2:rdV bs e 10 0 0 (u+1)with
  |error s=>exact Ja (Zl d v bs (u+1) e s om hb hv2) func191 rfl kr rfl rfl rfl sr (λk o c=>B5 gt c) (λy f=>⟨s,rfl,f⟩)
  |ok p=>
  have⟨x,w⟩:=p;refine J0 (Xo d v bs (u+1) x w e om hb hv2) func191 rfl kr (by simp[rd,Eng.get]) rfl dc rfl rfl rfl sr (λk o c=>B5 gt c) sr ?_;refine Ac (A19 x) func193 ?_;refine Tc (d+1) [4,6] [d,d+1+4,d+1+6] sr ?_;refine Ni (d+1+6) 4 (d+1+100) 5 94 [4,6] [d,d+1+4,d+1+6,d+1+100] sr ?_;refine Bw (d+1+100) [4,6] [d,d+1+4,d+1+6] sr ?_;refine Jp (d+1) [4] [d,d+1+4] sr ?_;refine Ao ⟨by simp only;omega,(Nd.mk h 1 (Avv x) [] []).v,[(d,⟨v,3,238,[rd bs w e]⟩)],by simp[results128,Nd.v,al],λk o c=>B5 (by simp[Eng.get,rd]) c,_,_,rfl,rfl,rfl⟩
 .have al:¬k.toNat=1:=by simp at h3;omega
  rw[I al];refine Jp (d+1) [0,1,4,6,24,32] [d,d+1+4,d+1+6] sr ?_
  refine Au (λh4=>?_) λh4=>?_
  .have am:k.toNat=2:=by simp at h4;omega
   rw[Ad am];refine Ak (W4 (d+1) 2 sr ?_);cases hv2:rdC bs e 2000 (u+1)with
   |error s=>exact Ja (Al6 d v bs (u+1) 2000 e s om hb om hv2) func194 rfl kr rfl rfl rfl sr (λk o c=>B5 gt c) (λy f=>⟨s,rfl,f⟩)
   |ok p=>
   have⟨n,w⟩:=p;have⟨hn,ay,_⟩:=T2 om hv2;refine J0 (Asq d v bs (u+1) n w 2000 e om hb om hv2) func194 rfl kr (by simp[rd,Eng.get]) rfl dc rfl rfl rfl sr (λk o c=>B5 gt c) sr ?_;simp only;by_cases ab:w+n<=bs.length
   case neg=>
    rw[I ab];exact Ja (Ah9 d v bs w n e om ay om hb) func192 rfl kr rfl rfl rfl sr (λk o c=>B5 gt c) λy f=>⟨e,rfl,f⟩
   rw[Ad ab];have ah:=Aom d v bs w n e ab hb;have ar:=Ah8 ((bs.drop w).take n);have bc:=Mv ((bs.drop w).take n);generalize(bs.drop w).take n=sb at ah ar bc;generalize Ls sb=bw at ah ar bc;refine J0 ah func192 rfl kr (by simp[rd,Eng.get]) rfl dc rfl rfl rfl sr (λk o c=>B5 gt c) sr ?_;refine Tc (d+1) [4,6] [d,d+1+4,d+1+6] (by simp[ar]<;>rfl) ?_;refine Ni (d+1+6) 4 (d+1+100) 5 94 [4,6] [d,d+1+4,d+1+6,d+1+100] sr ?_;refine Bw (d+1+100) [4,6] [d,d+1+4,d+1+6] sr ?_;refine Jp (d+1) [4] [d,d+1+4] sr ?_;refine Ao ⟨by simp only;omega,(Nd.mk h 2 0 sb []).v,[(d,⟨v,3,238,[rd bs (w+n) e]⟩)],by simp[results128,Nd.v,am],λk o c=>B5 (by simp[Eng.get,rd]) c,_,_,rfl,rfl,rfl⟩
  .have am:¬k.toNat=2:=by simp at h4;omega
   rw[I am];refine Jp (d+1) [0,1,4,6,40] [d,d+1+4,d+1+6] sr ?_;refine Au (λh5=>?_) λh5=>?_
   case refine_2=>
    have aj:¬k.toNat=3:=sO h5
    rw[I aj];refine Ak ?_;exact Ja (T1 2) func190 rfl kr rfl rfl rfl sr (λk o c=>by simp[Eng.get]at c) λy f=>⟨2,rfl,f⟩
   have aj:k.toNat=3:=sO h5
   rw[Ad aj];refine J (Ak (W4 (d+1) 1 sr ?_));cases hv2:rdC bs e 1024 (u+1)with
   |error s=>exact Ja (Al6 d v bs (u+1) 1024 e s om hb om hv2) func194 rfl kr rfl rfl rfl sr (λk o c=>B5 gt c) (λy f=>⟨s,rfl,f⟩)
   |ok p=>
   have⟨n,w⟩:=p;have⟨hn,ay,_⟩:=T2 om hv2;refine J0 (Asq d v bs (u+1) n w 1024 e om hb om hv2) func194 rfl kr (by simp[rd,Eng.get]) rfl dc rfl rfl rfl sr (λk o c=>B5 gt c) sr ?_;refine Tc (d+1) [0,1,4,6,43,44] [d,d+1+4,d+1+6] sr ?_;refine Ni (d+1+6) 4 (d+1+100) 5 94 [0,1,4,6,43,44] [d,d+1+4,d+1+6,d+1+100] sr ?_;refine Ah ?_
   refine C3 (λp:Nat × List Nd × Nat × Nat × Nat=>⟨[(0,.bp d v 3 0 0),(1,.i ak),(4,.bp (d+1+4) g 5 0 0),(6,.bp (d+1+6) (g+1+2+3+2+8) 5 0 0),(43,.i n),(44,.i p.1)],
    [(d,⟨v,3,238,[rd bs p.2.2.1 e]⟩),(d+1+4,⟨g,5,94,[.agg [.i 0,.i 0,.i 0,.str [],.nils]]⟩),(d+1+6,⟨g+1+2+3+2+8,5,94,[.agg [.i h,.i k.toNat,.i 0,.str [],.sl (d+1+100) p.2.2.2.1 5 (p.2.1.map Nd.v).length]]⟩),(d+1+100,⟨p.2.2.2.1,5,94,p.2.1.map Nd.v⟩)],p.2.2.2.2,57⟩)
    (λp=>p.1<=n/\p.2.1.length=p.1/\p.2.2.1<=bs.length/\g<=p.2.2.2.2/\Bdv p.2.1 (rdL (Yl bs e lv) (n-p.1) p.2.2.1)=rdL (Yl bs e lv) n w) (λp=>n-p.1) (0,[],w,_,_) ⟨Cg _,rfl,ay,?_,?_⟩ (by simp;exact Z) ?_
   .simp only;omega
   .simp only[Hp];cases rdL (Yl bs e lv) n w with
    |error s=>rfl
    |ok p=>rfl
   rintro⟨i,z,af,vr,nx⟩⟨hi,ae,ai,bd,hR⟩;simp only at hi ae ai bd hR;have aa:=Ur z;have ad:(z.map Nd.v).length=i:=sG ae
   generalize ax:z.map Nd.v=av at aa ad;refine Jp (d+1) [0,1,4,6,43,44,45] [d,d+1+4,d+1+6,d+1+100] sr ?_;refine J ?_
   refine Cu (λh6=>?_) λh6=>?_
   .have bb:i<n:=by simp at h6;omega
    obtain⟨m,hm⟩:∃m,n-i=m+1:=⟨n-i-1,by omega⟩;rw[hm,rdL]at hR;have a6:IntKind.i64.wrap (ak+1)=9-(lv:Int):=by rw[En om oM];omega
    have bg:=J1 (k:=i) om;have ag:=ih d v af om ai;have a5:i+1<=maxLen:=by simp[maxLen];omega
    have a7:(i+1)*64<=140737488355328:=om;cases hx:Yl bs e lv af with
    |error s=>
     rw[hx]at hR
     have hp:Qv prog 128 [.bp d v 3 0 0,.i (9-lv:Int)] [(d,⟨v,3,238,[rd bs af e]⟩)] (λ_ _ =>False) (λy=>y=pan s):=
      ag.mono (λr q⟨x',a',h1,_⟩=>by rw[hx]at h1;cases h1) (λy⟨er',h1,h2⟩=>by rw[hx]at h1;cases h1;exact h2)
     have an:rdL (Yl bs e lv) n w=.error s:=hR.symm;refine J (Ah (Ach (d+1) [5] Sj ?_));refine F6 [(0,[]),(2,[]),(3,[]),(4,[])] kr (by simp[a6]<;>rfl) ?_
     refine A3j [1,5] kr λj hj=>?_;simp only[B8,Dw,or_false]at hj
     rcases hj with rfl|rfl
     .refine .inl ⟨_,_,rfl,O2 sr,?_⟩;refine Bfh (i:=5) kr rfl ?_;exact Akg hp func128 rfl kr rfl rfl rfl sr (λk o c=>B5 gt c) (objs:=[]) (λk q c=>by simp[Eng.get]at c) (λy f=>⟨s,by simp only[an],f⟩)
     .refine .inr ⟨_,rfl,?_⟩;exact Akg hp func128 rfl kr rfl rfl rfl sr (λk o c=>B5 gt c) (objs:=[]) (λk q c=>by simp[Eng.get]at c) (λy f=>⟨s,by simp only[an],f⟩)
    |ok p=>
    have⟨x,a3⟩:=p;rw[hx]at hR;simp only at hR;have bm:=Adp ai hx
    have hp:Qv prog 128 [.bp d v 3 0 0,.i (9-lv:Int)] [(d,⟨v,3,238,[rd bs af e]⟩)] (λr q=>r=x.v/\q= [(d,⟨v,3,238,[rd bs a3 e]⟩)]) (λ_ =>False):=
     ag.mono (λr q⟨x',a',h1,h2,h3⟩=>by rw[hx]at h1;injection h1 with h1;injection h1 with h4 h5;subst h4 h5;exact⟨h2,h3⟩) (λy⟨er',h1,_⟩=>by rw[hx]at h1;cases h1)
    have bx:=x.v_pure
    have bf:Bdv (z++[x]) (rdL (Yl bs e lv) m a3)=rdL (Yl bs e lv) n w:=by
     rw[<- hR];cases rdL (Yl bs e lv) m a3 with
     |error s=>rfl
     |ok p=>simp[Bdv]
    rcases hxx:x with⟨xt,xk,xn,xs,aq⟩;have aw:x.v=.agg [.i xt,.i xk,.i xn,.str xs,.ro 5 (aq.map Nd.v)]:=by rw[hxx,Nd.v]
    rw[aw]at hp;have be:=Ur aq;generalize bq:aq.map Nd.v=bk at hp be aw
    refine Awi ⟨[(0,.bp d v 3 0 0),(1,.i ak),(4,.bp (d+1+4) g 5 0 0),(6,.bp (d+1+6) (g+1+2+3+2+8) 5 0 0),(43,.i n),(44,.i i)],
     [(d,⟨v,3,238,[rd bs a3 e]⟩),(d+1+4,⟨g,5,94,[.agg [.i 0,.i 0,.i 0,.str [],.nils]]⟩),(d+1+6,⟨g+1+2+3+2+8,5,94,[.agg [.i h,.i k.toNat,.i 0,.str [],.sl (d+1+100) (nx+1+7) 5 (av.length+1)]]⟩),(d+1+100,⟨nx+1+7,5,94,av++[.agg [.i xt,.i xk,.i xn,.str xs,.ro 5 bk]]⟩)],nx+1+10,57⟩ (Ah (Ach (d+1) [5] Sj ?_)) ?_
    .refine F6 [(0,[]),(2,[]),(3,[]),(4,[])] kr (by simp[a6]<;>rfl) ?_
     refine Pm [1,5] kr λj hj=>?_;simp only[B8,Dw,or_false]at hj
     rcases hj with rfl|rfl
     .refine⟨_,_,rfl,O2 sr,?_⟩;refine Pm [5] kr λj hj=>?_;simp only[B8,Dw,or_false]at hj;subst hj;refine⟨_,_,rfl,Af8 dc hp (by simp[rd,Eng.get]) sm func128 rfl kr rfl rfl rfl sr (λk o c=>B5 gt c) sr,?_⟩;refine F6 [(6,[]),(7,[]),(8,[]),(9,[])] kr (by simp[ad,a5,a7]<;>rfl) ?_
      exact H4 [0,1,4,6,43,44] [d,d+1+4,d+1+6,d+1+100] kr sr (by show _ =_;simp[ad])
     .refine⟨_,_,rfl,Af8 dc hp (by simp[rd,Eng.get]) sm func128 rfl kr rfl rfl rfl sr (λk o c=>B5 gt c) sr,?_⟩;refine F6 [(1,[52]),(6,[]),(7,[]),(8,[]),(9,[])] kr (by simp[ad,a5,a7]<;>rfl) ?_
      exact H4 [0,1,4,6,43,44] [d,d+1+4,d+1+6,d+1+100] kr sr (by show _ =_;simp[ad])
    refine Amn (d+1) [0,1,4,6,43,44] [d,d+1+4,d+1+6,d+1+100] (by simp[bg]<;>rfl) ?_
    refine⟨(i+1,z++[x],a3,nx+1+7,nx+1+10+2),⟨by simp only;omega,by simp[ae],bm,by simp only;omega,?_⟩,by simp only;omega,?_⟩
    .simp only;rw[show n-(i+1)=m by omega];exact bf
    .have bi:((i+1:Nat):Int)=(i:Int)+1:=om;have br:av.length+1=((z++[x]).map Nd.v).length:=by simp[<- ax]
     simp only[bi,C0,ax,B6,C6,aw,A1,A3,Bo];exact Z
   .have bb:i=n:=by simp at h6;omega
    subst bb;rw[F5,rdL]at hR;simp only[Bdv,Ex]at hR;refine A6 ?_;refine Bw (d+1+100) [4,6] [d,d+1+4,d+1+6] (by simp[aa]<;>rfl) ?_;refine Jp (d+1) [4] [d,d+1+4] sr ?_;refine Ao ⟨by simp only;omega,(Nd.mk h 3 0 [] z).v,[(d,⟨v,3,238,[rd bs af e]⟩)],by simp[results128,Nd.v,aj,ax],λk o c=>B5 (by simp[Eng.get,rd]) c,_,_,by simp only[<- hR],rfl,rfl⟩
variable {P:Program}{args:List V}{f:FuncId}
abbrev Bhe:List V:=[.bp 2 0 5 0 0,.bp 3 1 1 0 0,.bp 4 2 1 0 0]
abbrev Aic(x y z:V):List (Nat × Ob):=[(2,⟨0,5,94,[x]⟩),(3,⟨1,1,3,[y]⟩),(4,⟨2,1,56,[z]⟩)]
def Bdw(x y z:V):ACD prog 127 Bhe (Aic x y z) .returning .returning (λc=>c=Aic x y z):=by
 refine Ad4 (u:=.returning) (v:=.nili) func127 rfl (by show(3:Nat)<=13;omega) rfl rfl rfl (by show(6:Nat)<13;omega) (λw N=>.nili) (λw0 N0 nx=>?_) rfl;refine Aa [0,1,2,3,4] [2,3,4] sr (Y [0,1,2,3,10] [2,3,4] sr ?_);refine A0 rfl sA λh1=>Ae ?_;exact⟨by simp only;omega,Aic x y z,λk o d=>by simpa using d,rfl⟩
def Bdx(x:List V)(y z:Int)(c:Int)(e:x.length=5):ACD prog 127 Bhe (Aic (.agg x) (.int .i64 y) (.int .i64 z)) (.panicking (pan c)) (.panicking [{ v:=.iface 235 (.int .i64 c),recovered:=true}])
  (λd=>d=Aic (.agg [.int .i64 0,.int .i64 0,.int .i64 0,.str [],.nils]) (.int .i64 0) (.int .i64 c)):=by
 have f:x.drop 5= []:=I0 om;refine Ad4 (u:=.panicking (pan c)) (v:=.ifc 235 (.int .i64 c)) func127 rfl (by show(3:Nat)<=13;omega) rfl rfl rfl (by show(6:Nat)<13;omega) (λw N=>.ifc _ _ _ rfl (.int _ _)) (λw0 N0 nx=>?_) rfl;refine Aa [0,1,2,3,4] [2,3,4] sr (Y [0,1,2,3,10] [2,3,4] sr ?_);refine A0 rfl (λh1=>?_) sA;refine Ba [0,1,2] [2,3,4] Du ?_;exact⟨by simp only;omega,_,λk o g=>by simpa[e,f]using g,rfl⟩
def Bdy(bs:List UInt8):V:=match Yl bs 4 8 0 with
 | .ok (x,a)=>.tup [x.v,.i a,.i 0]
 | .error c=>.tup [(Nd.mk 0 0 0 [] []).v,.i 0,.i c]
def AC.relaxP{v':V}(h:AC P f args (λr=>Bj r v')):AC P f args (λr=>r=v'):=
 λw N xs h1 h2 c=>(h w N xs h1 h2 c).mono λ_ _⟨x,_,he,hR,hp,hb⟩=>⟨x,v',he,rfl,hR.1 _ _ _ hp,hb⟩
def Bj6{x y z f h g:V}:∀k,Eng.get (Aic x y z) k=none->Eng.get (Aic f h g) k=none:=by
 intro k c
 by_cases h2:2=k
 .subst h2;simp[Eng.get]at c
 by_cases e:3=k
 .subst e;simp[Eng.get]at c
 by_cases d:4=k
 .subst d;simp[Eng.get]at c
 simp[Eng.get,h2,e,d]
def A2a(bs:List UInt8)(hb:bs.length<=1048576):AE 73 [.ro 1 (Ls bs)] (Bdy bs):=by
 have hl:=Abw bs;have c:=A8k bs 4 hb 8 5 7 0 om (Cg _);have aa:¬(1048576<(Ls bs).length):=om;refine AC.relaxP ?_
 refine Apm (S1:=⟨[(0,.ro 1 (Ls bs)),(2,.bp 2 0 5 0 0),(3,.bp 3 1 1 0 0),(4,.bp 4 2 1 0 0)],Aic (.agg [.i 0,.i 0,.i 0,.str [],.nils]) (.i 0) (.i 0),3,19⟩) (cvs:=Bhe) func73 rfl (by show(1:Nat)<=19;omega) func127 rfl kr rfl rfl rfl rfl rfl rfl (λw0 N0=>?_) sr rfl (by show(6:Nat)<19;omega) (λw0 N0=>?_) rfl
 .exact Ba [0,2,3,4] [2,3,4] sr ⟨rfl,rfl⟩
 refine Y [0,2,3,4,5] [2,3,4,5] sr (J (A9 [11] sr ?_));refine A0 rfl (λh1=>by simp at h1;omega) (λh1=>Ae (J (Ak ?_)));unfold Bdy;cases hx:Yl bs 4 8 0 with
 |error u=>
  have hp:Qv prog 128 [.bp 5 7 3 0 0,.i 1] [(5,⟨7,3,238,[rd bs 0 4]⟩)] (λ_ _ =>False) (λt=>t=pan u):=
   c.mono (λr q⟨x',a',h1,_⟩=>by rw[hx]at h1;cases h1) (λt⟨er',h1,h2⟩=>by rw[hx]at h1;cases h1;exact h2)
  refine Ja hp func128 rfl kr rfl rfl rfl sr (λk o d=>B5 (by simp[Eng.get,rd]) d) λt w=>?_;subst w
  refine⟨.panicking (pan u),_,Aic (.agg [.i 0,.i 0,.i 0,.str [],.nils]) (.i 0) (.i 0),_,rfl,λk o d=>by simpa[J4]using d,Bdx [.i 0,.i 0,.i 0,.str [],.nils] 0 0 u rfl,rfl,λl nx h=>⟨λk d=>?_,?_⟩⟩
  .subst h;exact Bj6 k d
  .subst h;refine⟨_,by simp[results73]<;>rfl,?_⟩;simp only[Nd.v,C6];exact Bj.tup (.cons (Bj.agg (.cons (.refl _) (.cons (.refl _) (.cons (.refl _) (.cons (.refl _) (.cons (.nils 5) .nil)))))) (.refl _))
 |ok p=>
  have⟨x,a⟩:=p
  have hp:Qv prog 128 [.bp 5 7 3 0 0,.i 1] [(5,⟨7,3,238,[rd bs 0 4]⟩)] (λr q=>r=x.v/\q= [(5,⟨7,3,238,[rd bs a 4]⟩)]) (λ_ =>False):=
   c.mono (λr q⟨x',a',h1,h2,h3⟩=>by rw[hx]at h1;injection h1 with h1;injection h1 with h4 h5;subst h4 h5;exact⟨h2,h3⟩) (λt⟨er',h1,_⟩=>by rw[hx]at h1;cases h1)
  rcases hxx:x with⟨xt,s,n,xs,e⟩;have f:x.v=.agg [.i xt,.i s,.i n,.str xs,.ro 5 (e.map Nd.v)]:=by rw[hxx,Nd.v]
  rw[f]at hp;have g:=Ur e;generalize z:e.map Nd.v=m at hp g f;refine J0 hp func128 rfl kr (by simp[rd,Eng.get]) sM (by show(0:Nat)<2;omega) rfl rfl rfl sr (λk o d=>B5 (by simp[Eng.get,rd]) d) sr ?_;refine Aa [2,3,4,5] [2,3,4,5] sr ?_
  refine Awi ⟨[(2,.bp 2 0 5 0 0),(3,.bp 3 1 1 0 0),(4,.bp 4 2 1 0 0)],Aic (.agg [.i xt,.i s,.i n,.str xs,.ro 5 m]) (.i a) (.i 0),20,19⟩ (Ir [] Sj ?_) ?_
  .refine F6 [(1,[]),(0,[])] kr (by simp[rd]<;>rfl) ?_
   refine Pm [2,3] kr λj y=>?_;simp only[B8,Dw,or_false]at y
   rcases y with rfl|rfl
   .refine⟨_,_,rfl,O2 sr,?_⟩;refine F6 [(3,[]),(4,[]),(5,[])] kr sr ?_
    exact H4 [2,3,4] [2,3,4] kr sr rfl
   .refine⟨_,_,rfl,O2 sr,?_⟩;refine F6 [(2,[]),(4,[]),(5,[])] kr sr ?_
    exact H4 [2,3,4] [2,3,4] kr sr rfl
  refine Ao ⟨.returning,_,Aic (.agg [.i xt,.i s,.i n,.str xs,.ro 5 m]) (.i a) (.i 0),_,rfl,λk o d=>by simpa using d,Bdw _ _ _,rfl,λl nx h=>⟨λk d=>?_,?_⟩⟩
  .subst h;exact d
  .subst h;refine⟨_,by simp[results73]<;>rfl,?_⟩;show Bj _ (.tup [(Nd.mk xt s n xs e).v,.i a,.i 0])
   rw[<- hxx,f];exact .refl _
open Go.Extern.Stop Go.Stop Go.Extern
def Bhf(t:Value)(w:World):Calls prog 42 #[.nilIface,t] w λe w'=>e=.returned (.bool false)/\w'=w:=by
 go_enter func42,ntmps42
 go_wp2
 go_ret
 exact⟨rfl,rfl⟩
def A2b(t:Addr)(w:World):(ReflectliteValue.unpack (.iface 131 (.pointer (some t)))).run prog w
  =.ok (.agg #[.pointer (some ⟨4,131,none⟩),.pointer (some ⟨w.heap.size,0,none⟩),.int .u64 150]) (w.alloc (.cells #[.pointer (some t)] 131)):=by kernel_rfl
def Bhg(a:Addr)(w:World):(ReflectliteValue.methodAny (ReflectliteValue.valueError "reflectlite.Value.Type" 0) (λt _ _ _ =>ReflectliteType.toType t) #[.agg #[.pointer (some ⟨4,131,none⟩),.pointer (some a),.int .u64 150]]).run prog w
  =.ok (.iface 241 (.agg #[.pointer (some ⟨4,131,none⟩)])) w:=by kernel_rfl
def Avw(h:Value)(w:World):(Go.method 621 241 (.agg #[h]) "Kind").run prog w=.ok (386,h) w:=by kernel_rfl
def Bhh(w:World):((ReflectliteType.abiMethod λt=>(λa:Nat=>Value.int IntKind.u8 (a:Int))<$>Rtype.kind t) #[.pointer (some ⟨4,131,none⟩)]).run prog w=.ok (.int .u8 22) w:=by kernel_rfl
def Bhi(w:World):((ReflectliteType.abiMethod λt=>(λa:Nat=>Value.int IntKind.u8 (a:Int))<$>Rtype.kind t) #[.pointer (some ⟨4,129,none⟩)]).run prog w=.ok (.int .u8 25) w:=by kernel_rfl
def rlm(z:Sem Value)(f:TypeId->Addr->Nat->Nat->Sem Value)(v:Value):
  ReflectliteValue.method z f #[v]=(do match <- ReflectliteValue.parts v with|none=>z|some (t,a,fl)=>f t a fl (fl%32)):=rfl
def Ayc(a:Addr)(w:World):(ReflectliteValue.parts (.agg #[.pointer (some ⟨4,131,none⟩),.pointer (some a),.int .u64 150])).run prog w=.ok (some (131,a,150)) w:=by kernel_rfl
def Bdz(a p:Addr)(W:World)(c:W.cell? a=some (.pointer (some p))):
  (ReflectliteValue.method (ReflectliteValue.valueError "reflectlite.Value.IsNil" 0) ReflectliteValue.isNil #[.agg #[.pointer (some ⟨4,131,none⟩),.pointer (some a),.int .u64 150]]).run prog W=.ok (.bool false) W:=by
 rw[rlm];simp only[Sem.run_bind,Ayc,Result.andThen];simp[ReflectliteValue.isNil,loadVar,isAgg,underlying,underlying131,c,Result.andThen]
def Avx(h:Value)(w:World):(Go.method 621 241 (.agg #[h]) "Elem").run prog w=.ok (396,.agg #[h]) w:=by kernel_rfl
def Adq(h:Value)(w:World):(Go.method 621 241 (.agg #[h]) "Implements").run prog w=.ok (397,.agg #[h]) w:=by kernel_rfl
def Zm(h:Value)(w:World):(Go.method 621 241 (.agg #[h]) "AssignableTo").run prog w=.ok (394,.agg #[h]) w:=by kernel_rfl
def Bhj(w:World):(ReflectliteType.method ReflectliteType.elem #[.agg #[.pointer (some ⟨4,131,none⟩)]]).run prog w=.ok (.iface 241 (.agg #[.pointer (some ⟨4,129,none⟩)])) w:=by kernel_rfl
def Aon(w:World):(ReflectliteType.relation "Implements" ReflectliteType.implements_ #[.agg #[.pointer (some ⟨4,129,none⟩)],.iface 241 (.agg #[.pointer (some ⟨4,125,none⟩)])]).run prog w=.ok (.bool true) w:=by kernel_rfl
def A8l(v:Value)(w:World):(ReflectliteType.typeOf #[.iface 129 v]).run prog w=.ok (.iface 241 (.agg #[.pointer (some ⟨4,129,none⟩)])) w:=by kernel_rfl
def Aoo(w:World):(ReflectliteType.relation "AssignableTo" ReflectliteType.assignableTo #[.agg #[.pointer (some ⟨4,129,none⟩)],.iface 241 (.agg #[.pointer (some ⟨4,129,none⟩)])]).run prog w=.ok (.bool true) w:=by kernel_rfl
def A2c(k:Value)(w:World):(ReflectliteValue.unpack (.iface 129 (.agg #[k]))).run prog w
  =.ok (.agg #[.pointer (some ⟨4,129,none⟩),.pointer (some ⟨w.heap.size,0,none⟩),.int .u64 153]) (w.alloc (.cells #[k] 129)):=by kernel_rfl
def A8m(w:World):(Rtype.elem? 131).run prog w=.ok (some 129) w:=by kernel_rfl
def Bj7(p:Addr)(w:World):(ReflectliteValue.mk 129 p ReflectliteValue.flagAddr).run prog w=.ok (.agg #[.pointer (some ⟨4,129,none⟩),.pointer (some p),.int .u64 409]) w:=by kernel_rfl
def Bd0(a p:Addr)(W:World)(c:W.cell? a=some (.pointer (some p))):
  (ReflectliteValue.method (ReflectliteValue.valueError "reflectlite.Value.Elem" 0) ReflectliteValue.elem #[.agg #[.pointer (some ⟨4,131,none⟩),.pointer (some a),.int .u64 150]]).run prog W
   =.ok (.agg #[.pointer (some ⟨4,129,none⟩),.pointer (some p),.int .u64 409]) W:=by
 rw[rlm];simp only[Sem.run_bind,Ayc,Result.andThen];simp[ReflectliteValue.elem,loadVar,isAgg,underlying,underlying131,c,Result.andThen,A8m,Bj7]
def rls(v x:Value):ReflectliteValue.set #[v,x]=(do
  let(some (dst,a,fl),some (src,b,_)):=(<- ReflectliteValue.parts v,<- ReflectliteValue.parts x)
   |unsupported (.noEntry "extern/(internal/reflectlite.Value).Set.zeroValue")
  if fl/ReflectliteValue.flagAddr%2==0 then unsupported (.noEntry "extern/(internal/reflectlite.Value).Set.unaddressable")
  let val <- loadVar src b
  if <- Rtype.directlyAssignable dst src then storeVar dst a val
  else if <- Rtype.implements dst src then
   if(<- Rtype.kind src)==20 then
    match val with
    | .nilIface=>unsupported (.noEntry "extern/reflectlite: a nil value of one interface type handed on as a value of another")
    |_ =>storeVar dst a val
   else storeVar dst a (.iface src val)
  else panicString ("reflectlite.Set: value of type " ++(<- Rtype.spelt src)++ " is not assignable to type " ++(<- Rtype.spelt dst))
  pure (.tuple #[])):=rfl
def A8n(a:Addr)(w:World):(ReflectliteValue.parts (.agg #[.pointer (some ⟨4,129,none⟩),.pointer (some a),.int .u64 409])).run prog w=.ok (some (129,a,409)) w:=by kernel_rfl
def Bd1(a:Addr)(w:World):(ReflectliteValue.parts (.agg #[.pointer (some ⟨4,129,none⟩),.pointer (some a),.int .u64 153])).run prog w=.ok (some (129,a,153)) w:=by kernel_rfl
def A8o(w:World):(Rtype.directlyAssignable 129 129).run prog w=.ok true w:=by kernel_rfl
def Bhk(w:World):(sizeOf 129).run prog w=.ok 1 w:=by kernel_rfl
def Bhl(b:Addr)(e:Value)(W:World)(c:W.cell? b=some e):(loadVar 129 b).run prog W=.ok (.agg #[e]) W:=by
 simp[loadVar,isAgg,underlying,underlying129,Result.andThen,loadCells,loadCellsFrom,Addr.add,c]
def Ayd(c:Addr)(k:Int)(d:Value)(W:World)(f:W.cell? c=some d)(e:W.frozen? c=false):(storeVar 129 c (.agg #[.int .i64 k])).run prog W=.ok () (W.setCell c (.int .i64 k)):=by
 simp only[storeVar,Value.cells,Sem.run_bind,Bhk,Result.andThen];simp[storeCells,Addr.add];rw[run_store prog W c _ _ (by rfl)];simp[f,e]
def Bja(c b:Addr)(k:Int)(d:Value)(W:World)(g:W.cell? b=some (.int .i64 k))(f:W.cell? c=some d)(e:W.frozen? c=false):
  (ReflectliteValue.set #[.agg #[.pointer (some ⟨4,129,none⟩),.pointer (some c),.int .u64 409],.agg #[.pointer (some ⟨4,129,none⟩),.pointer (some b),.int .u64 153]]).run prog W
   =.ok (.tuple #[]) (W.setCell c (.int .i64 k)):=by
 rw[rls];simp only[Sem.run_bind,A8n,Bd1,Result.andThen];simp[ReflectliteValue.flagAddr,Bhl b (.int .i64 k) W g,Result.andThen,A8o,Ayd c k d W f e]
def Bhm(k:Int)(t:Addr)(e:Value)(w:World)(j:w.cell? ⟨0,0,none⟩=some (.iface 241 (.agg #[.pointer (some ⟨4,125,none⟩)])))(c:w.cell? t=some e)(f:w.frozen? t=false):
  Calls prog 42 #[.iface 129 (.agg #[.int .i64 k]),.iface 131 (.pointer (some t))] w λev w'=>ev=.returned (.bool true)/\w'=((((w.alloc (.cells #[.pointer (some t)] 131)).alloc (.cells #[.pointer (some ⟨4,131,none⟩),.pointer (some ⟨w.heap.size,0,none⟩),.int .u64 150] 171)).alloc (.cells #[.pointer (some ⟨4,131,none⟩),.pointer (some ⟨w.heap.size,0,none⟩),.int .u64 150] 171)).alloc (.cells #[.int .i64 k] 129)).setCell t (.int .i64 k):=by
 have h6:= @run_callFunc_extern prog 74 _ (λargs=>ReflectliteValue.unpack (args.getD 0 (.tuple #[]))) func74 kr kr kr kr;have h7:= @run_callFunc_extern prog 75 _ (ReflectliteValue.methodAny (ReflectliteValue.valueError "reflectlite.Value.Type" 0) (λt _ _ _ =>ReflectliteType.toType t)) func75 kr kr kr kr;have h8:= @run_callFunc_extern prog 76 _ (ReflectliteValue.method (ReflectliteValue.valueError "reflectlite.Value.IsNil" 0) ReflectliteValue.isNil) func76 kr kr kr kr;have y:= @run_callFunc_extern prog 386 _ (ReflectliteType.abiMethod λt=>do pure (.int .u8 (<- Rtype.kind t))) func386 kr kr kr kr;have s:= @run_callFunc_extern prog 396 _ (ReflectliteType.method ReflectliteType.elem) func396 kr kr kr kr;have m:= @run_callFunc_extern prog 397 _ (ReflectliteType.relation "Implements" ReflectliteType.implements_) func397 kr kr kr kr;have ae:= @run_callFunc_extern prog 129 _ ReflectliteType.typeOf func129 kr kr kr kr;have ab:= @run_callFunc_extern prog 394 _ (ReflectliteType.relation "AssignableTo" ReflectliteType.assignableTo) func394 kr kr kr kr;have x:= @run_callFunc_extern prog 130 _ (ReflectliteValue.method (ReflectliteValue.valueError "reflectlite.Value.Elem" 0) ReflectliteValue.elem) func130 kr kr kr kr;have o:= @run_callFunc_extern prog 131 _ ReflectliteValue.set func131 kr kr kr kr;have tO:=A8l;have mA:=Zm;have aa:=Aoo;have n:=A2c;have f6:=A2b;have f7:=Bhg;have mK:=Avw;have mE:=Avx;have mI:=Adq;have ad:=Bhh;have z:=Bhi;have u:=Bhj;have r:=Aon;have n8:=Bdz ⟨w.heap.size,0,none⟩ t ((w.alloc (.cells #[.pointer (some t)] 131)).alloc (.cells #[.pointer (some ⟨4,131,none⟩),.pointer (some ⟨w.heap.size,0,none⟩),.int .u64 150] 171)) sm
 have g:0<w.heap.size:=by
  rcases Ey w.heap.size with h0|h
  .simp[World.cell?,h0]at j
  .exact h
 have l:((w.alloc (.cells #[.pointer (some t)] 131)).alloc (.cells #[.pointer (some ⟨4,131,none⟩),.pointer (some ⟨w.heap.size,0,none⟩),.int .u64 150] 171)).cell? ⟨0,0,none⟩=some (.iface 241 (.agg #[.pointer (some ⟨4,125,none⟩)])):=by
  rw[World.cell?_alloc_lt _ _ ⟨0,0,none⟩ sm,World.cell?_alloc_lt _ _ ⟨0,0,none⟩ g];exact j
 have d:t.block<w.heap.size:=by
  rcases Cl t.block w.heap.size with h|h
  .exact h
  .simp[World.cell?,Cq h]at c
 have el:=Bd0 ⟨w.heap.size,0,none⟩ t (((w.alloc (.cells #[.pointer (some t)] 131)).alloc (.cells #[.pointer (some ⟨4,131,none⟩),.pointer (some ⟨w.heap.size,0,none⟩),.int .u64 150] 171)).alloc (.cells #[.pointer (some ⟨4,131,none⟩),.pointer (some ⟨w.heap.size,0,none⟩),.int .u64 150] 171)) (by rw[World.cell?_alloc_lt _ _ ⟨w.heap.size,0,none⟩ (by simp;try omega)];simp)
 have st:=Bja t ⟨w.heap.size+1+1+1,0,none⟩ k e ((((w.alloc (.cells #[.pointer (some t)] 131)).alloc (.cells #[.pointer (some ⟨4,131,none⟩),.pointer (some ⟨w.heap.size,0,none⟩),.int .u64 150] 171)).alloc (.cells #[.pointer (some ⟨4,131,none⟩),.pointer (some ⟨w.heap.size,0,none⟩),.int .u64 150] 171)).alloc (.cells #[.int .i64 k] 129))
  (by rw[World.cell?_alloc_at _ _ _ _ (by simp)];rfl)
  (by rw[World.cell?_alloc_lt _ _ t so,World.cell?_alloc_lt _ _ t so,World.cell?_alloc_lt _ _ t so,World.cell?_alloc_lt _ _ t d];exact c)
  (by rw[World.frozen?_alloc_old _ _ t so,World.frozen?_alloc_old _ _ t so,World.frozen?_alloc_old _ _ t so,World.frozen?_alloc_old _ _ t (Nat.ne_of_lt d)];exact f)
 go_enter func42,ntmps42
 go_wp2
 refine wp_loop_rounds 1 ?_;rw[rounds_succ]
 go_wp2
 go_ret
 exact⟨rfl,rfl⟩
theorem two{xs:List Value}(h:xs.length=2):∃a b,xs= [a,b]:=by
 match xs,h with
 | [a,b],_ =>exact⟨a,b,rfl⟩
theorem Avy(t:V):Bfi 0 Ap8 prog 42 [.nili,t] [] (fun r q=>r=.bool false/\q= []):=by
 intro B N μ nx xs hG g j c;obtain⟨l,n,rfl⟩:=two g;have⟨_,h⟩:=c.env 0 .nili G8
 have h1:l=.nilIface:=by
  simp at h;cases h with
  |pur h=>cases h;rfl
 rw [h1];refine(Bhf n B.w).mono ?_;rintro e w'⟨rfl,rfl⟩;refine⟨_,_,[],nx,μ,rfl,⟨rfl,rfl⟩,A7 _,⟨j.symm▸rfl,rfl,c.below,c.n0,c.fresh,fun d o k=>by simp [Eng.get]at k,fun d o _ _ _ _ _ k=>by simp [Eng.get]at k,fun t v f=>?_⟩⟩;simp only [Eng.get]at f
 split at f
 ·rename_i m;subst m;cases f;exact⟨by show(0:Nat)<1;omega,.pur (.bool _)⟩
 ·cases f
theorem Avz(d v:Nat)(j k:Int):Bfi 0 Ap8 prog 42 [.ifc 129 (.agg [.int .i64 k]),.ifc 131 (.bp d v 1 0 0)] [(d,⟨v,1,129,[.agg [.int .i64 j]]⟩)] (fun r q=>r=.bool true/\q= [(d,⟨v,1,129,[.agg [.int .i64 k]]⟩)]):=by
 intro B N μ nx xs hG ai am f;obtain⟨x0,x1,rfl⟩:=two ai;have⟨_,h0⟩:=f.env 0 (.ifc 129 (.agg [.int .i64 k])) G8;have⟨_,h1⟩:=f.env 1 (.ifc 131 (.bp d v 1 0 0)) G8;simp at h0 h1
 have e0:x0=.iface 129 (.agg #[.int .i64 k]):=by
  cases h0 with
  |pur h0=>cases h0 with
   |ifc _ y _ _ hy=>cases hy with
    |agg ys cs hl hc hh=>
     match ys,hl with
     | [y0],_ =>
      have:=hh 0 y0 _ rfl rfl;cases this
      rfl
  |ifc _ y _ hc _ =>simp [V.isCell]at hc
 obtain⟨g,m,hm,e1⟩:∃g m,μ d v=some (some (g,m))/\x1=.iface 131 (.pointer (some ⟨g,0,none⟩)):=by
  cases h1 with
  |pur h1=>cases h1 with
   |ifc _ y _ hf hy=>cases hy
  |ifc _ y _ hc hy=>cases hy with
   |pur hy=>cases hy
   |bp _ _ _ _ _ g m hm=>exact⟨g,m,hm,by simp⟩
 have⟨l,hl,an⟩:=f.objs d ⟨v,1,129,[.agg [.int .i64 j]]⟩ gt;rw [hm]at hl;cases hl;have⟨o1,o2,o3,o4,aq,o5,o6,o7⟩:=an;have⟨ad,ae,_⟩:=o7 0 (.agg [.int .i64 j]) 0 (.int .i64 j) rfl rfl
 have h:B.w.cell? ⟨g,0,none⟩=some ad:=by
  simp only [Ma,Dq]at ae;simp [World.cell?,o5,ae]
 have af:B.w.frozen? ⟨g,0,none⟩=false:=by simp [World.frozen?,o5]
 rw [e0,e1];refine(Bhm k ⟨g,0,none⟩ ad B.w hG.cell h af).mono ?_;rintro e w'⟨rfl,ag⟩;generalize hW:(((B.w.alloc (.cells #[.pointer (some ⟨g,0,none⟩)] 131)).alloc (.cells #[.pointer (some ⟨4,131,none⟩),.pointer (some ⟨B.w.heap.size,0,none⟩),.int .u64 150] 171)).alloc (.cells #[.pointer (some ⟨4,131,none⟩),.pointer (some ⟨B.w.heap.size,0,none⟩),.int .u64 150] 171)).alloc (.cells #[.int .i64 k] 129)=W at ag
 have z:Below B.w.heap.size B.w W:=by
  subst hW;exact((((Below.refl _ _).alloc (A7 _) _).alloc sm _).alloc so _).alloc so _
 have ah:=f.block_lt (d:=d) (o:=⟨v,1,129,[.agg [.int .i64 j]]⟩) gt hm
 have ab:W.cell? ⟨g,0,none⟩=some ad:=by
  unfold World.cell? at h|-;rw [z.block g ah];exact h
 have ak:W.frozen? ⟨g,0,none⟩=false:=by
  unfold World.frozen? at af|-;rw [z.block g ah];exact af
 have⟨w2,aj,ao⟩:=Aj0 (P:=prog) (f.later z) (t:=129) (d:=d) (v:=v) (k:=0) (off:=0) (n:=1) (x:=.pointer (some ⟨g,0,none⟩)) (y:=.agg #[.int .i64 k]) (u:=.agg [.int .i64 k]) (e:=.agg [.int .i64 j]) (o:=⟨v,1,129,[.agg [.int .i64 j]]⟩)
  (by have:=Enc.bp (w:=W) (N:=Fq N μ ⟨M4 0 [.ifc 129 (.agg [.int .i64 k]),.ifc 131 (.bp d v 1 0 0)],[(d,⟨v,1,129,[.agg [.int .i64 j]]⟩)],nx,2⟩) d v 1 0 0 g m hm;simpa using this) (.pur (.agg [.int .i64 k] [.int .i64 k] rfl (fun c hc=>by simp at hc;subst hc;rfl) (fun i x c h1 h2=>by
   match i,h1,h2 with
   |0,h1,h2=>simp at h1 h2;subst h1 h2;exact .int _ _
   |i+1,h1,h2=>simp at h1))) sm gt rfl rfl rfl om rfl G8
 have Tn:w2=w':=by
  have h5:=Ayd ⟨g,0,none⟩ k ad W ab ak;simp [Instr.storeAt,Instr.sureAddr,h5]at aj;rw [ag,<- aj]
 subst Tn
 have aa:∀d1 o1,Eng.get [(d,(⟨v,1,129,[.agg [.int .i64 k]]⟩:Ob))] d1=some o1->Eng.get ((d,(⟨v,1,129,[.agg [.int .i64 k]]⟩:Ob)):: [(d,⟨v,1,129,[.agg [.int .i64 j]]⟩)]) d1=some o1:=by
  intro d1 o1 h1;simp only [Eng.get]at h1|-
  split at h1
  ·rename_i e;simp [e];injection h1
  ·cases h1
 have s:RelM (fun _ =>False) B N μ {(⟨M4 0 [.ifc 129 (.agg [.int .i64 k]),.ifc 131 (.bp d v 1 0 0)],[(d,⟨v,1,129,[.agg [.int .i64 j]]⟩)],nx,2⟩:AS)with objs:=(d,⟨v,1,129,[.agg [.int .i64 k]]⟩):: [(d,⟨v,1,129,[.agg [.int .i64 j]]⟩)]} ⟨[.iface 129 (.agg #[.int .i64 k]),.iface 131 (.pointer (some ⟨g,0,none⟩))].toArray,[]⟩ w2:=by
  rw [<- e0,<- e1];simpa [V.setPart,List.set]using ao
 refine⟨_,_,[(d,⟨v,1,129,[.agg [.int .i64 k]]⟩)],nx,μ,rfl,⟨rfl,rfl⟩,A7 _,⟨am.symm▸rfl,rfl,s.below,s.n0,s.fresh,fun d1 o1 hd=>?_,fun d1 o1 d2 o2 g1 c1 c2 h1 h2=>s.inj d1 o1 d2 o2 g1 c1 c2 (aa _ _ h1) (aa _ _ h2),fun t v hv=>?_⟩⟩
 ·have⟨l,h5,h6⟩:=s.objs d1 o1 (aa _ _ hd);refine⟨l,h5,h6.keep (Ek.refl _ _) (fun b _ hb=>?_) (fun _ _ _ hh=>hh) (fun _ _ _ =>rfl)⟩
  rcases hb with hb|⟨d2,o2,c2,h7,h8⟩
  ·exact .inl hb
  ·exact .inr ⟨d2,o2,c2,aa _ _ h7,h8⟩
 ·simp only [Eng.get]at hv
  split at hv
  ·rename_i ht;subst ht;cases hv;exact⟨by show(0:Nat)<1;omega,.pur (.bool _)⟩
  ·cases hv
def R1(l:List UInt8)(c:Nat)(n:Int):Except Int (Nd × Nat × Nat):=
 if 300<=n then .error 5 else
 if l.length<4 then .error 4 else
 if 2000<Gw (l.take 4)then .error 5 else
 if l.length<4+Gw (l.take 4)+8 then .error 4 else
 if(Gw ((l.drop (4+Gw (l.take 4))).take 8):Int)≠chn c (l.take (4+Gw (l.take 4)))then .error 12 else
 match Yl ((l.drop 4).take (Gw (l.take 4))) 4 8 0 with
 | .ok (x,a)=>if a=Gw (l.take 4)then .ok (x,4+Gw (l.take 4)+8,(chn c (l.take (4+Gw (l.take 4)))).toNat)else .error 2
 | .error _ =>.error 2
def Asr:Except Int (Nd × Nat × Nat)->V
 | .ok (x,a,s)=>.tup [x.v,.i a,.int .u64 s,.nili]
 | .error e=>.tup [(Nd.mk 0 0 0 [] []).v,.i 0,.int .u64 0,.ifc 129 (.agg [.i e])]
def T3(p:Nat)(l:List UInt8):0<=chn p l/\chn p l<2^64:=by
 have d:∀(l:List UInt8)(h:Int),0<=h/\h<2^64->0<=dig h l/\dig h l<2^64:=by
  intro l
  induction l with
  |nil=>intro h e;exact e
  |cons c l ih=>intro h _;exact ih _ (Avs h c)
 exact d _ _ (d _ _ (by unfold Ah7;omega))
def Zn(e:Int):Bj (.tup [.agg [.i 0,.i 0,.i 0,.str [],.nils],.i 0,.int .u64 0,.ifc 129 (.agg [.i e])]) (Asr (.error e)):=by
 unfold Asr;simp only[Nd.v,C6];exact Bj.tup (.cons (Bj.agg (.cons (.refl _) (.cons (.refl _) (.cons (.refl _) (.cons (.refl _) (.cons (.nils 5) .nil)))))) (.refl _))
def Afd{d:Int}(f:e≠0):∀ {k i x c:Nat},rdV bs e k i x c=.error d->d≠0
 |0,_,_,_,h=>by simp only[rdV,Except.error.injEq]at h;omega
 |k+1,i,x,c,h=>by
  rw[rdV]at h
  split at h
  .injection h with h;omega
  .split at h
   .injection h with h;omega
   .split at h
    .cases h
    .exact Afd f h
def Aye{f:Int}(g:e≠0)(h:rdC bs e c d=.error f):f≠0:=by
 unfold rdC at h
 split at h
 .rename_i j;cases h;exact Afd g j
 .split at h
  .injection h with h;omega
  .cases h
def Ayf{f:Nat->Except Int (Nd × Nat)}(e:∀a c,f a=.error c->c≠0){c:Int}:∀ {n a:Nat},rdL f n a=.error c->c≠0
 |0,a,h=>by simp[rdL]at h
 |n+1,a,h=>by
  rw[rdL]at h
  split at h
  .rename_i d;cases h;exact e _ _ d
  .split at h
   .rename_i d;cases h;exact Ayf e d
   .cases h
def Ayg(d:e≠0):∀ {lv:Nat}(a:Nat)(f:Int),Yl bs e lv a=.error f->f≠0
 |0,a,f,h=>by simp only[Yl,Except.error.injEq]at h;omega
 |lv+1,a,f,h=>by
  rw[Yl]at h
  split at h
  .rename_i c;cases h;exact Afd d c
  split at h
  .injection h with h;omega
  split at h
  .injection h with h;omega
  split at h
  .split at h
   .rename_i c;cases h;exact Afd d c
   .cases h
  split at h
  .split at h
   .rename_i c;cases h;exact Aye d c
   .split at h
    .cases h
    .injection h with h;omega
  split at h
  .split at h
   .rename_i c;cases h;exact Aye d c
   .split at h
    .rename_i c;cases h;exact Ayf (Ayg d) c
    .cases h
  .injection h with h;omega
def A8p(l:List UInt8)(c:Nat)(n:Int)(hs:c<2^64):AE 41 [.ro 1 (Ls l),.int .u64 c,.i n] (Asr (R1 l c n)):=by
 refine AC.relaxP ?_;have hl:=Abw l;have hp:=Mv l;have ag:=A8h (l.take 4);have aa:=A8h ((l.drop (4+Gw (l.take 4))).take 8);have hc:=A8g c hs (l.take (4+Gw (l.take 4)));have hd:=λh=>A2a ((l.drop 4).take (Gw (l.take 4))) h
 have e1:Ls (l.take 4)=(Ls l).take 4:=sm;have e2:Ls ((l.drop (4+Gw (l.take 4))).take 8)=((Ls l).drop (4+Gw (l.take 4))).take 8:=sm;have e3:Ls (l.take (4+Gw (l.take 4)))=(Ls l).take (4+Gw (l.take 4)):=sm;have e4:Ls ((l.drop 4).take (Gw (l.take 4)))=((Ls l).drop 4).take (Gw (l.take 4)):=sm;rw[e1]at ag;rw[e2]at aa;rw[e3]at hc;simp only[e4]at hd;clear e1 e2 e3 e4;unfold R1;generalize hS:Gw (l.take 4)=sz at*;generalize hC:chn c (l.take (4+sz))=ch at*;have aq:0<=ch/\ch<2^64:=by rw[<- hC];exact T3 _ _
 generalize hK:Gw ((l.drop (4+sz)).take 8)=ck at*;generalize au:Ls l=lv at*;refine Aq func41 λw0 N0=>?_;refine Y [0,1,2,6] [6] sr (J (Y [0,1,6,17] [6] sr ?_))
 refine Au (λh1=>?_) λh1=>Ae ?_
 .have j:300<=n:=by simp at h1;exact h1
  rw[Ad j];exact Y [6,7,8,9] [6] sr (Ao (Ab sr (Zn _)))
 have j:¬300<=n:=sO h1
 rw[I j];refine J (Y [0,1,6,23] [6] sr ?_)
 refine Au (λh2=>?_) λh2=>Ae ?_
 .have w:l.length<4:=by simp at h2;omega
  rw[Ad w];exact Y [6,7,8,9] [6] sr (Ao (Ab sr (Zn _)))
 have w:¬l.length<4:=sO h2
 rw[I w];have aj:(4:Int)<=lv.length:=om;refine J (Ak (Ay 2 (by simp[aj]<;>rfl) ?_));refine Ac ag func71 ?_ (hp:=by simp[hp]);refine Aa [0,1,6,10] [6] sr ?_;refine J (A9 [31] sr ?_)
 refine Au (λh3=>?_) λh3=>Ae ?_
 .have o:2000<sz:=by simp at h3;omega
  rw[Ad o];refine Y [6,7,8,9] [6] sr ?_;exact Ao (Ab sr (Zn _))
 have o:¬2000<sz:=sO h3
 rw[I o];have Ee:IntKind.i64.wrap (sz:Int)=sz:=En om om;obtain⟨en,al,an⟩:∃en:Int,IntKind.i64.wrap (4+(sz:Int))=en/\en=((4+sz:Nat):Int):=⟨_,rfl,by rw[En om oM];omega⟩;obtain⟨k,z,ad⟩:∃k:Int,IntKind.i64.wrap (en+8)=k/\k=((4+sz+8:Nat):Int):=⟨_,rfl,by rw[En om oM];omega⟩;have f:en.toNat=4+sz:=om;have ae:k.toNat=4+sz+8:=om;refine Y [0,1,6,10,11] [6] (by simp[Ee,al]<;>rfl) (J (A9 [42] (by simp[z]<;>rfl) ?_))
 refine Au (λh4=>?_) λh4=>Ae ?_
 .have t:l.length<4+sz+8:=by simp at h4;omega
  rw[Ad t];refine Y [6,7,8,9] [6] sr ?_;exact Ao (Ab sr (Zn _))
 have t:¬l.length<4+sz+8:=sO h4
 rw[I t];have m:0<=en/\en<=lv.length:=om;have ak:en<=k/\k<=lv.length:=om;have am:(4:Int)<=en:=om;have ai:AE 72 [.int .u64 c,.ro 1 (lv.take en.toNat)] (.int .u64 ch):=by rw[f];exact hc
 have af:AE 71 [.ro 1 ((lv.drop en.toNat).take (k.toNat-en.toNat))] (.int .u64 ck):=by rw[f,ae,show 4+sz+8-(4+sz)=8 by omega];exact aa
 have g:AE 73 [.ro 1 ((lv.drop 4).take (en.toNat-4))] (Bdy ((l.drop 4).take sz)):=by rw[f,show 4+sz-4=sz by omega];exact hd so
 refine J (Ak (Ay 4 (by simp[m]<;>rfl) ?_));refine Ac ai func72 ?_ (hp:=by simp[hp]);refine Aa [0,6,10,11,12] [6] sr ?_;refine J (J (Ak (Ay 5 (by simp[z,m,ak]<;>rfl) ?_)));refine Ac af func71 ?_ (hp:=by simp[hp]);refine Aa [0,6,10,11,12,58] [6] sr ?_
 refine Au (λh5=>?_) λh5=>Ae ?_
 .have u:(ck:Int)≠ch:=sG h5
  rw[Ad u];refine Y [6,7,8,9] [6] sr ?_;exact Ao (Ab sr (Zn _))
 have u:¬(ck:Int)≠ch:=sG h5
 rw[I u];refine J (Ak (Ay 3 (by simp[m,am]<;>rfl) ?_));unfold Bdy at g;cases hx:Yl ((l.drop 4).take sz) 4 8 0 with
 |error er=>
  have e:AE 73 [.ro 1 ((lv.drop 4).take (en.toNat-4))] (.tup [.agg [.i 0,.i 0,.i 0,.str [],.ro 5 []],.i 0,.i er]):=by
   rw[hx]at g;simpa only[Nd.v,C6]using g
  refine Ac e func73 ?_ (hp:=by simp[hp]);refine Aa [6,10,11,12,13,14,15] [6,13] sr ?_;have ah:=Ayg om _ _ hx;refine J (Y [6,11,12,13,77] [6,13] (by simp[Ee,ah]<;>rfl) ?_);refine A0 rfl (λh6=>?_) (λh6=>by simp[ah]at h6);refine Y [6,7,8,9] [6] sr ?_;exact Ao (Ab sr (Zn _))
 |ok p=>
  have⟨x,a⟩:=p
  have e:AE 73 [.ro 1 ((lv.drop 4).take (en.toNat-4))] (.tup [x.v,.i a,.i 0]):=by
   rw[hx]at g;exact g
  have ab:∀d:List Nd,(d.map Nd.v).all V.pureE=true:=Ur;rcases hxx:x with⟨xt,xk,xn,xs,d⟩;have s:x.v=.agg [.i xt,.i xk,.i xn,.str xs,.ro 5 (d.map Nd.v)]:=by rw[hxx,Nd.v]
  rw[s]at e;have ab:=Ur d;generalize ao:d.map Nd.v=ar at e ab s;refine Ac e func73 ?_ (hp:=by simp[hp]);refine Aa [6,10,11,12,13,14,15] [6,13] sr ?_;refine J (Y [6,11,12,13,77] [6,13] (by simp[Ee]<;>rfl) ?_)
  refine Au (λh6=>?_) λh6=>Ae ?_
  .have y:¬a=sz:=by simp at h6;omega
   refine Y [6,7,8,9] [6] sr ?_;refine Ao (Ab sr ?_);simp only[I y];exact Zn _
  have y:a=sz:=sO h6
  refine Y [6,7,8,9] [6] (by simp[z]<;>rfl) ?_;refine Ao (Ab sr ?_);simp only[Ad y];unfold Asr;simp only[<- hxx,s,ad];rw[show((ch.toNat:Nat):Int)=ch by omega];exact .refl _
variable {s:Nat}
def rdJ(l:List UInt8):Nat->Nat->Nat->List Nd->List Nd × Nat × Int
 |0,c,_,d=>(d,c,5)
 |f+1,c,s,d=>if l.length<=c then(d,c,0)else match R1 (l.drop c) s d.length with
  | .error e=>(d,c,e)
  | .ok (x,k,s')=>rdJ l f (c+k) s' (d++[x])
def Iv(l:List UInt8):List Nd × Nat × Int:=rdJ l 301 0 14695981039346656037 []
def jV(r:List Nd × Nat × Int):V:=.tup [.ro 5 (r.1.map Nd.v),.i r.2.1,.i r.2.2]
def Afe{n:Int}{x:Nd}(h:R1 l c n=.ok (x,k,s)):n<300/\12<=k/\k<=l.length/\k<=2012/\s<2^64:=by
 unfold R1 at h
 split at h
 .cases h
 split at h
 .cases h
 split at h
 .cases h
 split at h
 .cases h
 split at h
 .cases h
 split at h
 .split at h
  .injection h with h;injection h with h1 h2;injection h2 with h2 h3;have:=T3 c (l.take (4+Gw (l.take 4)));omega
  .cases h
 .cases h
def A8q(l:List UInt8)(aw:l.length<=2^40):ACG 0 Ap8 prog 22 [.ro 1 (Ls l)] (λr=>r=jV (Iv l)):=by
 have hp:=Mv l;have hl:=Abw l;have ab:∀k,Ls (l.drop k)=(Ls l).drop k:=by intro k;simp
 have t:∀(k s:Nat)(n:Int),s<2^64->AC prog 41 [.ro 1 ((Ls l).drop k),.int .u64 s,.i n] (λr=>r=Asr (R1 (l.drop k) s n)):=by
  intro k s n hs;rw[<- ab];exact A8p _ _ _ hs
 clear ab;generalize a0:Ls l=lv at hp hl t;refine Akh func22 rfl (by show(1:Nat)<=47;omega) λw0 N0 hG=>?_;refine Y [0] [] sr (Y [0,5] [] sr (J (Ak (Fe A8e func40 rfl kr rfl rfl rfl rfl rfl sr ?_))));refine Aa [0,5,6,7] [] sr (Fz 5 100 5 94 [0,5,6,7] [100] sr sr ?_);refine J (Ah ?_)
 refine C3 (λp:Nat × Nat × List Nd × Nat × Nat=>⟨[(0,.ro 1 lv),(5,.sl 100 p.2.2.2.1 5 (p.2.2.1.map Nd.v).length),(6,.i p.1),(7,.int .u64 p.2.1)],[(100,⟨p.2.2.2.1,5,94,p.2.2.1.map Nd.v⟩)],p.2.2.2.2,47⟩)
  (λp=>p.2.2.1.length<=300/\p.1<=l.length/\p.2.1<2^64/\rdJ l (301-p.2.2.1.length) p.1 p.2.1 p.2.2.1=Iv l) (λp=>301-p.2.2.1.length) (0,14695981039346656037,[],_,_) ⟨by simp,by simp,by simp,rfl⟩ (by simp[Ah7];exact Z) ?_
 rintro⟨d,h,e,vr,nx⟩⟨af,ag,j,g⟩;simp only at af ag j g;have f:=Ur e;have ae:(e.map Nd.v).length=e.length:=sm;obtain⟨m,hm⟩:∃m,301-e.length=m+1:=⟨300-e.length,by omega⟩;rw[hm,rdJ]at g;simp only;generalize aa:e.map Nd.v=av at f ae;have an:av.length+1<=maxLen:=by simp[maxLen];omega
 have aq:(av.length+1)*64<=140737488355328:=om;refine J (Y [0,5,6,7,17] [100] sr ?_)
 refine Au (λh1=>Ae ?_) λh1=>?_
 .have u:¬l.length<=d:=by simp at h1;omega
  rw[I u]at g;have ao:(d:Int)<=lv.length:=om;have al:lv.length-d=(lv.drop d).length:=sm
  have c:AC prog 41 [.ro 1 ((lv.drop d).take (lv.length-d)),.int .u64 h,.i av.length] (λr=>r=Asr (R1 (l.drop d) h e.length)):=by
   rw[al,Be,ae];exact t d h _ j
  refine Ah (J (Ak (Ay 6 (by simp[ao]<;>rfl) ?_)));cases hx:R1 (l.drop d) h e.length with
  |error er=>
   rw[hx]at g c;simp only at g;simp only[Asr,Nd.v,C6]at c;refine Ac c func41 ?_;refine Aa [0,5,6,8,9,10,11] [8,100] sr ?_;refine Y [0,5,6,8,9,10,11,12] [8,12,100] sr (J (J (Ak (Ay 2 sr ?_))));refine Af9 hG (Avz 12 (nx+21) 0 er) func42 rfl kr rfl rfl rfl sr (λk o hk=>B5 gt hk) λr ad y hr ai=>?_;obtain⟨rfl,rfl⟩:=hr;refine⟨λk hk=>by simp_all[Eng.get],_,by simp<;>rfl,?_⟩;refine Aa [5,6,12,32] [12,100] sr ?_;refine A0 rfl (λh2=>?_) sA;refine Bw 100 [5,6,12] [12] Du ?_;refine Do [(0,[]),(1,[]),(2,[]),(4,[]),(5,[]),(3,[]),(6,[])] [2,3,4] [] Sj kr sr ?_;refine Ao (Ab sr ?_);rw[<- g,jV];simp[aa]
  |ok p=>
   have⟨x,k,s'⟩:=p;have⟨ax,az,ah,a1,ak⟩:=Afe hx;rw[hx]at g c;simp only at g;simp only[Eu]at ah;rcases hxx:x with⟨xt,xk,xn,xs,w⟩;have z:x.v=.agg [.i xt,.i xk,.i xn,.str xs,.ro 5 (w.map Nd.v)]:=by rw[hxx,Nd.v]
   simp only[Asr,z]at c;have aj:=Ur w;generalize au:w.map Nd.v=ay at c aj z;have ar:IntKind.i64.wrap ((d:Int)+k)=(d:Int)+k:=En om om;refine Ac c func41 ?_;refine Aa [0,5,6,8,9,10,11] [8,100] sr ?_;refine Y [0,5,6,8,9,10,11,12] [8,12,100] sr (J (J (Ak (Ay 2 sr ?_))));refine Af9 hG (Avy _) func42 rfl kr rfl rfl rfl sr (λk o hk=>by simp[Eng.get]at hk) λr ad y hr ai=>?_;obtain⟨rfl,rfl⟩:=hr;refine⟨λk hk=>by simp_all[Eng.get],_,by simp<;>rfl,?_⟩;refine Aa [0,5,6,8,9,10,32] [8,100] sr ?_;refine A0 rfl sA (λh2=>Ae (Y [0,5,6,9,10] [100] (by simp[an,aq]<;>rfl) (Y [0,5,6,10] [100] (by simp[ar]<;>rfl) (Ba [0,5,6,7] [100] sr ?_))))
   refine⟨(d+k,s',e++[x],y+3+3,y+3+5+4+2),⟨by simp;omega,by simp only;omega,ak,?_⟩,by simp;omega,?_⟩
   .simp only[A1,A3,Bo];rw[show 301-(e.length+(0+1))=m by omega];exact g
   .have am:((d+k:Nat):Int)=(d:Int)+k:=om;simp only[am,C0,aa,B6,C6,z,A1,A3,Bo];exact Z
 .have u:l.length<=d:=by simp at h1;omega
  rw[Ad u]at g;refine A6 ?_;refine Bw 100 [5,6] [] (by simp[f]<;>rfl) (Y [2,3,4] [] sr ?_);refine Ao (Ab sr ?_);rw[<- g,jV];simp[aa]
def A2d(l:List UInt8)(hl:l.length<=2^40):ACO prog 15 [.ro 1 (Ls l)] 1 5 (λF e=>(F=λd q=>.sl d q 1 (Ls l).length)/\e=Ls l):=by
 have g:=A8a l;have hp:=Mv l;have h:=Abw l;generalize Ls l=lv at g hp h;have f:lv.length<=maxLen:=by simp[maxLen];omega
 have c:lv.length<=140737488355328:=om;refine Kn func15 λw0 N0=>?_;refine Y [0] [] sr (J (Bn 1 sr ?_));refine Nj rfl rfl sr rfl kr (λb k=>⟨_,by simp<;>rfl,?_⟩);refine Aa [0,4] [] sr ?_
 refine C1 (λh1=>?_) λh1=>?_
 .have j:=Fx (k h1);subst j;refine Y [2] [] sr (Fz 2 5 1 5 [2] [5] sr sr ?_);exact Ao (H2 5 rfl rfl rfl g sr ⟨rfl,rfl⟩)
 exact Y [2] [5] (by simp[f,c]<;>rfl) (Ao (H2 5 rfl rfl rfl g sr ⟨rfl,rfl⟩))
def Bkq(l:List UInt8):List UInt8:=l.take (Iv l).2.1
def T4(c:List UInt8):List UInt8:=P5 c.length 4++c
def Adr(a c:List UInt8):Nat:=(chn (A18 a).toNat (T4 c)).toNat
def Aju(a c:List UInt8):List UInt8:=a++T4 c++P5 (Adr a c) 8
def Ass(a c:List UInt8):List UInt8 × Int:=
 if(Iv a).2.2≠0 then([],(Iv a).2.2)else
 if 2000<c.length\/300<=(Iv a).1.length then([],5)else(Aju a c,0)
def wrR(a:List UInt8)(e:Jv):List UInt8 × Int:=if Wl e≠0 then([],Wl e)else Ass a (Zk (.mk 50 3 0 [] (Zj e)))
def Aop{c:UInt8}(h:bs.drop d=c::l):bs[d]? =some c/\bs.drop (d+1)=l:=by
 constructor
 .have:(bs.drop d)[0]? =some c:=by rw[h];rfl
  simpa using this
 .rw[<- Rs,h];rfl
def Abx{r:List UInt8}(h:bs.drop c=l++r):bs.drop (c+l.length)=r:=by
 rw[<- Rs,h];simp
def Ayh:∀(k i x at_ y:Nat)(rest:List UInt8),i+k=10->y*128^i<2^64->(0<i->y≠0)->bs.drop at_=Ph y++rest->
  rdV bs e k i x at_=.ok (x+y*128^i,at_+(Ph y).length)
 |0,i,x,at_,y,rest,hk,hy,hn,hd=>by
  have hi:i=10:=om;subst hi;have:=hn om;have:1<=y:=om;have:1*128^10<=y*128^10:=Bz _ this;omega
 |k+1,i,x,at_,y,rest,hk,hy,hn,hd=>by
  have h9:i=9->y<=1:=by
   rintro rfl
   rcases Cl y 2 with h|h
   .omega
   .have:2*128^9<=y*128^9:=Bz _ h;omega
  rw[rdV]
  by_cases h:y<128
  .rw[Ax8 h]at hd|-;have⟨h1,h2⟩:=Aop hd;have hc:(UInt8.ofNat y).toNat=y:=by simp;omega
   rw[h1];simp only[hc];rw[I (by rintro(⟨h3,h4⟩|⟨h3,h4⟩);have:=h9 h3;omega;exact hn h3 h4),Ad h];rfl
  .rw[Ax9 oM]at hd|-;have⟨h1,h2⟩:=Aop hd;have hc:(UInt8.ofNat (y%128+128)).toNat=y%128+128:=by simp;omega
   rw[h1];simp only[hc];rw[I (by rintro(⟨h3,h4⟩|⟨h3,h4⟩);have:=h9 h3;omega;omega),I oM]
   have hsplit:y*128^i=y%128*128^i+y/128*128^(i+1):=by
    rw[Ce,<- B9,Rt,<- Cc]
    congr 1
    omega
   rw[Ayh k (i+1) _ (at_+1) (y/128) rest om om om h2];simp only[A3]
   congr 2
   .rw[show(y%128+128)%128=y%128 by omega];omega
   .omega
def Aby{at_ y:Nat}{rest:List UInt8}(hy:y<2^64)(h:bs.drop at_=Ph y++rest):rdV bs e 10 0 0 at_=.ok (y,at_+(Ph y).length):=by
 have:=Ayh (e:=e) 10 0 0 at_ y rest rfl (sG hy) om h;simpa using this
def Wm(x:Nat):∀(n v:Nat),(P5 x n).foldl (λv c=>(v*256+c.toNat)%2^64) v%2^64=(v*256^n+x%256^n)%2^64
 |0,v=>by simp[P5,Sn]
 |n+1,v=>by
  simp only[P5,My];rw[Wm x n];have e:(UInt8.ofNat (x/256^n%256)).toNat=x/256^n%256:=sm;have d:∀M m p q:Nat,(m%M*p+q)%M=(m*p+q)%M:=by intro M m p q;simp[Nat.add_mod,Nat.mul_mod]
  rw[e,d,Nat.mod_pow_succ (b:=256)]
  congr 1
  rw[Ce,Cc];have:v*256*256^n=v*(256^n*256):=by rw[B9,Bh 256]
  have:256^n*(x/256^n%256)=x/256^n%256*256^n:=Bh _ _;omega
def Al8(x n:Nat)(c:x<256^n)(h:x<2^64):Gw (P5 x n)=x:=by
 have h1:=Wm x n 0;have h2:=Bdu (P5 x n);unfold Gw at h2|-;rw[Bm h2,Bm c,Ma,Dq,Bm h]at h1;exact h1
variable {s' sz:Nat}
def A8r{n:Int}(h:R1 l s n=.error e):e≠0:=by
 unfold R1 at h
 repeat' split at h
 all_goals first|(injection h with h;omega)|cases h
def Us{n:Int}{x:Nd}(h:R1 l s n=.ok (x,k,s')):
  n<300/\4<=l.length/\Gw (l.take 4)<=2000/\k=4+Gw (l.take 4)+8/\k<=l.length/\s'=Gw ((l.drop (4+Gw (l.take 4))).take 8)/\(s':Int)=chn s (l.take (4+Gw (l.take 4)))/\
   Yl ((l.drop 4).take (Gw (l.take 4))) 4 8 0=.ok (x,Gw (l.take 4)):=by
 unfold R1 at h
 split at h
 .cases h
 split at h
 .cases h
 split at h
 .cases h
 split at h
 .cases h
 split at h
 .cases h
 split at h
 .rename_i x' a d
  split at h
  .rename_i c;injection h with h;injection h with h1 h2;injection h2 with h2 h3;subst h1 c;rename_i h4 h5 h6 h7 h8;have:=T3 s (l.take (4+Gw (l.take 4)));refine⟨by omega,by omega,by omega,by omega,by omega,by omega,by omega,d⟩
  .cases h
 .cases h
def Zo{n:Int}{x:Nd}(h1:n<300)(h2:Gw (l.take 4)=sz)(h3:sz<=2000)(h4:4+sz+8<=l.length)(d:(Gw ((l.drop (4+sz)).take 8):Int)=chn s (l.take (4+sz)))
  (c:Yl ((l.drop 4).take sz) 4 8 0=.ok (x,sz)):R1 l s n=.ok (x,4+sz+8,(chn s (l.take (4+sz))).toNat):=by
 unfold R1;rw[I om,I om,h2,I om,I om,I (sG d),c];simp only[if_true]
def A2e{m:List UInt8}{n:Int}{x:Nd}(h:R1 l s n=.ok (x,k,s')):R1 (l++m) s n=.ok (x,k,s'):=by
 have⟨h1,h2,o,e,h5,j,d,r⟩:=Us h;have g:(l++m).take 4=l.take 4:=Cv om;have c:(l++m).take (4+Gw (l.take 4))=l.take (4+Gw (l.take 4)):=Cv om
 have t:((l++m).drop (4+Gw (l.take 4))).take 8=(l.drop (4+Gw (l.take 4))).take 8:=by
  rw[Gs om,Cv (by simp;omega)]
 have f:((l++m).drop 4).take (Gw (l.take 4))=(l.drop 4).take (Gw (l.take 4)):=by
  rw[Gs om,Cv (by simp;omega)]
 have:=Zo (l:=l++m) (s:=s) (n:=n) (x:=x) (sz:=Gw (l.take 4)) h1 (by rw[g]) o so (by rw[c,t,<- d,j]) (by rw[f];exact r);rw[this,c,<- d,e];simp
inductive Run(l:List UInt8):Nat->Nat->List Nd->Prop
 |start:Run l 0 14695981039346656037 []
 |step {at_ s:Nat} {ns:List Nd} {x:Nd} {k s':Nat} (h:Run l at_ s ns) (hx:R1 (l.drop at_) s ns.length=.ok (x,k,s')):Run l (at_+k) s' (ns++[x])
def Run.le{d:List Nd}(h:Run l c s d):c<=l.length/\d.length<=300:=by
 induction h with
 |start=>simp
 |step h e ih=>
  have:=Afe e;simp only[Eu]at this;simp only[A1,A3,Bo];omega
def Run.more(m:List UInt8){d:List Nd}(h:Run l c s d):Run (l++m) c s d:=by
 induction h with
 |start=>exact .start
 |step h e ih=>exact .step ih (by rw[Gs h.le.1];exact A2e e)
def Run.dig{g:List Nd}(h:Run l d s g):(s:Int)=A18 (l.take d):=by
 cases h with
 |start=>simp[A18,Ah7]
 | @step c s0 f x k s' h j=>
  have⟨h1,h2,h3,h4,m,n,h7,h8⟩:=Us j;have o:=h.le.1;simp only[Eu]at m h2;unfold A18;have e:(l.take (c+k)).length=c+k:=by simp;omega
  rw[e,I om,n]
  congr 2
  rw[Oh,Rs]
  congr 1
  .omega
  .congr 1;omega
def Run.rdJ{e:List Nd}(h:Run l d s e):Iv l=rdJ l (301-e.length) d s e:=by
 induction h with
 |start=>rfl
 | @step g s0 c x k s' h f ih=>
  rw[ih];have j:=Afe f;simp only[Eu]at j;rw[show 301-c.length=(301-(c++[x]).length)+1 by simp only[A1,A3,Bo];omega];rw[YtnoignhlamifmaaGreatDoor.rdJ,I om,f]
def Ayi:∀(f c s:Nat)(g:List Nd),Run l c s g->(rdJ l f c s g).2.2=0->∃s',Run l l.length s' (rdJ l f c s g).1
 |0,c,s,g,h,d=>by simp[rdJ]at d
 |f+1,c,s,g,h,d=>by
  rw[rdJ]at d|-
  split at d
  .rename_i h1;rw[Ad h1];have:c=l.length:=by have:=h.le.1;omega
   subst this;exact⟨s,h⟩
  .rename_i h1;rw[I h1]
   split at d
   .rename_i e j;exact absurd d (A8r j)
   .rename_i x k s' j;exact Ayi f _ _ _ (.step h j) d
def A8s(a c:List UInt8):(Aju a c).length=a.length+(12+c.length):=by
 simp only[Aju,T4,A1,Ln];omega
def A8t{a c:List UInt8}{x:Nd}(u:Yl c 4 8 0=.ok (x,c.length))(e:(Ass a c).2=0):(∃s,Run (Ass a c).1 (Ass a c).1.length s ((Iv a).1++[x]))/\(Ass a c).1=Aju a c/\c.length<=2000:=by
 unfold Ass at e|-
 split at e
 .rename_i h;simp only at e;exact absurd e h
 rename_i h1;rw[I h1]
 split at e
 .simp at e
 rename_i h2;rw[I h2];have r:=sG h1
 refine⟨?_,rfl,by omega⟩;have⟨s,m⟩:=Ayi 301 0 14695981039346656037 [] .start r;change Run a a.length s (Iv a).1 at m;have hs:=m.dig;rw[Be]at hs;have k:(A18 a).toNat=s:=om;have j:(Aju a c).drop a.length=T4 c++P5 (Adr a c) 8:=by simp[Aju,Cz]
 have o:Run (Aju a c) a.length s (Iv a).1:=by
  have:=m.more (T4 c++P5 (Adr a c) 8);simpa[Aju,Cz]using this
 have d:(T4 c).length=4+c.length:=by simp[T4,Ln]
 have z:Gw ((T4 c++P5 (Adr a c) 8).take 4)=c.length:=by
  rw[Cv om,T4,Cv (by rw[Ln];omega),Bi (by rw[Ln];omega)];exact Al8 _ _ om om
 have g:Adr a c<2^64:=by unfold Adr;have:=T3 (A18 a).toNat (T4 c);omega
 have t:(T4 c++P5 (Adr a c) 8).take (4+c.length)=T4 c:=by rw[<- d];simp
 have w:((T4 c++P5 (Adr a c) 8).drop (4+c.length)).take 8=P5 (Adr a c) 8:=by
  rw[<- d,Ws];exact Bi (by rw[Ln];omega)
 have g4:((T4 c++P5 (Adr a c) 8).drop 4).take c.length=c:=by
  rw[T4,Cz,Gs (by rw[Ln];omega),I0 (by rw[Ln];omega),Ff];simp
 have f:=Zo (l:=T4 c++P5 (Adr a c) 8) (s:=s) (n:=(Iv a).1.length) (x:=x) (sz:=c.length) om z om (by simp only[A1,d,Ln];omega)
  (by rw[t,w,Al8 _ _ om g];unfold Adr;rw[k];have:=T3 s (T4 c);omega) (by rw[g4];exact u)
 have:=Run.step o (by rw[j];exact f);have y:(Aju a c).length=a.length+(4+c.length+8):=by rw[A8s];omega
 rw[<- y]at this;exact⟨_,this⟩
def Ast{e:Jv}(h:Wl e=0):e.ch.length<=10/\e.text.length<=1000:=by
 unfold Wl at h
 split at h
 .omega
 split at h
 .omega
 split at h
 .omega
 .rename_i c;simp at c;omega
def rdK(l:List UInt8):Nat->Nat->Nat->List Nd->List Nd × Nat × Nat × Int
 |0,c,s,d=>(d,c,s,5)
 |f+1,c,s,d=>if l.length<=c then(d,c,s,0)else match R1 (l.drop c) s d.length with
  | .error e=>(d,c,s,e)
  | .ok (x,k,s')=>rdK l f (c+k) s' (d++[x])
def A2f(l:List UInt8):List Nd × Nat × Nat × Int:=rdK l 301 0 14695981039346656037 []
def Ayj(l:List UInt8):∀(f c s:Nat)(d:List Nd),rdJ l f c s d=((rdK l f c s d).1,(rdK l f c s d).2.1,(rdK l f c s d).2.2.2)
 |0,c,s,d=>rfl
 |f+1,c,s,d=>by
  rw[rdJ,rdK]
  by_cases h:l.length<=c
  .rw[Ad h,Ad h]
  .rw[I h,I h];cases hx:R1 (l.drop c) s d.length with
   |error e=>rfl
   |ok p=>exact Ayj l f _ _ _
def Asu(l:List UInt8):Iv l=((A2f l).1,(A2f l).2.1,(A2f l).2.2.2):=Ayj l _ _ _ _
def Ayk:∀(f c s:Nat)(d:List Nd),Run l c s d->Run l (rdK l f c s d).2.1 (rdK l f c s d).2.2.1 (rdK l f c s d).1
 |0,c,s,d,h=>h
 |f+1,c,s,d,h=>by
  rw[rdK]
  split
  .exact h
  .split
   .exact h
   .rename_i x k s' e;exact Ayk f _ _ _ (.step h e)
def Asv(l:List UInt8):Run l (A2f l).2.1 (A2f l).2.2.1 (A2f l).1:=Ayk _ _ _ _ .start
open Classical in
noncomputable def eqN(a b:Nd):Bool:=decide (a=b)
open Classical in
noncomputable def Asw(a b:List Nd):Bool:=decide (a=b)
def Bd2{a b:Nd}:eqN a b=true↔a=b:=by simp[eqN]
def A8u{a b:List Nd}:Asw a b=true↔a=b:=by simp[Asw]
def Aid{a b:List Nd}:Asw a b=false↔a≠b:=by simp[Asw]
def A2h{a b:Nd}:eqN a b=false↔a≠b:=by simp[eqN]
def Bho{la lb:List Nd}(c:la.length=lb.length)(h:∀(j:Nat)(h1:j<la.length)(h2:j<lb.length),la[j]=lb[j]):la=lb:=Pl c h
def Bhp(la lb:List Nd)(hh:∀x∈la,∀y,AE 45 [x.v,y.v] (.bool (eqN x y))):
  AE 82 [.ro 5 (la.map Nd.v),.ro 5 (lb.map Nd.v),.fn 45] (.bool (Asw la lb)):=by
 have l:=λ(k:Nat)(h:k<la.length)=>A77 h
 have m:=λ(k:Nat)(h:k<lb.length)=>A77 h
 have aa:(la.map Nd.v).length=la.length:=sm;have ad:(lb.map Nd.v).length=lb.length:=sm;generalize la.map Nd.v=av at l aa;generalize lb.map Nd.v=bv at m ad;refine K8 0 rfl λt=>?_;unfold maxLen at t;refine Aq func82 λw0 N0=>?_;refine Y [0,1,2] [] sr (J (A9 [14] sr ?_))
 refine Au (λh1=>?_) λh1=>Ae ?_
 .refine Y [6] [] sr (Ao (Ab sr ?_))
  congr 1
  symm
  rw[Aid];rintro rfl;simp at h1;omega
 have ab:la.length=lb.length:=sO h1
 refine J (Y [1,2,15,16,17] [] sr (Ah (Bu (λk nx=>⟨[(1,.ro 5 bv),(2,.fn 45),(15,.ro 5 av),(16,.i av.length),(17,.i k)],[],nx,32⟩) (λk=>∀(j:Nat)(h1:j<la.length)(h2:j<lb.length),j<k->la[j]=lb[j]) la.length _ (by intro j _ _ h;omega) Z ?_)));intro k nx hk hI;refine Y [1,2,15,16,17,18] [] sr (J ?_)
 refine Au (λh2=>Ae ?_) λh2=>?_
 .have f:k<la.length:=by simp at h2;omega
  have o:k<lb.length:=om;have s:k<av.length:=om;have c:k<bv.length:=om;have z:=l k f;have w:=m k o;have d:=hh la[k] (Aw f) lb[k];rcases hka:la[k]with⟨t1,k1,n1,s1,n⟩;rcases hkb:lb[k]with⟨t2,k2,n2,s2,g⟩;rw[hka]at z d;rw[hkb]at w d;obtain⟨q,u⟩:∃q,eqN (Nd.mk t1 k1 n1 s1 n) (Nd.mk t2 k2 n2 s2 g)=q:=⟨_,rfl⟩;rw[u]at d;rw[Nd.v]at z;rw[Nd.v]at w;rw[Nd.v,Nd.v]at d;generalize n.map Nd.v=ah at z d;generalize g.map Nd.v=ai at w d;have hw:=J1 (k:=k) om;refine J (Ah (Y [1,2,7,8,15,16,17] [8] (by simp[z,s]<;>rfl) (Y [1,2,8,9,15,16,17] [8,9] (by simp[w,c]<;>rfl) (J (Ak (Ay 3 sr ?_))))));refine Ac d func45 ?_ (ha:=rfl) (hp:=rfl);refine Aa [1,2,15,16,17,30] [] sr ?_
  refine Au (λh3=>?_) λh3=>Ae ?_
  .refine Y [6] [] sr ?_;refine Ao (Ab sr ?_);have af:q=false:=sG h3
   rw[af,A2h,<- hka,<- hkb]at u
   congr 1
   symm
   rw[Aid];rintro rfl;exact u rfl
  refine Ba [1,2,15,16,17] [] (by simp[hw]<;>rfl) ?_;refine⟨f,λj h4 h5 h6=>?_,_,Z⟩
  by_cases e:j=k
  .subst e;have ae:q=true:=sG h3
   rw[ae,Bd2,<- hka,<- hkb]at u;exact u
  .exact hI j h4 h5 om
 .refine A6 ?_;refine Y [6] [] sr ?_;refine Ao (Ab sr ?_)
  congr 1
  symm
  rw[A8u];have ag:k=la.length:=sO h2
  exact Bho ab λj h4 h5=>hI j h4 h5 om
def A2i(b:Nd)(a:Nd):AE 45 [a.v,b.v] (.bool (eqN a b)):=by
 suffices h:∀(m:Nat)(a b:Nd),SizeOf.sizeOf a<m->AE 45 [a.v,b.v] (.bool (eqN a b))from h _ a b (T6 _)
 intro m
 induction m with
 |zero=>intro a b h;omega
 |succ m ih=>
 intro a b hm;have⟨o,u,j,l,d⟩:=a;have⟨w,k2,n2,z,c⟩:=b;have g:=Bhp d c (λx hx y=>ih x y (by have:=Nd.kid_lt (t:=o) (k:=u) (n:=j) (s:=l) hx;omega));have e:=Wk d;have f:=Wk c
 have hE:eqN (Nd.mk o u j l d) (Nd.mk w k2 n2 z c)=(decide (o=w)&&decide (u=k2)&&decide (j=n2)&&decide (l=z)&&Asw d c):=by
  rw[M1];simp[eqN,Asw,and_assoc]
 rw[hE];rw[Nd.v,Nd.v];generalize d.map Nd.v=aa at g e;generalize c.map Nd.v=ab at g f;generalize Asw d c=q at g;refine Aq func45 λw0 N0=>?_;refine Y [2,3] [2,3] sr (Bn 31 sr ?_);refine Ep (λhg=>g) func82 rfl kr sr rfl rfl sr sM sr (Aa [4] [] sr ?_);refine By sr ?_;simp
def Nd.nn:Nd->Int
 | .mk _ _ n _ _ =>n
def Nd.ss:Nd->List UInt8
 | .mk _ _ _ s _ =>s
def evA(t:Int)(d c1 c e f:Nd):Jv:=⟨2,t,d.nn,c1.kids.map Nd.nn,c.nn,e.ss,decide (f.nn=1),0,0,0,0⟩
def evI(t:Int)(d c1 c:Nd):Jv:=⟨5,t,0,[],0,[],false,d.nn,t,c1.nn,c.nn⟩
def evT(k t:Int):Jv:=⟨k,t,0,[],0,[],false,0,0,0,0⟩
def gP(x:Nd):Jv:=match x.kids with
 |a::b::l=>
  if a.nn=2 then(match l with
   | [d,c1,c,e,f]=>if c1.kids.length<=10 then evA b.nn d c1 c e f else evT a.nn b.nn
   |_ =>evT a.nn b.nn)
  else if a.nn=5 then(match l with
   | [d,c1,c]=>evI b.nn d c1 c
   |_ =>evT a.nn b.nn)
  else evT a.nn b.nn
 |_ =>zE
def gR(x:Nd):Jv:=match x.kids with
 |a::b::l=>
  if a.nn=2 then(match l with
   | [d,c1,c,e,f]=>evA b.nn d c1 c e f
   |_ =>evT a.nn b.nn)
  else if a.nn=5 then(match l with
   | [d,c1,c]=>evI b.nn d c1 c
   |_ =>evT a.nn b.nn)
  else evT a.nn b.nn
 |_ =>zE
def Bd3{l:List Nd}(h:l.length=5):∃a b c d e,l= [a,b,c,d,e]:=by
 match l,h with
 | [a,b,c,d,e],_ =>exact⟨a,b,c,d,e,rfl⟩
def A8v{l:List Nd}(h:l.length=3):∃a b c,l= [a,b,c]:=by
 match l,h with
 | [a,b,c],_ =>exact⟨a,b,c,rfl⟩
def Bd4{x a b:Nd}{l:List Nd}(d:x.kids=a::b::l)(h2:a.nn=2)(c:l.length≠5):gP x=evT a.nn b.nn/\gR x=evT a.nn b.nn:=by
 unfold gP gR;rw[d];simp only[h2,if_true]
 constructor
 .split
  .exact absurd rfl c
  .rfl
 .split
  .exact absurd rfl c
  .rfl
def A8w{x a b:Nd}{l:List Nd}(e:x.kids=a::b::l)(h2:a.nn≠2)(c:a.nn=5->l.length≠3):gP x=evT a.nn b.nn/\gR x=evT a.nn b.nn:=by
 unfold gP gR;rw[e];simp only[h2,if_false]
 by_cases d:a.nn=5
 .have c:=c d;simp only[d,if_true]
  constructor
  .split
   .exact absurd rfl c
   .rfl
  .split
   .exact absurd rfl c
   .rfl
 .simp only[d,if_false,and_self]
def T5(k t a b c:Int)(d:Int)(e f:Int)(s:List UInt8)(o:Bool):Bj (.agg [.i k,.i t,.i a,.nils,.i b,.str s,.bool o,.i c,.i d,.i e,.i f]) (Jv.v ⟨k,t,a,[],b,s,o,c,d,e,f⟩):=
 Bj.agg (.cons (Bj.refl _) (.cons (Bj.refl _) (.cons (Bj.refl _) (.cons (Bj.nils 1) (RelaxL.refl _)))))
set_option maxRecDepth 100000 in
def Al9(t k n:Int)(s:List UInt8)(w u d:Int)(z:List UInt8)(av:List V)(y kb m:Int)(sb:List UInt8)(x:List V)(lv:List V)
  (g:¬d=2\/lv.length≠5)(hg:d=5->lv.length≠3):AE 43 [.agg [.i t,.i k,.i n,.str s,.ro 5 (.agg [.i w,.i u,.i d,.str z,.ro 5 av]:: .agg [.i y,.i kb,.i m,.str sb,.ro 5 x]::lv)]] ((evT d m).v):=by
 refine AC.relax ?_ (T5 d m 0 0 0 0 0 0 [] false)
 have e:decide (d=2)=false\/(decide ((lv.length:Int)=5))=false:=by
  rcases g with g|g
  .exact .inl (sG g)
  .exact .inr so
 have c:(decide (d=5)&&decide ((lv.length:Int)=3))=false:=by
  by_cases o:d=5
  .have:=hg o;simp[o];omega
  .simp[o]
 rcases e with e|e
 .refine Aq func43 (λw0 N0=>?_);refine Y [1,2] [1,2] sr (Y [1,2,3] [1,2,3] sr (J (A9 [10] sr ?_)));refine A0 rfl (λh1=>by simp at h1;omega) (λh1=>Ae ?_);have h:(0:Int)<(lv.length:Int)+1+1:=om;have j:(1:Int)<(lv.length:Int)+1+1:=om;have l:(2:Int)<=(lv.length:Int)+1+1:=om;refine Y [1,2,3] [1,2,3] Du (A9 [] Du (Y [2,3,4] [2,3] Du (J (Ah (Bn 9 Du ?_)))));refine Kd 6 sr (Aa [2,3,4,27] [2,3] sr ?_);refine A0 rfl (λh2=>by simp[e]at h2) (λh2=>?_);refine Y [2,3,4,82] [2,3] Du (A0 rfl (λf=>by simp[c]at f) (λf=>Ae ?_));exact Y [2] [2] sr (By sr rf)
 .refine Aq func43 (λw0 N0=>?_);refine Y [1,2] [1,2] sr (Y [1,2,3] [1,2,3] sr (J (A9 [10] sr ?_)));refine A0 rfl (λh1=>by simp at h1;omega) (λh1=>Ae ?_);have h:(0:Int)<(lv.length:Int)+1+1:=om;have j:(1:Int)<(lv.length:Int)+1+1:=om;have l:(2:Int)<=(lv.length:Int)+1+1:=om;refine Y [1,2,3] [1,2,3] Du (A9 [] Du (Y [2,3,4] [2,3] Du (J (Ah (Bn 9 Du ?_)))));refine Kd 6 sr (Aa [2,3,4,27] [2,3] sr ?_);refine A0 rfl (λh2=>by simp[e]at h2) (λh2=>?_);refine Y [2,3,4,82] [2,3] Du (A0 rfl (λf=>by simp[c]at f) (λf=>Ae ?_));exact Y [2] [2] sr (By sr rf)
def Ama(t k n:Int)(s:List UInt8)(lv:List V)(h:lv.length<2):AE 43 [.agg [.i t,.i k,.i n,.str s,.ro 5 lv]] zE.v:=by
  refine AC.relax ?_ (T5 0 0 0 0 0 0 0 0 [] false);have h2:(lv.length:Int)<2:=om;refine Aq func43 λw0 N0=>?_;refine Y [1,2] [1,2] sr (Y [1,2,3] [1,2,3] sr (J (A9 [10] sr ?_)));refine A0 rfl (λh1=>?_) (λh1=>by simp at h1;omega);exact Y [2] [2] sr (Ao (Ab sr rf))
set_option maxRecDepth 100000 in
def A2j(t k n:Int)(s:List UInt8)(t0 u c:Int)(h:List UInt8)(v0:List V)(t1 k1 e:Int)(l:List UInt8)(w:List V)(t2 k2 n2:Int)(z:List UInt8)(v2:List V)(t3 k3 m:Int)(s3:List UInt8)(d:List V)(t4 y x:Int)(s4:List UInt8)(v4:List V)(t5 k5 j:Int)(s5:List UInt8)(o:List V)(t6 k6 n6:Int)(s6:List UInt8)(v6:List V)(h2:c=2)(hv:10<d.length):AE 43 [.agg [.i t,.i k,.i n,.str s,.ro 5 [.agg [.i t0,.i u,.i c,.str h,.ro 5 v0],.agg [.i t1,.i k1,.i e,.str l,.ro 5 w],.agg [.i t2,.i k2,.i n2,.str z,.ro 5 v2],.agg [.i t3,.i k3,.i m,.str s3,.ro 5 d],.agg [.i t4,.i y,.i x,.str s4,.ro 5 v4],.agg [.i t5,.i k5,.i j,.str s5,.ro 5 o],.agg [.i t6,.i k6,.i n6,.str s6,.ro 5 v6]]]] ((evT c e).v):=by
  refine AC.relax ?_ (T5 c e 0 0 0 0 0 0 [] false);subst h2;have f:¬(d.length:Int)<=10:=om;refine Aq func43 (λw0 N0=>?_);refine Y [1,2] [1,2] sr (Y [1,2,3] [1,2,3] sr (J (A9 [10] sr ?_)));refine A0 rfl sA (λh1=>Ae (Y [1,2,3] [1,2,3] sr (A9 [] sr (Y [2,3,4] [2,3] sr (J (Ah (A9 [27] Du ?_)))))));refine A0 rfl sA (λh2=>?_);refine Y [2,3,4,82] [2,3] sr (A0 rfl sA (λg=>Ae ?_));exact Y [2] [2] sr (By sr rf)
set_option maxRecDepth 100000 in
def A2k(t k n:Int)(s:List UInt8)(t0 o h:Int)(j:List UInt8)(v0:List V)(y k1 c:Int)(l:List UInt8)(u:List V)(t2 k2 f:Int)(x:List UInt8)(z:List V)(t3 k3 d:Int)(s3:List UInt8)(m:List V)(t4 w e:Int)(s4:List UInt8)(v4:List V)(h5:h=5):AE 43 [.agg [.i t,.i k,.i n,.str s,.ro 5 [.agg [.i t0,.i o,.i h,.str j,.ro 5 v0],.agg [.i y,.i k1,.i c,.str l,.ro 5 u],.agg [.i t2,.i k2,.i f,.str x,.ro 5 z],.agg [.i t3,.i k3,.i d,.str s3,.ro 5 m],.agg [.i t4,.i w,.i e,.str s4,.ro 5 v4]]]] (Jv.v ⟨5,c,0,[],0,[],false,f,c,d,e⟩):=by
  refine AC.relax ?_ (T5 5 c 0 0 f c d e [] false);subst h5;refine Aq func43 (λw0 N0=>?_);refine Y [1,2] [1,2] sr (Y [1,2,3] [1,2,3] sr (J (A9 [10] sr ?_)));refine A0 rfl sA (λh1=>Ae (Y [1,2,3] [1,2,3] sr (A9 [] sr (Y [2,3,4] [2,3] sr (J (Ah (Bn 9 sr ?_)))))));refine Kd 6 sr (Aa [2,3,4,27] [2,3] sr ?_);refine A0 rfl sA (λh2=>?_);refine Y [2,3,4,82] [2,3] sr (A0 rfl (λg=>?_) sA);exact R8 [(0,[]),(1,[]),(2,[]),(4,[]),(6,[]),(7,[]),(8,[]),(10,[]),(11,[]),(12,[]),(3,[]),(5,[]),(9,[]),(13,[]),(14,[]),(15,[]),(16,[])] [2,3] [2,3] Sj kr sr (Y [2] [2] sr (By sr rf))
set_option maxRecDepth 100000 in
def A2l(t k n:Int)(s:List UInt8)(t0 k0 n0:Int)(s0:List UInt8)(v0:List V)(t1 k1 n1:Int)(s1:List UInt8)(v1:List V)(t2 k2 n2:Int)(s2:List UInt8)(v2:List V)(t3 k3 n3:Int)(s3:List UInt8)(c:List V)(t4 k4 n4:Int)(s4:List UInt8)(v4:List V)(t5 k5 n5:Int)(s5:List UInt8)(v5:List V)(t6 k6 n6:Int)(s6:List UInt8)(v6:List V)(ks:List Nd)(g:c=ks.map Nd.v)(h2:n0=2)(hv:c.length<=10):AE 43 [.agg [.i t,.i k,.i n,.str s,.ro 5 [.agg [.i t0,.i k0,.i n0,.str s0,.ro 5 v0],.agg [.i t1,.i k1,.i n1,.str s1,.ro 5 v1],.agg [.i t2,.i k2,.i n2,.str s2,.ro 5 v2],.agg [.i t3,.i k3,.i n3,.str s3,.ro 5 c],.agg [.i t4,.i k4,.i n4,.str s4,.ro 5 v4],.agg [.i t5,.i k5,.i n5,.str s5,.ro 5 v5],.agg [.i t6,.i k6,.i n6,.str s6,.ro 5 v6]]]] (Jv.v ⟨2,n1,n2,ks.map Nd.nn,n4,s5,decide (n6=1),0,0,0,0⟩):=by
  subst h2;have ag:(c.length:Int)<=10:=om;have ai:c.length=ks.length:=by rw[g];simp
  have ab:∀(j:Nat)(h:j<ks.length),Hj c j=some ks[j].v:=λj h=>by rw[g];exact A77 h
  have af:(Qs (ks.map Nd.nn)).length=ks.length:=by simp[Qs]
  have y:∀(j:Nat)(h:j<ks.length),(Qs (ks.map Nd.nn))[j]? =some (.i ks[j].nn):=λj h=>by simp[Qs,h]
  have w:=Asn (ks.map Nd.nn);clear g;simp only[Jv.v];generalize Qs (ks.map Nd.nn)=o at af y w|-;refine Aq func43 (λw0 N0=>?_);refine Y [1,2] [1,2] sr (Y [1,2,3] [1,2,3] sr (J (A9 [10] sr ?_)));refine A0 rfl sA (λh1=>Ae (Y [1,2,3] [1,2,3] sr (A9 [] sr (Y [2,3,4] [2,3] sr (J (Ah (A9 [27] (by simp[ag]<;>rfl) ?_)))))));refine A0 rfl (λh2=>?_) sA;refine Do [(0,[]),(1,[]),(2,[]),(4,[]),(5,[]),(6,[]),(8,[]),(9,[]),(10,[]),(12,[]),(13,[]),(14,[]),(3,[]),(7,[]),(11,[]),(15,[]),(16,[]),(17,[]),(18,[]),(19,[])] [2,3,4] [2,3] Sj kr sr (Y [2,3,66,67,68] [2,3] sr ?_);refine Ni 3 3 100 1 3 [2,3,66,67,68] [2,3,100] sr ?_;refine Ah ?_
  refine C3 (λx:Nat × Nat × Nat=>⟨[(2,.bp 2 1 11 0 0),(3,.bp 3 2 11 0 0),(66,.ro 5 c),(67,.i c.length),(68,.i x.1)],
    [(2,⟨1,11,79,[.agg [.i 0,.i 0,.i 0,.nils,.i 0,.str [],.bool false,.i 0,.i 0,.i 0,.i 0]]⟩),(3,⟨2,11,79,[.agg [.i 2,.i n1,.i n2,.sl 100 x.2.1 1 x.1,.i n4,.str s5,.bool (decide (n6=1)),.i 0,.i 0,.i 0,.i 0]]⟩),(100,⟨x.2.1,1,3,o.take x.1⟩)],x.2.2,108⟩)
    (λx=>x.1<=ks.length) (λx=>ks.length-x.1) (0,68,_) (Cg _) Z ?_
  rintro⟨j,q,nx⟩hj;simp only at hj;have u:(o.take j).length=j:=by rw[Da];omega
  generalize e:o.take j=row at u|-;refine Y [2,3,66,67,68,69] [2,3,100] sr (J ?_)
  refine Cu (λh3=>?_) (λh3=>?_)
  .have l:j<ks.length:=by simp at h3;omega
   have aa:j<c.length:=om;have d:j<o.length:=om;have ga:=ab j l;have hw:=J1 (k:=j) om
   have m:o.take (j+1)=row++[.i ks[j].nn]:=by
    rw[Az d,e]
    congr 2
    have:=y j l;rw[Ai d]at this;injection this
   have ad:j+1<=maxLen:=by unfold maxLen;omega
   have ae:(j+1)*8<=140737488355328:=om;rcases hkj:ks[j]with⟨tj,kj,nj,sj,ah⟩;rw[hkj]at ga m;simp only[Nd.nn]at m;rw[Nd.v]at ga;generalize ah.map Nd.v=aj at ga;refine J (Ah (Y [2,3,6,66,67,68] [2,3,6,100] (by simp[ga,aa]<;>rfl) (Ba [2,3,66,67,68] [2,3,100] (by simp[u,ad,ae]<;>rfl) (Cw [] (by simp[hw]<;>rfl) ?_))));exact⟨(j+1,_,_),l,by simp only;omega,by simp only[m];exact Z⟩
  .refine A6 ?_;have z:j=o.length:=sO h3
   have f:row=o:=by rw[<- e,z,Be]
   subst f z;refine Y [2] [2,100] sr ?_;exact By (by simp[results43,w]<;>rfl) rfl
def A8x(x:Nd):AE 43 [x.v] ((gP x).v):=by
 have⟨t,k,n,s,ks⟩:=x
 match hks:ks with
 | []=>subst hks;rw[Nd.v];exact Ama t k n s _ sm
 | [a]=>subst hks;rw[Nd.v];exact Ama t k n s _ sm
 |a::b::l=>
  have⟨o,g,d,e,l0⟩:=a;have⟨j,m,c,f,l1⟩:=b
  by_cases h2:d=2
  .by_cases w:l.length=5
   .obtain⟨c0,c1,c2,c3,c4,rfl⟩:=Bd3 w;have⟨t2,k2,y,s2,l2⟩:=c0;have⟨t3,k3,z,s3,l3⟩:=c1;have⟨t4,k4,u,s4,l4⟩:=c2;have⟨t5,k5,n5,s5,l5⟩:=c3;obtain⟨t6,k6,n6,s6,l6⟩:=c4
    by_cases aa:l3.length<=10
    .have hg:gP (Nd.mk t k n s [Nd.mk o g d e l0,Nd.mk j m c f l1,Nd.mk t2 k2 y s2 l2,Nd.mk t3 k3 z s3 l3,Nd.mk t4 k4 u s4 l4,Nd.mk t5 k5 n5 s5 l5,Nd.mk t6 k6 n6 s6 l6])=⟨2,c,y,l3.map Nd.nn,u,s5,decide (n6=1),0,0,0,0⟩:=by
      simp only[gP,Nd.kids,Nd.nn,Nd.ss,h2,if_true,aa,evA];rfl
     rw[hg];simp only[Nd.v,B6,C6];exact A2l t k n s o g d e _ j m c f _ t2 k2 y s2 _ t3 k3 z s3 _ t4 k4 u s4 _ t5 k5 n5 s5 _ t6 k6 n6 s6 _ l3 rfl h2 (sG aa)
    .have hg:gP (Nd.mk t k n s [Nd.mk o g d e l0,Nd.mk j m c f l1,Nd.mk t2 k2 y s2 l2,Nd.mk t3 k3 z s3 l3,Nd.mk t4 k4 u s4 l4,Nd.mk t5 k5 n5 s5 l5,Nd.mk t6 k6 n6 s6 l6])=evT d c:=by
      simp only[gP,Nd.kids,Nd.nn,h2,if_true,aa,if_false]
     rw[hg];simp only[Nd.v,B6,C6];exact A2j t k n s o g d e _ j m c f _ t2 k2 y s2 _ t3 k3 z s3 _ t4 k4 u s4 _ t5 k5 n5 s5 _ t6 k6 n6 s6 _ h2 so
   .rw[(Bd4 (x:=Nd.mk t k n s (Nd.mk o g d e l0::Nd.mk j m c f l1::l)) rfl h2 w).1];simp only[Nd.v,B6];exact Al9 t k n s o g d e _ j m c f _ _ (.inr (sG w)) (λh=>by omega)
  .by_cases w:d=5/\l.length=3
   .obtain⟨w,h3⟩:=w;obtain⟨c0,c1,c2,rfl⟩:=A8v h3;obtain⟨t2,k2,y,s2,l2⟩:=c0;obtain⟨t3,k3,z,s3,l3⟩:=c1;obtain⟨t4,k4,u,s4,l4⟩:=c2
    have hg:gP (Nd.mk t k n s [Nd.mk o g d e l0,Nd.mk j m c f l1,Nd.mk t2 k2 y s2 l2,Nd.mk t3 k3 z s3 l3,Nd.mk t4 k4 u s4 l4])=⟨5,c,0,[],0,[],false,y,c,z,u⟩:=by
     simp only[gP,Nd.kids,Nd.nn,w,if_true,evI];rfl
    rw[hg];simp only[Nd.v,B6,C6];exact A2k t k n s o g d e _ j m c f _ t2 k2 y s2 _ t3 k3 z s3 _ t4 k4 u s4 _ w
   .have ab:d=5->l.length≠3:=λh hl=>w ⟨h,hl⟩
    rw[(A8w (x:=Nd.mk t k n s (Nd.mk o g d e l0::Nd.mk j m c f l1::l)) rfl h2 ab).1];simp only[Nd.v,B6];exact Al9 t k n s o g d e _ j m c f _ _ (.inl h2) (λh=>by simpa using ab h)
noncomputable def Asx(g:Jv)(x:Nd):Bool:= !decide (Wl g=0)|| !eqN (Aso g) x
noncomputable def A8y(g:Jv)(x:Nd):V:=if Asx g x=true then .tup [zE.v,.i 2]else .tup [g.v,.i 0]
def A8z:Bj (.tup [.agg [.i 0,.i 0,.i 0,.nils,.i 0,.str [],.bool false,.i 0,.i 0,.i 0,.i 0],.i 2]) (.tup [zE.v,.i 2]):=
 Bj.tup (.cons (T5 0 0 0 0 0 0 0 0 [] false) (.cons (Bj.refl _) .nil))
set_option maxRecDepth 100000 in
def Asy(x:Nd):AC prog 23 [x.v] (λr=>r=A8y (gP x) x):=by
 have h:=A8x x;have d:=A15 (gP x);have e:=A2i x (Aso (gP x));have hp:=Asn (gP x).ch;unfold A8y;have f:Asx (gP x) x=(!decide (Wl (gP x)=0)|| !eqN (Aso (gP x)) x):=rfl;generalize gP x=g at h d e hp f;rw[A13]at d;have⟨t,k,n,s,ks⟩:=x;generalize hq:eqN (Aso g) (Nd.mk t k n s ks)=q at e f;rcases hm:Aso g with⟨t',k',n',s',o⟩;rw[hm]at d e;have j:=Wk ks;have l:=Wk o;simp only[Nd.v,Jv.v]at h d e|-;generalize ks.map Nd.v=kv at h e j;generalize o.map Nd.v=w at d e l;generalize Qs g.ch=cv at h d hp;generalize Wl g=u at d f
 by_cases m:Asx g (Nd.mk t k n s ks)=true
 .rw[Ad m];refine AC.relax ?_ A8z;rw[m]at f;refine Aq func23 (λw0 N0=>?_);refine Y [1,2] [1,2] sr (J (Ak (Ay 1 sr ?_)));refine Fe h func43 rfl kr rfl rfl rfl rfl sM sr (Aa [1,2,4] [1,2,4] sr ?_);refine J (Ak (Ay 1 sr ?_));refine Fe d func44 rfl kr rfl rfl rfl rfl sM sr (Aa [1,2,4,5,6] [1,2,4,5] sr ?_);refine J (J (Ak (Ay 5 sr ?_)));refine Ep (c:=decide (u=0)) (λy=>e) func45 rfl kr sm rfl rfl sr sM sr ?_;refine Aa [2,4,21] [2,4] sr ?_;refine A0 rfl (λh1=>?_) (λh1=>by rw[<- f]at h1;cases h1);exact Y [2,3] [2] sr (Ao (Ab sr rf))
 .rw[I m];rw[Bool.not_eq_true]at m;rw[m]at f;refine Aq func23 (λw0 N0=>?_);refine Y [1,2] [1,2] sr (J (Ak (Ay 1 sr ?_)));refine Fe h func43 rfl kr rfl rfl rfl rfl sM sr ?_;refine Aa [1,2,4] [1,2,4] sr ?_;refine J (Ak (Ay 1 sr ?_));refine Fe d func44 rfl kr rfl rfl rfl rfl sM sr ?_;refine Aa [1,2,4,5,6] [1,2,4,5] sr ?_;refine J (J (Ak (Ay 5 sr ?_)));refine Ep (c:=decide (u=0)) (λy=>e) func45 rfl kr sm rfl rfl sr sM sr ?_;refine Aa [2,4,21] [2,4] sr ?_;refine A0 rfl (λh1=>by rw[<- f]at h1;cases h1) (λh1=>Ae ?_);exact Y [2,3] [2] sr (Ao (Ab sr rf))
def Asz(a:BitVec 64):(a^^^BitVec.allOnes 64).toNat=2^64-1-a.toNat:=by
 rw[BitVec.xor_allOnes,BitVec.toNat_not]
def I64(n:Int):Prop:= -9223372036854775808<=n/\n<9223372036854775808
def zig(n:Int):Nat:=if n<0 then(2*(-(n+1))+1).toNat else(2*n).toNat
def Amb{n:Int}(h:I64 n):Al5 n=zig n:=by
 unfold I64 at h;unfold Al5 A8i zig
 by_cases c:n<0
 .rw[Ad c]
  have h1:IntKind.u64.wrap (n.fdiv (2^63))=18446744073709551615:=by
   have:n.fdiv (2^63)= -1:=by rw[Ca _ dC];omega
   rw[this,IntKind.wrap_u64];rfl
  have h2:IntKind.u64.wrap (IntKind.u64.wrap n*2)=2*n+18446744073709551616:=by
   rw[IntKind.wrap_u64,IntKind.wrap_u64];omega
  rw[h1,h2];show(IntKind.u64.wrap ((BitVec.ofInt 64 (2*n+18446744073709551616)^^^BitVec.allOnes 64).toNat:Int)).toNat=_
  rw[Asz,Nc,IntKind.wrap_u64];omega
 .rw[I c]
  have h1:IntKind.u64.wrap (n.fdiv (2^63))=0:=by
   have:n.fdiv (2^63)=0:=by rw[Ca _ dC];omega
   rw[this,IntKind.wrap_u64];rfl
  have h2:IntKind.u64.wrap (IntKind.u64.wrap n*2)=2*n:=by
   rw[IntKind.wrap_u64,IntKind.wrap_u64];omega
  rw[h1,h2];show(IntKind.u64.wrap ((BitVec.ofInt 64 (2*n)^^^BitVec.ofInt 64 0).toNat:Int)).toNat=_
  have:BitVec.ofInt 64 0=0#64:=rfl;rw[this,BitVec.xor_zero,Nc,IntKind.wrap_u64];omega
def zag(x:Nat):Int:=if x%2=1 then -((x/2:Nat):Int)-1 else((x/2:Nat):Int)
def Aie{x:Nat}(h:x<2^64):Avv x=zag x:=by
 unfold Avv zag
 have h1:IntKind.i64.wrap ((x:Int).fdiv (2^min 1 IntKind.u64.bits))=((x/2:Nat):Int):=by
  show IntKind.i64.wrap ((x:Int).fdiv 2)=_
  rw[Ca _ dc,En om oM];omega
 have h2:bits .and .u64 (x:Int) 1=((x%2:Nat):Int):=by
  have:=(Abv x 1 ⟨h,by decide⟩).2.1;rw[show(1:Int)=((1:Nat):Int)from rfl,this]
  congr 1
  exact Kj x 1
 rw[h1,h2,En (x:=((x%2:Nat):Int)) om oM]
 by_cases d:x%2=1
 .rw[Ad d,d];have c:IntKind.i64.wrap (-((1:Nat):Int))= -1:=by rw[En om oM];rfl
  rw[c];show IntKind.i64.wrap ((BitVec.ofInt 64 ((x/2:Nat):Int)^^^BitVec.allOnes 64).toNat:Int)=_
  rw[Asz,Nc,IntKind.wrap_i64];omega
 .rw[I d];have e:x%2=0:=om;rw[e];have c:IntKind.i64.wrap (-((0:Nat):Int))=0:=by rw[En om oM];rfl
  rw[c];show IntKind.i64.wrap ((BitVec.ofInt 64 ((x/2:Nat):Int)^^^BitVec.ofInt 64 0).toNat:Int)=_
  have:BitVec.ofInt 64 0=0#64:=rfl;rw[this,BitVec.xor_zero,Nc,IntKind.wrap_i64];omega
def A2m{x:Nat}(h:x<2^64):I64 (zag x):=by unfold zag I64;split<;>omega
def Bd5(x:Nat):zig (zag x)=x:=by
 unfold zig zag
 by_cases h:x%2=1
 .simp only[Ad h];split<;>omega
 .simp only[I h];split<;>omega
def Fit:Nat->Nd->Prop
 |0,_ =>False
 |m+1,.mk t k n s ks=>0<=t/\t<=9999999/\I64 n/\((k=1/\s= []/\ks= [])\/(k=2/\n=0/\ks= []/\s.length<=2000)\/(k=3/\n=0/\s= []/\ks.length<=1024))/\∀x∈ks,Fit m x
variable {g m:Nat}
def Bka:zE.v=.agg [.i 0,.i 0,.i 0,.ro 1 [],.i 0,.str [],.bool false,.i 0,.i 0,.i 0,.i 0]:=rfl
def Bid(g:Jv)(x:Nd):∃(h:Jv)(c:Int),A8y g x=.tup [h.v,.i c]:=by
 unfold A8y
 split
 .exact⟨zE,2,rfl⟩
 .exact⟨g,0,rfl⟩
def Amc:∀ {k i x d y a:Nat},i+k=10->rdV bs e k i x d=.ok (y,a)->∃z,y=x+z*128^i/\(0<i->z≠0)/\a=d+(Ph z).length
 |0,i,x,d,y,a,l,h=>by simp[rdV]at h
 |k+1,i,x,d,y,a,l,h=>by
  rw[rdV]at h
  split at h
  .cases h
  rename_i c hc
  split at h
  .cases h
  rename_i o
  split at h
  .rename_i f;injection h with h;injection h with h1 h2;refine⟨c.toNat,h1.symm,λn g=>o (.inr ⟨n,g⟩),?_⟩;rw[Ax8 f,<- h2];rfl
  .rename_i j;have⟨z,h1,h2,m⟩:=Amc om h;have hz:=h2 om
   refine⟨c.toNat%128+128*z,?_,λ_ =>by omega,?_⟩
   .rw[h1,Ce,Cc,Bh 128 z,B9 z 128,Bh 128 (128^i),Hl]
   .rw[Ax9 om,show(c.toNat%128+128*z)/128=z by omega,m,A3];omega
def Zp{y a:Nat}(h:rdV bs e 10 0 0 c=.ok (y,a)):a=c+(Ph y).length:=by
 have⟨z,h1,_,d⟩:=Amc om h;have:=sG h1
 rw[this];exact d
def Amd{y a:Nat}(h:rdC bs e c d=.ok (y,a)):a=d+(Ph y).length:=by
 unfold rdC at h
 split at h
 .cases h
 .rename_i x a' f
  split at h
  .cases h
  .injection h with h;injection h with h1 h2;subst h1 h2;exact Zp f
def Ame{f:Nat->Except Int (Nd × Nat)}(g:∀c x a,c<=bs.length->f c=.ok (x,a)->a<=bs.length/\Fit m x/\a=c+(Zk x).length):∀ {n c:Nat}{l:List Nd}{a:Nat},c<=bs.length->rdL f n c=.ok (l,a)->
  (∀x∈l,Fit m x)/\a=c+((l.map Zk).flatten).length/\l.length=n
 |0,c,l,a,_,h=>by simp only[rdL,Except.ok.injEq,Bx]at h;obtain⟨rfl,rfl⟩:=h;simp
 |n+1,c,l,a,e,h=>by
  rw[rdL]at h
  split at h
  .cases h
  .rename_i x a1 k
   split at h
   .cases h
   .rename_i l' a2 t;injection h with h;injection h with h1 h2;subst h1 h2;have⟨s,j,g3⟩:=g _ _ _ e k;have⟨r,h4,o⟩:=Ame g s t
    refine⟨λy d=>?_,?_,by simp[o]⟩
    .rcases B8.1 d with rfl|d
     .exact j
     .exact r y d
    .simp only[B6,List.flatten_cons,A1];omega
def Amf:∀ {lv c a:Nat}{x:Nd},c<=bs.length->Yl bs e lv c=.ok (x,a)->Fit lv x/\a=c+(Zk x).length
 |0,c,a,x,_,h=>by simp[Yl]at h
 |lv+1,c,a,x,d,h=>by
  rw[Yl]at h
  split at h
  .cases h
  rename_i ad a1 hv;have c1:=Zp hv;have⟨_,aa,_⟩:=Pj (i:=0) om sm d hv
  split at h
  .cases h
  rename_i w
  split at h
  .cases h
  rename_i k hk;have ae:=(Al.1 hk).1;have z:I64 0:=by unfold I64;omega
  split at h
  .split at h
   .cases h
   .rename_i y t j;have⟨f,_,_⟩:=Pj (i:=0) om sm om j;have u:=Zp j;injection h with h;injection h with h1 h2;subst h1 h2;have o:=A2m f;rw[<- Aie f]at o
    refine⟨?_,?_⟩
    .rw[Fit];exact⟨by omega,by omega,o,.inl ⟨rfl,rfl,rfl⟩,by simp⟩
    .rw[Zk,Ad rfl,Amb o,Aie f,Bd5];simp only[A1,A3,Dh];omega
  .split at h
   .split at h
    .cases h
    .rename_i n t g;have⟨hn,_,_⟩:=T2 om g;have u:=Amd g
     split at h
     .rename_i ab;injection h with h;injection h with h1 h2;subst h1 h2;have s:((bs.drop t).take n).length=n:=by simp;omega
      refine⟨?_,?_⟩
      .rw[Fit];exact⟨by omega,by omega,z,.inr (.inl ⟨rfl,rfl,rfl,by omega⟩),by simp⟩
      .rw[Zk,I om,Ad rfl];simp only[A1,A3,Dh,s];omega
     .cases h
   .split at h
    .split at h
     .cases h
     .rename_i n t g;have⟨hn,r,_⟩:=T2 om g;have u:=Amd g
      split at h
      .cases h
      .rename_i l a3 hl;injection h with h;injection h with h1 h2;subst h1 h2;have⟨g1,g2,g3⟩:=Ame (m:=lv) (λc x a d hx=>⟨Adp d hx,Amf d hx⟩) r hl
       refine⟨?_,?_⟩
       .rw[Fit];exact⟨by omega,by omega,z,.inr (.inr ⟨rfl,rfl,rfl,by omega⟩),g1⟩
       .rw[Zk,I om,I oM];simp only[A1,A3,Dh,g3];omega
    .cases h
def szs:List Nd->Nat
 | []=>0
 |x::r=>12+(Zk x).length+szs r
def Aoq:∀(a b:List Nd),szs (a++b)=szs a+szs b
 | [],b=>by simp[szs]
 |x::a,b=>by simp only[Co,szs,Aoq a b];omega
def Aif{l:List Nd}(h:k<l.length):szs (l.take (k+1))=szs (l.take k)+(12+(Zk l[k]).length):=by
 rw[Az h,Aoq];simp[szs]
def Av0{n:Int}{x:Nd}(h:R1 l s n=.ok (x,k,s')):Fit 8 x/\Gw (l.take 4)=(Zk x).length/\k=12+(Zk x).length/\(Zk x).length<=2000/\k<=l.length:=by
 have⟨h1,h2,h3,h4,h5,h6,h7,d⟩:=Us h;have⟨c,g2⟩:=Amf sm d;exact⟨c,by omega,by omega,by omega,by omega⟩
def Run.canon{c:List Nd}(h:Run l g s c):g=szs c/\(∀x∈c,Fit 8 x/\(Zk x).length<=2000)/\∀(k:Nat)(hk:k<c.length),szs (c.take k)+12+(Zk c[k]).length<=l.length/\Gw ((l.drop (szs (c.take k))).take 4)=(Zk c[k]).length:=by
 induction h with
 |start=>exact⟨rfl,by simp,by simp⟩
 | @step o s0 e x k s' h hx ih=>
  have⟨n,r,w⟩:=ih;have⟨g1,u,z,g4,g5⟩:=Av0 hx;have aa:=h.le.1;simp only[Eu]at g5
  refine⟨by rw[Aoq,n,z];simp[szs],λy d=>?_,λj t=>?_⟩
  .rcases Cn.1 d with d|d
   .exact r y d
   .simp at d;subst d;exact⟨g1,g4⟩
  .by_cases f:j<e.length
   .rw[Cv om];simp only[List.getElem_append_left f];exact w j f
   .have m:j=e.length:=by simp at t;omega
    subst m;simp only[U6,List.getElem_concat_length];rw[<- n];exact⟨by omega,u⟩
def Av1(a b i:Nat)(h:2^i*a+b<2^62)(f:b<2^i):bits .or .i64 ((2^i*a:Nat):Int) (b:Int)=((2^i*a+b:Nat):Int):=by
 have c:2^i*a<2^64:=om;have d:b<2^64:=om;have e:∀n:Nat,BitVec.ofInt 64 (n:Int)=BitVec.ofNat 64 n:=λn=>by simp
 show IntKind.i64.wrap ((BitVec.ofInt 64 ((2^i*a:Nat):Int)|||BitVec.ofInt 64 (b:Int)).toNat:Int)=_
 rw[e,e,M0,Dm,Dm,Bm c,Bm d,<- Hh f];exact En om om
def or4(a b c d:Nat)(ha:a<256)(hb:b<256)(hc:c<256)(hd:d<256):
  bits .or .i64 (bits .or .i64 (bits .or .i64 (IntKind.i64.wrap ((a:Int)*2^min 24 IntKind.i64.bits)) (IntKind.i64.wrap ((b:Int)*2^min 16 IntKind.i64.bits))) (IntKind.i64.wrap ((c:Int)*2^min 8 IntKind.i64.bits))) (d:Int)=((((a*256+b)*256+c)*256+d:Nat):Int):=by
 have h1:IntKind.i64.wrap ((a:Int)*2^min 24 IntKind.i64.bits)=((2^24*a:Nat):Int):=by
  show IntKind.i64.wrap ((a:Int)*16777216)=_
  rw[En om oM];omega
 have h2:IntKind.i64.wrap ((b:Int)*2^min 16 IntKind.i64.bits)=((2^16*b:Nat):Int):=by
  show IntKind.i64.wrap ((b:Int)*65536)=_
  rw[En om oM];omega
 have e:IntKind.i64.wrap ((c:Int)*2^min 8 IntKind.i64.bits)=((2^8*c:Nat):Int):=by
  show IntKind.i64.wrap ((c:Int)*256)=_
  rw[En om oM];omega
 rw[h1,h2,e,Av1 a (2^16*b) 24 om oM];have g:2^24*a+2^16*b=2^16*(256*a+b):=om;rw[g,Av1 _ (2^8*c) 16 om oM];have f:2^16*(256*a+b)+2^8*c=2^8*(65536*a+256*b+c):=om;rw[f,Av1 _ d 8 om oM];omega
def A2n{p:Nat}(h:p+3<l.length):Gw ((l.drop p).take 4)=((l[p].toNat*256+l[p+1].toNat)*256+l[p+2].toNat)*256+l[p+3].toNat:=by
 have e:(l.drop p).take 4= [l[p],l[p+1],l[p+2],l[p+3]]:=by
  apply Pl
  .simp;omega
  .intro i h1 h2;simp at h2;rcases(show i=0\/i=1\/i=2\/i=3 by omega)with rfl|rfl|rfl|rfl<;>simp
 rw[e];have h0:=l[p].toNat_lt;have h1:=l[p+1].toNat_lt;have h2:=l[p+2].toNat_lt;have h3:=l[p+3].toNat_lt;simp only[Gw,My,List.foldl_nil];omega
def Amg(l:List UInt8)(hl:l.length<=2^40)(n:Nat)(hn:n<=300)(ps:Nat->Nat)(h0:ps 0=0)(hs:∀k,k<n->ps k+4<=l.length/\ps (k+1)=ps k+(12+Gw ((l.drop (ps k)).take 4))/\Gw ((l.drop (ps k)).take 4)<=2000):
  AE 16 [.ro 1 (Ls l),.i n] (.i (ps n)):=by
 have s:=λ(k:Nat)(h:k<l.length)=>A8b h
 have aa:=Abw l;generalize Ls l=lv at s aa;refine Aq func16 λw0 N0=>?_;refine Y [0,1] [] sr (A9 [5] sr (J (Y [0,5,7,8] [] sr (Ah (Bu (λk nx=>⟨[(0,.ro 1 lv),(5,.i (ps k)),(7,.i n),(8,.i k)],[],nx,46⟩) (λk=>k<=n) n _ (Cg _) (by simp[h0];exact Z) ?_)))));intro k nx hk hI;refine Y [0,5,7,8,9] [] sr (J ?_)
 refine Cu (λh1=>?_) λh1=>?_
 .have m:k<n:=by simp at h1;omega
  have⟨q1,q2,q3⟩:=hs k m;have ag:=J1 (k:=k) om;rw[q2];generalize ps k=p at*;rw[A2n oM]at q3|-;have g0:=s p om;have y:=s (p+1) om;have w:=s (p+2) om;have g3:=s (p+3) om;simp only[Zw]at g0 y w g3;have b0:=l[p].toNat_lt;have b1:=l[p+1].toNat_lt;have b2:=l[p+2].toNat_lt;have b3:=l[p+3].toNat_lt;generalize l[p].toNat=g,l[p+1].toNat=c1,l[p+2].toNat=f,l[p+3].toNat=t at*;have e:=or4 g c1 f t b0 b1 b2 b3;obtain⟨ov,c⟩:∃ov:Int,bits .or .i64 (bits .or .i64 (bits .or .i64 (IntKind.i64.wrap ((g:Int)*2^min 24 IntKind.i64.bits)) (IntKind.i64.wrap ((c1:Int)*2^min 16 IntKind.i64.bits))) (IntKind.i64.wrap ((f:Int)*2^min 8 IntKind.i64.bits))) (t:Int)=ov:=⟨_,rfl⟩;rw[c]at e;generalize((g*256+c1)*256+f)*256+t=sz at e q2 q3|-;revert c;have w1:IntKind.i64.wrap ((p:Int)+1)=((p+1:Nat):Int):=by rw[En om oM];omega
  have w2:IntKind.i64.wrap ((p:Int)+2)=((p+2:Nat):Int):=by rw[En om oM];omega
  have w3:IntKind.i64.wrap ((p:Int)+3)=((p+3:Nat):Int):=by rw[En om oM];omega
  have v0:IntKind.i64.wrap (g:Int)=g:=En om om;have v1:IntKind.i64.wrap (c1:Int)=c1:=En om om;have v2:IntKind.i64.wrap (f:Int)=f:=En om om;have v3:IntKind.i64.wrap (t:Int)=t:=En om om;have d0:p<lv.length:=om;have d1:p+1<lv.length:=om;have d2:p+2<lv.length:=om;have d3:p+3<lv.length:=om;obtain⟨u,ad,ah⟩:∃u:Int,IntKind.i64.wrap (4+(sz:Int))=u/\u=4+(sz:Int):=⟨_,rfl,En om om⟩;obtain⟨d,j,ab⟩:∃d:Int,IntKind.i64.wrap (u+8)=d/\d=12+(sz:Int):=⟨_,rfl,by rw[En om oM];omega⟩;obtain⟨sp,ae,o⟩:∃sp:Int,IntKind.i64.wrap ((p:Int)+d)=sp/\sp=((p+(12+sz):Nat):Int):=⟨_,rfl,by rw[En om oM];omega⟩;obtain⟨p1,z⟩:∃p1,p1=p+1:=⟨_,rfl⟩;obtain⟨p2,x⟩:∃p2,p2=p+2:=⟨_,rfl⟩;obtain⟨p3,af⟩:∃p3,p3=p+3:=⟨_,rfl⟩;rw[<- z]at w1 y d1;rw[<- x]at w2 w d2;rw[<- af]at w3 g3 d3;intro c;rw[e]at c;refine J (Ah (Do [(0,[]),(1,[]),(2,[]),(6,[]),(7,[]),(8,[]),(9,[]),(14,[]),(15,[]),(16,[]),(17,[]),(22,[]),(23,[]),(24,[]),(25,[]),(3,[]),(4,[]),(5,[]),(10,[]),(11,[]),(12,[]),(13,[]),(18,[]),(19,[]),(20,[]),(21,[]),(26,[]),(27,[]),(28,[]),(29,[])] [0,5,6,7,8] [] Sj kr (by simp[w1,w2,w3,v0,v1,v2,v3,g0,y,w,g3,d0,d1,d2,d3,c]<;>rfl) ?_));refine Ba [0,5,7,8] [] (by simp[ad,j,ae]<;>rfl) (Cw [] (by simp[ag]<;>rfl) ?_);exact⟨m,by omega,_,by rw[o];exact Z⟩
 .refine A6 ?_;refine Y [4] [] sr ?_;refine By sr ?_;have:k=n:=sO h1
  rw[this]
noncomputable def Q2:List Nd->List Jv × Bool
 | []=>([],true)
 |x::r=>if Asx (gP x) x=true then([],false)else(gP x::(Q2 r).1,(Q2 r).2)
noncomputable def jvR(l:List UInt8):List Jv × Nat × Int:=
 if(Q2 (Iv l).1).2=true then((Q2 (Iv l).1).1,(Iv l).2.1,(Iv l).2.2)else((Q2 (Iv l).1).1,szs ((Iv l).1.take (Q2 (Iv l).1).1.length),2)
def evV(r:List Jv × Nat × Int):V:=.tup [.ro 11 (r.1.map Jv.v),.i r.2.1,.i r.2.2]
def Bhq(l:List Jv):(l.map Jv.v).all V.pureE=true:=by
 rw[Ar];intro v c;obtain⟨e,_,rfl⟩:=Bl.1 c;have:=Asn e.ch;unfold Jv.v;generalize Qs e.ch=cv at this;simp[V.pureE,V.cells,V.pureC]
def Bd6(l:List Nd):(Q2 l).1.length<=l.length:=by
 induction l with
 |nil=>simp[Q2]
 |cons x r ih=>rw[Q2];split<;>simp<;>omega
def Bd7{c:List Nd}{d:List Jv}(f:k<c.length)(e:d.length=k)(h:d++(Q2 (c.drop k)).1=(Q2 c).1/\(Q2 (c.drop k)).2=(Q2 c).2)(g:Asx (gP c[k]) c[k]=true):
  (Q2 c).1=d/\(Q2 c).2=false:=by
 rw[Bt f,Q2,Ad g]at h;exact⟨by rw[<- h.1];simp,h.2.symm⟩
def A80{c:List Nd}{d:List Jv}(e:k<c.length)(h:d++(Q2 (c.drop k)).1=(Q2 c).1/\(Q2 (c.drop k)).2=(Q2 c).2)(f:Asx (gP c[k]) c[k]=false):
  (d++[gP c[k]])++(Q2 (c.drop (k+1))).1=(Q2 c).1/\(Q2 (c.drop (k+1))).2=(Q2 c).2:=by
 rw[Bt e,Q2,I (by rw[f];simp)]at h;exact⟨by rw[<- h.1];simp,h.2⟩
def Bd8{c:List Nd}{d:List Jv}(h:d++(Q2 (c.drop c.length)).1=(Q2 c).1/\(Q2 (c.drop c.length)).2=(Q2 c).2):(Q2 c).1=d/\(Q2 c).2=true:=by
 rw[Ck,Q2]at h;exact⟨by rw[<- h.1];simp,h.2.symm⟩
def Aig(l:List UInt8)(t:l.length<=2^40):ACG 0 Ap8 prog 10 [.ro 1 (Ls l)] (λr=>r=evV (jvR l)):=by
 have ae:=A8q l t;have e:∃s,Run l (Iv l).2.1 s (Iv l).1:=by rw[Asu];exact⟨_,Asv l⟩
 have⟨s0,e⟩:=e;have⟨a2,ax,ar⟩:=e.canon;have az:=e.le.2;have a4:=e.le.1;have hp:=Mv l;have ag:=λ(k:Nat)(h:k<(Iv l).1.length)=>A77 h
 have a5:((Iv l).1.map Nd.v).length=(Iv l).1.length:=sm
 have am:=λ(n:Nat)(hn:n<=(Iv l).1.length)=>Amg l t n om (λk=>szs ((Iv l).1.take k)) (by simp[szs]) (λk hk=>by
  have⟨g1,g2⟩:=ar k om
  refine⟨by omega,?_,?_⟩
  .rw[g2,Aif oM]
  .rw[g2];exact(ax _ (Aw om)).2)
 have ad:=λ(k:Nat)(h:k<(Iv l).1.length)=>Asy (Iv l).1[k]
 have a0:=Ur (Iv l).1;unfold jV at ae;generalize x:jvR l=er;unfold jvR at x;generalize(Iv l).2.2=cd,(Iv l).2.1=at_,(Iv l).1=ns at*;generalize ns.map Nd.v=nv,Ls l=lv at*;refine Akh func10 rfl (by show(1:Nat)<=45;omega) λw0 N0 hG=>?_;refine Y [0] [] sr (J (Ak (Ay 1 sr ?_)));refine Atr hG ae func22 rfl kr rfl rfl rfl rfl sM sr (Aa [0,5,6,7] [] sr ?_);refine Y [0,5,6,7,8] [] sr ?_;refine Fz 8 100 11 79 [0,5,6,7,8] [100] sr sr ?_;refine J (Y [0,6,7,8,19,20,21] [100] sr (Ah ?_))
 refine C3 (λp:Nat × List Jv × Nat × Nat=>⟨[(0,.ro 1 lv),(6,.i at_),(7,.i cd),(8,.sl 100 p.2.2.1 11 (p.2.1.map Jv.v).length),(19,.ro 5 nv),(20,.i nv.length),(21,.i p.1)],[(100,⟨p.2.2.1,11,79,p.2.1.map Jv.v⟩)],p.2.2.2,45⟩)
  (λp=>p.1<=ns.length/\p.2.1.length=p.1/\(p.2.1++(Q2 (ns.drop p.1)).1=(Q2 ns).1/\(Q2 (ns.drop p.1)).2=(Q2 ns).2)) (λp=>ns.length-p.1) (0,[],_,_) ⟨Cg _,rfl,by simp⟩ (by simp;exact Z) ?_
 rintro⟨k,o,vr,nx⟩⟨hk,d,hI⟩;simp only at hk d hI;have c:=Bhq o;have w:(o.map Jv.v).length=k:=sG d
 simp only;generalize y:o.map Jv.v=av at c w;refine Y [0,6,7,8,19,20,21,22] [100] sr (J ?_)
 refine Au (λh1=>Ae ?_) λh1=>?_
 .have m:k<ns.length:=by simp at h1;omega
  have ah:k<nv.length:=om;have ga:=ag k m;have j:=ad k m;have aw:=J1 (k:=k) om;have u:=λh=>Bd7 m d hI h
  have f:=λh=>A80 m hI h
  have an:k+1<=maxLen:=by simp[maxLen];omega
  have ao:(k+1)*112<=140737488355328:=om;have aa:=Nd.v_pure ns[k];rw[A8y]at j;generalize a7:Asx (gP ns[k]) ns[k]=db at j u f;generalize a1:gP ns[k]=g at j f;rcases hxx:ns[k]with⟨xt,xk,xn,xs,ab⟩;rw[hxx]at ga j aa;rw[Nd.v]at ga j aa;have al:=Ur ab;generalize ab.map Nd.v=a3 at ga j aa al;refine J (Ah (Y [0,6,7,8,9,10,19,20,21] [10,100] (by simp[ga,ah]<;>rfl) (J (Ak (Ay 1 sr ?_)))));cases db with
  |true=>
   have⟨ai,af⟩:=u rfl;rw[Ad rfl,Bka]at j;have aj:=am k hk;refine Fe j func23 rfl kr rfl rfl rfl rfl sm sr ?_;refine Aa [0,6,7,8,9,11,12,19,20,21] [11,100] sr ?_;refine J (Y [0,6,7,8,9,11,19,20,21,32] [11,100] sr ?_);refine A0 rfl (λh2=>?_) sA;refine Bw 100 [0,8,9] [] Du (J (Ak (Ay 3 sr ?_)));refine Fe aj func16 rfl kr rfl rfl rfl rfl sM sr ?_;refine Aa [2,3,4] [] sr ?_;refine Ao (Ab Du ?_);rw[<- x,af,ai,I sm,evV];simp[y,d]
  |false=>
   have ak:=f rfl;rw[I (by simp)]at j;have z:g.v=.agg [.i g.kind,.i g.time,.i g.item,.ro 1 (Qs g.ch),.i g.value,.str g.text,.bool g.om,.i g.ik,.i g.it,.i g.il,.i g.ig]:=rfl;rw[z]at j;have aq:=Asn g.ch;generalize a6:Qs g.ch=cv at j aq z;refine Fe j func23 rfl kr rfl rfl rfl rfl sm sr ?_;refine Aa [0,6,7,8,9,11,12,19,20,21] [11,100] sr ?_;refine J (Y [0,6,7,8,9,11,19,20,21,32] [11,100] sr ?_);refine A0 rfl sA (λh2=>Ae (Ba [0,6,7,8,19,20,21] [100] (by simp[w,an,ao]<;>rfl) (Ba [0,6,7,8,19,20,21] [100] (by simp[aw]<;>rfl) ?_)));refine⟨(k+1,o++[g],nx+1+6+8+2+3,nx+1+6+8+2+5+2),⟨m,by simp[d],ak⟩,by simp only;omega,?_⟩;have ay:((k+1:Nat):Int)=(k:Int)+1:=om;simp only[ay,C0,y,B6,C6,z,A1,A3,Bo,w];exact Z
 .have au:k=ns.length:=by simp at h1;omega
  subst au;have⟨g1,g2⟩:=Bd8 hI;refine A6 ?_;refine Bw 100 [6,7,8] [] (by simp[c]<;>rfl) (Y [2,3,4] [] sr ?_);refine Ao (Ab (by simp[results10]<;>rfl) ?_);rw[<- x,g2,g1,Ad rfl,evV];simp[y]
variable {R:V->Prop}
def A81(h:Kb G0 prog f args R):AC prog f args R:=λw N xs h1 h2 c=>h w N xs trivial h1 h2 c
def Bfc(h:ACG 0 Ap8 prog f args R):Kb gv prog f args R:=λw N xs d h1 h2 c=>h w N xs d.2 h1 h2 c
def A82(t:Te):AE 18 [t.v,t.v] (.bool true):=by
 have e:=Asc t.elig;have f:=A7u t.steps;have d:=A81 (A1r t.w);have h:=Af t.elig;have j:=Bc t.steps;have k:=B1 t.w;have g:=vTe t;rw[g];generalize Av t.elig=ti,Bd t.steps=ts,Cb t.w=tw at*;refine Aq func18 λw0 N0=>?_;refine Y [2,3] [2,3] sr (A9 [5] sr (Bn 4 sr ?_));refine Ac e func37 ?_;refine Ay 5 sr (Gf (c:=True) (λl=>f) func38 ?_);refine Ay 14 sr (Gf (c:=True) (λl=>d) func39 ?_);exact Aa [4] [] sr (By sr (rfl))
def Bd9(s:Se):AE 9 [s.v,s.v] (.bool true):=by
 have d:=A82 s.t;have e:=A81 (Avi s.ans);have g:=A7v s.inc;have h:=vTe s.t;rw[h]at d;have f:=vSe s;rw[f];have m:=Af s.t.elig;have x:=Bc s.t.steps;have k:=B1 s.t.w;have n:=Gb s.ans;have l:=Fj s.inc;generalize Av s.t.elig=ti,Bd s.t.steps=ts,Cb s.t.w=tw,Hv s.ans=u,Fp s.inc=o at*;refine Aq func9 λw0 N0=>?_;refine Y [2,3] [2,3] sr (Bn 31 sr ?_);refine Ep (c:=True) (λj=>d) func18 rfl kr sr rfl rfl sr sM sr (Ay 6 sr ?_);refine Ep (c:=True) (λj=>e) func19 rfl kr sr rfl rfl sr sM sr (Ay 6 sr ?_);refine Ep (c:=True) (λj=>g) func21 rfl kr sr rfl rfl sr sM sr ?_;refine Aa [4] [] sr ?_;exact By sr (rfl)
def A83{cs:List V}(h:cs.all V.pureC=true)(d v sz:Nat)(es:List V):cs.map (V.frzC d v sz es)=cs:=by
 have:=Ak8 d v sz es (show(V.agg cs).pureE=true from h);injection this
def toE(j:Jv):Ev:=⟨j.kind,j.time,⟨j.item,j.ch,j.value,j.text,j.om⟩,⟨j.ik,j.it,j.il,j.ig⟩⟩
def Bfd(l:List Jv):l.map Jv.v=Zh (l.map toE):=by
 unfold Zh;rw[Mb];exact List.map_congr_left λ_ _ =>rfl
def Amh:∀(d:List Nd),∀e∈(Q2 d).1,(toE e).an.small
 | [],e,h=>by simp[Q2]at h
 |x::r,e,h=>by
  rw[Q2]at h
  split at h
  .cases h
  .rename_i c
   rcases B8.1 h with rfl|h
   .have f:Wl (gP x)=0:=by
     unfold Asx at c;simp only[G6,Jw,decide_eq_false_iff_not,not_or,Sq]at c;exact c.1
    have:=Ast f;exact⟨by show(gP x).ch.length<=_;omega,by show(gP x).text.length<=_;omega⟩
   .exact Amh r e h
def Abz(l:List UInt8):∃s,Run l (Iv l).2.1 s (Iv l).1:=by rw[Asu];exact⟨_,Asv l⟩
noncomputable def evs(l:List UInt8):List Ev:=(jvR l).1.map toE
def Ayn(l:List UInt8):(jvR l).1=(Q2 (Iv l).1).1:=by unfold jvR;split<;>rfl
def Ab0(l:List UInt8):(evs l).length<=(Iv l).1.length/\(Iv l).1.length<=300:=by
 have⟨s,h⟩:=Abz l;exact⟨by unfold evs;rw[D9,Ayn];exact Bd6 _,h.le.2⟩
def Ami(l:List UInt8):∀e∈evs l,e.an.small:=by
 unfold evs;intro e h;obtain⟨j,c,rfl⟩:=Bl.1 h;rw[Ayn]at c;exact Amh _ j c
def Ayo(d:Dl)(t:Te):∀(l:List Ev)(s:Se)(k:Nat),(K5 d t s k l).2.1<=k+l.length
 | [],_,_ =>A7 _
 |e::l,s,k=>by
  rw[K5]
  split
  .exact A8 _ _
  .have:=Ayo d t l (Of d t s e) (k+1);simp only[A3];omega
def Aff(d:Dl)(l:List Ev):(Jl d l).2.1<=l.length:=by
 unfold Jl
 split
 .exact Cg _
 .have:=Ayo d (Nt d) l Zg 0;omega
noncomputable def Mw(l:List UInt8)(n:Nat):Nat:=szs ((Iv l).1.take n)
def Bea(l:List UInt8)(j:l.length<=2^40)(n:Nat)(hn:n<=(Iv l).1.length):AE 16 [.ro 1 (Ls l),.i n] (.i (Mw l n)):=by
 have⟨s0,c⟩:=Abz l;have⟨h,e,d⟩:=c.canon;have f:=c.le.2
 exact Amg l j n om (λk=>szs ((Iv l).1.take k)) (by simp[szs]) (λk hk=>by
  have⟨g1,g⟩:=d k om
  refine⟨by omega,?_,?_⟩
  .rw[g,Aif oM]
  .rw[g];exact(e _ (Aw om)).2)
def Aor(l:List UInt8)(n:Nat)(e:n<=(Iv l).1.length):Mw l n<=l.length:=by
 have⟨s0,c⟩:=Abz l;have⟨h,f,d⟩:=c.canon;cases n with
 |zero=>simp[Mw,szs]
 |succ k=>have g:=(d k e).1;unfold Mw;rw[Aif e];omega
noncomputable def J9(d:Dl)(l:List UInt8):Se × Nat × List UInt8 × Int:=
 if M8 d≠0 then(Zg,0,[],M8 d)else((Jl d (evs l)).1,(Jl d (evs l)).2.1,l.take (Mw l (Jl d (evs l)).2.1),0)
def A84(r:Se × Nat × List UInt8 × Int):V:=.tup [r.1.v,.i r.2.1,.ro 1 (Ls r.2.2.1),.i r.2.2.2]
def Aei(d:Dl)(l:List UInt8)(hd:DlOk d)(hl:l.length<=100000):Kb gv prog 6 [d.v,.ro 1 (Ls l)] (λr=>r=A84 (J9 d l)):=by
 refine Kb.relaxP ?_;have⟨am,an⟩:=Ab0 l;have w:=Bfc (Aig l om);unfold evV at w;rw[Bfd]at w;change Kb _ _ _ _ (λr=>r=.tup [.ro 11 (Zh (evs l)),_,_])at w;have y:=Ax5 Afc d (evs l) hd om (Ami l);have c7:=Ah2 Afc d hd;have ao:=Aff d (evs l);have ag:=Bea l om (Jl d (evs l)).2.1 om;have aq:=Aor l (Jl d (evs l)).2.1 om;have aa:=A2d (l.take (Mw l (Jl d (evs l)).2.1)) (by rw[Da];omega);have ab:M8 d≠0->Jl d (evs l)=(Zg,0,M8 d):=λh=>by unfold Jl;rw[Ad h]
 have al:Ls (l.take (Mw l (Jl d (evs l)).2.1))=(Ls l).take (Mw l (Jl d (evs l)).2.1):=sm;have u:=Mv (l.take (Mw l (Jl d (evs l)).2.1));have af:=Abw l;have pl:=Mv l;have j:=Adl (evs l)
 have aj:A84 (J9 d l)=if M8 d≠0 then .tup [Zg.v,.i 0,.ro 1 [],.i (M8 d)]else .tup [(Jl d (evs l)).1.v,.i (Jl d (evs l)).2.1,.ro 1 (Ls (l.take (Mw l (Jl d (evs l)).2.1))),.i 0]:=by
  unfold A84 J9;split<;>rfl
 rw[aj];unfold A76 at y;generalize hx:Jl d (evs l)=x at*;have⟨xs,xn,xe⟩:=x;simp only at*;rw[al]at aa u|-;generalize hm:Mw l xn=m at*;have ad:((Ls l).take m).length=m:=by rw[Da,af];omega
 have ah:(m:Int)<=((Ls l).length:Int):=om;generalize(jvR l).2.1=ja,(jvR l).2.2=jc,Zh (evs l)=ev,M8 d=ce at*;have⟨dc,ai,g,c,f,e⟩:=Ah6 d;have⟨sc,z,n,o,k,s⟩:=Rq xs;have⟨z0,ae,z1,z2,z3,z4⟩:=Rq Zg;rw[ai]at y c7|-;rw[z]at y|-
 have hz:ce≠0->z0=sc:=λh=>by
  have:=congrArg Prod.fst (ab h);simp only at this;subst this;rw[ae]at z;injection z
 have vs:=λS:AS=>M9 (S:=S) k
 have fz:=λd v sz es=>A83 k d v sz es
 generalize Ls l=lv at*;generalize ak:lv.take m=tk at*;refine B0 func6 λw0 N0 hG=>?_;refine Y [1,2,4] [2,4] Du (J (Ak (Ay 1 sR ?_)));refine Bq hG w func10 ?_;refine Aa [1,2,4,8] [2,4] sR (J (Ak (Ay 2 Du ?_)));refine I7 hG y func11 rfl kr sm rfl rfl rfl sR G8 sR (Aa [1,2,4,11,12,13] [2,4,11] Du ?_)
 by_cases t:ce≠0
 .have hx:=ab t;injection hx with hxa hxb;injection hxb with hxb hxc;subst hxb hxc;refine J (Y [1,2,4,11,12,33] [2,4,11] sR ?_);refine A0 rfl (λh1=>?_) λh1=>absurd h1 G8;refine J (Ak (Ay 1 Du ?_));refine I7 hG c7 func7 rfl kr sm rfl rfl rfl sR G8 sR (Aa [1,4,11,12,14] [4,11] sR ?_);refine Y [1,4,11,12,14,37] [4,11] sR (A0 rfl (λh2=>?_) (λh2=>absurd h2 G8));refine Y [4,5,6,7] [4] sR (Ao (Ab Du ?_));rw[Ad t];exact Bj.tup (.cons Adk (.cons (Bj.refl _) (.cons (Bj.nils 1) (.cons (Bj.refl _) .nil))))
 have t:=Sq.1 t
 refine Baf ⟨[(1,V.ro 1 lv),(4,V.bp 4 1 12 0 0),(11,V.bp 11 21 12 0 0),(12,V.i xn)],[(4,⟨1,12,55,[V.agg [.i 0,.i 0,.i 0,.i 0,.nils,.nils,.i 0,.nils,.int .u64 0,.i 0,.nils,.nils]]⟩),(11,⟨21,12,55,[V.agg sc]⟩)],200,48⟩ ?_ ?_
 .refine Y [1,2,4,11,12,33] [2,4,11] sR ?_
  refine Au (λh1=>?_) λh1=>Ae ?_
  .refine J (Ak (Ay 1 Du ?_));refine I7 hG c7 func7 rfl kr sm rfl rfl rfl sR G8 sR (Aa [1,4,11,12,14] [4,11] sR ?_);refine Y [1,4,11,12,14,37] [4,11] sR ?_
   refine Au (λh2=>?_) λh2=>Ae ?_
   .exact absurd t (sG h2)
   .exact N4 [1,4,11,12] [4,11] rfl rfl rfl sy
  .exact N4 [1,4,11,12] [4,11] rfl rfl rfl sy
 refine J (Ir [7] Eb ?_);refine F6 [(1,[]),(2,[]),(3,[]),(4,[])] kr sR ?_
 refine Bai (i:=5) (ks:=[]) kr (λ_ =>ag) func16 rfl kr rfl sm sr rfl rfl sr sM sr ?_;refine F6 [(6,[])] kr Du ?_
 refine Pm [0,7] kr ?_;intro i hi;simp only[B8,Dw,or_false]at hi
 rcases hi with rfl|rfl
 .refine⟨_,_,rfl,O2 Du,?_⟩;refine Hm (i:=7) (ks:=[]) kr rfl sm (Aaf 47 sm aa func15 rfl kr sr rfl rfl sr sR sr) ?_;refine F6 [(8,[]),(9,[]),(10,[]),(11,[])] kr Du ?_
  refine H4 [4,5,6,7] [4,47] kr sr ?_;refine Bw 47 [4,5,6,7] [4] Du ?_;exact Ao (Ab Du (by rw[I G8];exact Bj.refl _))
 .refine⟨_,_,rfl,Aaf 47 sm aa func15 rfl kr sr rfl rfl sr sR sr,?_⟩;refine F6 [(0,[]),(8,[]),(9,[]),(10,[]),(11,[])] kr Du ?_
  refine H4 [4,5,6,7] [4,47] kr sr ?_;refine Bw 47 [4,5,6,7] [4] Du ?_;exact Ao (Ab Du (by rw[I G8];exact Bj.refl _))
def A2o{n:Int}{x:Nd}(h:R1 l s n=.ok (x,k,s'))(hm:k<=m):R1 (l.take m) s n=.ok (x,k,s'):=by
 have hk:=Afe h;have⟨h1,h2,o,e,h5,j,d,r⟩:=Us h;have g:(l.take m).take 4=l.take 4:=by rw[Kg,F7 om]
 have c:(l.take m).take (4+Gw (l.take 4))=l.take (4+Gw (l.take 4)):=by rw[Kg,F7 om]
 have t:((l.take m).drop (4+Gw (l.take 4))).take 8=(l.drop (4+Gw (l.take 4))).take 8:=by
  rw[Oh,Kg,F7 om]
 have f:((l.take m).drop 4).take (Gw (l.take 4))=(l.drop 4).take (Gw (l.take 4)):=by
  rw[Oh,Kg,F7 om]
 have:=Zo (l:=l.take m) (s:=s) (n:=n) (x:=x) (sz:=Gw (l.take 4)) h1 (by rw[g]) o so (by rw[c,t,<- d,j]) (by rw[f];exact r);rw[this,c,<- d,e];simp
def Run.cut{d:List Nd}(h:Run l c s d):∀ {m:Nat},c<=m->Run (l.take m) c s d:=by
 induction h with
 |start=>intro m _;exact .start
 |step h e ih=>intro m hm;exact .step (ih om) (by rw[Oh];exact A2o e om)
def Run.init{f:Nat}{c:List Nd}(h:Run l f s c):∀ {k:Nat},k<=c.length->∃s',Run l (szs (c.take k)) s' (c.take k):=by
 induction h with
 |start=>intro k d;simp only[Bo,Nat.le_zero]at d;subst d;exact⟨_,.start⟩
 | @step m s0 e x k0 s' h n ih=>
  intro k d;simp only[A1,A3,Bo]at d
  rcases Cl e.length k with g|g
  .have j:=Run.step h n;rw[Bi so,<- j.canon.1];exact⟨_,j⟩
  .rw[Cv g];exact ih g
def As0(l:List UInt8)(g:n<=(Iv l).1.length):(l.take (Mw l n)).length=Mw l n/\Iv (l.take (Mw l n))=((Iv l).1.take n,Mw l n,0):=by
 have j:=Aor l n g;have c:(l.take (Mw l n)).length=Mw l n:=by rw[Da];omega
 have⟨s0,d⟩:=Abz l;have⟨s1,h⟩:=d.init g;have e:=h.cut (m:=Mw l n) (A7 _);have f:=e.le.2;refine⟨c,?_⟩;rw[e.rdJ,show 301-((Iv l).1.take n).length=(300-((Iv l).1.take n).length)+1 by omega,rdJ,Ad (by rw[c];exact A7 _)];rfl
def As1:∀(c:List Nd)(n:Nat),n<=(Q2 c).1.length->Q2 (c.take n)=((Q2 c).1.take n,true)
 | [],n,_ =>by simp[Q2]
 |x::r,0,_ =>by simp[Q2]
 |x::r,n+1,h=>by
  rw[Q2]at h|-
  split at h
  .simp at h
  .rename_i d;rw[Iw,Q2,I d,I d,As1 r n (sG h)];rfl
def Beb(l:List UInt8)(c:n<=(evs l).length):(jvR (l.take (Mw l n)))=((jvR l).1.take n,Mw l n,0)/\evs (l.take (Mw l n))=(evs l).take n/\Mw (l.take (Mw l n)) n=Mw l n:=by
 have⟨h1,_⟩:=Ab0 l;have f:=(As0 l (n:=n) om).2;have d:n<=(Q2 (Iv l).1).1.length:=by rw[<- Ayn];unfold evs at c;rw[D9]at c;exact c
 have h:=As1 (Iv l).1 n d
 have g:jvR (l.take (Mw l n))=((jvR l).1.take n,Mw l n,0):=by
  rw[Ayn l];unfold jvR;rw[f];simp only;rw[h];simp only[if_true]
 refine⟨g,?_,?_⟩
 .unfold evs;rw[g,Pq]
 .have e:∀b,Mw b n=szs ((Iv b).1.take n):=λb=>rfl
  rw[e (l.take (Mw l n)),f];simp only[Kg,Nat.min_self];rfl
def Amj(d:Dl)(t:Te):∀(l:List Ev)(s:Se)(k:Nat),K5 d t s k (l.take ((K5 d t s k l).2.1-k))=((K5 d t s k l).1,(K5 d t s k l).2.1,0)/\k<=(K5 d t s k l).2.1
 | [],s,k=>by simp[K5]
 |e::l,s,k=>by
  by_cases h:Lm d t s e≠0
  .have c:K5 d t s k (e::l)=(s,k,Lm d t s e):=by rw[K5,Ad h]
   rw[c];simp[K5]
  .have c:K5 d t s k (e::l)=K5 d t (Of d t s e) (k+1) l:=by rw[K5,I h]
   have⟨f,i2⟩:=Amj d t l (Of d t s e) (k+1);rw[c];refine⟨?_,by omega⟩;rw[show(K5 d t (Of d t s e) (k+1) l).2.1-k=((K5 d t (Of d t s e) (k+1) l).2.1-(k+1))+1 by omega,Iw,K5,I h,f]
def A2p(d:Dl)(l:List Ev)(h:M8 d=0):Jl d (l.take (Jl d l).2.1)=((Jl d l).1,(Jl d l).2.1,0):=by
 have e:∀l,Jl d l=K5 d (Nt d) Zg 0 l:=λl=>by unfold Jl;rw[I G8]
 rw[e l,e];have:=(Amj d (Nt d) l Zg 0).1
 rwa[Hp]at this
def Av2(d:Dl)(l:List UInt8)(h:M8 d=0):
  (J9 d l).2.2.1.length=Mw l (Jl d (evs l)).2.1/\J9 d (J9 d l).2.2.1=J9 d l/\evs (J9 d l).2.2.1=(evs l).take (Jl d (evs l)).2.1/\(jvR (J9 d l).2.2.1).2=(Mw l (Jl d (evs l)).2.1,0)/\
  Jl d (evs (J9 d l).2.2.1)=((J9 d l).1,(J9 d l).2.1,0):=by
 have g:=Aff d (evs l);have⟨h1,_⟩:=Ab0 l;have⟨j,m,k⟩:=Beb l g;have e:∀b,J9 d b=((Jl d (evs b)).1,(Jl d (evs b)).2.1,b.take (Mw b (Jl d (evs b)).2.1),0):=λb=>by unfold J9;rw[I G8]
 rw[e l];simp only;rw[e (l.take _),m,(A2p d (evs l) h),j];simp only;rw[k,Kg,Nat.min_self];refine⟨((As0 l (n:=(Jl d (evs l)).2.1) om).1),?_,?_,?_,?_⟩<;>first|rfl|trivial
def hvB(d:Dl):Bool:=(decide ((9:Int)<d.pool.length)&&decide ((d.pool.length:Int)<=18))||(decide ((14:Int)<d.items.length)&&decide ((d.items.length:Int)<=60))||decide ((40:Int)<d.uses.length)
def A85(d:Dl):AE 5 [d.v] (.bool (hvB d)):=by
 unfold hvB;have e:=vDl d;rw[e];clear e;rw[<-(E4 d.pool),<-(Jd d.items),<-(Ei d.uses)];generalize C5 d.pool=pv;generalize Oe d.items=iv;generalize Bd d.uses=uv;by_cases h:(9:Int)<pv.length<;>by_cases f:(pv.length:Int)<=18<;>by_cases c:(14:Int)<iv.length<;>by_cases g:(iv.length:Int)<=60
 all_goals
  refine Aq func5 λw0 N0=>?_;exact Y [1] [1] sr (Y [2] [] Du (By sr G8))
def Bed(x y:UInt8):((x.toNat:Int)=y.toNat)↔x=y:=by
 constructor
 .intro h;exact UInt8.toNat_inj.1 om
 .intro h;rw[h]
def A86(a b:List UInt8):AC prog 8 [.ro 1 (Ls a),.ro 1 (Ls b)] (λr=>r=.bool (decide (a=b))):=by
 refine K8 0 rfl λc=>?_;unfold maxLen at c;have o:=Abw a;have t:=Abw b;have m:∀k(h:k<a.length),Hj (Ls a) k=some (Zw a[k]):=λk h=>A8b h
 have g:∀k(h:k<b.length),Hj (Ls b) k=some (Zw b[k]):=λk h=>A8b h
 generalize Ls a=z at o m c;generalize Ls b=bv at t g;refine Aq func8 λw0 N0=>?_;refine Y [0,1] [] sr (J (Y [0,1,10] [] sr ?_))
 refine Au (λh1=>?_) λh1=>Ae ?_
 .have d:¬a=b:=by rintro rfl;simp at h1;omega
  exact Y [4] [] sr (Ao (Ab sr G8))
 have d:a.length=b.length:=sO h1
 refine J (Y [0,1,5] [] sr (Ah (Bu (λk nx=>⟨[(0,.ro 1 z),(1,.ro 1 bv),(5,.i k)],[],nx,26⟩) (λk=>a.take k=b.take k) a.length _ rfl Z ?_)));intro k nx hk w;refine J (Y [0,1,5,14] [] sr ?_)
 refine Au (λh2=>Ae ?_) λh2=>?_
 .have e:k<a.length:=by simp at h2;omega
  have j:k<b.length:=om;have ha:=m k e;have hb:=g k j;have x:IntKind.i64.wrap ((k:Int)+1)=((k+1:Nat):Int):=by rw[En om oM];omega
  have n:(k:Int)<z.length:=om;have l:(k:Int)<bv.length:=om;refine J (Ah (Do [(0,[]),(1,[]),(2,[]),(4,[]),(5,[]),(6,[]),(3,[]),(7,[]),(8,[])] [0,1,5,25] [] Sj kr Du ?_))
  refine Au (λu=>?_) λu=>Ae ?_
  .have f:¬a=b:=by
    rintro rfl;simp at u
   exact Y [4] [] sr (Ao (Ab sr G8))
  have f:a[k]=b[k]:=by
   simp at u;exact(Bed _ _).1 om
  refine Ba [0,1,5] [] Du ?_;exact⟨e,by rw[Az e,Az j,w,f],_,Z⟩
 .have y:k=a.length:=by simp at h2;omega
  have s:a=b:=by
   subst y;rw[Be,d,Be]at w;exact w
  exact A6 (Y [4] [] sr (Ao (Ab sr G8)))
def A2q(d:Dl)(l:List UInt8)(hd:hvB d=false->l.length<=5000->DlOk d):Kb gv prog 3 [d.v,.ro 1 (Ls l)] (λr=>r=.bool true):=by
 have c5:=A85 d;have ar:=Abw l;have pl:=Mv l;have⟨dc,ah,j,e,g,f⟩:=Ah6 d
 by_cases x:hvB d=true\/5000<l.length
 .rw[ah]at c5|-;generalize Ls l=lv at*;refine B0 func3 λw0 N0 hG=>?_;refine Y [1,2] [2] Du (J (J (Ak (Ay 1 Du ?_))));refine Fe c5 func5 rfl kr rfl rfl rfl sR G8 sr ?_;cases hb:hvB d with
  |true=>
   refine Aa [1,2,21] [2] sR (A0 rfl (λh1=>?_) (λh1=>absurd h1 sm));exact Y [4] [] sr (Ao (Ab sr rf))
  |false=>
   have h5:(5000:Int)<lv.length:=by
    rcases x with h|h
    .rw[hb]at h;cases h
    .omega
   refine Aa [1,2,21] [2] sR ?_;refine A0 rfl (λh1=>?_) (λh1=>absurd h1 (by simp[h5]));exact Y [4] [] sr (Ao (Ab sr rf))
 have hb:hvB d=false:=by
  cases h:hvB d with
  |true=>exact absurd (.inl h) x
  |false=>rfl
 have am:l.length<=5000:=by rcases Cl 5000 l.length with h|h;exact absurd (.inr h) x;exact h
 have ab:=hd hb am;have c6:=Aei d l ab om;have c7:=Ah2 Afc d ab;rw[hb]at c5
 by_cases u:M8 d≠0
 .have hx:J9 d l=(Zg,0,[],M8 d):=by unfold J9;rw[Ad u]
  rw[hx]at c6;unfold A84 at c6;simp only at c6;change Kb _ _ _ _ (λr=>r=.tup [Zg.v,.i ((0:Nat):Int),.ro 1 [],.i (M8 d)])at c6;have⟨sc,af,m,o,k,s⟩:=Rq Zg;rw[af]at c6;have vs:=λS:AS=>M9 (S:=S) k
  generalize M8 d=ce at*;rw[ah]at c5 c6 c7|-;generalize Ls l=lv at*;have h5:(lv.length:Int)<=5000:=om;refine B0 func3 λw0 N0 hG=>?_;refine Y [1,2] [2] (by simp[ntmps3,j,f]<;>rfl) (J (J (Ak (Ay 1 (by simp[j,e]<;>rfl) ?_))));refine Fe c5 func5 rfl kr rfl rfl rfl sR (by simp[g]) sr ?_;refine Aa [1,2,21] [2] sR ?_;refine A0 rfl (λh1=>absurd h1 so) (λh1=>Ae (J (Ak (Ay 2 (by simp[j,e]<;>rfl) ?_))));refine I7 hG c6 func6 rfl kr sm rfl rfl rfl sR (by simp[g]) sR ?_;refine Aa [1,2,5,6,7,8] [2,5] (by simp[m,s]<;>rfl) ?_;refine J (Y [1,2,5,6,7,8,31] [2,5] sR ?_);refine A0 rfl (λh2=>?_) (λh2=>absurd h2 (by simp[u]));refine J (Ak (Ay 2 (by simp[j,e]<;>rfl) ?_));refine I7 hG c7 func7 rfl kr sm rfl rfl rfl sR (by simp[g]) sR ?_;refine Aa [4] [] sR ?_;exact Ao (Ab sr rfl)
 have u:M8 d=0:=Sq.1 u;have⟨p1,p2,p3,p4,p5⟩:=Av2 d l u
 have ak:(J9 d l).2.2.1.length<=l.length:=by
  rw[p1];exact Aor l _ (by have:=Aff d (evs l);have:=Ab0 l;omega)
 have ag:l.take (J9 d l).2.2.1.length=(J9 d l).2.2.1:=by
  rw[p1];unfold J9;rw[I (by simp[u])]
 have an:(J9 d l).2.1=(Jl d (evs l)).2.1:=by unfold J9;rw[I (by simp[u])]
 have ai:(J9 d l).2.2.2=0:=by unfold J9;rw[I (by simp[u])]
 have z:=Aei d (J9 d l).2.2.1 ab om;rw[p2]at z;have ae:=A86 (J9 d l).2.2.1 (l.take (J9 d l).2.2.1.length);rw[ag,Wv rfl]at ae;have c9:=Bd9 (J9 d l).1;have y:=Bfc (Aig (J9 d l).2.2.1 om);unfold evV at y;rw[Bfd,p4]at y;change Kb _ _ _ _ (λr=>r=.tup [.ro 11 (Zh (evs (J9 d l).2.2.1)),.i ((Mw l (Jl d (evs l)).2.1:Nat):Int),.i 0])at y;have aa:=Ax5 Afc d (evs (J9 d l).2.2.1) ab (by rw[p3,Da];have:=Ab0 l;omega) (Ami _);rw[p5]at aa;unfold A76 at aa;simp only at aa
 have ao:(Zh (evs (J9 d l).2.2.1)).length=(J9 d l).2.1:=by
  rw[Asj,p3,Da,an];have:=Aff d (evs l);omega
 have pe:=Adl (evs (J9 d l).2.2.1);rw[<- p1]at y;unfold A84 at c6 z;rw[ai]at c6 z;rw[u]at c7;have aj:=Abw (J9 d l).2.2.1;have t:=Mv (J9 d l).2.2.1
 have ad:(Ls l).take (Ls (J9 d l).2.2.1).length=Ls (J9 d l).2.2.1:=by
  rw[aj];have h:=congrArg Ls ag;simpa using h
 rw[<- aj]at y ak;generalize Zh (evs (J9 d l).2.2.1)=ev,Ls (J9 d l).2.2.1=bv at*;have⟨sc,af,m,o,k,s⟩:=Rq (J9 d l).1;rw[af]at c6 z c9 aa;generalize(J9 d l).2.1=n at*;have vs:=λS:AS=>M9 (S:=S) k
 rw[ah]at c5 c6 z c7 aa|-;generalize Ls l=lv at*;have h5:(lv.length:Int)<=5000:=om;have aq:(bv.length:Int)<=(lv.length:Int):=om;have w:bv.length<=lv.length:=om;clear p1 p2 p3 p4 p5 ag an ai ab hd x
 have al:Kb gv prog 3 [V.agg dc,.ro 1 lv] (λr=>r=.bool true):=by
  refine B0 func3 λw0 N0 hG=>?_;refine Y [1,2] [2] (by simp[ntmps3,j,f]<;>rfl) (J (J (Ak (Ay 1 (by simp[j,e]<;>rfl) ?_))));refine Fe c5 func5 rfl kr rfl rfl rfl sR (by simp[g]) sr ?_;refine Aa [1,2,21] [2] sR ?_;refine A0 rfl (λh1=>absurd h1 so) (λh1=>Ae (J (Ak (Ay 2 (by simp[j,e]<;>rfl) ?_))));refine I7 hG c6 func6 rfl kr sm rfl rfl rfl sR (by simp[g]) sR ?_;refine Aa [1,2,5,6,7,8] [2,5] (by simp[m,s]<;>rfl) ?_;refine J (Y [1,2,5,6,7,8,31] [2,5] sR ?_);refine A0 rfl (λh2=>absurd h2 sm) (λh2=>Ae (J (J (Ak (Ay 11 (by simp[aq,ad]<;>rfl) ?_)))));refine Ep (c:=True) (λhg=>ae) func8 rfl kr (by simp[w]<;>rfl) rfl rfl (by simp[w]<;>rfl) sM sR ?_;refine Aa [2,5,6,7,58] [2,5] sR ?_;refine A0 rfl (λh3=>absurd h3 (by simp[w])) (λh3=>Ae (J (Ak (Ay 2 (by simp[j,e]<;>rfl) ?_))));refine I7 hG z func6 rfl kr sm rfl rfl rfl sR (by simp[g]) sR ?_;refine Aa [2,5,6,7,9,10,11,12] [2,5,9] (by simp[m,s]<;>rfl) ?_;refine J (J (Ak (Ay 10 sR ?_)));refine Ep (c:=True) (λhg=>ae) func8 rfl kr sr rfl rfl sr sM sr ?_;refine Ay 5 (by simp[m,o]<;>rfl) ?_;refine Ep (c:=True) (λhg=>c9) func9 rfl kr sr rfl rfl sR (by simp[k]) sr ?_;refine Ay 4 (by simp[j,e]<;>rfl) ?_;refine Rb (c:=True) hG (λhg=>c7) func7 rfl kr sr rfl rfl sR (by simp[g]) sR ?_;refine Aa [2,5,6,7,9,90] [2,5,9] sR ?_;refine A0 rfl (λh4=>absurd h4 sm) (λh4=>Ae (J (Ak (Ay 1 sR ?_))));refine Bq hG y func10 ?_;refine Aa [2,5,6,7,9,12,13,14] [2,5,9] sR ?_;refine J (Y [2,5,6,9,13,110] [2,5,9] (by simp[ao]<;>rfl) ?_);refine A0 rfl (λh5=>absurd h5 sm) (λh5=>Ae (J (Ak (Ay 2 (by simp[j,e]<;>rfl) ?_))));refine I7 hG aa func11 rfl kr sm rfl rfl rfl sR (by simp[g]) sR ?_;refine Aa [5,6,9,10,12] [5,9] (by simp[m,s]<;>rfl) ?_;refine J (Ak (Ay 10 (by simp[m,o]<;>rfl) ?_));refine Ep (c:=True) (λhg=>c9) func9 rfl kr sr rfl rfl sR (by simp[k]) sr ?_;refine Aa [4] [] sR ?_;exact Ao (Ab sr rfl)
 exact al
open Go.ChangeShapes Go.WideShapes Go.ChangeAt
variable {α:Type}{es vs:List V}
def Bee:laidOutB prog=true:=by kernel_rfl
def F3(h:Rd prog n 3 vs):∃x:Int,vs= [.i x]:=by
 obtain⟨a,rfl,_⟩:=Amt underlying3 h;exact⟨a,rfl⟩
def Bhr(h:Rd prog n 42 vs):∃x:Int,vs= [.int .u64 x]:=by
 obtain⟨a,rfl,_⟩:=Amt underlying42 h;exact⟨a,rfl⟩
def Aih(h:Rd prog n 9 vs):∃x:List UInt8,vs= [.str x]:=by
 obtain⟨a,rfl,_⟩:=Bff underlying9 h;exact⟨a,rfl⟩
def Bhs(h:Rd prog n 4 vs):∃x:Bool,vs= [.bool x]:=Bae underlying4 h
def Aii{f:α->V}{t:TypeId}{l:List (List V)}(e:E0 prog t=some true)(h:∀x∈l,∃y,V.agg x=f y):∃l':List α,l.map (mkV (E0 prog t))=l'.map f:=by
 refine Ams λv c=>?_;obtain⟨x,a,rfl⟩:=Bl.1 c;have⟨y,d⟩:=h x a;exact⟨y,by rw[e];exact d⟩
def Ab1{f:α->V}{t:TypeId}{l:List (List V)}(d:E0 prog t=some false)(h:∀x∈l,∃y,x= [f y]):∃l':List α,l.map (mkV (E0 prog t))=l'.map f:=by
 refine Ams λv c=>?_;obtain⟨x,a,rfl⟩:=Bl.1 c;obtain⟨y,rfl⟩:=h x a;exact⟨y,by rw[d];rfl⟩
def Xp(h:Rd prog n 25 vs):∃x:List Int,vs= [.ro 1 (Av x)]:=by
 obtain⟨es,rfl,_,a⟩:=Mq underlying25 h;have⟨l,d⟩:=Ab1 (f:=V.int .i64) (t:=3) kr (λx c=>F3 (a x c));exact⟨l,by rw[d,show prog.cellsOf 3=1 by kernel_rfl];rfl⟩
def Ayp(h:Rd prog n 148 vs):∃x:List (List UInt8),vs= [.ro 1 (Hd x)]:=by
 obtain⟨es,rfl,_,a⟩:=Mq underlying148 h;have⟨l,d⟩:=Ab1 (f:=V.str) (t:=9) kr (λx c=>Aih (a x c));exact⟨l,by rw[d,show prog.cellsOf 9=1 by kernel_rfl];rfl⟩
def Bef(h:Rd prog n 107 vs):∃x:Mo,vs= [.ro 1 (Es x)]:=by
 obtain⟨es,rfl,_,a⟩:=Mq underlying107 h;have⟨l,d⟩:=Ab1 (f:=λr:List Int=>V.ro 1 (Av r)) (t:=25) kr (λx c=>Xp (a x c));exact⟨l,by rw[d,show prog.cellsOf 25=1 by kernel_rfl];rfl⟩
def As2(h:Rd prog n 30 vs):∃x:List Nat,vs= [.ro 1 (A2 x)]/\El x:=by
 obtain⟨es,rfl,_,d⟩:=Mq underlying30 h
 have e:∀x∈es,∃y: { m:Nat // m<4294967296},x= [V.int .u32 (y.1:Int)]:=λx c=>by
  obtain⟨a,rfl,g⟩:=Amt underlying164 (d x c);simp only[Lit.wf,Bg,decide_eq_true_eq]at g;have h1:IntKind.u32.min=0:=rfl;have h2:IntKind.u32.max=4294967295:=rfl;rw[h1,h2]at g;refine⟨⟨a.toNat,by omega⟩,?_⟩;rw[show((a.toNat:Nat):Int)=a by omega]
 have⟨l,i⟩:=Ab1 (f:=λy: { m:Nat // m<4294967296}=>V.int .u32 (y.1:Int)) (t:=164) kr e
 refine⟨l.map (·.1),?_,λx c=>?_⟩
 .rw[i,show prog.cellsOf 164=1 by kernel_rfl];unfold A2;rw[Mb];rfl
 .obtain⟨y,_,rfl⟩:=Bl.1 c;exact y.2
def Aij(h:Rd prog n 34 vs):∃x:RR,vs= [.bool x.num.neg,.ro 1 (A2 x.num.mag),.ro 1 (A2 x.den)]/\El x.num.mag/\El x.den:=by
 obtain⟨l,f,rfl,c,k,t,rfl,e,rfl⟩:=I2 underlying34 h;obtain⟨r,i,rfl,a,m,j,rfl,d,rfl⟩:=I2 underlying32 c;obtain⟨o,rfl⟩:=Bhs a;obtain⟨s,rfl,u⟩:=As2 d;obtain⟨g,rfl,l2⟩:=As2 e;exact⟨⟨⟨o,s⟩,g⟩,rfl,u,l2⟩
def Beg(h:Rd prog n 447 vs):∃x:(Int × Int),V.agg vs=V.agg [.i x.1,.i x.2]:=by
 obtain⟨g,d,rfl,a,f,j,rfl,c,rfl⟩:=I2 underlying447 h;obtain⟨i,rfl⟩:=F3 a;obtain⟨e,rfl⟩:=F3 c;exact⟨(i,e),rfl⟩
def Bht(h:Rd prog n 310 vs):∃x:(Int × Int),V.agg vs=V.agg [.i x.1,.i x.2]:=by
 obtain⟨g,d,rfl,a,f,j,rfl,c,rfl⟩:=I2 underlying310 h;obtain⟨i,rfl⟩:=F3 a;obtain⟨e,rfl⟩:=F3 c;exact⟨(i,e),rfl⟩
def Bhu(h:Rd prog n 28 vs):∃x:List (Int × Int),vs= [.ro 2 (Bd x)]:=by
 obtain⟨es,rfl,_,a⟩:=Mq underlying28 h;have⟨l,d⟩:=Aii (f:=(λp:Int × Int=>V.agg [.i p.1,.i p.2])) (t:=447) kr (λx c=>Beg (a x c));exact⟨l,by rw[d,show prog.cellsOf 447=2 by kernel_rfl];rfl⟩
def Beh(h:Rd prog n 39 vs):∃x:List (Int × Int),vs= [.ro 2 (Bd x)]:=by
 obtain⟨es,rfl,_,a⟩:=Mq underlying39 h;have⟨l,d⟩:=Aii (f:=(λp:Int × Int=>V.agg [.i p.1,.i p.2])) (t:=310) kr (λx c=>Bht (a x c));exact⟨l,by rw[d,show prog.cellsOf 310=2 by kernel_rfl];rfl⟩
def Bei(h:Rd prog n 203 vs):∃x:Ru,V.agg vs=x.v:=by
 obtain⟨o,r,rfl,c,m,aa,rfl,e,u,k,rfl,d,l,y,rfl,a,i,w,rfl,f,rfl⟩:=I2 underlying203 h;obtain⟨z,rfl⟩:=F3 c;obtain⟨g,rfl⟩:=F3 e;obtain⟨t,rfl⟩:=F3 d;obtain⟨j,rfl⟩:=F3 a;obtain⟨s,rfl⟩:=Aih f;exact⟨⟨z,g,t,j,s⟩,rfl⟩
def A87(h:Rd prog n 22 vs):∃x:List Ru,vs= [.ro 5 (Hu x)]:=by
 obtain⟨es,rfl,_,a⟩:=Mq underlying22 h;have⟨l,d⟩:=Aii (f:=Ru.v) (t:=203) kr (λx c=>Bei (a x c));exact⟨l,by rw[d,show prog.cellsOf 203=5 by kernel_rfl];rfl⟩
def Bej(h:Rd prog n 150 vs):∃x:It,V.agg vs=x.v:=by
 obtain⟨bf,bh,rfl,w,be,bp,rfl,ab,bl,bb,rfl,z,bd,bn,rfl,o,ax,bj,rfl,af,bg,bk,rfl,j,bo,ay,rfl,y,ba,bc,rfl,k,bi,bm,rfl,r,az,bq,rfl,s,ah,an,rfl,a,aw,al,rfl,g,aq,av,rfl,i,am,ag,rfl,e,au,ao,rfl,f,ai,aj,rfl,d,ak,ar,rfl,c,rfl⟩:=I2 underlying150 h;obtain⟨a0,rfl⟩:=F3 w;obtain⟨a1,rfl⟩:=F3 ab;obtain⟨a2,rfl⟩:=F3 z;obtain⟨a3,rfl⟩:=Aih o;obtain⟨a4,rfl⟩:=Ayp af;obtain⟨a5,rfl⟩:=Xp j;obtain⟨a6,rfl⟩:=F3 y;obtain⟨a7,rfl⟩:=F3 k;obtain⟨a8,rfl⟩:=Ayp r;obtain⟨a9,rfl⟩:=F3 s;obtain⟨l,rfl⟩:=Aih a;obtain⟨aa,rfl⟩:=F3 g;obtain⟨ad,rfl⟩:=F3 i;obtain⟨u,rfl⟩:=F3 e;obtain⟨ae,rfl⟩:=F3 f;obtain⟨m,rfl⟩:=Xp d;obtain⟨t,rfl⟩:=F3 c;exact⟨⟨a0,a1,a2,a3,a4,a5,a6,a7,a8,a9,l,aa,ad,u,ae,m,t⟩,rfl⟩
def A88(h:Rd prog n 38 vs):∃x:List It,vs= [.ro 17 (Oe x)]:=by
 obtain⟨es,rfl,_,a⟩:=Mq underlying38 h;have⟨l,d⟩:=Aii (f:=It.v) (t:=150) kr (λx c=>Bej (a x c));exact⟨l,by rw[d,show prog.cellsOf 150=17 by kernel_rfl];rfl⟩
def Bhv(h:Rd prog n 111 vs):∃x:Pit,V.agg vs=x.v:=by
 obtain⟨ad,af,rfl,g,ab,aq,rfl,k,ah,y,rfl,j,aa,an,rfl,e,r,ai,rfl,l,ae,aj,rfl,a,ao,u,rfl,i,w,z,rfl,c,ag,ak,rfl,f,rfl⟩:=I2 underlying111 h;obtain⟨a0,rfl⟩:=F3 g;obtain⟨o,rfl⟩:=Aih k;obtain⟨a2,rfl⟩:=F3 j;obtain⟨s,rfl⟩:=F3 e;obtain⟨a4,rfl⟩:=F3 l;obtain⟨a5,rfl⟩:=F3 a;obtain⟨t,rfl⟩:=F3 i;obtain⟨a7,rfl⟩:=F3 c;obtain⟨am,al,rfl,d,rfl⟩:=I2 underlying109 f;obtain⟨b0,rfl⟩:=Bef d;exact⟨{ id:=a0,code:=o,fam:=a2,st:=s,wo:=a4,se:=a5,pt:=t,ky:=a7,m:=b0},rfl⟩
def Bek(h:Rd prog n 37 vs):∃x:List Pit,vs= [.ro 9 (C5 x)]:=by
 obtain⟨es,rfl,_,a⟩:=Mq underlying37 h;have⟨l,d⟩:=Aii (f:=Pit.v) (t:=111) kr (λx c=>Bhv (a x c));exact⟨l,by rw[d,show prog.cellsOf 111=9 by kernel_rfl];rfl⟩
def A89(p:Po):Prop:=(El p.var.num.mag/\El p.var.den)/\(El p.lvl.num.mag/\El p.lvl.den)/\(El p.rate.num.mag/\El p.rate.den)
def As3(h:Rd prog n 44 vs):∃x:Dl,V.agg vs=x.v/\A89 x.p:=by
 obtain⟨ce,bk,rfl,j,bi,bq,rfl,af,ch,av,rfl,ae,aw,bc,rfl,aj,bs,a2,rfl,u,ax,bv,rfl,c,co,cb,rfl,ak,bf,bu,rfl,d,bm,ci,rfl,m,be,br,rfl,r,am,an,rfl,a,rfl⟩:=I2 underlying44 h;obtain⟨a0,rfl⟩:=F3 j;obtain⟨a1,rfl⟩:=F3 af;obtain⟨cn,bo,rfl,ai,ao,bb,rfl,ad,bz,b0,rfl,o,cf,cp,rfl,z,ar,bn,rfl,ag,cj,aq,rfl,w,ay,cd,rfl,k,b1,cg,rfl,f,cl,bg,rfl,i,ck,cm,rfl,y,rfl⟩:=I2 underlying36 ae;obtain⟨bd,bh,rfl,e,au,cc,rfl,l,rfl⟩:=I2 underlying24 ai;obtain⟨bl,a9,rfl,s,ba,bx,rfl,al,rfl⟩:=I2 underlying27 ad;obtain⟨c0,rfl⟩:=F3 e;obtain⟨c1,rfl⟩:=A87 l;obtain⟨g0,rfl⟩:=Xp s;obtain⟨g1,rfl⟩:=Xp al;obtain⟨b2,rfl⟩:=Bhu o;obtain⟨b3,rfl⟩:=F3 z;obtain⟨b4,rfl,l4⟩:=Aij ag;obtain⟨b5,rfl⟩:=F3 w;obtain⟨b6,rfl,l6⟩:=Aij k;obtain⟨b7,rfl⟩:=F3 f;obtain⟨b8,rfl,l8⟩:=Aij i;obtain⟨b9,rfl⟩:=F3 y;obtain⟨a3,rfl⟩:=Bek aj;obtain⟨a4,rfl⟩:=A88 u;obtain⟨a5,rfl⟩:=Xp c;obtain⟨a6,rfl⟩:=Beh ak;obtain⟨a7,rfl⟩:=F3 d;obtain⟨a8,rfl⟩:=F3 m;obtain⟨bp,az,rfl,t,bw,ca,rfl,ah,bt,bj,rfl,ab,rfl⟩:=I2 underlying41 r;obtain⟨e0,rfl⟩:=F3 t;obtain⟨e1,rfl⟩:=F3 ah;obtain⟨e2,rfl⟩:=F3 ab;obtain⟨aa,rfl⟩:=Bhr a;exact⟨{ ses:=a0,cand:=a1,p:={ len:=c0,rules:=c1,g:=⟨g0,g1⟩,en:=b2,mn:=b3,var:=b4,cut:=b5,lvl:=b6,top:=b7,rate:=b8,slack:=b9},pool:=a3,items:=a4,ess:=a5,uses:=a6,served:=a7,sec:=a8,nu:=e0,de:=e1,ex:=e2,seed:=aa},rfl,l4,l6,l8⟩
def Aos{v:V}(h:RdW prog 44 v):∃x:Dl,v=x.v/\A89 x.p:=by
 obtain⟨n,vs,d,rfl⟩:=h;have⟨x,a,c⟩:=As3 d;exact⟨x,by rw[show E0 prog 44=some true by kernel_rfl];exact a,c⟩
def As4{l:List (List UInt8)}(h:SmlV 1048576 (.ro 1 (Hd l))):l.length<=2000000/\∀s∈l,s.length<=2000000:=by
 cases h with
 |ro h k=>
 rw[Fm]at h;refine⟨by omega,λs hs=>?_⟩;have:=k (.str s) (List.mem_map_of_mem hs);cases this with
 |str h=>omega
def L8(h:SmlV 1048576 (.ro sz es)):es.length<=1048576:=by cases h with
 |ro h _ =>exact h
def A9a{it:It}(h:SmlV 1048576 it.v):it.small:=by
 cases h with
 |agg h=>
 have h1:=h (.str it.stem) sm;have c:=L8 (h (.ro 1 (Av it.ch)) sm);have d:=L8 (h (.ro 1 (Av it.ass)) sm);rw[A4]at c d;cases h1 with
 |str h1=>exact⟨by omega,(As4 (h (.ro 1 (Hd it.opts)) sm)),(As4 (h (.ro 1 (Hd it.txts)) sm)),by omega,by omega⟩
structure DlSm(d:Dl):Prop where
 b:d.p.rules.length<=4000000/\d.pool.length<=4000000/\d.items.length<=4000000/\d.p.en.length<=4000000/\d.uses.length<=4000000
 it:∀it∈d.items,it.small
 el:d.ess.length<=4000000
 m1:d.p.var.num.mag.length<=1048576/\d.p.var.den.length<=1048576
 m2:d.p.lvl.num.mag.length<=1048576/\d.p.lvl.den.length<=1048576
 m3:d.p.rate.num.mag.length<=1048576/\d.p.rate.den.length<=1048576
def A2r(l:List Nat):(A2 l).length=l.length:=by simp[A2]
def Bhw{d:Dl}(h:SmlV 1048576 d.v):DlSm d:=by
 cases h with
 |agg h=>
 have o:=L8 (h (.ro 5 (Hu d.p.rules)) sm);have m:=L8 (h (.ro 9 (C5 d.pool)) sm);have a:=h (.ro 17 (Oe d.items)) sm;have r:=L8 (h (.ro 2 (Bd d.p.en)) sm);have n:=L8 (h (.ro 2 (Bd d.uses)) sm);have s:=L8 (h (.ro 1 (Av d.ess)) sm);have i:=L8 (h (.ro 1 (A2 d.p.var.num.mag)) sm);have l:=L8 (h (.ro 1 (A2 d.p.var.den)) sm);have e:=L8 (h (.ro 1 (A2 d.p.lvl.num.mag)) sm);have f:=L8 (h (.ro 1 (A2 d.p.lvl.den)) sm);have g:=L8 (h (.ro 1 (A2 d.p.rate.num.mag)) sm);have j:=L8 (h (.ro 1 (A2 d.p.rate.den)) sm);rw[Ts]at o;rw[E4]at m;rw[Ei]at r n;rw[A4]at s;rw[A2r]at i l e f g j;cases a with
 |ro a k=>
  rw[Jd]at a;exact⟨⟨by omega,by omega,by omega,by omega,by omega⟩,λit c=>A9a (k _ (List.mem_map_of_mem c)),by omega,⟨i,l⟩,⟨e,f⟩,⟨g,j⟩⟩
def Bel{d:Dl}(i:A89 d.p)(h:DlSm d)(hs:hvB d=false):DlOk d:=by
 have⟨⟨e,f⟩,⟨j,a⟩,k,g⟩:=i
 have hb:=h.b;have⟨m1,m2⟩:=h.m1;have⟨m3,m4⟩:=h.m2;have⟨m5,m6⟩:=h.m3
 refine⟨⟨⟨⟨e,by omega⟩,f,by omega⟩,⟨⟨j,by omega⟩,a,by omega⟩,⟨⟨k,by omega⟩,g,by omega⟩⟩,λhp=>?_,by omega,h.it,h.el⟩
 have c:=(Xg hp).1
 unfold hvB at hs
 simp only[Fh,Bool.and_eq_false_iff,decide_eq_false_iff_not]at hs
 omega
def Bem(h:Rd prog n 5 vs):∃c:UInt8,vs= [Zw c]:=by
 obtain⟨a,rfl,d⟩:=Amt underlying5 h
 simp only[Lit.wf,Bg,decide_eq_true_eq]at d
 have e1:IntKind.u8.min=0:=by kernel_rfl
 have e2:IntKind.u8.max=255:=by kernel_rfl
 refine⟨UInt8.ofNat a.toNat,?_⟩
 rw[Bg9 om,show((a.toNat:Nat):Int)=a by omega]
def A9b{v:V}(h:RdW prog 45 v):∃l:List UInt8,v=.ro 1 (Ls l):=by
 obtain⟨n,vs,f,rfl⟩:=h
 obtain⟨es,rfl,_,c⟩:=Mq underlying45 f
 have⟨l,e,_⟩:=Atk (g:=mkV (E0 prog 5)) (f':=Zw) (λx d=>Bem (c x d)) (λy=>by rw[Bi7];rfl)
 refine⟨l,?_⟩
 rw[e,Bg5,show prog.cellsOf 5=1 by kernel_rfl]
 rfl
def Ads{H:Type}{d:DataW H}{l:List (DataW H)}(h:d∈l):Rows.uptoBulk d<=Rows.uptoBulkAll l:=by
 induction l with
 |nil=>cases h
 |cons x r ih=>
  simp only[Rows.uptoBulkAll];cases B8.1 h with
  |inl e=>subst e;omega
  |inr e=>have:=ih e;omega
def A9c{H:Type}(d:DataW H):1<=Rows.uptoBulk d:=by
 cases d with
 |lit l=>cases l<;>simp[Rows.uptoBulk]
 |_ =>simp[Rows.uptoBulk]
def As5{H:Type}(l:List (DataW H)):l.length<=Rows.uptoBulkAll l:=by
 induction l with
 |nil=>simp[Rows.uptoBulkAll]
 |cons x r ih=>have:=A9c x;simp only[Rows.uptoBulkAll,A3];omega
def Bhx(H:Type):BulkOk (Rows.uptoBulk (H:=H))where
 str b:=by simp[Rows.uptoBulk]
 slice elems spare:=by
  refine⟨?_,λe c=>?_⟩
  .have:=As5 elems;simp only[Rows.uptoBulk];omega
  .have:=Ads c;simp only[Rows.uptoBulk];omega
 agg parts e c:=by have:=Ads c;simp only[Rows.uptoBulk];omega
def Av3{H:Type}{l:List (DataW H)}(c:Rows.uptoSmall H l=true):∀d∈l,Rows.uptoBulk d<=1048576:=by
 exact λd e=>Ag (Ads e) (Jz c)
abbrev Ayq:List (String × DataW Unit):=Rows.resumeAgainRow.laid
def Bhy{W:World}(hs:W.ShapedOpen prog):∃m,W.cell? ⟨1,0,none⟩=some (.int .i64 m):=
 Go.Proofs.cell_of_shapedOpen_int (zero:= #[.int .i64 0]) (t:=3) hs (Jz kr) kr rfl kr kr underlying3
def Bjc:prog.globalNamed "errors.errorType" =some 0:=by kernel_rfl
def Bjd:(prog.cutTypes.find? (·.1== "internal/reflectlite.rtype")).map (·.2)=some 241:=by kernel_rfl
def Bhz:((List.range 521).filter λt=>prog.rowNamed t [101,114,114,111,114])= [125]:=by kernel_rfl
def Bje:prog.types.size=521:=by kernel_rfl
def Aik{W:World}(h:laidMetH prog Ayq W):Glw 0 Ap8 W:=by
 have⟨c,u,ty,k,g,m,j,d⟩:=((laidMetH_iff.1 h).2) ("errors.errorType",Rows.laid_errors_errorType) (Mz.2 ⟨by simp[Ayq,Rows.resumeAgainRow],by kernel_rfl⟩);have en:=(Ht k).symm;subst en;obtain rfl:=Ht (Bjd.symm.trans g);have e:ty∈(List.range 521).filter λt=>prog.rowNamed t [101,114,114,111,114]:=Mz.2 ⟨Hq.2 (by rw[<- Bje];exact m),j⟩
 rw[Bhz]at e;obtain rfl:=B3.1 e;have f:typeHandle prog 125=.pointer (some ⟨4,125,none⟩):=kr;rw[f]at d;have:=World.var?_cell Bjc d 0;unfold Glw;simpa using this
def Bjf:DataW Unit->Value
 | .lit (.int k n)=>.int k n
 |_ =>undef
def Bkb(l:List (DataW Unit)):List Value:=l.flatMap λ
 | .agg m=>m.map Bjf
 |x=>[Bjf x]
noncomputable def Bh0(h:Array Obj)(x:String × DataW Unit):Array Obj:=match prog.globalNamed x.1,x.2 with
 |some g,.agg l=>h.modify g λ
   | .cells _ t c=>.cells (Bkb l).toArray t c
   |o=>o
 |_,_ =>h
noncomputable def Adt(d:Os):World:=
 { World.holding prog d ⟨#[],#[],[]⟩with heap:=(Ayq.foldl Bh0 (World.holding prog d ⟨#[],#[],[]⟩).heap).modify 0 λ
   | .cells _ t c=>.cells #[Ap8] t c
   |o=>o}
def zI:Value:=.int .i64 0
def zS:Value:=.slice none 0 0
def zd:Value:=.agg #[zI,zI,zI,zS,zS,zS,zS,zI,.bool false,zS,zS,zI,.bool false,zS,zS,zI,.bool false,zS,zS,zI,zS,zS,zS,zS,zI,zI,zI,zI,zI,.int .u64 0]
def dI{H:Type}:DataW H:=.lit (.int .i64 0)
def dR{H:Type}:DataW H:=.agg [.agg [.lit (.bool false),.nil],.nil]
def dD{H:Type}:DataW H:=.agg [dI,dI,.agg [.agg [dI,.nil],.agg [.nil,.nil],.nil,dI,dR,dI,dR,dI,dR,dI],.nil,.nil,.nil,.nil,dI,dI,.agg [dI,dI,dI],.lit (.int .u64 0)]
def A2s(c:Os):laidMetH prog Ayq ((Adt c).forCall (λ_ _ =>0) ⟨#[],#[zd,zS],[]⟩).memory:=
 laidMetH_of_parts (laidMet_of_run' 8 kr kr) kr
def Ben{n:Int}(h:I64 n):zag (zig n)=n:=by
 unfold I64 at h;unfold zag zig
 by_cases c:n<0
 .simp only[Ad c];split<;>omega
 .simp only[I c];split<;>omega
def A9d{n:Int}(h:I64 n):Avv (Al5 n)=n:=by
 rw[Aie (Asp n),Amb h,Ben h]
def Ayr{f:Nat->Except Int (Nd × Nat)}:∀(ks:List Nd)(c:Nat)(d:List UInt8),(∀x∈ks,∀c d,bs.drop c=Zk x++d->f c=.ok (x,c+(Zk x).length))->
  bs.drop c=(ks.map Zk).flatten++d->rdL f ks.length c=.ok (ks,c+((ks.map Zk).flatten).length)
 | [],c,d,_,_ =>by simp[rdL]
 |x::ks,c,d,e,h=>by
  simp only[B6,List.flatten_cons,Cz]at h;simp only[A3,rdL,(e x sm c _ h),(Ayr ks (c+(Zk x).length) d (λy g=>e y G8) (Abx h))];simp[Hl]
def Ays:∀(lv:Nat)(x:Nd)(c:Nat)(g:List UInt8),Fit lv x->bs.drop c=Zk x++g->Yl bs e lv c=.ok (x,c+(Zk x).length)
 |0,x,c,g,o,_ =>by simp[Fit]at o
 |lv+1,.mk t k n s ks,c,g,o,h=>by
  rw[Fit]at o;have⟨h1,h2,h3,m,h7⟩:=o;have hk:1<=k/\k<=3:=by rcases m with h|h|h<;>omega
  rw[Zk]at h|-;simp only[Cz,Co]at h;have⟨u,d⟩:=Aop (Abx h);have y:(UInt8.ofNat k.toNat).toNat=k.toNat:=by simp;omega
  have aa:(t.toNat:Int)=t:=om;rw[Yl,(Aby (e:=e) om h)];simp only;rw[I om,u];simp only[y,A1,A3,aa]
  rcases m with⟨rfl,rfl,rfl⟩|⟨rfl,rfl,rfl,m⟩|⟨rfl,rfl,rfl,m⟩
  .simp only[if_true]at d|-;have j:=Aby (e:=e) (Asp n) d;simp only[show(1:Int).toNat=1 from rfl,if_true,j,A9d h3]
   congr 2;omega
  .rw[I dC]at d|-;simp only[if_true,Cz]at d|-;have j:=Aby (e:=e) om d;have l:=Abx d
   have w:c+(Ph t.toNat).length+1+(Ph s.length).length+s.length<=bs.length:=by
    have:=congrArg List.length l;simp only[Eu,A1]at this;have h0:=congrArg List.length d;simp only[Eu,A1]at h0;have hp:0<(Ph s.length).length:=by rw[Ph];split<;>simp
    omega
   have hc:rdC bs e 2000 (c+(Ph t.toNat).length+1)=.ok (s.length,c+(Ph t.toNat).length+1+(Ph s.length).length):=by
    unfold rdC;rw[j];simp only;rw[I oM]
   simp only[show(2:Int).toNat=2 from rfl,show¬(2=1) by omega,if_true,hc];rw[Ad w,l,Wo]
   congr 2;simp;omega
  .rw[I dc,I dC]at d|-;simp only[Cz]at d;have l:=Abx d
   have hc:rdC bs e 1024 (c+(Ph t.toNat).length+1)=.ok (ks.length,c+(Ph t.toNat).length+1+(Ph ks.length).length):=by
    unfold rdC;rw[(Aby (e:=e) om d)];simp only;rw[I oM]
   simp only[show(3:Int).toNat=3 from rfl,show¬(3=1) by omega,show¬(3=2) by omega,if_true,hc,(Ayr (f:=Yl bs e lv) ks _ g (λx hx c g hh=>Ays lv x c g (h7 x hx) hh) l)]
   congr 2;simp;omega
structure JvR(e:Jv):Prop where
 a:I64 e.kind/\I64 e.time/\I64 e.item/\I64 e.value
 b:∀n∈e.ch,I64 n
 c:I64 e.ik/\I64 e.il/\I64 e.ig
def Qt{n:Int}(k:Nat)(h:0<=t/\t<=9999999)(c:I64 n):Fit (k+1) (num t n):=by
 unfold num;rw[Fit];exact⟨h.1,h.2,c,.inl ⟨rfl,rfl,rfl⟩,λx d=>by cases d⟩
def A9e:I64 0:=by unfold I64;omega
def A2t{e:Jv}(k:JvR e)(m:e.ch.length<=10)(ht:e.text.length<=1000):Fit 8 (.mk 50 3 0 [] (Zj e)):=by
 have⟨⟨o,g,d,l⟩,b,c1,f,r⟩:=k;rw[Fit]
 refine⟨by omega,by omega,A9e,.inr (.inr ⟨rfl,rfl,rfl,?_⟩),λx c=>?_⟩
 .unfold Zj Adm
  split
  .simp
  .split<;>simp
 .unfold Zj at c
  rcases Cn.1 c with h|h
  .simp at h
   rcases h with rfl|rfl
   .exact Qt 6 om o
   .exact Qt 6 om g
  .split at h
   .unfold Adm at h;simp at h
    rcases h with rfl|rfl|rfl|rfl|rfl
    .exact Qt 6 om d
    .rw[Fit];refine⟨by omega,by omega,A9e,.inr (.inr ⟨rfl,rfl,rfl,by simp[chN];omega⟩),λx c=>?_⟩;simp only[chN,Bl]at c;obtain⟨n,j,rfl⟩:=c;exact Qt 5 om (b n j)
    .exact Qt 6 om l
    .rw[Fit];exact⟨by omega,by omega,A9e,.inr (.inl ⟨rfl,rfl,rfl,by omega⟩),λx c=>by cases c⟩
    .exact Qt 6 om (by unfold I64;split<;>omega)
   .split at h
    .simp at h
     rcases h with rfl|rfl|rfl
     .exact Qt 6 om c1
     .exact Qt 6 om f
     .exact Qt 6 om r
    .simp at h
def Adu(e:Jv):Nd:=.mk 50 3 0 [] (Zj e)
def Av4{e:Jv}(d:JvR e)(c:Wl e=0):Yl (Zk (Adu e)) 4 8 0=.ok (Adu e,(Zk (Adu e)).length):=by
 have⟨h1,h2⟩:=Ast c;have:=Ays (bs:=Zk (Adu e)) (e:=4) 8 (Adu e) 0 [] (A2t d h1 h2) sm;simpa using this
def Wr(a:List UInt8)(es:List Jv):Prop:=(∃s,Run a a.length s (es.map Adu))/\∀e∈es,Wl e=0
def Wr.read{a:List UInt8}{es:List Jv}(h:Wr a es):Iv a=(es.map Adu,a.length,0):=by
 have⟨⟨s,c⟩,_⟩:=h;have:=c.le.2;rw[c.rdJ,show 301-(es.map Adu).length=(300-(es.map Adu).length)+1 by omega,rdJ,Ad (A7 _)]
def Beo{a:List UInt8}{es:List Jv}{e:Jv}(h:Wr a es)(j:JvR e)(d:(wrR a e).2=0):
  Wr (wrR a e).1 (es++[e])/\(∃m,(wrR a e).1=a++m/\0<m.length/\m.length<=2012):=by
 unfold wrR at d|-
 split at d
 .rename_i h;simp only at d;exact absurd d h
 rename_i g;rw[I g];have f:=sG g
 have⟨⟨s,h1⟩,h2,h3⟩:=A8t (Av4 j f) d;rw[h.read]at h1;change Wr (Ass a (Zk (Adu e))).1 (es++[e])/\∃m,(Ass a (Zk (Adu e))).1=a++m/\0<m.length/\m.length<=2012
 refine⟨⟨⟨s,by rw[C0];exact h1⟩,λx c=>?_⟩,?_⟩
 .rcases Cn.1 c with c|c
  .exact h.2 x c
  .rw[B3.1 c];exact f
 .rw[h2]
  refine⟨T4 (Zk (Adu e))++P5 (Adr a (Zk (Adu e))) 8,by rw[Aju,Cz],?_,?_⟩
  .simp only[T4,A1,Ln];omega
  .simp only[T4,A1,Ln];omega
def Amk(d:Dl)(t:Te)(e:Ev):∀(l:List Ev)(s:Se)(k:Nat){s':Se}{n:Nat},K5 d t s k l=(s',n,0)->Lm d t s' e=0->K5 d t s k (l++[e])=(Of d t s' e,n+1,0)
 | [],s,k,s',n,h,h1=>by
  rw[K5]at h;injection h with h2 h3;injection h3 with h3 _;subst h2 h3;rw[Ff,K5,I G8,K5]
 |x::l,s,k,s',n,h,h1=>by
  rw[K5]at h
  split at h
  .rename_i c;injection h with _ h3;injection h3 with _ h3;exact absurd h3 c
  .rename_i c;rw[Co,K5,I c];exact Amk d t e l _ _ h h1
structure Ch(d:Dl)(ss:List Se)(ls:List (List UInt8))(ds:List Jv):Prop where
 l1:ss.length=ds.length+1
 l2:ls.length=ds.length+1
 w:∀k,k<=ds.length->Wr (ls.getD k []) (ds.take k)/\K5 d (Nt d) Zg 0 ((ds.take k).map toE)=(ss.getD k Zg,k,0)
 b:∀k,k<=ds.length->SeB k (ss.getD k Zg)/\(ls.getD k []).length<=2012*k
 p:∀k,k<ds.length->∃m,ls.getD (k+1) []=ls.getD k []++m
 st:∀k,k<ds.length->Lm d (Nt d) (ss.getD k Zg) (toE (ds.getD k zE))=0/\wrR (ls.getD k []) (ds.getD k zE)=(ls.getD (k+1) [],0)/\Of d (Nt d) (ss.getD k Zg) (toE (ds.getD k zE))=ss.getD (k+1) Zg
 sm:∀e∈ds,(toE e).an.small
def Jt{l:List α}{x z:α}(h:k<l.length):(l++[x]).getD k z=l.getD k z:=by
 simp[Dt,Bv h]
def Pv{l:List α}{x z:α}(h:k=l.length):(l++[x]).getD k z=x:=by
 subst h;simp[Dt]
def Ch.push{d:Dl}{ss:List Se}{ls:List (List UInt8)}{ds:List Jv}{e:Jv}(h:Ch d ss ls ds)(hd:M8 d=0)(hok:DlOk d)(hn:ds.length<=700)(hr:JvR e)(hs:(toE e).an.small)
  (h1:Lm d (Nt d) (ss.getD ds.length Zg) (toE e)=0)(h2:(wrR (ls.getD ds.length []) e).2=0):
  Ch d (ss++[Of d (Nt d) (ss.getD ds.length Zg) (toE e)]) (ls++[(wrR (ls.getD ds.length []) e).1]) (ds++[e]):=by
 have l1:=h.l1
 have l2:=h.l2
 have⟨w1,w2⟩:=h.w ds.length (A7 _)
 have⟨b1,b2⟩:=h.b ds.length (A7 _)
 rw[Be]at w1 w2
 have⟨g1,m,g2,g3,g4⟩:=Beo w1 hr h2
 have⟨dp,dt,_⟩:=Avp hd hok
 have hL:(ds++[e]).length=ds.length+1:=by simp
 refine⟨by simp[l1],by simp[l2],λk hk=>?_,λk hk=>?_,λk hk=>?_,λk hk=>?_,λx hx=>?_⟩
 .rw[hL]at hk
  rcases Cl ds.length k with hlt|hle
  .have:k=ds.length+1:=by omega
   subst this
   rw[Pv om,Pv om,Bi om,C0]
   exact⟨g1,Amk d _ _ _ _ _ w2 h1⟩
  .rw[Jt om,Jt om,Cv hle]
   exact h.w k hle
 .rw[hL]at hk
  rcases Cl ds.length k with hlt|hle
  .have:k=ds.length+1:=by omega
   subst this
   rw[Pv om,Pv om]
   exact⟨A73 dp dt hs h1 b1 om,by rw[g2,A1];omega⟩
  .rw[Jt om,Jt om]
   exact h.b k hle
 .rw[hL]at hk
  rcases Cl k ds.length with hlt|hge
  .rw[Jt om,Jt om]
   exact h.p k hlt
  .have:k=ds.length:=by omega
   subst this
   rw[Pv om,Jt om]
   exact⟨m,g2⟩
 .rw[hL]at hk
  rcases Cl k ds.length with hlt|hge
  .rw[Jt om,Jt om,Jt om,Jt om,Jt om]
   exact h.st k hlt
  .have:k=ds.length:=by omega
   subst this
   rw[Jt (l:=ss) om,Jt (l:=ls) om,Pv (l:=ds) rfl,Pv (l:=ls) om,Pv (l:=ss) om]
   exact⟨h1,Prod.ext rfl h2,rfl⟩
 .rcases Cn.1 hx with hx|hx
  .exact h.sm x hx
  .rw[B3.1 hx];exact hs
def Ch.pre{d:Dl}{ss:List Se}{c:List (List UInt8)}{g:List Jv}(h:Ch d ss c g):∀ {j:Nat},k<=j->j<=g.length->∃m,c.getD j []=c.getD k []++m
 |0,l,_ =>by
  have:=Nat.le_zero.1 l;subst this;exact⟨[],by simp⟩
 |j+1,l,hj=>by
  rcases Cl j k with o|f
  .have:k=j+1:=om;subst this;exact⟨[],by simp⟩
  .have⟨m,r⟩:=h.pre f om;have⟨n,e⟩:=h.p j om;exact⟨m++n,by rw[e,r,Cz]⟩
end Go.Proofs.YtnoignhlamifmaaGreatDoor
