/- Resuming, part 1. No condition. -/
import Derived.Maps.AppendAt
import Derived.WalkKit
import Derived.Lib.AppendStr
import Derived.Laws.CopyOwn
import Derived.ProofKit
import Derived.OpenShut
import Derived.ShutString
import Derived.Sort.OwnSortedInts
set_option maxHeartbeats 8000000
set_option linter.all false
set_option maxRecDepth 10000
namespace Go
def A2:=@Nat.le_refl
def A7:=@Nat.le_add_right
def Aa1:=@Nat.blt_eq
def Aa2:=@Nat.sub_le
def Ab:=@if_pos
def Ae:=@Nat.le_trans
def Ag:=@List.length_eq_zero_iff
def Ah:=@List.getElem?_eq_getElem
def Al:=@List.getElem?_eq_some_iff
def Am:=@Option.some.injEq
def Ao:=@List.all_eq_true
def Aq:=@List.length_append
def Ar:=@List.mem_of_getElem?
def As:=@List.getElem_mem
def Av:=@List.take_succ_eq_append_getElem
def Ax:=@List.length_cons
def Ay:=@Option.map_eq_some_iff
def B3:=@Array.getElem?_eq_some_iff
def B4:=@Int.fdiv_eq_ediv_of_nonneg
def B5:=@Nat.zero_le
def B6:=@List.append_assoc
def B7:=@Nat.mul_assoc
def Ba:=@List.take_of_length_le
def Bb:=@List.take_length
def Bc:=@List.mem_map
def Be:=@Bool.and_eq_true
def Bf:=@Nat.mul_comm
def Bg:=@List.length_nil
def Bj:=@List.getElem?_map
def Bl:=@Nat.mod_eq_of_lt
def Bn:=@List.getElem?_append_right
def Bo:=@List.drop_eq_getElem_cons
def Br:=@List.map_cons
def Bt:=@List.getElem?_append_left
def Bu:=@List.mem_cons
def Bw:=@Prod.mk.injEq
def By:=@Nat.mul_le_mul_right
def Bz:=@List.mem_singleton
def C2:=@Nat.div_lt_iff_lt_mul
def C4:=@Int.toNat_natCast
def C8:=@List.length_take
def Ca:=@Nat.add_mul
def Cc:=@List.mem_append
def Cd:=@Nat.pow_succ
def Cf:=@Option.bind_eq_some_iff
def Cg:=@List.map_append
def Ci:=@List.map_nil
def Cj:=@List.cons_append
def Ck:=@List.not_mem_nil
def Cl:=@List.drop_length
def Cn:=@Int.eq_ofNat_of_zero_le
def Cp:=@Nat.lt_of_lt_of_le
def Cq:=@List.getElem?_take_of_lt
def Cv:=@Option.isSome_iff_exists
def Cx:=@List.take_append_of_le_length
def Cy:=@Nat.div_div_eq_div_mul
def Cz:=@Nat.lt_or_ge
def D6:=@List.length_drop
def D8:=@List.nil_append
def Da:=@List.mem_of_mem_take
def Db:=@List.length_map
def Dd:=@Nat.mod_lt
def De:=@List.getElem?_of_mem
def Df:=@List.mem_of_mem_drop
def Di:=@List.getElem?_drop
def Dj:=@BitVec.toNat_ofNat
def Dn:=@Nat.zero_add
def Do:=@List.append_nil
def Dp:=@Array.getElem?_eq_none
def Dq:=@List.getD_eq_getElem?_getD
def Dt:=@List.mem_cons_of_mem
def Du:=@Int.natCast_add
def Dv:=@Nat.pow_le_pow_right
def Dy:=@List.getElem?_cons_zero
def Dz:=@List.size_toArray
def E8:=@Bool.or_eq_false_iff
def E9:=@Nat.le_succ_of_le
def Eb:=@Nat.add_zero
def Ee:=@Nat.mul_add
def Eg:=@List.getElem?_eq_none
def Em:=@Nat.mul_le_mul_left
def Es:=@List.any_eq_true
def Eu:=@Nat.eq_zero_or_pos
def Ew:=@Int.natAbs_natCast
def Ey:=@List.length_pos_iff
def F3:=@Bool.false_eq_true
def F4:=@Nat.sub_self
def F5:=@List.all_append
def F9:=@Nat.pow_pos
def Fb:=@Array.ext'
def Fc:=@List.mem_cons_self
def Fe:=@Nat.lt_of_le_of_lt
def Fl:=@List.set_append_right
def Fo:=@Nat.div_mul_le_self
def Fq:=@Int.natCast_mul
def Fv:=@Option.getD_some
def Fx:=@Nat.lt_succ_of_lt
def Fy:=@List.eq_nil_of_length_eq_zero
def Fz:=@List.mem_or_eq_of_mem_set
def G5:=@Nat.div_add_mod
def G6:=@Nat.min_eq_left
def G7:=@Nat.div_le_self
def Ga:=@List.take_append_drop
def Gh:=@Nat.div_eq_of_lt
def Gk:=@Array.mapM_eq_mapM_toList
def Gm:=@List.replicate_succ
def Gs:=@Nat.mul_one
def Gt:=@List.drop_append_of_le_length
def Gw:=@Nat.le_div_iff_mul_le
def H1:=@List.pairwise_iff_getElem
def H2:=@Decidable.byContradiction
def H8:=@List.getElem?_toArray
def H9:=@List.length_filter_le
def Hb:=@List.getElem?_cons_succ
def Hc:=@Array.mem_toList_iff
def Hd:=@List.getElem?_replicate
def He:=@Nat.pow_add
def Hf:=@Array.getD_eq_getD_getElem?
def Hg:=@Nat.mul_lt_mul_of_pos_right
def Hh:=@Nat.two_pow_add_eq_or_of_lt
def Hm:=@Nat.add_assoc
def Hs:=@List.drop_of_length_le
def Ht:=@Bool.not_eq_true'
def Hy:=@List.length_set
def I:=@if_neg
def I0:=@Option.map_some
def I1:=@Bool.or_eq_true
def I2:=@List.nodup_cons
def I6:=@List.take_succ_cons
def I7:=@Array.length_toList
def I8:=@Nat.lt_mul_div_succ
def Ie:=@Nat.pos_of_ne_zero
def Ig:=@Nat.le_of_lt
def Ip:=@List.getElem?_set_ne
def Iq:=@Nat.mul_le_mul
def Is:=@List.filter_cons_of_pos
def Iu:=@List.filter_cons_of_neg
def J0:=@Option.some.inj
def J1:=@Nat.mul_ne_zero
def Jo:=@Nat.lt_of_mul_lt_mul_right
def Js:=@Nat.le_of_ble_eq_true
def K8:=@List.set_cons_zero
def K9:=@List.map_map
def Kb:=@List.mem_iff_getElem
def Kc:=@List.all_eq_false
def Kd:=@of_decide_eq_true
def Kg:=@List.eq_of_mem_replicate
def Kv:=@List.mem_range
def Kw:=@List.take_zero
def Kx:=@Nat.mul_div_cancel_left
def Ky:=@Nat.and_two_pow_sub_one_eq_mod
def L9:=@List.mem_append_left
def La:=@List.filter_append
def Le:=@Array.getElem?_setIfInBounds
def Lp:=@Array.getElem?_modify
def Ls:=@List.flatMap_cons
def Lt:=@Array.size_append
def Lu:=@List.ext_getElem?
def Lv:=@List.getElem?_set
def M1:=@Array.getElem?_eq_getElem
def M2:=@Nat.add_mul_mod_self_left
def M3:=@Nat.lt_of_mul_lt_mul_left
def M8:=@List.getElem?_range
def M9:=@List.append_toArray
def Ma:=@Nat.add_mul_div_left
def Mb:=@Array.replicate_succ
def Mc:=@Array.replicate_zero
def Mx:=@List.map_toArray
def My:=@Nat.zero_mul
def Mz:=@Nat.sub_zero
def Na:=@List.mem_map_of_mem
def Ni:=@List.foldl_cons
def Nj:=@List.mem_filter
def Nk:=@BitVec.toNat_or
def Nl:=@Bool.eq_iff_iff
def Nt:=@Nat.add_sub_cancel
def Nu:=@List.pairwise_cons
def Nw:=@BitVec.toNat_ofInt
def O0:=@List.mapM_cons
def O1:=@List.nodup_append
def O2:=@List.getElem?_set_self
def O3:=@Nat.add_comm
def O4:=@Nat.mul_left_comm
def O5:=@Nat.or_lt_two_pow
def O6:=@List.map_set
def O7:=@Int.natAbs_neg
def O8:=@List.foldl_append
def O9:=@List.drop_eq_nil_of_le
def P4:=@Nat.lt_succ_self
def P5:=@Nat.min_le_right
def P6:=@Nat.le_of_not_lt
def P7:=@List.ext_getElem
def Pa:=@List.push_toArray
def Pb:=@List.flatten_cons
def Pl:=@List.mem_append_right
def Pm:=@List.singleton_append
def Qe:=@Nat.div_lt_of_lt_mul
def Qg:=@List.getElem?_modify
def Qo:=@List.take_left'
def Qu:=@List.drop_set_of_lt
def Qv:=@Array.toList_append
def Qw:=@Array.toList_modify
def Qx:=@List.filter_sublist
def Qy:=@List.replicate_zero
def R9:=@List.set_cons_succ
def Rc:=@Nat.lt_trans
def Sa:=@Array.getElem?_append_left
def Sb:=@List.drop_drop
def Sc:=@Nat.mul_right_comm
def Sf:=@Rat.zero_mkRat
def Sg:=@Int.sub_eq_add_neg
def Sh:=@Int.natAbs_mul
def Si:=@Int.tdiv_eq_ediv_of_nonneg
def Sj:=@List.getElem_concat_length
def Sp:=@List.mem_drop_iff_getElem
def Sq:=@List.mem_of_find?_eq_some
def Tc:=@Array.toList_push
def Td:=@Option.map_eq_map
def Tf:=@Nat.mod_one
def Tg:=@List.any_eq_false
def Th:=@Decidable.not_not
def Tx:=@List.map_take
def Ty:=@List.Perm.eq_of_pairwise
def U0:=@Nat.gcd_dvd_left
def Uw:=@List.take_append
def Ux:=@Nat.div_add_mod'
def Uy:=@Int.natCast_ediv
def Uz:=@Nat.add_sub_cancel_left
def Vl:=@Nat.pow_zero
def Vm:=@Nat.mul_zero
def Vn:=@Nat.le_of_eq
def Vv:=@Nat.le_add_left
def Vw:=@Int.natCast_pow
def Vx:=@Nat.not_lt_zero
def X0:=@List.drop_left
def X1:=@Int.mul_neg
def X2:=@Rat.mkRat_zero
def X3:=@decide_eq_true
def X4:=@Nat.le_zero
def Xu:=@Nat.one_mul
def Xv:=@List.take_left
def Xw:=@List.take_take
def Xx:=@List.drop_take
def Xy:=@Nat.mod_mul
def Xz:=@Nat.or_comm
def Zv:=@List.any_cons
def Zw:=@Nat.lt_irrefl
end Go
namespace Go
def sr{p:Prop}(h:p:=by simp<;>rfl):p:=h
def kr{p:Prop}(h:p:=by kernel_rfl):p:=h
def om{p:Prop}(h:p:=by omega):p:=h
def oM{p:Prop}(h:p:=by omega):p:=h
def sM{p:Prop}(h:p:=by simp):p:=h
def sR{p:Prop}(h:p:=by simp<;>rfl):p:=h
def dC{p:Prop}(h:p:=by decide):p:=h
def sm{p:Prop}(h:p:=by simp):p:=h
def dc{p:Prop}(h:p:=by decide):p:=h
def so{p:Prop}(h:p:=by simp;omega):p:=h
def sy{p:Prop}(h:p:=by simp only;omega):p:=h
def rf{p:Prop}(h:p:=by exact rfl):p:=h
def ly{p:Prop}(h:p:=by constructor<;>first|kernel_rfl|(intro;kernel_rfl)|decide):p:=h
def lx{p:Prop}(h:p:=by constructor<;>first|kernel_rfl|(intro;kernel_rfl)|decide|(constructor<;>first|kernel_rfl|(intro;kernel_rfl)|decide)):p:=h
end Go
namespace Go.Eng
open Go.RowKit
def Gz{α:Type}:List α->Nat->Option α
 |[],_=>none
 |x::_,0=>some x
 |_ ::r,n+1=>Gz r n
def C0{α:Type}:∀(l:List α)(k:Nat),Gz l k=l[k]?
 |[],_=>by simp[Gz]
 |_ ::_,0=>by simp[Gz]
 |_ ::r,n+1=>by simp[Gz,C0 r n]
inductive V where
 |bool (b:Bool)
 |int (k:IntKind) (n:Int)
 |str (l:List UInt8)
 |agg (cs:List V)
 |tup (vs:List V)
 |ro (sz:Nat) (es:List V)
 |nils
 |rp (e:V)
 |fn (f:FuncId)
 |sl (d v sz len:Nat)
 |ss (d v sz off len:Nat)
 |bp (d v sz k off:Nat)
 |whn (b:Bool) (v:V)
 |mp (b:Nat) (k:IntKind) (m:List (Int×V))
 |nilp
 |nili
 |nilf
 |ifc (t:TypeId) (v:V)
 |clo (f:FuncId) (first caps:List V)
 |fc (f:FuncId) (first caps:List V)
 |dm (t:TypeId) (cs:List V)
 |rm (b:Nat) (k:IntKind) (m:List (Int×V))
 |mr (d v:Nat)
def V.still:V->Bool
 |.mp .. |.rm .. |.fc .. |.tup _ |.whn .. |.mr .. =>false
 |_=>true
def V.isCell:V->Bool
 |.agg _ |.tup _ |.whn _ _ |.mp .. |.rm .. |.mr .. =>false
 |.fc _ us vs=>us.all V.still&&vs.all V.still
 |_=>true
def V.cells:V->List V
 |.agg cs=>cs
 |v=>[v]
def V.fits(sz:Nat)(e:V):Prop:=e.cells.length=sz/\∀c∈e.cells,c.isCell=true
def Hj(a:Int):List (Int×V)->Option V
 |[]=>none
 |(x,v)::r=>if x=a then some v else Hj a r
def Pc(e:MapEntry):Int:=match e.key with|.int _ a=>a|_=>0
def H3(a:Int):List MapEntry->Option Value
 |[]=>none
 |e::r=>if Pc e=a then some e.val else H3 a r
def V.flat0:V->Bool
 |.bool _ |.int _ _ |.str _=>true
 |_=>false
def V.flat1:V->Bool
 |.bool _ |.int _ _ |.str _ |.nils|.fn _ |.nilp|.nili|.nilf=>true
 |_=>false
def V.flat2:V->Bool
 |.agg cs=>cs.all V.flat1
 |v=>v.flat1
inductive Pur(w:World)(N:Nat->Prop):Value->V->Prop
 |bool (b:Bool):Pur w N (.bool b) (.bool b)
 |int (k:IntKind) (n:Int):Pur w N (.int k n) (.int k n)
 |str (l:List UInt8):Pur w N (.string ⟨l.toArray⟩) (.str l)
 |agg (xs:List Value) (cs:List V) (hl:xs.length=cs.length) (hc:∀c∈cs,c.isCell=true)
   (h:∀(i:Nat)x c,xs[i]?=some x->cs[i]?=some c->Pur w N x c):Pur w N (.agg xs.toArray) (.agg cs)
 |tup (xs:List Value) (cs:List V) (hl:xs.length=cs.length)
   (h:∀(i:Nat)x c,xs[i]?=some x->cs[i]?=some c->Pur w N x c):Pur w N (.tuple xs.toArray) (.tup cs)
 |ro (A:Option Addr) (ad:Addr) (n cap sz:Nat) (es:List V) (g:Nat->Nat->Value) (hn:es.length=n) (hcap:n<=cap) (hmax:cap<=maxLen)
   (hA:0<n->A=some ad/\ad.block<w.heap.size/\¬N ad.block) (hf:∀e∈es,e.fits sz)
   (hc:∀(k:Nat)e(j:Nat)c,es[k]?=some e->e.cells[j]?=some c->w.cell? (ad.add (k*sz+j))=some (g k j))
   (h:∀(k:Nat)e(j:Nat)c,es[k]?=some e->e.cells[j]?=some c->Pur w N (g k j) c):Pur w N (.slice A n cap) (.ro sz es)
 |nils (A:Option Addr):Pur w N (.slice A 0 0) .nils
 |rp (ad:Addr) (sz:Nat) (e:V) (g:Nat->Value) (hb:ad.block<w.heap.size) (hN:¬N ad.block) (hf:e.fits sz)
   (hc:∀(j:Nat)c,e.cells[j]?=some c->w.cell? (ad.add j)=some (g j))
   (h:∀(j:Nat)c,e.cells[j]?=some c->Pur w N (g j) c):Pur w N (.pointer (some ad)) (.rp e)
 |fn (f:FuncId):Pur w N (.func (.func f) #[] #[]) (.fn f)
 |nilp:Pur w N (.pointer none) .nilp
 |nili:Pur w N .nilIface .nili
 |nilf:Pur w N .nilFunc .nilf
 |ifc (t:TypeId) (x:Value) (v:V) (hf:v.flat2=true) (h:Pur w N x v):Pur w N (.iface t x) (.ifc t v)
 |mp (b:Nat) (k:IntKind) (m:List (Int×V)) (es:Array MapEntry) (clock:Nat) (g:Int->Value) (hN:¬N b) (hb:w.heap[b]?=some (.map es clock)) (hk:∀e∈es.toList,∃a,e.key=.int k a)
   (hs:∀a v,Hj a m=some v->H3 a es.toList=some (g a)/\v.flat0=true) (hn:∀a,Hj a m=none->H3 a es.toList=none)
   (hw:(es.toList.map (·.born)).Nodup/\(∀e∈es.toList,e.born<clock)/\(es.toList.map Pc).Nodup)
   (h:∀a v,Hj a m=some v->Pur w N (g a) v):Pur w N (.map (some b)) (.mp b k m)
 |fc (f:FuncId) (xs ys:List Value) (us vs:List V) (hl:xs.length=us.length) (hm:ys.length=vs.length) (h:∀(i:Nat)x c,xs[i]?=some x->us[i]?=some c->Pur w N x c)
   (k:∀(i:Nat)x c,ys[i]?=some x->vs[i]?=some c->Pur w N x c):Pur w N (.func (.func f) xs.toArray ys.toArray) (.fc f us vs)
 |dm (t:TypeId) (xs:List Value) (cs:List V) (hl:xs.length=cs.length) (hc:∀c∈cs,c.isCell=true)
   (h:∀(i:Nat)x c,xs[i]?=some x->cs[i]?=some c->Pur w N x c):Pur w N (.iface t (.agg xs.toArray)) (.dm t cs)
 |rm (ad:Addr) (b:Nat) (k:IntKind) (m:List (Int×V)) (hb:ad.block<w.heap.size) (hN:¬N ad.block) (hc:w.cell? ad=some (.map (some b)))
   (h:Pur w N (.map (some b)) (.mp b k m)):Pur w N (.pointer (some ad)) (.rm b k m)
def Ex(w:World)(N:Nat->Prop)(w':World):Prop:=
 w.heap.size<=w'.heap.size/\∀b,b<w.heap.size->¬N b->w'.heap[b]?=w.heap[b]?
def Ex.refl(w:World)(N:Nat->Prop):Ex w N w:=⟨A2 _,λ_ _ _=>rfl⟩
def Ex.of_below{w w':World}(h:Below w.heap.size w w')(N:Nat->Prop):Ex w N w':=⟨h.size,λb c _=>h.block b c⟩
def Ex.alloc(w:World)(N:Nat->Prop)(o:Obj):Ex w N (w.alloc o):=⟨by simp,λb c _=>Below.heap_alloc w o b c⟩
def add_block(a:Addr)(n:Nat):(a.add n).block=a.block:=by unfold Addr.add;split<;>rfl
def T0(a:Addr)(i j:Nat):(a.add i).add j=a.add (i+j):=by
 unfold Addr.add;by_cases d:i=0<;>by_cases c:j=0<;>simp[d,c,Hm]
def Pur.keep{w w':World}{N N':Nat->Prop}(y:Ex w N w')(hN:∀b,b<w.heap.size->N' b->N b){x:Value}{v:V}(h:Pur w N x v):Pur w' N' x v:=by
 induction h with
 |bool b=>exact .bool b
 |int k n=>exact .int k n
 |str l=>exact .str l
 |agg xs cs z r _ ih=>exact .agg xs cs z r ih
 |tup xs cs z _ ih=>exact .tup xs cs z ih
 |ro A ad n af sz es g hn ab aa hA hf r _ ih=>
  refine .ro A ad n af sz es g hn ab aa (λh0=>?_) hf (λk e j c he hj=>?_) ih
  .have⟨h1,h2,h3⟩:=hA h0;exact⟨h1,Cp h2 y.1,λu=>h3 (hN _ h2 u)⟩
  .have h0:0<n:=by
    have:=(Al.1 he).1;omega
   have⟨_,h2,h3⟩:=hA h0;rw[World.cell?_of_block (w:=w) (y.2 _ (by rw[add_block];exact h2) (by rw[add_block];exact h3))];exact r k e j c he hj
 |nils A=>exact .nils A
 |rp ad sz e g o d hf r _ ih=>
  refine .rp ad sz e g (Cp o y.1) (λu=>d (hN _ o u)) hf (λj c hj=>?_) ih;rw[World.cell?_of_block (w:=w) (y.2 _ (by rw[add_block];exact o) (by rw[add_block];exact d))];exact r j c hj
 |fn f=>exact .fn f
 |nilp=>exact .nilp
 |nili=>exact .nili
 |nilf=>exact .nilf
 |ifc t x v hf _ ih=>exact .ifc t x v hf ih
 |mp b k m es s g d o ag hs hn hw _ ih=>
  have ae:=(B3.1 o).1;exact .mp b k m es s g (λu=>d (hN _ ae u)) ((y.2 b ae d).trans o) ag hs hn hw ih
 |fc f xs ys us vs z hm _ _ ih ik=>exact .fc f xs ys us vs z hm ih ik
 |dm t xs cs z r _ ih=>exact .dm t xs cs z r ih
 |rm ad b k m o d r _ ih=>
  refine .rm ad b k m (Cp o y.1) (λu=>d (hN _ o u)) ?_ ih;rw[World.cell?_of_block (w:=w) (y.2 _ o d)];exact r
def V.flat:V->Bool
 |.bool _ |.int _ _ |.str _ |.nils|.fn _ |.nilp|.nili|.nilf=>true
 |.ifc _ v=>v.flat2
 |_=>false
def Pur.of_flat1{w w':World}{N N':Nat->Prop}{x:Value}{v:V}(h:Pur w N x v)(c:v.flat1=true):Pur w' N' x v:=by
 cases h with
 |bool b=>exact .bool b
 |int k n=>exact .int k n
 |str l=>exact .str l
 |nils A=>exact .nils A
 |fn f=>exact .fn f
 |nilp=>exact .nilp
 |nili=>exact .nili
 |nilf=>exact .nilf
 |agg|tup|ro|rp|mp|ifc|fc|dm|rm=>simp[V.flat1]at c
def Pur.of_flat2{w w':World}{N N':Nat->Prop}{x:Value}{v:V}(h:Pur w N x v)(d:v.flat2=true):Pur w' N' x v:=by
 cases h with
 |agg xs cs g e h=>exact .agg xs cs g e (λi x c h1 h2=>(h i x c h1 h2).of_flat1 (Ao.1 d c (Ar h2)))
 |bool b=>exact .bool b
 |int k n=>exact .int k n
 |str l=>exact .str l
 |nils A=>exact .nils A
 |fn f=>exact .fn f
 |nilp=>exact .nilp
 |nili=>exact .nili
 |nilf=>exact .nilf
 |tup|ro|rp|mp|ifc|fc|dm|rm=>simp[V.flat2,V.flat1]at d
def Pur.of_flat{w w':World}{N N':Nat->Prop}{x:Value}{v:V}(h:Pur w N x v)(c:v.flat=true):Pur w' N' x v:=by
 cases h with
 |bool b=>exact .bool b
 |int k n=>exact .int k n
 |str l=>exact .str l
 |nils A=>exact .nils A
 |fn f=>exact .fn f
 |nilp=>exact .nilp
 |nili=>exact .nili
 |nilf=>exact .nilf
 |ifc t x v h1 h2=>exact .ifc t x v h1 (h2.of_flat2 h1)
 |agg|tup|ro|rp|mp|fc|dm|rm=>simp[V.flat]at c
def Pur.cell_oneCell{w:World}{N:Nat->Prop}{x:Value}{v:V}(h:Pur w N x v)(c:v.isCell=true):x.oneCell'=true:=by
 cases h<;>first|rfl|simp[V.isCell]at c
end Go.Eng
namespace Go
def C1{p:Prop}(h:p:=by simp[*]<;>rfl):p:=h
def Gi{p:Prop}(h:p:=by simp[*]):p:=h
def sG{p q:Prop}(x:q)(h:q->p:=by intro h;simpa using h):p:=h x
def sO{p q:Prop}(x:q)(h:q->p:=by intro h;simp at h;omega):p:=h x
def sA{p q:Prop}(h:p->q:=by intro h;simp at h):p->q:=h
def ka{p:Prop}(h:p:=by and_intros<;>kernel_rfl):p:=h
end Go
namespace Go.Eng
abbrev V.i(x:Int):V:=.int .i64 x
end Go.Eng
namespace Go.Eng
open Go.RowKit
abbrev Mu:=Nat->Nat->Option (Option (Nat×Nat))
inductive Enc(w:World)(N:Nat->Prop)(μ:Mu):Value->V->Prop
 |pur {x:Value} {v:V} (h:Pur w N x v):Enc w N μ x v
 |slr (d v sz len g cap:Nat) (hμ:μ d v=some (some (g,cap))) (h:len<=cap) (hmax:cap<=maxLen):Enc w N μ (.slice (some ⟨g,0,none⟩) len cap) (.sl d v sz len)
 |slv (d v sz:Nat) (A:Option Addr) (hμ:μ d v=some none):Enc w N μ (.slice A 0 0) (.sl d v sz 0)
 |ss (d v sz off len g c cap:Nat) (A:Option Addr) (h:len<=c) (hc:c<=maxLen) (hA:0<len->μ d v=some (some (g,cap))/\A=some ⟨g,off*sz,none⟩):Enc w N μ (.slice A len c) (.ss d v sz off len)
 |bp (d v sz k off g cap:Nat) (hμ:μ d v=some (some (g,cap))):Enc w N μ (.pointer (some ⟨g,k*sz+off,none⟩)) (.bp d v sz k off)
 |agg (xs:List Value) (cs:List V) (hl:xs.length=cs.length) (hc:∀c∈cs,c.isCell=true)
   (h:∀(i:Nat)x c,xs[i]?=some x->cs[i]?=some c->Enc w N μ x c):Enc w N μ (.agg xs.toArray) (.agg cs)
 |tup (xs:List Value) (cs:List V) (hl:xs.length=cs.length)
   (h:∀(i:Nat)x c,xs[i]?=some x->cs[i]?=some c->Enc w N μ x c):Enc w N μ (.tuple xs.toArray) (.tup cs)
 |ifc (t:TypeId) (x:Value) (v:V) (hc:v.isCell=true) (h:Enc w N μ x v):Enc w N μ (.iface t x) (.ifc t v)
 |clo (f:FuncId) (xs ys:List Value) (cs ds:List V) (hl:xs.length=cs.length) (hm:ys.length=ds.length) (hc:∀c,c∈cs\/c∈ds->c.isCell=true)
   (h:∀(i:Nat)x c,xs[i]?=some x->cs[i]?=some c->Enc w N μ x c) (k:∀(i:Nat)x c,ys[i]?=some x->ds[i]?=some c->Enc w N μ x c):Enc w N μ (.func (.func f) xs.toArray ys.toArray) (.clo f cs ds)
 |whn (x:Value) (b:Bool) (v:V) (h:b=true->Enc w N μ x v) (hu:b=false->x=undef):Enc w N μ x (.whn b v)
 |mr (d v g cap:Nat) (hμ:μ d v=some (some (g,cap))):Enc w N μ (.map (some g)) (.mr d v)
def Enc.pi{w:World}{N:Nat->Prop}{μ:Mu}{x:Value}{k:IntKind}{n:Int}(h:Enc w N μ x (.int k n)):x=.int k n:=by cases h with|pur h=>cases h;rfl
def Enc.pb{w:World}{N:Nat->Prop}{μ:Mu}{x:Value}{b:Bool}(h:Enc w N μ x (.bool b)):x=.bool b:=by cases h with|pur h=>cases h;rfl
def Enc.ps{w:World}{N:Nat->Prop}{μ:Mu}{x:Value}{l:List UInt8}(h:Enc w N μ x (.str l)):x=.string ⟨l.toArray⟩:=by cases h with|pur h=>cases h;rfl
def Enc.pf{w:World}{N:Nat->Prop}{μ:Mu}{x:Value}{f:FuncId}(h:Enc w N μ x (.fn f)):x=.func (.func f) #[] #[]:=by cases h with|pur h=>cases h;rfl
structure Ob where
 v:Nat
 sz:Nat
 ty:TypeId
 es:List V
def get{α:Type}:List (Nat×α)->Nat->Option α
 |[],_=>none
 |(k,x)::r,t=>if k=t then some x else get r t
structure AS where
 env:List (Nat×V)
 objs:List (Nat×Ob)
 nx:Nat
 nt:Nat
structure Bs where
 w:World
 X:Nat->Prop
 M:Mu
 df:List Deferred
def Bs.free(B:Bs)(g:Nat):Prop:=B.w.heap.size<=g\/B.X g
structure Bs.Below(B:Bs)(w':World):Prop where
 os:w'.os=B.w.os
 tape:w'.tape=B.w.tape
 output:w'.output=B.w.output
 size:B.w.heap.size<=w'.heap.size
 block:∀k,k<B.w.heap.size->¬B.X k->w'.heap[k]?=B.w.heap[k]?
def Bs.Below.refl(B:Bs):B.Below B.w:=⟨rfl,rfl,rfl,A2 _,λ_ _ _=>rfl⟩
def Bs.Below.trans{B:Bs}{a c:World}(h:B.Below a)(k:Go.RowKit.Below B.w.heap.size a c):B.Below c:=
 ⟨k.os.trans h.os,k.tape.trans h.tape,k.output.trans h.output,Ae h.size k.size,λi d e=>(k.block i d).trans (h.block i d e)⟩
def Bs.Below.alloc{B:Bs}{w:World}(h:B.Below w)(c:B.w.heap.size<=w.heap.size)(o:Obj):B.Below (w.alloc o):=
 h.trans ((Go.RowKit.Below.refl _ _).alloc c o)
def Bs.Below.drew{B:Bs}{w:World}(h:B.Below w):B.Below w.drew:=⟨h.os,h.tape,h.output,h.size,h.block⟩
def Bs.Below.grown{B:Bs}{w w':World}{row:Option Nat}(h:B.Below w)(c:w.grownBy w' row)(hB:B.w.heap.size<=w.heap.size)(g:∀k,row=some k->B.free k):B.Below w':=
 ⟨c.os.trans h.os,c.tape.trans h.tape,c.output.trans h.output,Ae h.size c.size,λk f d=>
  (c.block k om (λe=>by rcases g k e.symm with h|h;omega;exact d h)).trans (h.block k f d)⟩
def Bs.Below.plain{w w':World}(h:(Bs.mk w (λ_=>False) (λ_ _=>none) []).Below w'):Go.RowKit.Below w.heap.size w w':=⟨h.os,h.tape,h.output,h.size,λk c=>h.block k c (λh=>h)⟩
def Ae4(w:World)(N:Nat->Prop)(μ:Mu)(h:Bs)(o:Ob):Option (Nat×Nat)->Prop
 |none=>o.es=[]
 |some (g,d)=>h.free g/\o.es.length<=d/\d<=maxLen/\(∀e∈o.es,e.fits o.sz)/\
   ∃f,w.heap[g]?=some (.cells f o.ty (0,0))/\f.size=d*o.sz/\
    ∀(k:Nat)e(j:Nat)c,o.es[k]?=some e->e.cells[j]?=some c->∃x,f[k*o.sz+j]?=some x/\Enc w N μ x c
def Fp(N0:Nat->Prop)(μ:Mu)(S:AS)(b:Nat):Prop:=N0 b\/∃d o c,get S.objs d=some o/\μ d o.v=some (some (b,c))
structure RelM(D:Nat->Prop)(w0:Bs)(N0:Nat->Prop)(μ:Mu)(S:AS)(a:Act)(w:World):Prop where
 defers:a.defers=w0.df
 size:a.tmps.size=S.nt
 below:w0.Below w
 n0:(∀b,N0 b->b<w0.w.heap.size/\¬w0.X b)/\∀d v l,w0.M d v=some l->μ d v=some l
 fresh:∀d v,μ d v≠none->v<S.nx\/∃j,D j/\v=S.nx+j
 objs:∀d o,get S.objs d=some o->∃l,μ d o.v=some l/\Ae4 w (Fp N0 μ S) μ w0 o l
 inj:∀d o d' o' g c c',get S.objs d=some o->get S.objs d'=some o'->μ d o.v=some (some (g,c))->μ d' o'.v=some (some (g,c'))->d=d'
 env:∀t v,get S.env t=some v->t<S.nt/\Enc w (Fp N0 μ S) μ (a.tmps.getD t undef) v
def Ti(D:Nat->Prop)(w0:Bs)(N0:Nat->Prop)(S:AS)(a:Act)(w:World):Prop:=∃μ,RelM D w0 N0 μ S a w
def Rel(w0:Bs)(N0:Nat->Prop)(S:AS)(a:Act)(w:World):Prop:=Ti (λ_=>False) w0 N0 S a w
def Enc.keep{w w':World}{N N':Nat->Prop}{μ μ':Mu}(hk:Ex w N w')(y:∀b,b<w.heap.size->N' b->N b)
  (m:∀d v l,μ d v=some l->μ' d v=some l){x:Value}{v:V}(h:Enc w N μ x v):Enc w' N' μ' x v:=by
 induction h with
 |pur h=>exact .pur (h.keep hk y)
 |slr d v sz len g e h1 h2 o=>exact .slr d v sz len g e (m _ _ _ h1) h2 o
 |slv d v sz A h1=>exact .slv d v sz A (m _ _ _ h1)
 |ss d v sz off len g c e A h2 o r=>exact .ss d v sz off len g c e A h2 o (λs=>⟨m _ _ _ (r s).1,(r s).2⟩)
 |bp d v sz k off g e h1=>exact .bp d v sz k off g e (m _ _ _ h1)
 |agg xs cs j n _ ih=>exact .agg xs cs j n ih
 |tup xs cs j _ ih=>exact .tup xs cs j ih
 |ifc t x v n _ ih=>exact .ifc t x v n ih
 |clo f xs ys cs u j z n _ _ ih ik=>exact .clo f xs ys cs u j z n ih ik
 |whn x b v _ hu ih=>exact .whn x b v ih hu
 |mr d v g e h1=>exact .mr d v g e (m _ _ _ h1)
def Enc.cell_oneCell{w:World}{N:Nat->Prop}{μ:Mu}{x:Value}{v:V}(h:Enc w N μ x v)(c:v.isCell=true):x.oneCell'=true:=by
 cases h with
 |pur h=>exact h.cell_oneCell c
 |agg=>simp[V.isCell]at c
 |tup=>simp[V.isCell]at c
 |whn=>simp[V.isCell]at c
 |mr=>simp[V.isCell]at c
 |_=>rfl
def Enc.cells_one{w:World}{N:Nat->Prop}{μ:Mu}{x:Value}{v:V}(h:Enc w N μ x v)(c:v.isCell=true):x.cells= #[x]:=by
 have:=h.cell_oneCell c;cases x<;>first|rfl|simp[Value.oneCell']at this
def V.cells_one{v:V}(c:v.isCell=true):v.cells=[v]:=by cases v<;>first|rfl|simp[V.isCell]at c
def Enc.cells_at{w:World}{N:Nat->Prop}{μ:Mu}{x:Value}{v:V}{sz:Nat}(h:Enc w N μ x v)(z:v.fits sz):
  x.cells.size=sz/\∀(i:Nat)c,v.cells[i]?=some c->∃y,x.cells[i]?=some y/\Enc w N μ y c/\y.oneCell'=true:=by
 have⟨h1,h2⟩:=z
 by_cases o:v.isCell=true
 .rw[V.cells_one o]at h1|-;rw[h.cells_one o];refine⟨by simpa using h1,λi c g=>?_⟩
  rcases i with _ |i
  .simp only[Dy,Am]at g;subst g;exact⟨x,by simp,h,h.cell_oneCell o⟩
  .simp at g
 .cases v with
  |agg cs=>
   have l:∀(xs:List Value),xs.length=cs.length->(∀(i:Nat)x c,xs[i]?=some x->cs[i]?=some c->Enc w N μ x c)->(∀c∈cs,c.isCell=true)->
     (Value.agg xs.toArray).cells.size=sz/\∀(i:Nat)c,cs[i]?=some c->∃y,(Value.agg xs.toArray).cells[i]?=some y/\Enc w N μ y c/\y.oneCell'=true:=by
    intro xs j u e;refine⟨by simpa[Value.cells,V.cells,j]using h1,λi c g=>?_⟩;have n:i<xs.length:=by rw[j];exact(Al.1 g).1
    have s:=u i xs[i] c (Ah n) g;exact⟨xs[i],by simp[Value.cells,n],s,s.cell_oneCell (e c (Ar g))⟩
   cases h with
   |pur h=>
    cases h with
    |agg xs _ j e r=>exact l xs j (λi x c h3 t=>.pur (r i x c h3 t)) e
   |agg xs _ j e r=>exact l xs j r e
  |tup vs=>exact absurd (h2 (.tup vs) (by simp[V.cells])) Gi
  |whn b v=>exact absurd (h2 (.whn b v) (by simp[V.cells])) (by simp[V.isCell])
  |mp b k m=>exact absurd (h2 (.mp b k m) (by simp[V.cells])) (by simp[V.isCell])
  |rm b k m=>exact absurd (h2 (.rm b k m) (by simp[V.cells])) (by simp[V.isCell])
  |mr d v=>exact absurd (h2 (.mr d v) (by simp[V.cells])) (by simp[V.isCell])
  |fc f us vs=>exact absurd (h2 (.fc f us vs) (by simp[V.cells])) o
  |_=>simp[V.isCell]at o
def Dh{α:Type}(k:Nat)(x:α)(r:List (Nat×α))(t:Nat):get ((k,x)::r) t=if k=t then some x else get r t:=rfl
def Lx(a:Act)(d:Nat)(x:Value)(t:Nat)(c:d<a.tmps.size):(a.put (some d) x).tmps.getD t undef=if d=t then x else a.tmps.getD t undef:=by
 simp only[Act.put,Hf,Le]
 by_cases h:d=t
 .subst h;simp[c]
 .simp[h]
section
variable {D:Nat->Prop}{w0:Bs}{w:World}{N0:Nat->Prop}{μ:Mu}{S:AS}{a:Act}
def RelM.put(h:RelM D w0 N0 μ S a w){d:Nat}{x:Value}{v:V}(f:d<S.nt)(g:Enc w (Fp N0 μ S) μ x v):
  RelM D w0 N0 μ {S with env:=(d,v)::S.env} (a.put (some d) x) w:=by
 refine⟨h.defers,by simp[Act.put,h.size],h.below,h.n0,h.fresh,h.objs,h.inj,λt u e=>?_⟩;rw[Lx a d x t (by rw[h.size];exact f)];rw[Dh]at e
 by_cases c:d=t
 .subst c;simp only[if_true,Am]at e;subst e;simp only[if_true];exact⟨f,g⟩
 .simp only[c,if_false]at e|-;exact h.env t u e
def RelM.more(h:RelM D w0 N0 μ S a w){D':Nat->Prop}(g:∀j,D j->D' j):RelM D' w0 N0 μ S a w:=
 ⟨h.defers,h.size,h.below,h.n0,λd v f=>(h.fresh d v f).imp id (λ⟨j,c,e⟩=>⟨j,g j c,e⟩),h.objs,h.inj,h.env⟩
def RelM.block_lt(h:RelM D w0 N0 μ S a w){d:Nat}{o:Ob}{g c:Nat}(n:get S.objs d=some o)(m:μ d o.v=some (some (g,c))):g<w.heap.size:=by
 have⟨l,f,j⟩:=h.objs d o n;rw[m]at f;cases f;have⟨_,_,_,_,k,e,_⟩:=j;exact(B3.1 e).1
def RelM.drew(h:RelM D w0 N0 μ S a w):RelM D w0 N0 μ S a w.drew:=by
 have s:Ex w (Fp N0 μ S) w.drew:=⟨A2 _,λ_ _ _=>rfl⟩;refine⟨h.defers,h.size,h.below.drew,h.n0,h.fresh,λd o hd=>?_,h.inj,λt u y=>⟨(h.env t u y).1,(h.env t u y).2.keep s (λ_ _ r=>r) (λ_ _ _ g=>g)⟩⟩;have⟨l,hl,f⟩:=h.objs d o hd;refine⟨l,hl,?_⟩;cases l with
 |none=>exact f
 |some gc=>
  have⟨h1,h2,h3,z,n,h5,h6,h7⟩:=f
  exact⟨h1,h2,h3,z,n,h5,h6,λk e j c he hj=>by
   have⟨x,hx,m⟩:=h7 k e j c he hj;exact⟨x,hx,m.keep s (λ_ _ r=>r) (λ_ _ _ g=>g)⟩⟩
def Ae4.keep{w w':World}{N N':Nat->Prop}{μ μ':Mu}{f:Bs}{o:Ob}{l:Option (Nat×Nat)}(h:Ae4 w N μ f o l)(hk:Ex w N w')(u:∀b,b<w.heap.size->N' b->N b)
  (hμ:∀d v l,μ d v=some l->μ' d v=some l)(hb:∀g c,l=some (g,c)->w'.heap[g]?=w.heap[g]?):Ae4 w' N' μ' f o l:=by
 cases l with
 |none=>exact h
 |some gc=>
  have⟨g,r⟩:=gc;have⟨h1,h2,h3,s,n,h5,h6,h7⟩:=h
  exact⟨h1,h2,h3,s,n,(hb g r rfl).trans h5,h6,λk e j c y t=>by
   have⟨x,z,m⟩:=h7 k e j c y t;exact⟨x,z,m.keep hk u hμ⟩⟩
def RelM.update(h:RelM D w0 N0 μ S a w){D':Nat->Prop}{d:Nat}{o':Ob}{l':Option (Nat×Nat)}{w':World}{μ':Mu}
  (hμ:∀d v l,μ d v=some l->μ' d v=some l)(ab:∀d v,μ' d v≠none->v<S.nx\/∃j,D' j/\v=S.nx+j)(hd:μ' d o'.v=some l')
  (aa:w0.Below w')(s:Ex w (Fp N0 μ S) w')
  (y:∀k m g c,k≠d->get S.objs k=some m->μ k m.v=some (some (g,c))->w'.heap[g]?=w.heap[g]?)
  (z:∀g c,l'=some (g,c)->w.heap.size<=g\/∃o c0,get S.objs d=some o/\μ d o.v=some (some (g,c0)))
  (ae:∀N',(∀b,b<w.heap.size->N' b->Fp N0 μ S b)->Ae4 w' N' μ' w0 o' l'):
  RelM D' w0 N0 μ' {S with objs:=(d,o')::S.objs} a w'/\∀b,b<w.heap.size->Fp N0 μ' {S with objs:=(d,o')::S.objs} b->Fp N0 μ S b:=by
 have f:∀k m,get S.objs k=some m->μ' k m.v=μ k m.v:=by
  intro k m h1;have⟨l,hl,_⟩:=h.objs k m h1;rw[hμ _ _ _ hl,hl]
 have n:∀b,b<w.heap.size->Fp N0 μ' {S with objs:=(d,o')::S.objs} b->Fp N0 μ S b:=by
  rintro b hb(h0|⟨k,m,c,h1,h2⟩)
  .exact .inl h0
  .simp only[Dh]at h1
   by_cases e:d=k
   .subst e;simp only[if_true,Am]at h1;subst h1;rw[hd]at h2;injection h2 with h2
    rcases z _ _ h2 with r|⟨o,c0,r,x⟩
    .omega
    .exact .inr ⟨d,o,c0,r,x⟩
   .simp only[e,if_false]at h1;rw[f k m h1]at h2;exact .inr ⟨k,m,c,h1,h2⟩
 refine⟨⟨h.defers,h.size,aa,⟨h.n0.1,λd v l hl=>hμ _ _ _ (h.n0.2 d v l hl)⟩,ab,λk m h1=>?_,λk m d2 o2 g c c' h1 h2 r x=>?_,λt u hu=>⟨(h.env t u hu).1,(h.env t u hu).2.keep s n hμ⟩⟩,n⟩
 .simp only[Dh]at h1
  by_cases e:d=k
  .subst e;simp only[if_true,Am]at h1;subst h1;exact⟨l',hd,ae _ n⟩
  .simp only[e,if_false]at h1;have⟨l,hl,ho⟩:=h.objs k m h1;refine⟨l,hμ _ _ _ hl,ho.keep s n hμ (λg c ad=>y k m g c (Ne.symm e) h1 (by rw[hl,ad]))⟩
 .simp only[Dh]at h1 h2
  by_cases e1:d=k<;>by_cases e2:d=d2
  .rw[<-e1,<-e2]
  .subst e1;simp only[if_true,Am]at h1;simp only[e2,if_false]at h2;subst h1;rw[hd]at r;injection r with r;rw[f d2 o2 h2]at x
   rcases z _ _ r with h5|⟨o,c0,h5,h6⟩
   .have:=h.block_lt h2 x;omega
   .exact h.inj _ _ _ _ _ _ _ h5 h2 h6 x
  .subst e2;simp only[if_true,Am]at h2;simp only[e1,if_false]at h1;subst h2;rw[hd]at x;injection x with x;rw[f k m h1]at r
   rcases z _ _ x with h5|⟨o,c0,h5,h6⟩
   .have:=h.block_lt h1 r;omega
   .exact h.inj _ _ _ _ _ _ _ h1 h5 r h6
  .simp only[e1,if_false]at h1;simp only[e2,if_false]at h2;rw[f k m h1]at r;rw[f d2 o2 h2]at x;exact h.inj _ _ _ _ _ _ _ h1 h2 r x
def J2(μ:Mu)(d v:Nat)(l:Option (Nat×Nat)):Mu:=λe c=>if e=d/\c=v then some l else μ e c
def Dg(μ:Mu)(d v:Nat)(l:Option (Nat×Nat)):J2 μ d v l d v=some l:=by simp[J2]
def RelM.fresh_at(h:RelM D w0 N0 μ S a w){i:Nat}(c:¬D i)(d:Nat):μ d (S.nx+i)=none:=by
 cases hm:μ d (S.nx+i)with
 |none=>rfl
 |some l=>
  rcases h.fresh d (S.nx+i) (by rw[hm];simp)with h1|⟨j,hj,e⟩
  .omega
  .have:i=j:=om;subst this;exact absurd hj c
def RelM.muSet_mono(h:RelM D w0 N0 μ S a w){i:Nat}(j:¬D i)(d:Nat)(l:Option (Nat×Nat)):∀f c g,μ f c=some g->J2 μ d (S.nx+i) l f c=some g:=by
 intro f c g h1;unfold J2
 by_cases e:f=d/\c=S.nx+i
 .rw[e.1,e.2,h.fresh_at j d]at h1;cases h1
 .rw[I e];exact h1
def RelM.muSet_fresh(h:RelM D w0 N0 μ S a w)(i d:Nat)(l:Option (Nat×Nat)):∀f c,J2 μ d (S.nx+i) l f c≠none->c<S.nx\/∃j,(D j\/j=i)/\c=S.nx+j:=by
 intro f c h1;unfold J2 at h1
 by_cases e:f=d/\c=S.nx+i
 .exact .inr ⟨i,.inr rfl,e.2⟩
 .rw[I e]at h1;exact(h.fresh f c h1).imp id (λ⟨j,g,e⟩=>⟨j,.inl g,e⟩)
def RelM.alloc(h:RelM D w0 N0 μ S a w){i:Nat}(hi:¬D i)(d:Nat)(l:Array Value)(ty:TypeId)(sz f:Nat)(es:List V)
  (u:l.size=f*sz)(s:es.length<=f)(o:f<=maxLen)(r:∀e∈es,e.fits sz)
  (n:∀(k:Nat)e(j:Nat)c,es[k]?=some e->e.cells[j]?=some c->∃x,l[k*sz+j]?=some x/\Enc w (Fp N0 μ S) μ x c):
  RelM (λj=>D j\/j=i) w0 N0 (J2 μ d (S.nx+i) (some (w.heap.size,f))) {S with objs:=(d,⟨S.nx+i,sz,ty,es⟩)::S.objs} a (w.alloc (.cells l ty)):=by
 have m:=h.muSet_mono hi d (some (w.heap.size,f));have y:Ex w (Fp N0 μ S) (w.alloc (.cells l ty)):=Ex.alloc w _ _
 refine(h.update (D':=λj=>D j\/j=i) (o':=⟨S.nx+i,sz,ty,es⟩) (l':=some (w.heap.size,f)) m (h.muSet_fresh i d _) (Dg _ _ _ _) (h.below.alloc h.below.size _) y
  (λd1 o1 g c _ h1 h2=>Below.heap_alloc w _ g (h.block_lt h1 h2)) (λg c e=>?_) (λN' hN=>?_)).1
 .simp only[Am,Bw]at e;exact .inl om
 .refine⟨.inl h.below.size,s,o,r,l,heap_alloc_new w _,u,λk e j c he z=>?_⟩;have⟨x,hx,t⟩:=n k e j c he z;exact⟨x,hx,t.keep y hN m⟩
end
def AS.le(S S':AS):Prop:=∀w0 N0 a w,Rel w0 N0 S a w->Rel w0 N0 S' a w
def Hz(P:Program)(t:TypeId):Option Nat:=(P.info? t).map (·.size)
def En(P:Program)(t:TypeId):Option Bool:=(P.underlying t).map λ|.struct _ |.array _ _=>true|_=>false
def Fw(P:Program)(t:TypeId):Option TypeId:=match P.underlying t with|some (.slice e)=>some e|_=>none
def Auy(P:Program)(t:TypeId):Option (Nat×Nat):=match P.underlying t with|some (.array n e)=>(Hz P e).map λz=>(n,z)|_=>none
def Yz(P:Program)(t:TypeId):Option IntKind:=match P.underlying t with|some (.int k)=>some k|_=>none
def Aa4(P:Program)(t:TypeId):Bool:=match P.underlying t with|some .string=>true|_=>false
def Bi(P:Program)(t f:Nat):Option (Nat×Nat×Bool):=
 match P.underlying t with
 |some (.struct d)=>match d[f]? with
  |some c=>match Hz P c.type,En P c.type with
   |some n,some g=>if n=0 then none else some (c.offset,n,g)
   |_,_=>none
  |none=>none
 |_=>none
def V6:Value->Option V
 |.bool b=>some (.bool b)
 |.int k n=>some (.int k n)
 |.string s=>some (.str s.data.toList)
 |.slice none 0 0=>some .nils
 |.pointer none=>some .nilp
 |.nilIface=>some .nili
 |.nilFunc=>some .nilf
 |_=>none
def Auz:Value->Option V
 |.agg cs=>(cs.toList.mapM V6).map .agg
 |v=>V6 v
def Ds(P:Program)(t:TypeId):Option V:=(P.info? t).bind λi=>i.zero.bind Auz
def Aqo{x:Value}{v:V}(h:V6 x=some v):v.isCell=true:=by
 unfold V6 at h;split at h<;>first|(cases h;rfl)|cases h
def Zx{x:Value}{v:V}(h:V6 x=some v)(w:World)(N:Nat->Prop):Pur w N x v:=by
 unfold V6 at h
 split at h<;>first|(cases h)|cases h
 .exact .bool _
 .exact .int _ _
 .exact .str _
 .exact .nils _
 .exact .nilp
 .exact .nili
 .exact .nilf
def Alc{α β:Type}{f:α->Option β}:∀ {l:List α}{r:List β},l.mapM f=some r->r.length=l.length/\∀(i:Nat)x y,l[i]?=some x->r[i]?=some y->f x=some y
 |[],r,h=>by simp at h;subst h;simp
 |x::l,r,h=>by
  simp only[O0,Option.bind_eq_bind,Cf,Option.pure_def,Am]at h;obtain⟨y,e,r',g,rfl⟩:=h;have⟨h1,h2⟩:=Alc g;refine⟨by simp[h1],λi a b c d=>?_⟩
  rcases i with _ |i
  .simp at c d;subst c d;exact e
  .simp at c d;exact h2 i a b c d
def Pn{x:Value}{v:V}(h:Auz x=some v)(w:World)(N:Nat->Prop):Pur w N x v:=by
 unfold Auz at h
 split at h
 .rename_i cs;simp only[Ay]at h;obtain⟨r,j,rfl⟩:=h;have⟨h1,h2⟩:=Alc j;have d:cs=cs.toList.toArray:=sm;rw[d];refine .agg cs.toList r h1.symm (λc f=>?_) λi x c k f=>Zx (h2 i x c k f) w N;have⟨i,g⟩:=De f;have e:i<cs.toList.length:=by rw[<-h1];exact(Al.1 g).1
  exact Aqo (h2 i _ c (Ah e) g)
 .exact Zx h w N
def AS.ev(S:AS):Operand->Option V
 |.tmp t=>get S.env t
 |.const c=>V6 c
 |.func f=>some (.fn f)
 |.global _=>none
def V.part(e:V)(off n:Nat)(g:Bool):Option V:=
 if off+n<=e.cells.length then(if g then some (.agg ((e.cells.drop off).take n))else if n=1 then e.cells[off]? else none)else none
section
variable {D:Nat->Prop}{w0:Bs}{w:World}{N0:Nat->Prop}{μ:Mu}{S:AS}{a:Act}{P:Program}
def RelM.ev(h:RelM D w0 N0 μ S a w){x:Operand}{v:V}(d:S.ev x=some v):Enc w (Fp N0 μ S) μ (a.eval x) v:=by
 cases x with
 |tmp t=>exact(h.env t v d).2
 |const c=>exact .pur (Zx d _ _)
 |global g=>cases d
 |func f=>simp only[AS.ev,Am]at d;subst d;exact .pur (.fn f)
def Ae5{N:Nat->Prop}{t:TypeId}{m:Addr}{e r:V}{off n sz:Nat}{g:Bool}(hn:Hz P t=some n)(hg:En P t=some g)(hf:e.fits sz)
  (z:∀(j:Nat)c,e.cells[j]?=some c->∃x,w.cell? (m.add j)=some x/\Enc w N μ x c)(hp:e.part off n g=some r):
  ∃x,(loadVar t (m.add off)).run P w=.ok x w/\Enc w N μ x r:=by
 unfold V.part at hp;split at hp
 case isFalse=>cases hp
 rename_i af;unfold Hz at hn;obtain⟨i,hi,rfl⟩:=Ay.1 hn;unfold En at hg;have⟨de,aa,hg⟩:=Ay.1 hg
 have d:(isAgg t).run P w=.ok g w:=by
  simp only[isAgg,Sem.run_bind,run_underlying aa,Result.andThen_ok];subst hg;cases de<;>rfl
 cases g with
 |true=>
  simp only[if_true,Am]at hp;subst hp
  have h:∀j,j<i.size->∃x,w.cell? ((m.add off).add j)=some x/\∃c,e.cells[off+j]?=some c/\Enc w N μ x c:=by
   intro j l;have s:off+j<e.cells.length:=om;have⟨x,h,k⟩:=z (off+j) _ (Ah s);exact⟨x,by rw[T0];exact h,_,Ah s,k⟩
  let f:Nat->Value:=λj=>(w.cell? ((m.add off).add j)).getD undef
  have o:∀j,j<i.size->w.cell? ((m.add off).add j)=some (f j):=by
   intro j l;have⟨x,h,_⟩:=h j l;simp only[f,h,Fv]
  refine⟨.agg ((List.range i.size).map f).toArray,?_,.agg _ _ so (λc z=>?_) (λj x c h1 h2=>?_)⟩
  .simp only[loadVar,Sem.run_bind,d,Result.andThen_ok,if_true,sizeOf,typeInfo,run_program,hi,Sem.run_pure,run_loadCells w (m.add off) i.size f o]
  .exact hf.2 c (Df (Da z))
  .have l:j<i.size:=by have:=(Al.1 h1).1;simpa using this
   have⟨y,u,c',ae,ab⟩:=h j l;rw[o j l]at u;simp only[Bj,M8 l,I0,Am]at h1;rw[Cq l,Di,ae]at h2;injection u with u;injection h2 with h2;subst h1 h2;rw[u];exact ab
 |false=>
  simp only[F3,if_false]at hp;split at hp
  case isFalse=>cases hp
  have⟨x,h,k⟩:=z off r hp;refine⟨x,?_,k⟩;simp only[loadVar,Sem.run_bind,d,Result.andThen_ok,F3,if_false,run_load,h]
def AS.place(S:AS):V->Option (V×Nat)
 |.rp e=>some (e,0)
 |.bp d v sz k off=>match get S.objs d with
  |some o=>if o.v=v/\o.sz=sz then(match Gz o.es k with|some e=>some (e,off)|none=>none)else none
  |none=>none
 |_=>none
def RelM.place(h:RelM D w0 N0 μ S a w){x:Value}{p e:V}{off:Nat}(hp:S.place p=some (e,off))(m:Enc w (Fp N0 μ S) μ x p):
  ∃s sz,x=.pointer (some (Addr.add s off))/\e.fits sz/\∀(j:Nat)c,e.cells[j]?=some c->∃y,w.cell? (s.add j)=some y/\Enc w (Fp N0 μ S) μ y c:=by
 cases p<;>simp only[AS.place]at hp<;>try(cases hp;done)
 case rp e0=>
  simp only[Am,Bw]at hp;obtain⟨rfl,rfl⟩:=hp;cases m with
  |pur m=>
   cases m with
   |rp s sz _ g hb hN hf hc hh=>exact⟨s,sz,by simp[Addr.add],hf,λj c n=>⟨g j,hc j c n,.pur (hh j c n)⟩⟩
 case bp d v sz k off0=>
  split at hp
  case h_2=>cases hp
  rename_i o ho;split at hp
  case isFalse=>cases hp
  rename_i hv;obtain⟨rfl,rfl⟩:=hv;split at hp
  case h_2=>cases hp
  rename_i e1 f;rw[C0]at f;simp only[Am,Bw]at hp;obtain⟨rfl,rfl⟩:=hp;cases m with
  |pur m=>cases m
  |bp _ _ _ _ _ g aa hm=>
   have⟨l,r,z⟩:=h.objs d o ho;rw[hm]at r;cases r;have⟨_,_,_,h4,t,h5,h6,h7⟩:=z;refine⟨⟨g,k*o.sz,none⟩,o.sz,by rw[Addr.add_lit],h4 _ (Ar f),λj c n=>?_⟩;have⟨y,hy,u⟩:=h7 k e1 j c f n;exact⟨y,by rw[Addr.add_lit,cell_of_row w g _ t o.ty (0,0) h5];exact hy,u⟩
def imp(c b:Bool):Bool:= !c||b
@[simp]def Bkj(c:Bool):imp c c=true:=by cases c<;>rfl
@[simp]def Bkk(c:Bool):imp c true=true:=by cases c<;>rfl
@[simp]def Bbq(b:Bool):imp false b=true:=rfl
@[simp]def Bgu(b:Bool):imp true b=b:=rfl
def AS.evc(S:AS)(c:Bool)(x:Operand):Option V:=
 match S.ev x with
 |some (.whn b v)=>if imp c b=true then some v else none
 |r=>r
def RelM.evc(h:RelM D w0 N0 μ S a w){c:Bool}{x:Operand}{v:V}(d:S.evc c x=some v)(j:c=true):Enc w (Fp N0 μ S) μ (a.eval x) v:=by
 unfold AS.evc at d
 split at d
 .rename_i b v' g
  split at d
  .rename_i k;cases d;subst j;have e:b=true:=by simpa[imp]using k
   have:=h.ev g;generalize a.eval x=y at this;cases this with
   |pur hp=>cases hp
   |whn _ _ _ f _=>exact f e
  .cases d
 .exact h.ev d
def Bbr(c:BinOp)(k:IntKind)(a b:Int):Option V:=
 match c with
 |.add=>some (.int k (k.wrap (a+b)))
 |.sub=>some (.int k (k.wrap (a-b)))
 |.mul=>some (.int k (k.wrap (a*b)))
 |.quo=>if b=0 then none else some (.int k (k.wrap (a.tdiv b)))
 |.rem=>if b=0 then none else some (.int k (a.tmod b))
 |.and=>some (.int k (bits .and k a b))
 |.or=>some (.int k (bits .or k a b))
 |.xor=>some (.int k (bits .xor k a b))
 |.andNot=>some (.int k (bits .andNot k a b))
 |.eql=>some (.bool (decide (a=b)))
 |.neq=>some (.bool (!decide (a=b)))
 |.lss=>some (.bool (decide (a<b)))
 |.leq=>some (.bool (decide (a<=b)))
 |.gtr=>some (.bool (decide (b<a)))
 |.geq=>some (.bool (decide (b<=a)))
 |_=>none
def An9(c:BinOp)(k:IntKind)(a b:Int):Option V:=
 if b<0 then none else
 match c with
 |.shl=>some (.int k (k.wrap (a*2^min b.toNat k.bits)))
 |.shr=>some (.int k (a.fdiv (2^min b.toNat k.bits)))
 |_=>none
def Bbs(c:BinOp)(a b:List UInt8):Option V:=
 match c with
 |.add=>if a.length+b.length<=9223372036854775807 then some (.str (a++b))else none
 |.eql=>some (.bool (decide (a=b)))
 |.neq=>some (.bool (!decide (a=b)))
 |.lss=>some (.bool (Op.bytesLess a b))
 |.leq=>some (.bool (Op.bytesLess a b||decide (a=b)))
 |.gtr=>some (.bool (!(Op.bytesLess a b||decide (a=b))))
 |.geq=>some (.bool (!Op.bytesLess a b))
 |_=>none
def Afz:BinOp->Bool
 |.shl|.shr=>true
 |_=>false
def Ax2(P:Program)(t:TypeId):Bool:=match P.underlying t with|some .bool=>true|_=>false
def Aqp(P:Program)(t:TypeId):Option Nat:=match P.underlying t with
 |some (.int _)=>some 0
 |some .bool=>some 1
 |some .string=>some 2
 |_=>none
def Ags(P:Program):Nat->List Field->Option (List Nat)
 |_,[]=>some []
 |k,f::d=>match Aqp P f.type,Ags P (k+1) d with
  |some q,some c=>if f.offset=k/\f.name≠ "_" then some (q::c)else none
  |_,_=>none
def Ald(P:Program)(t:TypeId):Option (List Nat):=match P.underlying t with
 |some (.struct c)=>if P.stoodInHeld t=false/\P.eqGuardType P.depth t=false then Ags P 0 c.toList else none
 |_=>none
def eqC:Nat->V->V->Option Bool
 |0,.int k a,.int c b=>if k=c then some (decide (a=b))else none
 |1,.bool a,.bool b=>some (a==b)
 |2,.str a,.str b=>some (decide (a=b))
 |_,_,_=>none
def eqL:List Nat->List V->List V->Option Bool
 |[],[],[]=>some true
 |q::c,x::xs,y::d=>match eqC q x y,eqL c xs d with
  |some p,some r=>some (p&&r)
  |_,_=>none
 |_,_,_=>none
def Bbt(P:Program)(t:TypeId)(c:BinOp):V->V->Option V
 |.agg as,.agg bs=>match Ald P t with
  |some d=>match eqL d as bs with
   |some r=>(match c with|.eql=>some (.bool r)|.neq=>some (.bool (!r))|_=>none)
   |none=>none
  |none=>none
 |.int k a,.int e b=>if Afz c=true then An9 c k a b else if k=e then Bbr c k a b else none
 |.str a,.str b=>Bbs c a b
 |.bool a,.bool b=>if Ax2 P t=true then(match c with|.eql=>some (.bool (a==b))|.neq=>some (.bool (!(a==b)))|_=>none)else none
 |_,_=>none
def Rm{α:Type}[BEq α][LawfulBEq α][DecidableEq α](a b:α):(a==b)=decide (a=b):=by
 by_cases h:a=b<;>simp[h]
def A4q{c:BinOp}{k:IntKind}{x y:Int}{r:V}(h:Bbr c k x y=some r)(hs:Afz c=false)(t:TypeId)(w:World)(N:Nat->Prop):
  ∃z,(binOp c t (.int k x) (.int k y)).run P w=.ok z w/\Pur w N z r:=by
 cases c<;>simp only[Bbr]at h<;>first|(cases h;done)|(simp[Afz]at hs;done)|(cases h)|skip
 case quo=>
  split at h
  .cases h
  .rename_i d;cases h;exact⟨_,by simp[binOp_quo,Op.intDiv,d],.int _ _⟩
 case rem=>
  split at h
  .cases h
  .rename_i d;cases h;exact⟨_,by simp[binOp_rem,Op.intDiv,d],.int _ _⟩
 all_goals first
  |exact⟨_,by rw[binOp_add];rfl,.int _ _⟩
  |exact⟨_,by rw[binOp_sub];rfl,.int _ _⟩
  |exact⟨_,by rw[binOp_mul];rfl,.int _ _⟩
  |exact⟨_,by rw[binOp_and,intBits_and];rfl,.int _ _⟩
  |exact⟨_,by rw[binOp_or,intBits_or];rfl,.int _ _⟩
  |exact⟨_,by rw[binOp_xor,intBits_xor];rfl,.int _ _⟩
  |exact⟨_,by rw[binOp_andNot,intBits_andNot];rfl,.int _ _⟩
  |exact⟨_,by rw[binOp_eql,Rm];rfl,.bool _⟩
  |exact⟨_,by rw[binOp_neq,bne,Rm];rfl,.bool _⟩
  |exact⟨_,by rw[binOp_lss];rfl,.bool _⟩
  |exact⟨_,by rw[binOp_leq];rfl,.bool _⟩
  |exact⟨_,by rw[binOp_gtr];rfl,.bool _⟩
  |exact⟨_,by rw[binOp_geq];rfl,.bool _⟩
def Au0{c:BinOp}{k e:IntKind}{x y:Int}{r:V}(h:An9 c k x y=some r)(t:TypeId)(w:World)(N:Nat->Prop):
  ∃z,(binOp c t (.int k x) (.int e y)).run P w=.ok z w/\Pur w N z r:=by
 unfold An9 at h
 split at h
 .cases h
 .rename_i d
  cases c<;>simp only at h<;>first|(cases h;done)|(cases h)
  .exact⟨_,by rw[binOp_shl];simp[Op.shift,d],.int _ _⟩
  .exact⟨_,by rw[binOp_shr];simp[Op.shift,d],.int _ _⟩
def A4r{c:BinOp}{x y:List UInt8}{r:V}(h:Bbs c x y=some r)(t:TypeId)(w:World)(N:Nat->Prop):
  ∃z,(binOp c t (.string ⟨x.toArray⟩) (.string ⟨y.toArray⟩)).run P w=.ok z w/\Pur w N z r:=by
 cases c<;>simp only[Bbs]at h<;>first|(cases h;done)|(cases h)|skip
 case add=>
  split at h
  .rename_i d;cases h;refine⟨_,?_,.str _⟩;rw[binOp_string_add,run_string_add_sum w _ _ (by simpa[ByteArray.size]using d),ByteArray.mk_append_mk]
  .cases h
 all_goals
  refine⟨_,?_,.bool _⟩;simp[binOp,Op.stringOp,ByteArray.toList_mk,Rm]
def Adj{t:TypeId}(h:Ax2 P t=true):P.underlying t=some .bool:=by
 unfold Ax2 at h
 split at h
 .assumption
 .cases h
def Aj6(t:TypeId)(p q:Bool)(h:P.underlying t=some .bool):(binOp .eql t (.bool p) (.bool q)).run P w=.ok (.bool (p==q)) w:=by
 simp only[binOp,Sem.run_bind,Op.equal,Op.maxDepth,run_equalIn_bool' w 9999 t p q h,Result.andThen_ok,Sem.run_pure]
def Aj7(t:TypeId)(p q:Bool)(h:P.underlying t=some .bool):(binOp .neq t (.bool p) (.bool q)).run P w=.ok (.bool (!(p==q))) w:=by
 simp only[binOp,Sem.run_bind,Op.equal,Op.maxDepth,run_equalIn_bool' w 9999 t p q h,Result.andThen_ok,Sem.run_pure]
def Bbu{N:Nat->Prop}{q:Nat}{u v:V}{r:Bool}(h:eqC q u v=some r){x y:Value}(e:Enc w N μ x u)(c:Enc w N μ y v){t:TypeId}(f:Aqp P t=some q)(d:Nat):
  (Op.equalIn (d+1) t x y).run P w=.ok r w/\u.isCell=true:=by
 unfold Aqp at f;unfold eqC at h
 split at h
 .cases e.pi;cases c.pi;split at h
  .rename_i k;subst k;cases h;split at f<;>first|(simp at f;done)|skip
   rename_i j g;exact⟨by rw[run_equalIn_int w d t _ j _ _ g,Rm],rfl⟩
  .cases h
 .cases e.pb;cases c.pb;cases h;split at f<;>first|(simp at f;done)|skip
  rename_i g;exact⟨run_equalIn_bool' w d t _ _ g,rfl⟩
 .cases e.ps;cases c.ps;cases h;split at f<;>first|(simp at f;done)|skip
  rename_i g;exact⟨by rw[run_equalIn_string w d t _ _ g,ByteArray.toList_mk,ByteArray.toList_mk,Rm],rfl⟩
 .cases h
def Ale{t q:Nat}(h:Aqp P t=some q)(w:World):(isAgg t).run P w=.ok false w:=by
 unfold Aqp at h;split at h<;>first|(cases h;done)|(rename_i c;simp[isAgg,run_underlying c])
def Aa5{N:Nat->Prop}(d:Nat)(xs h:List Value):∀(m:List Field)(k:Nat)(n:List Nat)(as bs:List V)(r:Bool),Ags P k m=some n->eqL n as bs=some r->
  (∀(j:Nat)c,as[j]?=some c->∃x,xs[k+j]?=some x/\Enc w N μ x c)->(∀(j:Nat)c,bs[j]?=some c->∃y,h[k+j]?=some y/\Enc w N μ y c)->(Op.eqFields (d+1) xs.toArray h.toArray m).run P w=.ok r w
 |[],k,n,as,bs,r,g,e,_,_=>by
  simp only[Ags,Am]at g;subst g;unfold eqL at e
  split at e<;>first|(cases e;rfl)|skip
  .rename_i h1 _ _;cases h1
  .cases e
 |f::m,k,n,as,bs,r,g,e,hx,hy=>by
  simp only[Ags]at g;split at g
  case h_2=>cases g
  rename_i q l h1 h2;split at g
  case isFalse=>cases g
  rename_i z;cases g;unfold eqL at e
  split at e
  .exact absurd (by assumption:q::l=[]) sm
  .rename_i q0 ah x0 s y0 aa u;injection u with u h4;subst u h4;split at e
   case h_2=>cases e
   rename_i p r' h5 h6;cases e;have⟨x,ad,o⟩:=hx 0 x0 rfl;have⟨y,ab,ae⟩:=hy 0 y0 rfl;have hr:=(Bbu (P:=P) h5 o ae h1 d).1
   have af:(part f.type xs.toArray f.offset).run P w=.ok x w:=by
    have:xs[f.offset]?=some x:=by rw[z.1];simpa using ad
    simp[part,Ale h1,this]
   have ag:(part f.type h.toArray f.offset).run P w=.ok y w:=by
    have:h[f.offset]?=some y:=by rw[z.1];simpa using ab
    simp[part,Ale h1,this]
   simp only[Op.eqFields,ne_eq,z.2,not_false_eq_true,if_true,Sem.run_bind,af,Result.andThen_ok,ag,hr]
   cases p
   .rfl
   .simpa using(Aa5 d xs h m (k+1) l s aa r' h2 h6 (λj c t=>by have:=hx (j+1) c (sG t);rwa[show k+(j+1)=k+1+j by omega]at this) (λj c t=>by have:=hy (j+1) c (sG t);rwa[show k+(j+1)=k+1+j by omega]at this))
  .cases e
def Enc.agg_cells{N:Nat->Prop}{x:Value}{cs:List V}(h:Enc w N μ x (.agg cs)):∃xs:List Value,x=.agg xs.toArray/\∀(j:Nat)c,cs[j]?=some c->∃y,xs[j]?=some y/\Enc w N μ y c:=by
 have e:∀xs:List Value,xs.length=cs.length->(∀(i:Nat)x c,xs[i]?=some x->cs[i]?=some c->Enc w N μ x c)->∀(j:Nat)c,cs[j]?=some c->∃y,xs[j]?=some y/\Enc w N μ y c:=by
  intro xs g d j c k;have f:j<xs.length:=by rw[g];exact(Al.1 k).1
  exact⟨_,Ah f,d j _ c (Ah f) k⟩
 cases h with
 |pur h=>
  cases h with
  |agg xs _ g l d=>exact⟨xs,rfl,e xs g (λi x c h1 h2=>.pur (d i x c h1 h2))⟩
 |agg xs _ g l d=>exact⟨xs,rfl,e xs g d⟩
def A4s{m:BinOp}{t:TypeId}{u v r:V}(h:Bbt P t m u v=some r){x y:Value}{N:Nat->Prop}(f:Enc w N μ x u)(e:Enc w N μ y v)(ox oy:Operand):
  ∃z,(do eqGuard m t ox oy x y;binOp m t x y:Sem Value).run P w=.ok z w/\Pur w N z r:=by
 unfold Bbt at h
 split at h
 .rename_i as bs;split at h
  case h_2=>cases h
  rename_i qs d;split at h
  case h_2=>cases h
  rename_i r0 aa;unfold Ald at d;split at d
  case h_2=>cases d
  rename_i fs l;split at d
  case isFalse=>cases d
  rename_i n;obtain⟨xs,rfl,ab⟩:=f.agg_cells;obtain⟨ys,rfl,s⟩:=e.agg_cells;have o:P.fieldsOf t=fs:=by simp[Program.fieldsOf,l]
  have g:(Op.equalIn 10000 t (.agg xs.toArray) (.agg ys.toArray)).run P w=.ok r0 w:=by
   rw[run_equalIn_struct w 9999 t _ _ (by rw[o];exact l) n.1,o];exact Aa5 9998 xs ys fs.toList 0 qs as bs r0 d aa (λj c hj=>by simpa using ab j c hj) (λj c hj=>by simpa using s j c hj)
  simp only[Sem.run_bind,run_eqGuard_agg w m t ox oy _ _ n.2,Result.andThen_ok]
  split at h
  .cases h;exact⟨_,by rw[run_eql_struct,g];rfl,.bool _⟩
  .cases h;exact⟨_,by rw[run_neq_struct,g];rfl,.bool _⟩
  .cases h
 .rename_i k p k' q;cases f.pi;cases e.pi;simp only[Sem.run_bind,eqGuard_at_int,Sem.run_pure,Result.andThen_ok]
  split at h
  .exact Au0 h t w N
  .rename_i hs
   split at h
   .rename_i hk;subst hk;exact A4q h (sG hs) t w N
   .cases h
 .cases f.ps;cases e.ps;simp only[Sem.run_bind,eqGuard_at_string,Sem.run_pure,Result.andThen_ok];exact A4r h t w N
 .cases f with
  |pur f=>
  cases f with
  |bool p=>
  cases e with
  |pur e=>
  cases e with
  |bool q=>
  split at h
  case isFalse=>cases h
  rename_i ht;have hu:=Adj ht;simp only[Sem.run_bind,eqGuard_at_bool,Sem.run_pure,Result.andThen_ok]
  cases m<;>simp only at h<;>first|(cases h;done)|(cases h)
  .exact⟨_,Aj6 t _ _ hu,.bool _⟩
  .exact⟨_,Aj7 t _ _ hu,.bool _⟩
 .cases h
def aun(c:UnOp):V->Option V
 |.bool b=>match c with|.not=>some (.bool (!b))|_=>none
 |.int k n=>match c with|.neg=>some (.int k (k.wrap (0-n)))|.xor=>some (.int k (bits .xor k (if k.signed=true then -1 else k.max) n))|_=>none
 |_=>none
def Bbv{d:UnOp}{u r:V}(h:aun d u=some r){x:Value}{N:Nat->Prop}(c:Enc w N μ x u):∃z,(Op.unary d x).run P w=.ok z w/\Pur w N z r:=by
 unfold aun at h
 split at h
 .cases c with
  |pur c=>
  cases c with
  |bool p=>
  split at h
  .cases h;exact⟨_,rfl,.bool _⟩
  .cases h
 .cases c with
  |pur c=>
  cases c with
  |int k n=>
  split at h
  .cases h;exact⟨_,rfl,.int _ _⟩
  .cases h;exact⟨_,rfl,.int _ _⟩
  .cases h
 .cases h
end
def Md(n:Nat):Option V->Option V->Option (Nat×Nat)
 |none,none=>some (0,n)
 |some (.int _ l),none=>if 0<=l/\l<=n then some (l.toNat,n)else none
 |none,some (.int _ h)=>if 0<=h/\h<=n then some (0,h.toNat)else none
 |some (.int _ l),some (.int _ h)=>if 0<=l/\l<=h/\h<=n then some (l.toNat,h.toNat)else none
 |_,_=>none
def Agt(place:Nat->Option (Nat×Nat))(cells:List V):List (Nat×V)->Option (List V)
 |[]=>some cells
 |(i,v)::d=>
  match place i with
  |none=>none
  |some (off,c)=>
   if v.cells.length=c/\off+c<=cells.length then Agt place (cells.take off++v.cells++cells.drop (off+c)) d else none
def Adk(P:Program)(t i:Nat):Option (Nat×Nat):=(Bi P t i).map λp=>(p.1,p.2.1)
def AS.evs(S:AS)(c:Bool):List (Nat×Operand)->Option (List (Nat×V))
 |[]=>some []
 |(i,x)::r=>match S.evc c x,S.evs c r with
  |some v,some vs=>some ((i,v)::vs)
  |_,_=>none
def AS.evo(S:AS)(c:Bool):Option Operand->Option (Option V)
 |none=>some none
 |some x=>(S.evc c x).map some
def AS.args(S:AS)(c:Bool):List Operand->Option (List V)
 |[]=>some []
 |x::r=>match S.evc c x,S.args c r with
  |some v,some vs=>some (v::vs)
  |_,_=>none
def Rn:List V->Option (List UInt8)
 |[]=>some []
 |.int .u8 n::r=>match Rn r with
  |some l=>if 0<=n/\n<256 then some (UInt8.ofNat n.toNat::l)else none
  |none=>none
 |_=>none
def Ze(b:UInt8):V:=.int .u8 b.toNat
def Nx(P:Program)(t:TypeId):Bool:=match P.underlying t with|some (.interface _)|none=>false|_=>true
def Adl(P:Program)(t:TypeId):Bool:=match Fw P t with|some e=>Yz P e==some .u8|none=>false
def Af0(ok:Bool)(c:TypeId)(z:Option V):V->Option V
 |.ifc t v=>if t=c then some (if ok then .tup [v,.bool true]else v)else(if ok then z.map λz=>.tup [z,.bool false]else none)
 |.nili=>if ok then z.map λz=>.tup [z,.bool false]else none
 |_=>none
def V.pl:V->Bool
 |.bool _ |.int _ _ |.str _ |.ro _ _ |.nils|.rp _ |.fn _ |.nilp|.nili|.nilf|.dm _ _=>true
 |_=>false
def V.plA:V->Bool
 |.agg cs=>cs.all V.pl
 |.rm .. =>true
 |v=>v.pl
def V.pcell:V->Option V
 |.clo f us vs=>if us.all V.pl=true/\vs.all V.pl=true then some (.fc f us vs)else none
 |.fc f us vs=>if us.all V.still=true/\vs.all V.still=true then some (.fc f us vs)else none
 |v=>if v.pl=true then some v else none
def Adm:List V->Option (List V)
 |[]=>some []
 |c::r=>match c.pcell,Adm r with
  |some d,some e=>some (d::e)
  |_,_=>none
def dmV(t:TypeId):V->Option V
 |.agg cs=>(Adm cs).map (.dm t)
 |_=>none
def Nn(v:V):Bool:=v.cells.all V.isCell
def Ej(P:Program)(t:TypeId):Bool:=match P.underlying t with
 |some (.struct c)=>c.all λf=>(Hz P f.type).isSome
 |_=>false
def Aa6(P:Program)(t:TypeId):Option (IntKind×TypeId):=match P.underlying t with
 |some (.map k e)=>match P.underlying k with
  |some (.int q)=>some (q,e)
  |_=>none
 |_=>none
def Of(ok:Bool)(z:V):Option V->V
 |some v=>if ok then .tup [v,.bool true]else v
 |none=>if ok then .tup [z,.bool false]else z
def Zy(P:Program)(S:AS)(c:Bool):Op->Option V
 |.move x=>S.evc c x
 |.assign x=>S.evc c x
 |.pick x y z=>match S.evc c x with
  |some (.bool g)=>match S.evc (c&&g) y,S.evc (c&& !g) z with
   |some (.bool p),some (.bool q)=>some (.bool (cond g p q))
   |some u,some v=>match g with|true=>some u|false=>some v
   |_,_=>none
  |_=>none
 |.load t x=>match S.evc c x with
  |some (.rm b k m)=>if Hz P t=some 1/\En P t=some false then some (.mp b k m)else none
  |some p=>match S.place p,Hz P t,En P t with
   |some (e,off),some n,some g=>e.part off n g
   |_,_,_=>none
  |none=>none
 |.nilCheck x=>match S.evc c x with
  |some (.rp e)=>some (.rp e)
  |some (.bp d v sz k off)=>some (.bp d v sz k off)
  |_=>none
 |.binOp op t x y _=>match S.evc c x,S.evc c y with
  |some u,some v=>Bbt P t op u v
  |_,_=>none
 |.unOp op _ x=>match S.evc c x with
  |some u=>aun op u
  |none=>none
 |.convert h dst x=>match S.evc c x,Yz P dst with
  |some (.int _ n),some k=>if(P.underlying h).isSome=true then some (.int k (k.wrap n))else none
  |some (.ro 1 es),none=>if Aa4 P dst=true/\Adl P h=true then(Rn es).map .str else none
  |some (.str l),none=>if Aa4 P dst=true/\(P.underlying h).isSome=true then some (.str l)else none
  |_,_=>none
 |.makeInterface t x=>match S.evc c x with
  |some v=>if Nx P t=true/\(v.isCell=true\/v.flat2=true)then some (.ifc t v)else if Nx P t=true then dmV t v else none
  |none=>none
 |.typeAssert x _ j ok=>match S.evc c x with
  |some v=>if Nx P j=true then Af0 ok j (Ds P j) v else none
  |none=>none
 |.makeFunc (.func f) first s=>match S.args c first.toList,S.args c s.toList with
  |some [],some []=>some (.fn f)
  |some us,some vs=>if us.all V.plA=true/\vs.all V.plA=true then some (.fc f us vs)else if us.all V.isCell=true/\vs.all V.isCell=true then some (.clo f us vs)else none
  |_,_=>none
 |.fieldAddr t x f=>match S.evc c x,Bi P t f with
  |some (.rp e),some (off,n,g)=>(e.part off n g).map .rp
  |some (.bp d v sz k o),some (off,_,_)=>some (.bp d v sz k (o+off))
  |_,_=>none
 |.field t x f=>match S.evc c x,Bi P t f with
  |some e,some (off,n,g)=>match e with|.agg cs=>(V.agg cs).part off n g|_=>none
  |_,_=>none
 |.indexAddr t x i=>match S.evc c x,S.evc c i,Fw P t with
  |some p,some (.int _ n),some te=>match Hz P te with
   |some z=>match p with
    |.ro sz es=>if 0<=n/\n<es.length/\z=sz then(match Gz es n.toNat with|some e=>some (.rp e)|none=>none)else none
    |.sl d v sz len=>if 0<=n/\n<len/\z=sz then some (.bp d v sz n.toNat 0)else none
    |.ss d v sz off len=>if 0<=n/\n<len/\z=sz then some (.bp d v sz (off+n.toNat) 0)else none
    |_=>none
   |none=>none
  |some (.bp d v sz k off),some (.int _ n),none=>match Auy P t with
   |some (len,z)=>if 0<=n/\n<len then some (.bp d v sz k (off+n.toNat*z))else none
   |none=>none
  |_,_,_=>none
 |.index t x i=>match S.evc c x,S.evc c i with
  |some (.str l),some (.int _ n)=>if Aa4 P t=true/\0<=n then(match Gz l n.toNat with|some b=>some (.int .u8 b.toNat)|none=>none)else none
  |_,_=>none
 |.extract x i=>match S.evc c x with
  |some (.tup vs)=>Gz vs i
  |_=>none
 |.slice t x lo hi none=>match S.evc c x,S.evo c lo,S.evo c hi with
  |some p,some lv,some w=>match p with
   |.str l=>if Aa4 P t=true then(match Md l.length lv w with
    |some (p,q)=>some (.str ((l.drop p).take (q-p)))
    |none=>none)else none
   |.ro sz es=>match Fw P t with
    |some te=>match Hz P te,Md es.length lv w with
     |some z,some (p,q)=>if z=sz then some (.ro sz ((es.drop p).take (q-p)))else none
     |_,_=>none
    |none=>none
   |.sl d v sz len=>match Fw P t with
    |some te=>match Hz P te,Md len lv w with
     |some z,some (p,q)=>if z=sz then some (.ss d v sz p (q-p))else none
     |_,_=>none
    |none=>none
   |.ss d v sz off len=>match Fw P t with
    |some te=>match Hz P te,Md len lv w with
     |some z,some (p,q)=>if z=sz then some (.ss d v sz (off+p) (q-p))else none
     |_,_=>none
    |none=>none
   |.rp e=>match Auy P t,Md e.cells.length lv w with
    |some (len,z),some (p,q)=>if z=1/\e.cells.length=len/\len<=1000000 then some (.ro 1 ((e.cells.drop p).take (q-p)))else none
    |_,_=>none
   |_=>none
  |_,_,_=>none
 |.build t r=>match Ds P t,S.evs c r.toList with
  |some (.agg z),some vs=>if(vs.all λp=>Nn p.2)=true/\Ej P t=true then(Agt (Adk P t) z vs).map .agg else none
  |_,_=>none
 |.lookup t x i ok=>match S.evc c x,S.evc c i,Aa6 P t with
  |some (.mp _ k m),some (.int k' a),some (q,e)=>match Ds P e with
   |some z=>if k=k'/\q=k then some (Of ok z (Hj a m))else none
   |none=>none
  |_,_,_=>none
 |.call {callee:=.builtin .min,args,argTypes:=_}=>match args.toList with
  |[x,y]=>match S.evc c x,S.evc c y with
   |some (.int k a),some (.int k' b)=>if k=k' then some (.int k (if b<a then b else a))else none
   |_,_=>none
  |_=>none
 |.call {callee:=.builtin .max,args,argTypes:=_}=>match args.toList with
  |[x,y]=>match S.evc c x,S.evc c y with
   |some (.int k a),some (.int k' b)=>if k=k' then some (.int k (if a<b then b else a))else none
   |_,_=>none
  |_=>none
 |.call {callee:=.builtin .len,args,argTypes}=>match args.toList,argTypes.toList with
  |[x],[t]=>match S.evc c x with
   |some (.str l)=>if Aa4 P t=true then some (.i l.length)else none
   |some (.ro _ es)=>if(Fw P t).isSome=true then some (.i es.length)else none
   |some .nils=>if(Fw P t).isSome=true then some (.i 0)else none
   |some (.sl _ _ _ n)=>if(Fw P t).isSome=true then some (.i n)else none
   |some (.ss _ _ _ _ n)=>if(Fw P t).isSome=true then some (.i n)else none
   |_=>none
  |_,_=>none
 |_=>none
section
variable {D:Nat->Prop}{w0:Bs}{w:World}{N0:Nat->Prop}{μ:Mu}{S:AS}{a:Act}{P:Program}
def Dr{t e:TypeId}(h:Fw P t=some e):P.underlying t=some (.slice e):=by
 unfold Fw at h
 split at h
 .rename_i e' c;cases h;exact c
 .cases h
def Iv{t:TypeId}(h:Aa4 P t=true):P.underlying t=some .string:=by
 unfold Aa4 at h
 split at h
 .assumption
 .cases h
def Vo{t:TypeId}{k:IntKind}(h:Yz P t=some k):P.underlying t=some (.int k):=by
 unfold Yz at h
 split at h
 .rename_i k' c;cases h;exact c
 .cases h
def Og{t n:Nat}(h:Hz P t=some n)(w:World):(sizeOf t).run P w=.ok n w:=by
 unfold Hz at h;obtain⟨i,c,rfl⟩:=Ay.1 h;simp[sizeOf,typeInfo,c]
def Aqq{t:TypeId}{g:Bool}(h:En P t=some g)(w:World):(isAgg t).run P w=.ok g w:=by
 unfold En at h;have⟨de,c,d⟩:=Ay.1 h;simp only[isAgg,Sem.run_bind,run_underlying c,Result.andThen_ok];subst d;cases de<;>rfl
def Sr{t f off n:Nat}{g:Bool}(h:Bi P t f=some (off,n,g)):
  ∃d c,P.underlying t=some (.struct d)/\d[f]?=some c/\c.offset=off/\Hz P c.type=some n/\En P c.type=some g/\n≠0:=by
 unfold Bi at h;split at h
 case h_2=>cases h
 rename_i d e;split at h
 case h_2=>cases h
 rename_i c j;split at h
 case h_2=>cases h
 rename_i n' g' l m
 split at h
 .cases h
 .rename_i k;simp only[Am,Bw]at h;obtain⟨rfl,rfl,rfl⟩:=h;exact⟨d,c,e,j,rfl,l,m,k⟩
def A4t{N:Nat->Prop}{t off n:Nat}{g:Bool}{cs:List V}{r:V}{x:Value}(u:Hz P t=some n)(o:En P t=some g)(l:Enc w N μ x (.agg cs))(hp:(V.agg cs).part off n g=some r):
  ∃xs y,x=.agg xs/\(part t xs off).run P w=.ok y w/\Enc w N μ y r:=by
 have j:∀(xs:List Value),xs.length=cs.length->(∀c∈cs,c.isCell=true)->(∀(i:Nat)x c,xs[i]?=some x->cs[i]?=some c->Enc w N μ x c)->
   ∃y,(part t xs.toArray off).run P w=.ok y w/\Enc w N μ y r:=by
  intro xs h d f;unfold V.part at hp;by_cases e:off+n<=(V.agg cs).cells.length
  case neg=>rw[I e]at hp;cases hp
  rw[Ab e]at hp;have m:off+n<=cs.length:=e;cases g with
  |true=>
   simp only[if_true,Am]at hp;subst hp
   refine⟨.agg ((xs.drop off).take n).toArray,?_,.agg _ _ (by simp[h,V.cells]) (λc hc=>d c (Df (Da hc))) (λi y c h1 h2=>?_)⟩
   .simp only[part,Sem.run_bind,Aqq o,Result.andThen_ok,if_true,Og u,Sem.run_pure]
    congr 2
    simp
   .have hi:i<n:=by have:=(Al.1 h1).1;simp at this;omega
    rw[Cq hi,Di]at h1 h2;exact f _ _ _ h1 h2
  |false=>
   simp only[F3,if_false]at hp;by_cases h1:n=1
   case neg=>rw[I h1]at hp;cases hp
   rw[Ab h1]at hp;have k:off<xs.length:=by rw[h];omega
   refine⟨xs[off],?_,f off _ r (Ah k) hp⟩;simp[part,Aqq o,k]
 cases l with
 |pur l=>
  cases l with
  |agg xs _ h d f=>
   have⟨y,h1,h2⟩:=j xs h d (λi x c z s=>.pur (f i x c z s));exact⟨_,y,rfl,h1,h2⟩
 |agg xs _ h d f=>
  have⟨y,h1,h2⟩:=j xs h d f;exact⟨_,y,rfl,h1,h2⟩
def A0p{e r:V}{off n sz:Nat}{g:Bool}(h:e.fits sz)(hp:e.part off n g=some r):r.fits n:=by
 unfold V.part at hp;split at hp
 case isFalse=>cases hp
 rename_i j
 split at hp
 .cases hp;exact⟨by show((e.cells.drop off).take n).length=n;rw[C8,D6];omega,λc f=>h.2 c (Df (Da f))⟩
 .split at hp
  case isFalse=>cases hp
  rename_i h1;have f:=h.2 r (Ar hp);refine⟨by rw[V.cells_one f];simp[h1],λc d=>?_⟩;rw[V.cells_one f]at d;simp at d;subst d;exact f
def Agu{e r:V}{off n sz:Nat}{g:Bool}(k:e.fits sz)(hp:e.part off n g=some r)(j:Nat)(c:V)(d:r.cells[j]?=some c):e.cells[off+j]?=some c:=by
 have h:=hp;unfold V.part at hp;split at hp
 case isFalse=>cases hp
 split at hp
 .cases hp;simp only[V.cells]at d;have f:j<n:=by have:=(Al.1 d).1;simp at this;omega
  rwa[Cq f,Di]at d
 .split at hp
  case isFalse=>cases hp
  rw[V.cells_one (k.2 r (Ar hp))]at d
  rcases j with _ |j
  .simp at d;subst d;simpa using hp
  .simp at d
def Pp{isSlice:Bool}{n d:Nat}{lv o:Option V}{p q:Nat}(h:Md n lv o=some (p,q))(t:n<=d){N:Nat->Prop}{j r:Option Value}
  (u:∀v,lv=some v->∃x,j=some x/\Enc w N μ x v)(e:lv=none->j=none)(s:∀v,o=some v->∃x,r=some x/\Enc w N μ x v)(f:o=none->r=none):
  (Instr.sliceBounds isSlice n d j r none).run P w=.ok (p,q,d) w/\p<=q/\q<=n:=by
 unfold Md at h
 split at h
 .simp only[Am,Bw]at h;obtain⟨rfl,rfl⟩:=h;rw[e rfl,f rfl];exact⟨by simp[Instr.sliceBounds],B5 _,A2 _⟩
 .rename_i k l;split at h
  case isFalse=>cases h
  rename_i g;simp only[Am,Bw]at h;obtain⟨rfl,rfl⟩:=h;obtain⟨x,rfl,c⟩:=u _ rfl;rw[f rfl];cases c.pi;refine⟨?_,by omega,A2 _⟩;simp[Instr.sliceBounds,run_sliceBound w k l n _ g.1 oM]
 .rename_i k l;split at h
  case isFalse=>cases h
  rename_i g;simp only[Am,Bw]at h;obtain⟨rfl,rfl⟩:=h;obtain⟨x,rfl,c⟩:=s _ rfl;rw[e rfl];cases c.pi;refine⟨?_,by omega,by omega⟩;simp[Instr.sliceBounds,run_sliceBound w k l d _ g.1 oM]
 .rename_i k l z l';split at h
  case isFalse=>cases h
  rename_i g;simp only[Am,Bw]at h;obtain⟨rfl,rfl⟩:=h;obtain⟨x,rfl,c⟩:=u _ rfl;obtain⟨y,rfl,m⟩:=s _ rfl;cases c.pi;cases m.pi;refine⟨?_,by omega,by omega⟩;simp[Instr.sliceBounds,run_sliceBound w z l' d _ om om,run_sliceBound w k l l'.toNat _ g.1 oM]
 .cases h
end
section
variable {D:Nat->Prop}{w0:Bs}{w:World}{N0:Nat->Prop}{μ:Mu}{S:AS}{a:Act}{P:Program}
def RelM.evo(h:RelM D w0 N0 μ S a w){c:Bool}{x:Option Operand}{v:Option V}(e:S.evo c x=some v)(j:c=true):
  (∀u,v=some u->∃y,x.map a.eval=some y/\Enc w (Fp N0 μ S) μ y u)/\(v=none->x.map a.eval=none):=by
 cases x with
 |none=>
  simp only[AS.evo,Am]at e;subst e;exact⟨λu f=>(by cases f),λ_=>rfl⟩
 |some x=>
  simp only[AS.evo,Ay]at e;obtain⟨u,f,rfl⟩:=e;refine⟨λu' d=>?_,λg=>(by cases g)⟩;cases d;exact⟨_,rfl,h.evc f j⟩
def RelM.evs(h:RelM D w0 N0 μ S a w){c:Bool}(f:c=true):∀ {xs:List (Nat×Operand)}{vs:List (Nat×V)},S.evs c xs=some vs->
  vs.length=xs.length/\∀(j:Nat)p q,xs[j]?=some p->vs[j]?=some q->p.1=q.1/\Enc w (Fp N0 μ S) μ (a.eval p.2) q.2
 |[],vs,d=>by simp only[AS.evs,Am]at d;subst d;simp
 |(i,x)::r,vs,d=>by
  simp only[AS.evs]at d;split at d
  case h_2=>cases d
  rename_i v l h1 h2;cases d;have⟨k,g⟩:=RelM.evs h f h2;refine⟨by simp[k],λj p q hp e=>?_⟩
  rcases j with _ |j
  .simp at hp e;subst hp e;exact⟨rfl,h.evc h1 f⟩
  .simp at hp e;exact g j p q hp e
def A0q(h:RelM D w0 N0 μ S a w){t:TypeId}{p v:V}{x:Value}{e:V}{off n:Nat}{g:Bool}(l:Enc w (Fp N0 μ S) μ x p)(hp:S.place p=some (e,off))(j:Hz P t=some n)(o:En P t=some g)
  (k:e.part off n g=some v):∃y,(Instr.loadAt t x).run P w=.ok y w/\Enc w (Fp N0 μ S) μ y v:=by
 obtain⟨ad,sz,rfl,d,m⟩:=h.place hp l;have⟨y,f,c⟩:=Ae5 j o d m k;exact⟨y,by simp[Instr.loadAt,Instr.sureAddr,f],c⟩
def Au1{N:Nat->Prop}{t:TypeId}{x:Value}{b:Nat}{k:IntKind}{m:List (Int×V)}(f:Enc w N μ x (.rm b k m))(hn:Hz P t=some 1)(d:En P t=some false):∃y,(Instr.loadAt t x).run P w=.ok y w/\Enc w N μ y (.mp b k m):=by
 cases f with
 |pur f=>cases f with
  |rm g _ _ _ hb hN j h=>
   refine⟨.map (some b),?_,.pur h⟩;unfold En at d;have⟨de,e,d⟩:=Ay.1 d
   have c:(isAgg t).run P w=.ok false w:=by
    simp only[isAgg,Sem.run_bind,run_underlying e,Result.andThen_ok];cases de<;>first|rfl|simp at d
   have l:(loadVar t g).run P w=.ok (.map (some b)) w:=by
    simp only[loadVar,Sem.run_bind,c,Result.andThen_ok];simp[j]
   simp[Instr.loadAt,Instr.sureAddr,l]
def V7{c:Field}{n:Nat}(e:Hz P c.type=some n)(f:n≠0)(d:Addr):(fieldPlace d c).run P w=.ok (d.add c.offset) w:=by
 simp only[fieldPlace,Sem.run_bind,Og e,Result.andThen_ok,I f,Sem.run_pure]
def Aa7(_h:RelM D w0 N0 μ S a w){t f off n:Nat}{g:Bool}{e r:V}{x:Value}(k:Enc w (Fp N0 μ S) μ x (.rp e))(z:Bi P t f=some (off,n,g))(h:e.part off n g=some r):
  ∃y,(Instr.fieldAt t x f).run P w=.ok y w/\Enc w (Fp N0 μ S) μ y (.rp r):=by
 obtain⟨fs,m,h1,h2,rfl,u,h5,h6⟩:=Sr z;cases k with
 |pur k=>
 cases k with
 |rp s sz _ g' hb hN d hc o=>
 refine⟨.pointer (some (s.add m.offset)),?_,.pur (.rp _ n r (λj=>g' (m.offset+j)) (by rw[add_block];exact hb) (by rw[add_block];exact hN) (A0p d h) (λj c l=>?_) (λj c l=>o _ c (Agu d h j c l)))⟩
 .simp[Instr.fieldAt,run_underlying h1,h2,Instr.sureAddr,V7 u h6]
 .rw[T0];exact hc _ c (Agu d h j c l)
def Aa8(_h:RelM D w0 N0 μ S a w){t f off n:Nat}{g:Bool}{d v sz k o:Nat}{x:Value}(c:Enc w (Fp N0 μ S) μ x (.bp d v sz k o))(m:Bi P t f=some (off,n,g)):
  ∃y,(Instr.fieldAt t x f).run P w=.ok y w/\Enc w (Fp N0 μ S) μ y (.bp d v sz k (o+off)):=by
 obtain⟨fs,j,h1,h2,rfl,l,h5,s⟩:=Sr m;cases c with
 |pur c=>cases c
 |bp _ _ _ _ _ h e r=>
 refine⟨.pointer (some ⟨h,k*sz+(o+j.offset),none⟩),?_,.bp _ _ _ _ _ h e r⟩;simp[Instr.fieldAt,run_underlying h1,h2,Instr.sureAddr,V7 l s,Addr.add_lit,Hm]
def V8{t te n z:Nat}{k:IntKind}{i:Int}{d:Addr}{c:Nat}(g:Fw P t=some te)(e:Hz P te=some z)(f:0<=i)(h1:i<n):
  (Instr.indexAt t (.slice (some d) n c) (.int k i)).run P w=.ok (.pointer (some (d.add (i.toNat*z)))) w:=by
 simp[Instr.indexAt,run_underlying (Dr g),asIntOf,f,h1,Og e]
def Aa9{t te z sz:Nat}{k:IntKind}{i:Int}{es:List V}{e:V}{x y:Value}{N:Nat->Prop}(l:Enc w N μ x (.ro sz es))(d:Enc w N μ y (.int k i))(ht:Fw P t=some te)(hz:Hz P te=some z)
  (h0:0<=i)(h1:i<es.length)(hs:z=sz)(m:es[i.toNat]?=some e):∃r,(Instr.indexAt t x y).run P w=.ok r w/\Enc w N μ r (.rp e):=by
 subst hs;cases l with
 |pur l=>
 cases l with
 |ro A ad n ab _ _ g hn u aa hA hf hc hh=>
 cases d.pi;have⟨o,h,s⟩:=hA om;subst o
 exact⟨_,V8 ht hz h0 om,.pur (.rp _ z e (g i.toNat) (by rw[add_block];exact h) (by rw[add_block];exact s) (hf e (Ar m))
  (λj c f=>by rw[T0];exact hc _ e j c m f) (λj c f=>hh _ e j c m f))⟩
def Aba{t te z sz d v len:Nat}{k:IntKind}{i:Int}{x y:Value}{N:Nat->Prop}(e:Enc w N μ x (.sl d v sz len))(c:Enc w N μ y (.int k i))(m:Fw P t=some te)(j:Hz P te=some z)
  (l:0<=i)(h1:i<len)(hs:z=sz):∃r,(Instr.indexAt t x y).run P w=.ok r w/\Enc w N μ r (.bp d v sz i.toNat 0):=by
 subst hs;cases c.pi;cases e with
 |pur e=>cases e
 |slr _ _ _ _ g f n o h=>
  refine⟨_,V8 m j l h1,?_⟩;rw[Addr.add_lit,Dn];exact .bp d v z i.toNat 0 g f n
 |slv=>simp at h1;omega
def Abb{t te z sz d v off len:Nat}{k:IntKind}{i:Int}{x y:Value}{N:Nat->Prop}(f:Enc w N μ x (.ss d v sz off len))(e:Enc w N μ y (.int k i))(o:Fw P t=some te)(m:Hz P te=some z)
  (n:0<=i)(h1:i<len)(hs:z=sz):∃r,(Instr.indexAt t x y).run P w=.ok r w/\Enc w N μ r (.bp d v sz (off+i.toNat) 0):=by
 subst hs;cases e.pi;cases f with
 |pur f=>cases f
 |ss _ _ _ _ _ g c h A u j l=>
  obtain⟨s,rfl⟩:=l om;refine⟨_,V8 o m n h1,?_⟩;rw[Addr.add_lit,<-Ca,<-Eb ((off+i.toNat)*z)];exact .bp d v z _ 0 g h s
def X5{t te z n c p q:Nat}{A:Option Addr}{d e:Option Value}(g:Fw P t=some te)(f:Hz P te=some z)(h:(Instr.sliceBounds true n c d e none).run P w=.ok (p,q,c) w):
  (Instr.sliceAt t (.slice A n c) d e none).run P w=.ok (.slice (if c=p then A else A.map (·.add (p*z))) (q-p) (c-p)) w:=by
 simp only[Instr.sliceAt,Sem.run_bind,run_underlying (Dr g),Result.andThen_ok,Instr.slice,h,Og f,Sem.run_pure]
def Aj8{t te z sz p q:Nat}{es:List V}{x:Value}{lv s:Option V}{lo h:Option Value}{N:Nat->Prop}(o:Enc w N μ x (.ro sz es))(ht:Fw P t=some te)(hz:Hz P te=some z)(hs:z=sz)
  (hb:Md es.length lv s=some (p,q))(hl:∀v,lv=some v->∃x,lo=some x/\Enc w N μ x v)(l:lv=none->lo=none)(hh:∀v,s=some v->∃x,h=some x/\Enc w N μ x v)(ab:s=none->h=none):
  ∃r,(Instr.sliceAt t x lo h none).run P w=.ok r w/\Enc w N μ r (.ro sz ((es.drop p).take (q-p))):=by
 subst hs;cases o with
 |pur o=>
 cases o with
 |ro A ad n af _ _ g hn f ae hA hf hc aa=>
 rw[hn]at hb;have⟨h1,h2,h3⟩:=Pp (P:=P) (isSlice:=true) hb f hl l hh ab
 refine⟨_,X5 ht hz h1,.pur (.ro _ (ad.add (p*z)) _ _ z _ (λk j=>g (p+k) j) so om om (λh0=>?_) (λe d=>hf e (Df (Da d))) (λk e j c d u=>?_) (λk e j c d u=>?_))⟩
 .obtain⟨rfl,m,y⟩:=hA om;rw[I oM];exact⟨rfl,by rw[add_block];exact m,by rw[add_block];exact y⟩
 .have hk:k<q-p:=by have:=(Al.1 d).1;simp at this;omega
  rw[Cq hk,Di]at d;rw[T0,show p*z+(k*z+j)=(p+k)*z+j by rw[Ca];omega];exact hc _ e j c d u
 .have hk:k<q-p:=by have:=(Al.1 d).1;simp at this;omega
  rw[Cq hk,Di]at d;exact aa _ e j c d u
def Aj9{t te z sz d v len p q:Nat}{x:Value}{lv j:Option V}{f l:Option Value}{N:Nat->Prop}(h:Enc w N μ x (.sl d v sz len))(s:Fw P t=some te)(o:Hz P te=some z)(hs:z=sz)
  (hb:Md len lv j=some (p,q))(hl:∀v,lv=some v->∃x,f=some x/\Enc w N μ x v)(c:lv=none->f=none)(n:∀v,j=some v->∃x,l=some x/\Enc w N μ x v)(e:j=none->l=none):
  ∃r,(Instr.sliceAt t x f l none).run P w=.ok r w/\Enc w N μ r (.ss d v sz p (q-p)):=by
 subst hs;cases h with
 |pur h=>cases h
 |slr _ _ _ _ g k u m y=>
  have⟨h1,h2,h3⟩:=Pp (P:=P) (isSlice:=true) hb m hl c n e;refine⟨_,X5 s o h1,.ss d v z p (q-p) g _ k _ om om (λh0=>⟨u,?_⟩)⟩;rw[I oM];simp[Addr.add_lit]
 |slv _ _ _ A u=>
  have⟨h1,h2,h3⟩:=Pp (P:=P) (isSlice:=true) hb (A2 _) hl c n e;exact⟨_,X5 s o h1,.ss d v z p (q-p) 0 _ 0 _ om om (λh0=>by omega)⟩
def Aka{t te z sz d v off len p q:Nat}{x:Value}{lv k:Option V}{e m:Option Value}{N:Nat->Prop}(j:Enc w N μ x (.ss d v sz off len))(ht:Fw P t=some te)(y:Hz P te=some z)(hs:z=sz)
  (hb:Md len lv k=some (p,q))(hl:∀v,lv=some v->∃x,e=some x/\Enc w N μ x v)(f:lv=none->e=none)(u:∀v,k=some v->∃x,m=some x/\Enc w N μ x v)(h:k=none->m=none):
  ∃r,(Instr.sliceAt t x e m none).run P w=.ok r w/\Enc w N μ r (.ss d v sz (off+p) (q-p)):=by
 subst hs;cases j with
 |pur j=>cases j
 |ss _ _ _ _ _ g c l A n s o=>
  have⟨h1,h2,h3⟩:=Pp (P:=P) (isSlice:=true) hb n hl f u h;refine⟨_,X5 ht y h1,.ss d v z _ (q-p) g _ l _ om om (λh0=>⟨(o om).1,?_⟩)⟩;rw[(o om).2,I oM];simp[Addr.add_lit,Ca]
def Agv{t p q:Nat}{l:List UInt8}{x:Value}{lv f:Option V}{c j:Option Value}{N:Nat->Prop}(g:Enc w N μ x (.str l))(m:Aa4 P t=true)
  (o:Md l.length lv f=some (p,q))(s:∀v,lv=some v->∃x,c=some x/\Enc w N μ x v)(d:lv=none->c=none)(k:∀v,f=some v->∃x,j=some x/\Enc w N μ x v)(e:f=none->j=none):
  ∃r,(Instr.sliceAt t x c j none).run P w=.ok r w/\Enc w N μ r (.str ((l.drop p).take (q-p))):=by
 cases g.ps;have⟨h1,h2,h3⟩:=Pp (P:=P) (isSlice:=false) o (A2 _) s d k e;refine⟨.string ⟨((l.drop p).take (q-p)).toArray⟩,?_,.pur (.str _)⟩;have h:(ByteArray.mk l.toArray).size=l.length:=by simp[ByteArray.size]
 simp only[Instr.sliceAt,Sem.run_bind,run_underlying (Iv m),Result.andThen_ok,Instr.slice,Option.isSome_none,F3,if_false,Sem.run_pure,h,h1,ByteArray.extract_mk]
def K1(a:Int):List MapEntry->Nat->Option (Nat×Value)
 |[],_=>none
 |e::r,n=>if Pc e=a then some (n,e.val)else K1 a r (n+1)
def St{k:IntKind}{a:Int}{q:IntKind}:∀(es:List MapEntry)(n:Nat),(∀e∈es,∃b,e.key=.int k b)->Instr.findNow (.int q) (.int k a) es n=some (K1 a es n)
 |[],n,_=>rfl
 |e::r,n,h=>by
  have⟨b,c⟩:=h e sm;have f:Pc e=b:=by simp[Pc,c]
  simp only[Instr.findNow,c,Instr.sameNow,if_true,K1,f]
  by_cases d:b=a
  .subst d;simp
  .have:(a==b)=false:=by simp;omega
   rw[this,I d];exact(St (q:=q) (a:=a) r (n+1) (λe g=>h e Gi))
def Ny{a:Int}:∀ {es:List MapEntry}{n:Nat}{p:Nat×Value},K1 a es n=some p->H3 a es=some p.2/\n<=p.1/\∃e,es[p.1-n]?=some e/\e.val=p.2/\Pc e=a
 |[],n,p,h=>by simp[K1]at h
 |e::r,n,p,h=>by
  unfold K1 at h;unfold H3
  split at h
  .rename_i c;cases h;rw[Ab c];exact⟨rfl,A2 _,e,by simp,rfl,c⟩
  .rename_i c;rw[I c];have⟨h1,h2,e',d,f⟩:=Ny h;refine⟨h1,by omega,e',?_,f⟩;rw[show p.1-n=(p.1-(n+1))+1 by omega];simpa using d
def Su{a:Int}:∀ {es:List MapEntry}{n:Nat},K1 a es n=none↔H3 a es=none
 |[],n=>by simp[K1,H3]
 |e::r,n=>by
  unfold K1 H3
  split
  .simp
  .exact Su
def X6{t e:TypeId}{q:IntKind}(h:Aa6 P t=some (q,e)):∃k,P.underlying t=some (.map k e)/\P.underlying k=some (.int q):=by
 unfold Aa6 at h
 split at h
 .rename_i k e' d
  split at h
  .rename_i q' c;simp only[Am,Bw]at h;obtain⟨rfl,rfl⟩:=h;exact⟨k,d,c⟩
  .cases h
 .cases h
def Pur.of_flat0{w w':World}{N N':Nat->Prop}{x:Value}{v:V}(h:Pur w N x v)(c:v.flat0=true):Pur w' N' x v:=by
 cases h with
 |bool b=>exact .bool b
 |int k n=>exact .int k n
 |str l=>exact .str l
 |nils|fn|agg|tup|ro|rp|mp|nilp|nili|nilf|ifc|fc|dm|rm=>simp[V.flat0]at c
def Au2{N:Nat->Prop}{t e b:Nat}{k:IntKind}{m:List (Int×V)}{a:Int}{ok:Bool}{x y:Value}{z:V}(hx:Enc w N μ x (.mp b k m))(s:Enc w N μ y (.int k a))(ht:Aa6 P t=some (k,e))
  {j:Value}(hz:(zeroValue e).run P w=.ok j w)(l:Pur w N j z):∃r,(Instr.lookup t x y ok).run P w=.ok r w/\Enc w N μ r (Of ok z (Hj a m)):=by
 have⟨kt,hu,hk⟩:=X6 ht;cases s.pi;cases hx with
 |pur hx=>
 cases hx with
 |mp _ _ _ es u g hN hb aa hs hn hw hh=>
 have h:=St (q:=k) (a:=a) es.toList 0 aa
 have f:∀p,K1 a es.toList 0=p->(Instr.lookup t (.map (some b)) (.int k a) ok).run P w=.ok (if ok then .tuple #[(match p with|some q=>q.2|none=>j),.bool p.isSome]else(match p with|some q=>q.2|none=>j)) w:=by
  intro p hp;rw[hp]at h;unfold Instr.lookup;simp only[Sem.run_bind,run_underlying hu,Result.andThen_ok,MapKept.run_getObj_map hb,MapKept.run_checkKey hk (k:=.int k a) (by simp[MapKept.IsKey])];cases p with
  |none=>
   have hf:=MapKept.run_findKey (w:=w) hk h;simp[hf,hz]
  |some q=>
   simp[(MapKept.run_findKey (w:=w) hk h)]
 cases hp:K1 a es.toList 0 with
 |none=>
  have n:=Su.1 hp
  have d:Hj a m=none:=by
   cases h0:Hj a m with
   |none=>rfl
   |some v=>have:=(hs a v h0).1;rw[n]at this;cases this
  rw[d];refine⟨_,f _ hp,?_⟩
  cases ok
  .exact .pur l
  .exact .tup [j,.bool false] [z,.bool false] rfl (λi x c h1 h2=>by
    rcases i with _ |_ |i
    .simp at h1 h2;subst h1 h2;exact .pur l
    .simp at h1 h2;subst h1 h2;exact .pur (.bool _)
    .simp at h1)
 |some q=>
  have n:=(Ny hp).1;cases d:Hj a m with
  |none=>have:=hn a d;rw[n]at this;cases this
  |some v=>
   have o:=(hs a v d).1;rw[n]at o;injection o with o;have hv:=hh a v d;rw[<-o]at hv;refine⟨_,f _ hp,?_⟩
   cases ok
   .exact .pur hv
   .exact .tup [q.2,.bool true] [v,.bool true] rfl (λi x c h1 h2=>by
     rcases i with _ |_ |i
     .simp at h1 h2;subst h1 h2;exact .pur hv
     .simp at h1 h2;subst h1 h2;exact .pur (.bool _)
     .simp at h1)
def Alf{t len z:Nat}(h:Auy P t=some (len,z)):∃e,P.underlying t=some (.array len e)/\Hz P e=some z:=by
 unfold Auy at h
 split at h
 .rename_i n e c;have⟨z',d,h⟩:=Ay.1 h;injection h with h1 h2;subst h1 h2;exact⟨e,c,d⟩
 .cases h
def Zz{t len z d v sz c off:Nat}{k:IntKind}{i:Int}{x y:Value}{N:Nat->Prop}(h:Enc w N μ x (.bp d v sz c off))(f:Enc w N μ y (.int k i))(n:Auy P t=some (len,z))
  (m:0<=i)(h1:i<len):∃r,(Instr.indexAt t x y).run P w=.ok r w/\Enc w N μ r (.bp d v sz c (off+i.toNat*z)):=by
 have⟨e,s,l⟩:=Alf n;cases f.pi;cases h with
 |pur h=>cases h
 |bp _ _ _ _ _ g j o=>
  refine⟨.pointer (some ((⟨g,c*sz+off,none⟩:Addr).add (i.toNat*z))),?_,?_⟩
  .simp[Instr.indexAt,asIntOf,run_underlying s,Instr.sureAddr,Og l,m,h1]
  .rw[Addr.add_lit,Hm];exact .bp d v sz c _ g j o
def Agw{t len p q:Nat}{e:V}{lv u:Option V}{x:Value}{N:Nat->Prop}{z n:Option Value}(s:Enc w N μ x (.rp e))(ht:Auy P t=some (len,1))(he:e.cells.length=len)(ae:len<=1000000)(hb:Md e.cells.length lv u=some (p,q))
  (hl:∀v,lv=some v->∃x,z=some x/\Enc w N μ x v)(o:lv=none->z=none)(hh:∀v,u=some v->∃x,n=some x/\Enc w N μ x v)(aa:u=none->n=none):
  ∃r,(Instr.sliceAt t x z n none).run P w=.ok r w/\Enc w N μ r (.ro 1 ((e.cells.drop p).take (q-p))):=by
 have⟨te,hu,hz⟩:=Alf ht;subst he;have⟨h1,h2,h3⟩:=Pp (P:=P) (isSlice:=false) hb (A2 _) hl o hh aa;cases s with
 |pur s=>
 cases s with
 |rp ad sz _ g ab hN hf hc hp=>
 refine⟨.slice (some (if e.cells.length=p then ad else ad.add (p*1))) (q-p) (e.cells.length-p),?_,.pur (.ro _ (ad.add (p*1)) _ _ 1 _ (λk _=>g (p+k)) so om (by unfold maxLen;omega) (λh0=>?_) (λc m=>?_) (λk c j c' f h=>?_) (λk c j c' f h=>?_))⟩
 .simp[Instr.sliceAt,run_underlying hu,Instr.sureAddr,h1,Og hz]
 .rw[I oM];exact⟨rfl,by rw[add_block];exact ab,by rw[add_block];exact hN⟩
 .have d:=hf.2 c (Df (Da m));rw[V.fits,V.cells_one d];exact⟨rfl,λy hy=>by rw[Bz.1 hy];exact d⟩
 .have l:k<q-p:=by have:=(Al.1 f).1;simp at this;omega
  rw[V.cells_one (hf.2 c (Df (Da (Ar f))))]at h;rw[Cq l,Di]at f
  rcases j with _ |j
  .rw[T0,show p*1+(k*1+0)=p+k by omega];exact hc (p+k) c f
  .simp at h
 .have l:k<q-p:=by have:=(Al.1 f).1;simp at this;omega
  rw[V.cells_one (hf.2 c (Df (Da (Ar f))))]at h;rw[Cq l,Di]at f
  rcases j with _ |j
  .simp only[Dy,Am]at h;subst h;exact hp (p+k) c f
  .simp at h
end
variable {α:Type}{D N N0:Nat->Prop}{P:Program}{S:AS}{a:Act}{es us vs:List V}{first:List Operand}{i n off:Nat}{o:Oper}{t:TypeId}{u:V}{w:World}{w0:Bs}{x y:Value}{xs:List Value}{μ:Mu}
def Aqr(x:α):∀(l:List α)(i:Nat),i<l.length->(l.set i x).take (i+1)=l.take i++[x]
 |[],i,h=>by simp at h
 |y::l,0,_=>by simp
 |y::l,i+1,h=>by
  simp only[R9,I6,Cj];rw[Aqr x l i (sG h)]
def Adn(off:Nat):∀(l:List α)(k:Nat)(cs:Array α),off+k+l.length<=cs.size->
  ((l.zipIdx k).foldl (λcs p=>cs.setIfInBounds (off+p.2) p.1) cs).toList=cs.toList.take (off+k)++l++cs.toList.drop (off+k+l.length)
 |[],k,cs,_=>by simp
 |x::l,k,cs,h=>by
  simp only[Ax]at h;simp only[List.zipIdx_cons,Ni];rw[Adn off l (k+1) (cs.setIfInBounds (off+k) x) (by simp;omega)];simp only[Array.toList_setIfInBounds,Ax];rw[<-Hm off k 1,Aqr x cs.toList (off+k) so,Qu oM];simp only[B6,Cj,D8];rw[show off+k+1+l.length=off+k+(l.length+1) by omega]
section
def Row(w:World)(N:Nat->Prop)(μ:Mu)(xs:List Value)(cs:List V):Prop:=xs.length=cs.length/\∀(i:Nat)x c,xs[i]?=some x->cs[i]?=some c->Enc w N μ x c
def Row.append{g:List Value}{cs f:List V}(h:Row w N μ xs cs)(k:Row w N μ g f):Row w N μ (xs++g) (cs++f):=by
 refine⟨by simp[h.1,k.1],λi x c d e=>?_⟩
 by_cases j:i<xs.length
 .rw[Bt j]at d;rw[Bt (by rw[<-h.1];exact j)]at e;exact h.2 i x c d e
 .rw[Bn oM]at d;rw[Bn (by rw[<-h.1];omega),<-h.1]at e;exact k.2 _ x c d e
def Row.take{cs:List V}(h:Row w N μ xs cs)(n:Nat):Row w N μ (xs.take n) (cs.take n):=by
 refine⟨by simp[h.1],λi x c d e=>?_⟩;have f:i<n:=by have:=(Al.1 d).1;simp at this;omega
 rw[Cq f]at d e;exact h.2 i x c d e
def Row.drop{cs:List V}(h:Row w N μ xs cs)(n:Nat):Row w N μ (xs.drop n) (cs.drop n):=by
 refine⟨by simp[h.1],λi x c e d=>?_⟩;rw[Di]at e d;exact h.2 _ x c e d
def Enc.row{v:V}(h:Enc w N μ x v)(k:Nn v=true):Row w N μ x.cells.toList v.cells:=by
 have g:v.fits v.cells.length:=⟨rfl,λc f=>by simpa using Ao.1 k c f⟩;have⟨h1,h2⟩:=h.cells_at g;refine⟨by simpa using h1,λi y c d f=>?_⟩;have⟨z,j,e,_⟩:=h2 i c f;rw[Array.getElem?_toList,j]at d;cases d;exact e
def Gc(h:RelM D w0 N0 μ S a w){c:Bool}(g:c=true):∀ {xs:List Operand}{vs:List V},S.args c xs=some vs->
  vs.length=xs.length/\∀(i:Nat)x v,xs[i]?=some x->vs[i]?=some v->Enc w (Fp N0 μ S) μ (a.eval x) v
 |[],vs,d=>by simp only[AS.args,Am]at d;subst d;simp
 |x::r,vs,d=>by
  simp only[AS.args]at d;split at d
  case h_2=>cases d
  rename_i v l h1 h2;cases d;have⟨k,j⟩:=Gc h g h2;refine⟨by simp[k],λi y u e f=>?_⟩
  rcases i with _ |i
  .simp at e f;subst e f;exact h.evc h1 g
  .simp at e f;exact j i y u e f
def Ae6:∀ {es:List V}{l:List UInt8},Rn es=some l->∃c:List Int,es=c.map (V.int .u8)/\l=c.map (λn=>UInt8.ofNat n.toNat)
 |[],l,h=>by simp only[Rn,Am]at h;subst h;exact⟨[],rfl,rfl⟩
 |e::es,l,h=>by
  cases e<;>try(cases h;done)
  rename_i k n;cases k<;>try(cases h;done)
  simp only[Rn]at h;split at h
  case h_2=>cases h
  rename_i l' d;split at h
  case isFalse=>cases h
  cases h;obtain⟨c,rfl,rfl⟩:=Ae6 d;exact⟨n::c,rfl,rfl⟩
def Agx:∀(c:List Int)(s:List UInt8),c.foldl (λ(r:ByteArray)n=>r.push (UInt8.ofNat n.toNat)) ⟨s.toArray⟩=⟨(s++c.map λn=>UInt8.ofNat n.toNat).toArray⟩
 |[],s=>by simp
 |n::c,s=>by
  simp only[Ni,Br]
  have:(ByteArray.mk s.toArray).push (UInt8.ofNat n.toNat)=⟨(s++[UInt8.ofNat n.toNat]).toArray⟩:=by
   simp[ByteArray.push]
  rw[this,Agx c];simp
def Abc{l:List UInt8}{c dst:TypeId}(o:Enc w N μ x (.ro 1 es))(hd:Aa4 P dst=true)(hs:Adl P c=true)(hb:Rn es=some l):
  (convert c dst x).run P w=.ok (.string ⟨l.toArray⟩) w:=by
 obtain⟨h,rfl,rfl⟩:=Ae6 hb;unfold Adl at hs;split at hs
 case h_2=>cases hs
 rename_i e he;cases o with
 |pur o=>
 cases o with
 |ro A s n d _ _ g r ab aa hA hf hc hh=>
 rw[run_convert_bytes_string w c dst e A n d (Dr he) (Vo (sG hs)) (Iv hd)];have f:(ByteArray.empty:ByteArray)=⟨([]:List UInt8).toArray⟩:=rfl;cases hns:h with
 |nil=>
  subst hns;have h0:n=0:=sG r.symm
  subst h0;cases A with
  |none=>simp[Conv.bytesToString];rfl
  |some a0=>
   rw[run_bytesToString w a0 0 d [] (by simp[loadCells,loadCellsFrom])];rfl
 |cons n0 ae=>
  obtain⟨rfl,_,_⟩:=hA (by rw[<-r,hns];simp);rw[<-hns]
  have hl:(loadCells s n).run P w=.ok (h.map (Value.int .u8)).toArray w:=by
   have:=run_loadCells_list (P:=P) w s (h.map (Value.int .u8)) (λj v z=>by
    simp only[Bj,Ay]at z;obtain⟨m,hm,rfl⟩:=z;have h1:=hc j (.int .u8 m) 0 (.int .u8 m) (by simp[hm]) rfl;have h2:=hh j (.int .u8 m) 0 (.int .u8 m) (by simp[hm]) rfl;simp only[Gs,Eb]at h1;rw[h1];generalize g j 0=y at h2;cases h2
    rfl)
   rw[Db,show h.length=n by simpa using r]at this;exact this
  rw[run_bytesToString w s n d h hl,f,Agx];simp
def Z0(h:Nx P t=true):∃de,P.underlying t=some de/\∀l,de≠ .interface l:=by
 unfold Nx at h
 split at h
 .cases h
 .cases h
 .rename_i h1 h2;cases hd:P.underlying t with
  |none=>exact absurd hd h2
  |some de=>exact⟨de,rfl,λl c=>h1 l (by rw[hd,c])⟩
def A0r{v:V}(e:Enc w N μ x v)(l:Nx P t=true)(d:v.isCell=true\/v.flat2=true):
  (Instr.makeInterface t x).run P w=.ok (.iface t x) w/\Enc w N μ (.iface t x) (.ifc t v):=by
 have⟨de,f,k⟩:=Z0 l
 refine⟨?_,?_⟩
 .simp only[Instr.makeInterface,Sem.run_bind,run_underlying f,Result.andThen_ok]
  try rfl
 .rcases d with d|d
  .exact .ifc t x v d e
  .refine .pur (.ifc t x v d ?_);cases e with
   |pur e=>exact e
   |agg xs cs n m j=>
    refine .agg xs cs n m λi x c h1 h2=>?_;have g:=Ao.1 d c (Ar h2);have:=j i x c h1 h2;cases this with
    |pur h=>exact h
    |_=>simp[V.flat1]at g
   |_=>simp[V.flat2,V.flat1]at d
def Bkm{v:V}(e:Enc w N μ x u)(d:Enc w N μ y v):Enc w N μ (.tuple #[x,y]) (.tup [u,v]):=
 .tup [x,y] [u,v] rfl (λi x' c h1 h2=>by
  rcases i with _ |_ |i
  .simp at h1 h2;subst h1 h2;exact e
  .simp at h1 h2;subst h1 h2;exact d
  .simp at h1)
def Au3{v:V}{d xt:TypeId}{ok:Bool}(s:Enc w N μ x u)(ht:Nx P d=true)(k:Af0 ok d (Ds P d) u=some v):
  ∃y,(Instr.typeAssert x xt d ok).run P w=.ok y w/\Enc w N μ y v:=by
 have⟨de,n,l⟩:=Z0 ht
 have j:∀z,Ds P d=some z->∃zv,(zeroValue d).run P w=.ok zv w/\Pur w N zv z:=by
  intro z j;unfold Ds at j;have⟨ad,hi,j⟩:=Cf.1 j;have⟨zv,ab,j⟩:=Cf.1 j;exact⟨zv,by simp[zeroValue,typeInfo,hi,ab],Pn j w _⟩
 have hn:∀(y:Value),ok=true->(∀z,Ds P d=some z->v=.tup [z,.bool false]->((Instr.typeAssert y xt d ok).run P w=(do pure (.tuple #[<-zeroValue d,.bool false]):Sem Value).run P w)->∃y',(Instr.typeAssert y xt d ok).run P w=.ok y' w/\Enc w N μ y' v):=by
  intro y f z h1 h2 h3;have⟨zv,h4,h5⟩:=j z h1;subst h2;exact⟨.tuple #[zv,.bool false],by rw[h3];simp[h4],Bkm (.pur h5) (.pur (.bool _))⟩
 have h:∀(t:TypeId)(y:Value)(c:V),Enc w N μ y c->(if t=d then some (if ok then V.tup [c,.bool true]else c)else(if ok then(Ds P d).map λz=>V.tup [z,.bool false]else none))=some v->
   ∃y',(Instr.typeAssert (.iface t y) xt d ok).run P w=.ok y' w/\Enc w N μ y' v:=by
  intro t y c r e
  by_cases g:t=d
  .rw[Ab g]at e;cases e
   refine⟨if ok then .tuple #[y,.bool true]else y,?_,?_⟩
   .simp only[Instr.typeAssert,Sem.run_bind,run_underlying n,Result.andThen_ok];cases de<;>first|(exact absurd rfl (l _))|(simp[g])
   .cases ok
    .exact r
    .exact Bkm r (.pur (.bool _))
  .rw[I g]at e;cases f:ok with
   |false=>rw[f]at e;simp at e
   |true=>
    rw[f]at e;simp only[if_true,Ay]at e;have⟨z,m,o⟩:=e
    have h3:(Instr.typeAssert (.iface t y) xt d ok).run P w=(do pure (.tuple #[<-zeroValue d,.bool false]):Sem Value).run P w:=by
     simp only[Instr.typeAssert,Sem.run_bind,run_underlying n,Result.andThen_ok];cases de<;>first|(exact absurd rfl (l _))|(simp[g,f])
    have:=hn (.iface t y) f z m o.symm h3;rw[f]at this;exact this
 cases u<;>simp only[Af0]at k<;>try(cases k;done)
 case nili=>
  split at k
  case isFalse=>cases k
  rename_i f;have⟨z,m,o⟩:=Ay.1 k
  have aa:x=.nilIface:=by
   cases s with
   |pur s=>cases s;rfl
  subst aa
  exact hn .nilIface f z m o.symm (by
   simp only[Instr.typeAssert,Sem.run_bind,run_underlying n,Result.andThen_ok];cases de<;>first|(exact absurd rfl (l _))|(simp[f]))
 case ifc t c=>
  cases s with
  |pur s=>
   cases s with
   |ifc _ y _ _ r=>exact h t y c (.pur r) k
  |ifc _ y _ _ r=>exact h t y c r k
def V.pl_pur{v:V}(h:Enc w N μ x v)(hp:v.pl=true):Pur w N x v:=by
 cases h with
 |pur h=>exact h
 |_=>simp[V.pl]at hp
def V.plA_pur{v:V}(h:Enc w N μ x v)(hp:v.plA=true):Pur w N x v:=by
 cases h with
 |pur h=>exact h
 |agg xs cs f e d=>exact .agg xs cs f e (λi x c h1 h2=>V.pl_pur (d i x c h1 h2) (Ao.1 hp c (Ar h2)))
 |_=>simp[V.plA,V.pl]at hp
def V.pl_still{v:V}(h:v.pl=true):v.still=true/\v.isCell=true:=by cases v<;>first|exact⟨rfl,rfl⟩|simp[V.pl]at h
def V.pcell_pur{v:V}(h:Enc w N μ x v)(hp:v.pcell=some u):Pur w N x u/\u.isCell=true:=by
 have g:v.pl=true->u=v->Pur w N x u/\u.isCell=true:=λh1 h2=>by subst h2;exact⟨V.pl_pur h h1,(V.pl_still h1).2⟩
 cases v with
 |clo f us vs=>
  simp only[V.pcell]at hp;split at hp
  case isFalse=>cases hp
  rename_i d;cases hp;cases h with
  |pur h=>cases h
  |clo _ xs l _ _ n k e j m=>
   refine⟨.fc f xs l us vs n k (λi x c h1 h2=>V.pl_pur (j i x c h1 h2) (Ao.1 d.1 c (Ar h2))) (λi x c h1 h2=>V.pl_pur (m i x c h1 h2) (Ao.1 d.2 c (Ar h2))),?_⟩;simp only[V.isCell,Be,Ao];exact⟨λc e=>(V.pl_still (Ao.1 d.1 c e)).1,λc e=>(V.pl_still (Ao.1 d.2 c e)).1⟩
 |fc f us vs=>
  simp only[V.pcell]at hp;split at hp
  case isFalse=>cases hp
  rename_i d;cases hp;cases h with
  |pur h=>exact⟨h,by simp only[V.isCell,d.1,d.2,Bool.and_self]⟩
 |_=>
  simp only[V.pcell]at hp;split at hp
  case isFalse=>cases hp
  rename_i d;injection hp with hp;exact g d hp.symm
def Ae7:∀ {cs e:List V},Adm cs=some e->e.length=cs.length/\∀(i:Nat)c d,cs[i]?=some c->e[i]?=some d->c.pcell=some d
 |[],e,h=>by simp only[Adm,Am]at h;subst h;simp
 |c::r,e,h=>by
  simp only[Adm]at h;split at h
  case h_2=>cases h
  rename_i d k h1 h2;cases h;have⟨l,j⟩:=Ae7 h2;refine⟨by simp[l],λi y u f g=>?_⟩
  rcases i with _ |i
  .simp at f g;subst f g;exact h1
  .simp at f g;exact j i y u f g
def Bhd{v:V}(e:Enc w N μ x v)(y:Nx P t=true)(o:dmV t v=some u):
  (Instr.makeInterface t x).run P w=.ok (.iface t x) w/\Enc w N μ (.iface t x) u:=by
 have⟨de,m,z⟩:=Z0 y
 refine⟨?_,?_⟩
 .simp only[Instr.makeInterface,Sem.run_bind,run_underlying m,Result.andThen_ok]
  try rfl
 .cases v with
  |agg cs=>
   simp only[dmV,Ay]at o;obtain⟨l,n,rfl⟩:=o;have⟨h1,h2⟩:=Ae7 n
   have h:∀xs:List Value,xs.length=cs.length->(∀(i:Nat)x c,xs[i]?=some x->cs[i]?=some c->Enc w N μ x c)->Enc w N μ (.iface t (.agg xs.toArray)) (.dm t l):=by
    intro xs k g
    have s:∀(i:Nat)x d,xs[i]?=some x->l[i]?=some d->Pur w N x d/\d.isCell=true:=by
     intro i x d e f;have r:i<cs.length:=by have:=(Al.1 f).1;omega
     have j:=Ah r;exact V.pcell_pur (g i x _ e j) (h2 i _ d j f)
    refine .pur (.dm t xs l om (λd f=>?_) (λi x d e f=>(s i x d e f).1));obtain⟨i,r,rfl⟩:=Kb.1 f;exact(s i xs[i] _ (Ah om) (Ah r)).2
   cases e with
   |pur e=>cases e with
    |agg xs _ k j g=>exact h xs k (λi x c a b=>.pur (g i x c a b))
   |agg xs _ k j g=>exact h xs k g
  |_=>simp[dmV]at o
def A0s{g:List Operand}(h:RelM D w0 N0 μ S a w){c:Bool}(l:c=true)(d:us.all V.plA=true/\vs.all V.plA=true)(h1:S.args c first=some us)(h2:S.args c g=some vs)(f:FuncId):
  Enc w (Fp N0 μ S) μ (.func (.func f) (first.map a.eval).toArray (g.map a.eval).toArray) (.fc f us vs):=by
 have⟨r,m⟩:=Gc h l h1;have⟨n,o⟩:=Gc h l h2
 refine .pur (.fc f _ _ us vs Gi Gi (λi x c j e=>?_) (λi x c j e=>?_))
 .simp only[Bj,Ay]at j;obtain⟨y,k,rfl⟩:=j;exact V.plA_pur (m i y c k e) (Ao.1 d.1 c (Ar e))
 .simp only[Bj,Ay]at j;obtain⟨y,k,rfl⟩:=j;exact V.plA_pur (o i y c k e) (Ao.1 d.2 c (Ar e))
def A4u{e:List Operand}(h:RelM D w0 N0 μ S a w){c:Bool}(k:c=true)(d:us.all V.isCell=true/\vs.all V.isCell=true)(h1:S.args c first=some us)(h2:S.args c e=some vs)(f:FuncId):
  Enc w (Fp N0 μ S) μ (.func (.func f) (first.map a.eval).toArray (e.map a.eval).toArray) (.clo f us vs):=by
 have⟨r,m⟩:=Gc h k h1;have⟨n,o⟩:=Gc h k h2
 refine .clo f _ _ us vs Gi Gi (λc k=>k.elim (Ao.1 d.1 c) (Ao.1 d.2 c)) (λi x c j g=>?_) λi x c j g=>?_
 .simp only[Bj,Ay]at j;obtain⟨y,l,rfl⟩:=j;exact m i y c l g
 .simp only[Bj,Ay]at j;obtain⟨y,l,rfl⟩:=j;exact o i y c l g
def Aqs{place:Nat->Option (Nat×Nat)}{place':Nat->Option (Nat×Nat)}(s:∀i r,place i=some r->place' i=some r):
  ∀(vs:List (Nat×V))(ps:List (Nat×Value))(g:List V)(cells:Array Value)(r:List V),ps.length=vs.length->
  (∀(j:Nat)p q,ps[j]?=some p->vs[j]?=some q->p.1=q.1/\Enc w N μ p.2 q.2)->(∀p∈vs,Nn p.2=true)->(∀c∈g,c.isCell=true)->Row w N μ cells.toList g->Agt place g vs=some r->
  ∃d,Instr.fill place' cells ps=some d/\Row w N μ d.toList r/\(∀c∈r,c.isCell=true)
 |[],[],g,cells,r,_,_,_,u,o,h=>by
  simp only[Agt,Am]at h;subst h;exact⟨cells,rfl,o,u⟩
 |[],_ ::_,_,_,_,h,_,_,_,_,_=>by simp at h
 |_ ::_,[],_,_,_,h,_,_,_,_,_=>by simp at h
 |(i,v)::vs,(i',x)::ps,g,cells,r,hl,hp,l,u,o,h=>by
  have⟨e,z⟩:=hp 0 _ _ rfl rfl;simp only at e z;subst e;simp only[Agt]at h;split at h
  case h_1=>cases h
  rename_i off size y;split at h
  case isFalse=>cases h
  rename_i t;have⟨t,ab⟩:=t;have f:=z.row (l (i',v) sm);have n:x.cells.size=size:=by have:=f.1;simp at this;omega
  have aa:=sG o.1
  have m:Row w N μ (x.cells.zipIdx.foldl (λcs p=>cs.setIfInBounds (off+p.2) p.1) cells).toList (g.take off++v.cells++g.drop (off+size)):=by
   rw[<-Array.foldl_toList,Array.toList_zipIdx,Adn off x.cells.toList 0 cells (by simp;omega)];simp only[Eb,I7,n];exact((o.take _).append f).append (o.drop _)
  have⟨d,h1,h2,h3⟩:=Aqs s vs ps _ _ r (sG hl) (λj p q h1 h2=>hp (j+1) p q (sG h1) (sG h2)) (λp hp=>l p Gi)
   (λc k=>by
    simp only[Cc]at k
    rcases k with(k|k)|k
    .exact u c (Da k)
    .exact Ao.1 (l (i',v) sm) c k
    .exact u c (Df k)) m h
  refine⟨d,?_,h2,h3⟩;simp only[Instr.fill,s _ _ y,n];rw[I (by simp;omega)];exact h1
def Aqt{c:Array Field}(h:∀(i:Nat)f,c[i]?=some f->∃n,Hz P f.type=some n):
  (c.mapM λf=>do pure (f.offset,<-sizeOf f.type):Sem (Array (Nat×Nat))).run P w=.ok (c.map λf=>(f.offset,(Hz P f.type).getD 0)) w:=by
 rw[Gk]
 have d:∀(l:List Field),(∀f∈l,∃n,Hz P f.type=some n)->(l.mapM λf=>do pure (f.offset,<-sizeOf f.type):Sem (List (Nat×Nat))).run P w=.ok (l.map λf=>(f.offset,(Hz P f.type).getD 0)) w:=by
  intro l
  induction l with
  |nil=>intro _;rfl
  |cons f l ih=>
   intro e;have⟨n,j⟩:=e f sm;simp only[O0,Sem.run_bind,Og j,Result.andThen_ok,Sem.run_pure,ih (λg r=>e g Gi),Br,j,Fv]
 have m:∀f∈c.toList,∃n,Hz P f.type=some n:=λf k=>by
  have⟨i,o⟩:=De k;exact h i f (sG o)
 rw[Sem.run_map,d _ m,Result.andThen_ok]
 congr 1
 apply Fb;simp
def Aqu{t:Nat}(h:Adk P t i=some (off,n)):∃d c,P.underlying t=some (.struct d)/\d[i]?=some c/\c.offset=off/\Hz P c.type=some n:=by
 unfold Adk at h;have⟨⟨o,n',g⟩,h1,h2⟩:=Ay.1 h;simp only[Bw]at h2;obtain⟨rfl,rfl⟩:=h2;have⟨d,c,k,f,e,j,_⟩:=Sr h1;exact⟨d,c,k,f,e,j⟩
def A0t{z:List V}{vs:List (Nat×V)}{ps:List (Nat×Value)}{r:List V}(k:Ej P t=true)(e:Ds P t=some (.agg z))(hl:ps.length=vs.length)
  (hp:∀(j:Nat)p q,ps[j]?=some p->vs[j]?=some q->p.1=q.1/\Enc w N μ p.2 q.2)(l:∀p∈vs,Nn p.2=true)(hr:Agt (Adk P t) z vs=some r):
  ∃x,(Instr.build t ps.toArray).run P w=.ok x w/\Enc w N μ x (.agg r):=by
 unfold Ej at k;split at k
 case h_2=>cases k
 rename_i o g;unfold Ds at e;have⟨ag,h,e⟩:=Cf.1 e;have⟨zv,ad,e⟩:=Cf.1 e;have u:=Pn e w N
 have ab:∀(i:Nat)f,o[i]?=some f->∃n,Hz P f.type=some n:=λi f hf=>by
  have:=Array.all_eq_true'.1 k f (Array.mem_of_getElem? hf);exact Cv.1 this
 have m:∀i q,Adk P t i=some q->(o.map λf=>(f.offset,(Hz P f.type).getD 0))[i]?=some q:=by
  rintro i⟨off,n⟩hq;have⟨af,fd,h1,h2,y,h4⟩:=Aqu hq;rw[g]at h1;injection h1 with h1;cases h1;simp[h2,y,h4]
 cases u with
 |agg xs _ ae aa s=>
 have⟨d,h1,h2,y⟩:=Aqs (w:=w) (N:=N) (μ:=μ) (place':=λi=>(o.map λf=>(f.offset,(Hz P f.type).getD 0))[i]?) m vs ps z xs.toArray r hl hp l aa ⟨ae,λi x c h1 h2=>.pur (s i x c h1 h2)⟩ hr
 refine⟨.agg d,?_,?_⟩
 .simp only[Instr.build,Sem.run_bind,zeroValue,typeInfo,run_program,h,Sem.run_pure,Result.andThen_ok,ad,run_underlying g,Aqt ab,Value.cells,h1]
 .have:d=d.toList.toArray:=sm;rw[this];exact .agg _ _ h2.1 y h2.2
def Ro(a:Act)(c:Array (Nat×Operand)):(c.map λ(i,x)=>(i,a.eval x))=(c.toList.map λp=>(p.1,a.eval p.2)).toArray:=by
 apply Fb;simp
def Abd(h:RelM D w0 N0 μ S a w){c:Bool}(hc:c=true){v:V}(s:Zy P S c o.op=some v):
  ∃x,(execOp a.eval o).run P w=.ok (.value x) w/\Enc w (Fp N0 μ S) μ x v:=by
 unfold execOp;cases hop:o.op<;>rw[hop]at s<;>simp only[Zy]at s<;>(try(cases s;done))<;>dsimp only
 case move x=>exact⟨_,rfl,h.evc s hc⟩
 case assign x=>exact⟨_,rfl,h.evc s hc⟩
 case pick x y z=>
  split at s
  case h_2=>cases s
  rename_i g hg;have hx:=h.evc hg hc;generalize a.eval x=xv at hx|-;cases hx.pb;subst hc;simp only[Sem.run_bind,asBool,Sem.run_pure,Result.andThen_ok]
  split at s
  .rename_i p q hy hz;cases s
   cases g
   .exact⟨_,rfl,by simpa using h.evc hz rfl⟩
   .exact⟨_,rfl,by simpa using h.evc hy rfl⟩
  .rename_i u v' a3 hy hz
   split at s
   .cases s;exact⟨_,rfl,by simpa using h.evc hy rfl⟩
   .cases s;exact⟨_,rfl,by simpa using h.evc hz rfl⟩
  .cases s
 case load t x=>
  split at s
  case h_3=>cases s
  .rename_i b k m hp;split at s
   case isFalse=>cases s
   rename_i hb;cases s;have⟨y,hy,aa⟩:=Au1 (h.evc hp hc) hb.1 hb.2;exact⟨y,by simp[hy],aa⟩
  rename_i p _ hp;split at s
  case h_2=>cases s
  rename_i e off n g h1 h2 h3;have⟨y,hy,aa⟩:=A0q h (h.evc hp hc) h1 h2 h3 s;exact⟨y,by simp[hy],aa⟩
 case nilCheck x=>
  split at s
  .rename_i e he;cases s;have hx:=h.evc he hc;generalize a.eval x=xv at hx|-;refine⟨xv,?_,hx⟩;cases hx with
   |pur hx=>
   cases hx with
   |rp=>rfl
  .rename_i d v' sz k off he;cases s;have hx:=h.evc he hc;generalize a.eval x=xv at hx|-;refine⟨xv,?_,hx⟩;cases hx with
   |pur hx=>cases hx
   |bp=>rfl
  .cases s
 case binOp op t x y yt=>
  split at s
  case h_2=>cases s
  rename_i u v' h1 h2;have⟨z,hz,ak⟩:=A4s s (h.evc h1 hc) (h.evc h2 hc) x y;exact⟨z,by rw[Sem.run_bind,hz];rfl,.pur ak⟩
 case unOp op t x=>
  split at s
  case h_2=>cases s
  rename_i u h1;have⟨z,hz,ak⟩:=Bbv (P:=P) s (h.evc h1 hc);exact⟨z,by rw[Sem.run_bind,hz];rfl,.pur ak⟩
 case convert src dst x=>
  split at s
  .rename_i k0 n k h1 h2;split at s
   case isFalse=>cases s
   rename_i hs;cases s;have hx:=h.evc h1 hc;generalize a.eval x=xv at hx|-;cases hx.pi;have hu:=Vo h2;have⟨de,aj⟩:=Cv.1 hs;exact⟨.int k (k.wrap n),by simp[convert,run_underlying aj,run_underlying hu,Conv.intToInt],.pur (.int _ _)⟩
  .rename_i es h1 h2;split at s
   case isFalse=>cases s
   rename_i hs;obtain⟨l,hl,rfl⟩:=Ay.1 s;exact⟨_,by rw[Sem.run_bind,Abc (h.evc h1 hc) hs.1 hs.2 hl];rfl,.pur (.str _)⟩
  .rename_i l h1 h2;split at s
   case isFalse=>cases s
   rename_i hs;cases s;have hx:=h.evc h1 hc;generalize a.eval x=xv at hx|-;cases hx.ps;have⟨de,aj⟩:=Cv.1 hs.2;exact⟨.string ⟨l.toArray⟩,by simp[convert,run_underlying aj,run_underlying (Iv hs.1)],.pur (.str _)⟩
  .cases s
 case makeInterface t x=>
  split at s
  case h_2=>cases s
  rename_i u h1
  split at s
  .rename_i hb;cases s;have⟨h2,h3⟩:=A0r (P:=P) (h.evc h1 hc) hb.1 hb.2;exact⟨_,by rw[Sem.run_bind,h2];rfl,h3⟩
  .split at s
   case isFalse=>cases s
   rename_i hb;have⟨h2,h3⟩:=Bhd (P:=P) (h.evc h1 hc) hb s;exact⟨_,by rw[Sem.run_bind,h2];rfl,h3⟩
 case typeAssert x xt at_ ok=>
  split at s
  case h_2=>cases s
  rename_i u h1;split at s
  case isFalse=>cases s
  rename_i hb;have⟨y,hy,aa⟩:=Au3 (P:=P) (xt:=xt) (h.evc h1 hc) hb s;exact⟨y,by rw[Sem.run_bind,hy];rfl,aa⟩
 case makeFunc fv first caps=>
  cases fv with
  |func f=>
   have ar:∀us vs,us.all V.isCell=true/\vs.all V.isCell=true->S.args c first.toList=some us->S.args c caps.toList=some vs->Enc w (Fp N0 μ S) μ (.func (.func f) (first.map a.eval) (caps.map a.eval)) (.clo f us vs):=by
    intro us vs ae h1 h2;have:=A4u h hc ae h1 h2 f;have e1:(first.toList.map a.eval).toArray=first.map a.eval:=by apply Fb;simp
    have e2:(caps.toList.map a.eval).toArray=caps.map a.eval:=by apply Fb;simp
    rwa[e1,e2]at this
   simp only at s
   split at s
   .rename_i h1 h2;cases s;have⟨a1,_⟩:=Gc h hc h1;have⟨b1,_⟩:=Gc h hc h2;have e1:=sG a1.symm
    have e2:=sG b1.symm
    subst e1 e2;exact⟨.func (.func f) #[] #[],by simp[Instr.makeFunc],.pur (.fn f)⟩
   .rename_i us vs _ h1 h2
    split at s
    .rename_i ae;cases s;have:=A0s h hc ae h1 h2 f;have e1:(first.toList.map a.eval).toArray=first.map a.eval:=by apply Fb;simp
     have e2:(caps.toList.map a.eval).toArray=caps.map a.eval:=by apply Fb;simp
     rw[e1,e2]at this;exact⟨_,by simp only[Instr.makeFunc,Sem.run_bind,Sem.run_pure,Result.andThen_ok],this⟩
    split at s
    case isFalse=>cases s
    rename_i ae;cases s;exact⟨_,by simp only[Instr.makeFunc,Sem.run_bind,Sem.run_pure,Result.andThen_ok],ar us vs ae h1 h2⟩
   .cases s
  |_=>simp only at s;cases s
 case fieldAddr t x f=>
  split at s
  .rename_i e off n g h1 h2;obtain⟨r,hr,rfl⟩:=Ay.1 s;have⟨y,hy,aa⟩:=Aa7 h (h.evc h1 hc) h2 hr;exact⟨y,by rw[Sem.run_bind,hy];rfl,aa⟩
  .rename_i d v' sz k o' off n g h1 h2;cases s;have⟨y,hy,aa⟩:=Aa8 h (h.evc h1 hc) h2;exact⟨y,by rw[Sem.run_bind,hy];rfl,aa⟩
  .cases s
 case field t x f=>
  split at s
  case h_2=>cases s
  rename_i e off n g h1 h2;split at s
  case h_2=>cases s
  rename_i cs;obtain⟨fs,fd,a1,a2,rfl,a4,a5,a6⟩:=Sr h2;have⟨xs,y,ay,hy,aa⟩:=A4t (P:=P) a4 a5 (h.evc h1 hc) s;refine⟨y,?_,aa⟩;rw[ay];simp only[Sem.run_bind,Instr.field,run_underlying a1,Result.andThen_ok,a2,asAgg,Sem.run_pure,hy]
 case indexAddr t x i=>
  split at s
  case h_3=>cases s
  case h_2=>
   rename_i d v' sz k0 off k n h1 h2 h3;split at s
   case h_2=>cases s
   rename_i len z ht;split at s
   case isFalse=>cases s
   rename_i hb;cases s;have⟨y,hy,aa⟩:=Zz (P:=P) (h.evc h1 hc) (h.evc h2 hc) ht hb.1 hb.2;exact⟨y,by rw[Sem.run_bind,hy];rfl,aa⟩
  rename_i p k n te h1 h2 h3;split at s
  case h_2=>cases s
  rename_i z hz
  split at s
  .rename_i sz es;split at s
   case isFalse=>cases s
   rename_i hb;split at s
   case h_2=>cases s
   rename_i e he;rw[C0]at he;cases s;have⟨y,hy,aa⟩:=Aa9 (P:=P) (h.evc h1 hc) (h.evc h2 hc) h3 hz hb.1 hb.2.1 hb.2.2 he;exact⟨y,by rw[Sem.run_bind,hy];rfl,aa⟩
  .rename_i d v' sz len;split at s
   case isFalse=>cases s
   rename_i hb;cases s;have⟨y,hy,aa⟩:=Aba (P:=P) (h.evc h1 hc) (h.evc h2 hc) h3 hz hb.1 hb.2.1 hb.2.2;exact⟨y,by rw[Sem.run_bind,hy];rfl,aa⟩
  .rename_i d v' sz off len;split at s
   case isFalse=>cases s
   rename_i hb;cases s;have⟨y,hy,aa⟩:=Abb (P:=P) (h.evc h1 hc) (h.evc h2 hc) h3 hz hb.1 hb.2.1 hb.2.2;exact⟨y,by rw[Sem.run_bind,hy];rfl,aa⟩
  .cases s
 case index t x i=>
  split at s
  case h_2=>cases s
  rename_i l k n h1 h2;split at s
  case isFalse=>cases s
  rename_i hb;split at s
  case h_2=>cases s
  rename_i b hl;rw[C0]at hl;cases s;have hx:=h.evc h1 hc;have hi:=h.evc h2 hc;generalize a.eval x=xv at hx|-;generalize a.eval i=iv at hi|-;cases hx.ps;cases hi.pi;have af:=(Al.1 hl).1
  have hs:(ByteArray.mk l.toArray)[n.toNat]?=some b:=by
   have:=ByteArray.getElem?_lt' (ByteArray.mk l.toArray) n.toNat (by simpa[ByteArray.size]using af);rw[this];have h2:=(Al.1 hl).2;simp only[Am];rw[<-h2];rfl
  exact⟨.int .u8 b.toNat,by simp[Instr.index,asIntOf,run_underlying (Iv hb.1),hb.2,hs],.pur (.int _ _)⟩
 case extract x i=>
  split at s
  case h_2=>cases s
  rename_i vs h1;rw[C0]at s;have hx:=h.evc h1 hc;generalize a.eval x=xv at hx|-;cases hx with
  |pur hx=>
   cases hx with
   |tup xs _ hl hh=>
   have af:i<xs.length:=by rw[hl];exact(Al.1 s).1
   exact⟨xs[i],by simp[Instr.extract,af],.pur (hh i _ v (Ah af) s)⟩
  |tup xs _ hl hh=>
   have af:i<xs.length:=by rw[hl];exact(Al.1 s).1
   exact⟨xs[i],by simp[Instr.extract,af],hh i _ v (Ah af) s⟩
 case slice t x lo hi mx=>
  cases mx with
  |some m=>simp only at s;cases s
  |none=>
  simp only at s;split at s
  case h_2=>cases s
  rename_i p lv a9 h1 h2 h3;have⟨b1,b2⟩:=h.evo h2 hc;have⟨b3,b4⟩:=h.evo h3 hc;have hx:=h.evc h1 hc;simp only[Option.map_none]
  split at s
  .split at s
   case isFalse=>cases s
   rename_i ht;split at s
   case h_2=>cases s
   rename_i p q hb;cases s;have⟨y,hy,aa⟩:=Agv (P:=P) hx ht hb b1 b2 b3 b4;exact⟨y,by rw[Sem.run_bind,hy];rfl,aa⟩
  .split at s
   case h_2=>cases s
   rename_i te ab;split at s
   case h_2=>cases s
   rename_i z p q hz hb;split at s
   case isFalse=>cases s
   rename_i hs;cases s;have⟨y,hy,aa⟩:=Aj8 (P:=P) hx ab hz hs hb b1 b2 b3 b4;exact⟨y,by rw[Sem.run_bind,hy];rfl,aa⟩
  .split at s
   case h_2=>cases s
   rename_i te ab;split at s
   case h_2=>cases s
   rename_i z p q hz hb;split at s
   case isFalse=>cases s
   rename_i hs;cases s;have⟨y,hy,aa⟩:=Aj9 (P:=P) hx ab hz hs hb b1 b2 b3 b4;exact⟨y,by rw[Sem.run_bind,hy];rfl,aa⟩
  .split at s
   case h_2=>cases s
   rename_i te ab;split at s
   case h_2=>cases s
   rename_i z p q hz hb;split at s
   case isFalse=>cases s
   rename_i hs;cases s;have⟨y,hy,aa⟩:=Aka (P:=P) hx ab hz hs hb b1 b2 b3 b4;exact⟨y,by rw[Sem.run_bind,hy];rfl,aa⟩
  .split at s
   case h_2=>cases s
   rename_i len z p q aq hb;split at s
   case isFalse=>cases s
   rename_i hs;cases s;have⟨av,ao,aw⟩:=hs;subst av;have⟨y,hy,aa⟩:=Agw (P:=P) hx aq ao aw hb b1 b2 b3 b4;exact⟨y,by rw[Sem.run_bind,hy];rfl,aa⟩
  .cases s
 case build t parts=>
  split at s
  case h_2=>cases s
  rename_i z vs h1 h2;split at s
  case isFalse=>cases s
  rename_i al;obtain⟨r,hr,rfl⟩:=Ay.1 s;have⟨h3,h4⟩:=h.evs hc h2
  have⟨y,hy,aa⟩:=A0t (P:=P) (w:=w) (μ:=μ) (N:=Fp N0 μ S) (ps:=parts.toList.map λp=>(p.1,a.eval p.2)) al.2 h1 Gi (λj p q hp hq=>by
   simp only[Bj,Ay]at hp;obtain⟨p',an,rfl⟩:=hp;exact h4 j p' q an hq) (λp hp=>Ao.1 al.1 p hp) hr
  exact⟨y,by simp only[Sem.run_bind,Ro,hy,Result.andThen_ok,Sem.run_pure],aa⟩
 case lookup t x i ok=>
  split at s
  case h_2=>cases s
  rename_i b k m k' n q e h1 h2 h3;split at s
  case h_2=>cases s
  rename_i z hz;split at s
  case isFalse=>cases s
  rename_i hk;obtain⟨rfl,rfl⟩:=hk;cases s;have a7:=hz;unfold Ds at hz;have⟨ba,hi,hz⟩:=Cf.1 hz;have⟨zv,az,hz⟩:=Cf.1 hz;have a0:(zeroValue e).run P w=.ok zv w:=by simp[zeroValue,typeInfo,hi,az]
  have⟨r,hr,am⟩:=Au2 (ok:=ok) (h.evc h1 hc) (h.evc h2 hc) h3 a0 (Pn hz w _);exact⟨r,by simp only[Sem.run_bind,hr,Result.andThen_ok,Sem.run_pure],am⟩
 case call cl=>
  have⟨ai,args,ag⟩:=cl;cases ai with
  |value f=>cases s
  |invoke r m=>cases s
  |builtin b=>
  cases b<;>simp only at s<;>try(cases s;done)
  case min=>
   split at s
   case h_2=>cases s
   rename_i x y ha;have ah:args= #[x,y]:=by apply Fb;simpa using ha
   subst ah;split at s
   case h_2=>cases s
   rename_i k p k' q h1 h2;split at s
   case isFalse=>cases s
   rename_i hk;subst hk;cases s;have hx:=h.evc h1 hc;have hy:=h.evc h2 hc;simp only[Sem.run_bind,resolve,Sem.run_pure,Result.andThen_ok,invoke,builtin,Mx,Br,Ci];generalize a.eval x=xv at hx|-;generalize a.eval y=yv at hy|-;cases hx.pi;cases hy.pi;exact⟨_,by rw[run_min_int2];rfl,.pur (.int _ _)⟩
  case max=>
   split at s
   case h_2=>cases s
   rename_i x y ha;have ah:args= #[x,y]:=by apply Fb;simpa using ha
   subst ah;split at s
   case h_2=>cases s
   rename_i k p k' q h1 h2;split at s
   case isFalse=>cases s
   rename_i hk;subst hk;cases s;have hx:=h.evc h1 hc;have hy:=h.evc h2 hc;simp only[Sem.run_bind,resolve,Sem.run_pure,Result.andThen_ok,invoke,builtin,Mx,Br,Ci];generalize a.eval x=xv at hx|-;generalize a.eval y=yv at hy|-;cases hx.pi;cases hy.pi;exact⟨_,by rw[run_max_int2];rfl,.pur (.int _ _)⟩
  split at s
  case h_2=>cases s
  rename_i x t ha ht;have ah:args= #[x]:=by apply Fb;simpa using ha
  have au:ag= #[t]:=by apply Fb;simpa using ht
  subst ah au;simp only[Sem.run_bind,resolve,Sem.run_pure,Result.andThen_ok,invoke,builtin,Mx,Br,Ci]
  split at s
  .rename_i l h1;split at s
   case isFalse=>cases s
   rename_i hs;cases s;have hx:=h.evc h1 hc;generalize a.eval x=xv at hx|-;cases hx.ps;have ax:(ByteArray.mk l.toArray).size=l.length:=by simp[ByteArray.size]
   exact⟨.int .i64 l.length,by simp[Builtin.len_,run_underlying (Iv hs),goInt,ax],.pur (.int _ _)⟩
  .rename_i sz es h1;split at s
   case isFalse=>cases s
   rename_i hs;cases s;have⟨te,ab⟩:=Cv.1 hs;have hx:=h.evc h1 hc;generalize a.eval x=xv at hx|-;cases hx with
   |pur hx=>
   cases hx with
   |ro A ad n a8 _ _ g hn=>
   exact⟨.int .i64 es.length,by simp[Builtin.len_,run_underlying (Dr ab),goInt,hn],.pur (.int _ _)⟩
  .rename_i h1;split at s
   case isFalse=>cases s
   rename_i hs;cases s;have⟨te,ab⟩:=Cv.1 hs;have hx:=h.evc h1 hc;generalize a.eval x=xv at hx|-;cases hx with
   |pur hx=>
   cases hx with
   |nils A=>
   exact⟨.int .i64 0,by simp[Builtin.len_,run_underlying (Dr ab),goInt],.pur (.int _ _)⟩
  .rename_i d v' sz n h1;split at s
   case isFalse=>cases s
   rename_i hs;cases s;have⟨te,ab⟩:=Cv.1 hs;have hx:=h.evc h1 hc;generalize a.eval x=xv at hx|-;cases hx with
   |pur hx=>cases hx
   |slr=>exact⟨.int .i64 n,by simp[Builtin.len_,run_underlying (Dr ab),goInt],.pur (.int _ _)⟩
   |slv=>exact⟨.int .i64 0,by simp[Builtin.len_,run_underlying (Dr ab),goInt],.pur (.int _ _)⟩
  .rename_i d v' sz off n h1;split at s
   case isFalse=>cases s
   rename_i hs;cases s;have⟨te,ab⟩:=Cv.1 hs;have hx:=h.evc h1 hc;generalize a.eval x=xv at hx|-;cases hx with
   |pur hx=>cases hx
   |ss=>exact⟨.int .i64 n,by simp[Builtin.len_,run_underlying (Dr ab),goInt],.pur (.int _ _)⟩
  .cases s
end
variable {S':AS}{d:Nat}
def flat(es:List V):List V:=es.flatMap V.cells
def J3{sz:Nat}:∀ {es:List V},(∀e∈es,e.fits sz)->(flat es).length=es.length*sz
 |[],_=>by simp[flat]
 |e::es,h=>by
  have h2:=J3 (es:=es) (λx c=>h x Gi);unfold flat at h2|-;rw[Ls,Aq,((h e sm).1),h2,Ax,Ca];omega
def Qa{sz:Nat}:∀ {es:List V},(∀e∈es,e.fits sz)->∀ {k j:Nat}{e c:V},es[k]?=some e->e.cells[j]?=some c->(flat es)[k*sz+j]?=some c
 |[],_,k,j,e,c,d,_=>by simp at d
 |x::es,h,k,j,e,c,d,g=>by
  have h1:=(h x sm).1;unfold flat;rw[Ls]
  rcases k with _ |k
  .simp only[Dy,Am]at d;subst d;rw[My,Dn,Bt ((Al.1 g).1)];exact g
  .simp only[Hb]at d;have ih:=Qa (es:=es) (λy l=>h y Gi) d g;unfold flat at ih;rw[Bn (by rw[h1,Ca];omega),h1,show(k+1)*sz+j-sz=k*sz+j by rw[Ca];omega];exact ih
def V9(a b:List V):flat (a++b)=flat a++flat b:=by simp[flat]
def V.setPart(e:V)(off:Nat)(v:V):V:=
 match e with
 |.agg cs=>.agg (cs.take off++v.cells++cs.drop (off+v.cells.length))
 |_=>v
def AS.putv(S:AS)(dst:Option Nat)(v:V):Option AS:=
 match dst with
 |some d=>if d<S.nt then some {S with env:=(d,v)::S.env}else none
 |none=>some S
def AS.elems(S:AS):V->Option (Nat×List V)
 |.ro sz es=>some (sz,es)
 |.nils=>some (0,[])
 |.sl d v sz len=>match get S.objs d with
  |some o=>if o.v=v/\o.sz=sz/\o.es.length=len then some (sz,o.es)else none
  |none=>none
 |.ss d v sz off len=>match get S.objs d with
  |some o=>if o.v=v/\o.sz=sz/\off+len<=o.es.length then some (sz,(o.es.drop off).take len)else none
  |none=>none
 |_=>none
def Iw(P:Program)(t:TypeId):Option Nat:=(P.info? t).map (·.bytes)
def Abe(sz:Nat)(es:List V):List (Nat×V)->Option (List V)
 |[]=>some es
 |(i,v)::r=>if v.cells.length=sz/\i<es.length/\Nn v=true then Abe sz (es.set i v) r else none
def Sv(P:Program)(t:TypeId):Option Nat:=match Ds P t,Hz P t with
 |some z,some n=>if z.cells.length=n/\Nn z=true/\0<n then some n else none
 |_,_=>none
def tz8(P:Program)(t:TypeId):Bool:=match P.info? t with
 |some i=>(match i.zero with|some (.int .u8 n)=>n==0|_=>false)&&i.size==1&&i.bytes==1
 |none=>false
def Abf(P:Program)(i:Nat)(S:AS)(dst:Option Nat)(kd:Nat):Op->Option (List (Nat×Ob)×V)
 |.alloc t=>match dst,Ds P t,Sv P t with
  |some _,some z,some n=>some ((kd,⟨S.nx+i,n,t,[z]⟩)::S.objs,.bp kd (S.nx+i) n 0 0)
  |_,_,_=>none
 |.box t x=>match dst,S.evc true x with
  |some _,some z=>if Nn z=true then some ((kd,⟨S.nx+i,z.cells.length,t,[z]⟩)::S.objs,.bp kd (S.nx+i) z.cells.length 0 0)else none
  |_,_=>none
 |.buildSlice t len parts=>match dst,Fw P t,S.evs true parts.toList with
  |some _,some te,some vs=>match Ds P te,Sv P te with
   |some z,some n=>if len*n<=16777216 then(match Abe n (List.replicate len z) vs with
    |some es=>some ((kd,⟨S.nx+i,n,te,es⟩)::S.objs,.sl kd (S.nx+i) n len)
    |none=>none)else none
   |_,_=>none
  |_,_,_=>none
 |.makeSlice t l c=>match dst,Fw P t,S.evc true l,S.evc true c with
  |some _,some te,some (.int _ l),some (.int _ c)=>match Ds P te,Sv P te,Iw P te with
   |some z,some n,some b=>if 0<=l/\l<=c/\c<=9223372036854775807/\(b:Int)*c<=281474976710656 then
     some ((kd,⟨S.nx+i,n,te,List.replicate l.toNat z⟩)::S.objs,.sl kd (S.nx+i) n l.toNat)else none
   |_,_,_=>none
  |_,_,_,_=>none
 |.store t x y=>match S.evc true x,S.evc true y,Hz P t with
  |some (.bp d v sz k off),some u,some n=>match get S.objs d with
   |some o=>if o.v=v/\o.sz=sz/\u.cells.length=n/\Nn u=true/\0<n then(match Gz o.es k with
    |some e=>if off+n<=e.cells.length then some ((d,{o with es:=o.es.set k (e.setPart off u)})::S.objs,.whn false (.bool true))else none
    |none=>none)else none
   |none=>none
  |_,_,_=>none
 |.call {callee:=.builtin .append,args,argTypes}=>match args.toList,argTypes.toList,dst with
  |[s,x],[t,t'],some _=>if t=t' then(match S.evc true s,S.evc true x,Fw P t with
   |some sv,some xv,some te=>match S.elems xv,Sv P te,Iw P te with
    |some (sz',news),some n,some b=>match sv with
     |.sl d v sz len=>match get S.objs d with
      |some o=>if o.v=v/\o.sz=sz/\o.es.length=len/\o.ty=te/\n=sz/\(news≠[]->sz'=sz)/\len+news.length<=maxLen/\(len+news.length)*b<=140737488355328 then
        some ((d,⟨S.nx+i,sz,te,o.es++news⟩)::S.objs,.sl d (S.nx+i) sz (len+news.length))else none
      |none=>none
     |.nils=>if(news≠[]->sz'=n)/\news.length<=maxLen/\news.length*b<=140737488355328 then
        some ((kd,⟨S.nx+i,n,te,news⟩)::S.objs,.sl kd (S.nx+i) n news.length)else none
     |_=>none
    |_,_,_=>none
   |_,_,_=>none)else if Aa4 P t'=true/\Adl P t=true then(match S.evc true s,S.evc true x,Fw P t with
   |some sv,some (.str l),some te=>match tz8 P te with
    |true=>match sv with
     |.sl d v sz len=>match get S.objs d with
      |some o=>if o.v=v/\o.sz=sz/\sz=1/\o.es.length=len/\o.ty=te/\len+l.length<=maxLen/\len+l.length<=140737488355328 then
        some ((d,⟨S.nx+i,1,te,o.es++l.map Ze⟩)::S.objs,.sl d (S.nx+i) 1 (len+l.length))else none
      |none=>none
     |.nils=>if l.length<=maxLen/\l.length<=140737488355328 then
        some ((kd,⟨S.nx+i,1,te,l.map Ze⟩)::S.objs,.sl kd (S.nx+i) 1 l.length)else none
     |_=>none
    |false=>none
   |_,_,_=>none)else none
  |_,_,_=>none
 |_=>none
def Akb(P:Program)(i:Nat)(S:AS)(dst:Option Nat)(d:Nat)(c:Op):Option AS:=
 match Abf P i S dst d c with
 |some (O,v)=>AS.putv {S with objs:=O} dst v
 |none=>none
section
def RelM.putv(h:RelM D w0 N0 μ S a w){dst:Option Nat}{v:V}(hp:S.putv dst v=some S')(d:Enc w (Fp N0 μ S) μ x v):RelM D w0 N0 μ S' (a.put dst x) w:=by
 unfold AS.putv at hp
 split at hp
 .split at hp
  .rename_i c;cases hp;exact h.put c d
  .cases hp
 .cases hp;exact h
def Bkn(P:Program)(o:Oper)(a:Act)(w:World)(x:Value)(w':World):Prop:=
 (execOp a.eval o).run P w=.ok (.value x) w'\/((execOp a.eval o).run P w=.ok .skip w'/\x=undef)
def K0{v:V}(h:Nn v=true):v.fits v.cells.length:=⟨rfl,λc d=>by simpa using Ao.1 h c d⟩
def Ado{z:V}(h:Ds P t=some z)(w:World)(N:Nat->Prop):∃x,(zeroValue t).run P w=.ok x w/\Pur w N x z:=by
 unfold Ds at h;have⟨e,c,h⟩:=Cf.1 h;have⟨f,d,h⟩:=Cf.1 h;exact⟨f,by simp[zeroValue,typeInfo,c,d],Pn h w N⟩
def Agy(h:RelM D w0 N0 μ S a w)(hi:¬D i){l:Nat}{z:V}(r:Enc w (Fp N0 μ S) μ x z)(m:Nn z=true)
  (hp:AS.putv {S with objs:=(d,⟨S.nx+i,z.cells.length,t,[z]⟩)::S.objs} (some l) (.bp d (S.nx+i) z.cells.length 0 0)=some S'):
  ∃μ',RelM (λj=>D j\/j=i) w0 N0 μ' S' (a.put (some l) (.pointer (some ⟨w.heap.size,0,none⟩))) (w.alloc (.cells x.cells t)):=by
 have⟨h1,h2⟩:=r.cells_at (K0 m)
 have s:=h.alloc hi d x.cells t z.cells.length 1 [z] (by rw[h1,Xu]) sm (by simp[maxLen]) (λe n=>by simp at n;subst n;exact K0 m) (λk e j c g u=>by
  rcases k with _ |k
  .simp at g;subst g;have⟨y,o,f,_⟩:=h2 j c u;exact⟨y,by rw[My,Dn];exact o,f⟩
  .simp at g)
 refine⟨_,s.putv hp ?_⟩;have:=Enc.bp (w:=w.alloc (.cells x.cells t)) (N:=Fp N0 (J2 μ d (S.nx+i) (some (w.heap.size,1))) {S with objs:=(d,⟨S.nx+i,z.cells.length,t,[z]⟩)::S.objs}) d (S.nx+i) z.cells.length 0 0 w.heap.size 1 (Dg μ d (S.nx+i) (some (w.heap.size,1)));simpa using this
def RelM.elems(h:RelM D w0 N0 μ S a w){p:V}{sz:Nat}(s:Enc w (Fp N0 μ S) μ x p)(m:S.elems p=some (sz,es)):
  ∃A c,x=.slice A es.length c/\es.length<=c/\(es≠[]->(∀e∈es,e.fits sz)/\∃t vs,A=some t/\vs.length=es.length*sz/\(∀(j:Nat)u,vs[j]?=some u->w.cell? (Addr.add t j)=some u)/\Row w (Fp N0 μ S) μ vs (flat es)):=by
 have mk:∀(t:Addr)(es:List V)(sz:Nat),(∀e∈es,e.fits sz)->(∀(k:Nat)e(j:Nat)c,es[k]?=some e->e.cells[j]?=some c->∃y,w.cell? (t.add (k*sz+j))=some y/\Enc w (Fp N0 μ S) μ y c)->
   ∃vs:List Value,vs.length=es.length*sz/\(∀(j:Nat)u,vs[j]?=some u->w.cell? (t.add j)=some u)/\Row w (Fp N0 μ S) μ vs (flat es):=by
  intro t es sz hf hc
  have ae:∀j,j<es.length*sz->∃y c,w.cell? (t.add j)=some y/\(flat es)[j]?=some c/\Enc w (Fp N0 μ S) μ y c:=by
   intro j hj
   have au:0<sz:=by
    rcases Eu sz with h0|h0
    .subst h0;simp at hj
    .exact h0
   have hk:=Qe (by rw[Bf];exact hj);have ak:j%sz<es[j/sz].cells.length:=by rw[(hf es[j/sz] (As hk)).1];exact Dd _ au
   have e1:j/sz*sz+j%sz=j:=by rw[Bf];exact G5 j sz
   have⟨y,hy,z⟩:=hc (j/sz) _ (j%sz) _ (Ah hk) (Ah ak);have aj:=Qa hf (Ah hk) (Ah ak);rw[e1]at hy aj;exact⟨y,_,hy,aj,z⟩
  refine⟨(List.range (es.length*sz)).map λj=>(w.cell? (t.add j)).getD undef,by simp,λj u hu=>?_,⟨by simp[J3 hf],λj y c hy aa=>?_⟩⟩
  .have hj:j<es.length*sz:=by have:=(Al.1 hu).1;simpa using this
   have⟨y,c,h1,h2,h3⟩:=ae j hj;simp only[Bj,M8 hj,I0,Am,h1,Fv]at hu;rw[h1,hu]
  .have hj:j<es.length*sz:=by have:=(Al.1 hy).1;simpa using this
   have⟨y',c',h1,h2,h3⟩:=ae j hj;simp only[Bj,M8 hj,I0,Am,h1,Fv]at hy;rw[h2]at aa;injection aa with aa;subst hy aa;exact h3
 cases p<;>simp only[AS.elems]at m<;>try(cases m;done)
 case ro sz' es'=>
  simp only[Am,Bw]at m;obtain⟨rfl,rfl⟩:=m;cases s with
  |pur s=>
  cases s with
  |ro A t n ab _ _ g hn aq ao hA hf hc hh=>
  subst hn;refine⟨A,ab,rfl,aq,λr=>⟨hf,?_⟩⟩;have⟨ar,_,_⟩:=hA (Ey.2 r);have⟨vs,v1,v2,v3⟩:=mk t es' sz' hf (λk e j c h1 h2=>⟨_,hc k e j c h1 h2,.pur (hh k e j c h1 h2)⟩);exact⟨t,vs,ar,v1,v2,v3⟩
 case nils=>
  simp only[Am,Bw]at m;obtain⟨rfl,rfl⟩:=m;cases s with
  |pur s=>
  cases s with
  |nils A=>exact⟨A,0,rfl,A2 _,λr=>absurd rfl r⟩
 case sl d v sz' len=>
  split at m
  case h_2=>cases m
  rename_i o ho;split at m
  case isFalse=>cases m
  rename_i hb;obtain⟨rfl,rfl,f⟩:=hb;simp only[Am,Bw]at m;obtain⟨rfl,rfl⟩:=m;cases s with
  |pur s=>cases s
  |slr _ _ _ _ g ab hm ag ao=>
   refine⟨_,ab,by rw[f],by rw[f];exact ag,λr=>?_⟩;have⟨l,hl,ah⟩:=h.objs d o ho;rw[hm]at hl;cases hl;have⟨_,_,_,h4,af,h5,h6,h7⟩:=ah;refine⟨h4,?_⟩
   have⟨vs,v1,v2,v3⟩:=mk ⟨g,0,none⟩ o.es o.sz h4 (λk e j c h1 h2=>by
    have⟨y,hy,z⟩:=h7 k e j c h1 h2;exact⟨y,by rw[Addr.add_lit,Dn,cell_of_row w g _ af o.ty (0,0) h5];exact hy,z⟩)
   exact⟨_,vs,rfl,v1,v2,v3⟩
  |slv _ _ _ A hm=>
   exact⟨A,0,by rw[f],by rw[f];exact A2 _,λr=>absurd (Fy f) r⟩
 case ss d v sz' off len=>
  split at m
  case h_2=>cases m
  rename_i o ho;split at m
  case isFalse=>cases m
  rename_i hb;obtain⟨rfl,rfl,f⟩:=hb;simp only[Am,Bw]at m;obtain⟨rfl,rfl⟩:=m;have ai:((o.es.drop off).take len).length=len:=by simp;omega
  cases s with
  |pur s=>cases s
  |ss _ _ _ _ _ g c ab A ag aw hA=>
   refine⟨A,c,by rw[ai],by rw[ai];exact ag,λr=>?_⟩
   have al:0<len:=by
    have:=Ey.2 r;omega
   obtain⟨hm,rfl⟩:=hA al;have⟨l,hl,ah⟩:=h.objs d o ho;rw[hm]at hl;cases hl;have⟨_,_,_,h4,af,h5,h6,h7⟩:=ah;have am:∀e∈(o.es.drop off).take len,e.fits o.sz:=λe m=>h4 e (Df (Da m))
   refine⟨am,?_⟩
   have⟨vs,v1,v2,v3⟩:=mk ⟨g,off*o.sz,none⟩ ((o.es.drop off).take len) o.sz am (λk e j c h1 h2=>by
    have hk:k<len:=by have:=(Al.1 h1).1;omega
    rw[Cq hk,Di]at h1;have⟨y,hy,z⟩:=h7 (off+k) e j c h1 h2;exact⟨y,by rw[Addr.add_lit,cell_of_row w g _ af o.ty (0,0) h5,show off*o.sz+(k*o.sz+j)=(off+k)*o.sz+j by rw[Ca];omega];exact hy,z⟩)
   exact⟨_,vs,rfl,v1,v2,v3⟩
end
variable {ai dd len m:Nat}{e xv:V}{te ty:TypeId}
section
def Nz{f:Array Value}{sz:Nat}(l:∀e∈es,e.fits sz)(n:Row w N μ (f.toList.take (es.length*sz)) (flat es)):
  ∀(k:Nat)e(j:Nat)c,es[k]?=some e->e.cells[j]?=some c->∃x,f[k*sz+j]?=some x/\Enc w N μ x c:=by
 intro k e j c o r;have h:=Qa l o r;have d:=(Al.1 h).1;have g:k*sz+j<(f.toList.take (es.length*sz)).length:=by rw[n.1];exact d
 have m:=Ah g;refine⟨_,?_,n.2 _ _ c m h⟩;rw[<-m,Cq (by rw[J3 l]at d;exact d)];simp
def Adp{f:Array Value}{sz:Nat}(l:∀e∈es,e.fits sz)(aa:es.length*sz<=f.size)
  (hc:∀(k:Nat)e(j:Nat)c,es[k]?=some e->e.cells[j]?=some c->∃x,f[k*sz+j]?=some x/\Enc w N μ x c):Row w N μ (f.toList.take (es.length*sz)) (flat es):=by
 refine⟨by simp[J3 l];omega,λi x c t d=>?_⟩;have s:i<es.length*sz:=by have:=(Al.1 d).1;rwa[J3 l]at this
 have hs:0<sz:=by
  rcases Eu sz with m|m
  .subst m;simp at s
  .exact m
 have r:=Qe (by rw[Bf];exact s);have u:i%sz<es[i/sz].cells.length:=by rw[(l es[i/sz] (As r)).1];exact Dd _ hs
 have z:i/sz*sz+i%sz=i:=by rw[Bf];exact G5 i sz
 have⟨y,g,o⟩:=hc _ _ _ _ (Ah r) (Ah u);have h:=Qa l (Ah r) (Ah u);rw[z]at g h;rw[h]at d;cases d;rw[Cq s]at t;have:=sG t
 rw[this]at g;cases g;exact o
def Agz{sz:Nat}:∀ {es:List V},(∀e∈es,e.fits sz)->∀ {k:Nat}{e e':V}{off:Nat}{us:List V},es[k]?=some e->off+us.length<=e.cells.length->e'.cells=e.cells.take off++us++e.cells.drop (off+us.length)->
  flat (es.set k e')=(flat es).take (k*sz+off)++us++(flat es).drop (k*sz+off+us.length)
 |[],_,k,e,e',off,us,c,_,_=>by simp at c
 |x::es,h,k,e,e',off,us,c,d,f=>by
  have h1:=(h x sm).1
  rcases k with _ |k
  .simp only[Dy,Am]at c;subst c;simp only[flat,K8,Ls,f,My,Dn];rw[Cx om,Gt oM];simp only[B6]
  .simp only[Hb]at c;have ih:=Agz (es:=es) (λy j=>h y Gi) c d f;unfold flat at ih|-;simp only[R9,Ls,ih];have l:(k+1)*sz+off=x.cells.length+(k*sz+off):=by rw[h1,Ca];omega
   have g:x.cells.length+(k*sz+off)+us.length=x.cells.length+(k*sz+off+us.length):=om;rw[l,List.take_length_add_append,g,List.drop_length_add_append];simp only[B6]
def Akc(d:off+u.cells.length<=e.cells.length)(g:0<u.cells.length):(e.setPart off u).cells=e.cells.take off++u.cells++e.cells.drop (off+u.cells.length):=by
 unfold V.setPart
 split
 .rfl
 .rename_i f;have c:e.cells=[e]:=by cases e<;>first|rfl|(exact absurd rfl (f _))
  rw[c]at d|-;simp at d;have:off=0:=om;subst this;simp;omega
def Ae8{B A:Option Addr}{c:Nat}{e:TypeInfo}(g:P.underlying t=some (.slice te))(h:P.info? te=some e)(f:n<=d):
  (Builtin.append_ #[t,t] ty #[.slice B n d,.slice A 0 c]).run P w=.ok (.slice B n d) w:=by
 cases A<;>cases B<;>simp[Builtin.append_,run_underlying g,sizeOf,typeInfo,h,Builtin.lenOf,Builtin.firstCells,f,storeCells,loadCells,loadCellsFrom]
def Aqv{B:Option Addr}{g:Addr}{c:Nat}{d:TypeInfo}{z:Value}{vs:List Value}(y:P.underlying t=some (.slice te))(hi:P.info? te=some d)(s:d.zero=some z)(o:z.cells.size=d.size)
  (l:vs.length=m*d.size)(hv:∀(j:Nat)u,vs[j]?=some u->w.cell? (g.add j)=some u)(x:0<m)(k:m<=maxLen)(hb:m*d.bytes<=140737488355328):
  ∃e f,(Builtin.append_ #[t,t] ty #[.slice B 0 0,.slice (some g) m c]).run P w=.ok (.slice (some ⟨w.heap.size,0,none⟩) m e) (w.drew.alloc (.cells f te))/\m<=e/\e<=maxLen/\f.size=e*d.size/\f.toList.take (m*d.size)=vs:=by
 have hm:m<=9223372036854775807:=by simp only[maxLen]at k;omega
 have r:=grownCap_ge w m 0 te;have n:=grownCap_le_maxLen w m 0 te k
 have h:(Builtin.append_ #[t,t] ty #[.slice B 0 0,.slice (some g) m c]).run P w=.ok (.slice (some ⟨w.heap.size,0,none⟩) m (grownCap w m 0 te)) (w.drew.alloc (.cells (vs.toArray++Builtin.zeroCells z.cells (grownCap w m 0 te-m)) te)):=by
  cases B with
  |none=>exact run_append_nil (P:=P) w t ty te d z y hi s g m c vs l hv x om om
  |some b=>
   have:=run_append_grow (P:=P) w t ty te d z y hi s b 0 0 [] sm sm g m c vs l hv om om (by rw[Dn,nextslicecap_zero x];omega);simpa using this
 refine⟨_,_,h,r,n,?_,?_⟩
 .simp only[Lt,Dz,size_zeroCells,o,l,<-Ca]
  congr 1
  omega
 .simp only[Qv,<-l];exact Xv
def Ae9(h:RelM D w0 N0 μ S a w)(hi:¬D i){B:Option Addr}{b:Nat}{f:List V}
  (ht:Fw P t=some te)(hn:Hz P te=some n)(hb:Iw P te=some b)(hx:Enc w (Fp N0 μ S) μ x xv)(he:S.elems xv=some (ai,f))
  (hs:f≠[]->ai=n)(ak:∃z,Ds P te=some z/\z.cells.length=n/\Nn z=true)(hl:f.length<=maxLen)(av:f.length*b<=140737488355328)
  (hp:AS.putv {S with objs:=(d,⟨S.nx+i,n,te,f⟩)::S.objs} (some dd) (.sl d (S.nx+i) n f.length)=some S'):
  ∃y w',(Builtin.append_ #[t,t] ty #[.slice B 0 0,x]).run P w=.ok y w'/\Ti (λj=>D j\/j=i) w0 N0 S' (a.put (some dd) y) w':=by
 have hu:=Dr ht;unfold Hz at hn;obtain⟨r,m,rfl⟩:=Ay.1 hn;unfold Iw at hb;obtain⟨az,k,rfl⟩:=Ay.1 hb;rw[m]at k;cases k;obtain⟨A,c,rfl,a0,ae⟩:=h.elems hx he
 by_cases s:f=[]
 .subst s;refine⟨.slice B 0 0,w,Ae8 hu m (A2 _),?_⟩;have ab:=h.muSet_mono hi d none
  have⟨hr,_⟩:=h.update (D':=λj=>D j\/j=i) (d:=d) (o':=⟨S.nx+i,r.size,te,[]⟩) (l':=none) (w':=w) (μ':=J2 μ d (S.nx+i) none) ab (h.muSet_fresh i d _) (Dg _ _ _ _) h.below (Ex.refl _ _)
   (λ_ _ _ _ _ _ _=>rfl) (λg c e=>by cases e) (λN' hN=>rfl)
  exact⟨_,hr.putv hp (.slv d (S.nx+i) r.size B (Dg _ _ _ _))⟩
 .obtain⟨hf,ad,vs,rfl,ax,an,u⟩:=ae s;have am:=hs s;subst am;have⟨z,ao,aq,al⟩:=ak;have o:=ao;unfold Ds at o;have⟨ay,l,o⟩:=Cf.1 o;rw[m]at l;cases l;have⟨zv,aw,o⟩:=Cf.1 o;have au:=Pn o w (Fp N0 μ S)
  have aj:zv.cells.size=r.size:=by
   have:=(Enc.pur (μ:=μ) au).cells_at (K0 al);rw[this.1,aq]
  have⟨ag,af,ah,h1,h2,h3,h4⟩:=Aqv (P:=P) (w:=w) (ty:=ty) (B:=B) (c:=c) hu m aw aj ax an (Ey.2 s) hl av;refine⟨_,_,ah,?_⟩;have ar:Ex w (Fp N0 μ S) w.drew:=⟨A2 _,λ_ _ _=>rfl⟩
  have aa:Row w.drew (Fp N0 μ S) μ (af.toList.take (f.length*r.size)) (flat f):=by
   rw[h4];exact⟨u.1,λi x c hx hc=>(u.2 i x c hx hc).keep ar (λ_ _ hb=>hb) (λ_ _ _ hh=>hh)⟩
  exact⟨_,(h.drew.alloc hi d af te r.size ag f h3 h1 h2 hf (Nz hf aa)).putv hp (.slr d (S.nx+i) r.size f.length w.heap.size ag (Dg _ _ _ _) h1 h2)⟩
def Aoa(w:World)(N:Nat->Prop)(l:List UInt8):Row w N μ (Lib.strCells ⟨l.toArray⟩) (flat (l.map Ze)):=by
 have g:flat (l.map Ze)=l.map Ze:=by
  unfold flat
  induction l with
  |nil=>rfl
  |cons b l ih=>simp only[Br,Ls,ih];rfl
 rw[g];refine⟨by simp[Lib.strCells],λi x c e f=>?_⟩;simp only[Lib.strCells,Bj,Ay]at e f;obtain⟨b,h,rfl⟩:=e;obtain⟨b',d,rfl⟩:=f;rw[h]at d;cases d;exact .pur (.int _ _)
def Ag0(l:List UInt8):∀e∈l.map Ze,e.fits 1:=by
 intro e f;simp only[Bc]at f;obtain⟨b,_,rfl⟩:=f;exact⟨rfl,λc d=>by simp[Ze,V.cells]at d;subst d;rfl⟩
def A4v(h:tz8 P t=true):∃c,P.info? t=some c/\c.zero=some (.int .u8 0)/\c.size=1/\c.bytes=1:=by
 unfold tz8 at h
 split at h
 .rename_i c d;simp only[Be,beq_iff_eq]at h;refine⟨c,d,?_,h.1.2,h.2⟩;have h1:=h.1.1
  split at h1
  .rename_i n e;have:=sG h1
   rw[e,this]
  .cases h1
 .cases h
def Abg(h:RelM D w0 N0 μ S a w)(hi:¬D i){u:TypeId}{B:Option Addr}{l:List UInt8}
  (ht:Fw P t=some te)(hu:Aa4 P u=true)(hz:∃f,P.info? te=some f/\f.zero=some (.int .u8 0)/\f.size=1/\f.bytes=1)
  (hl:l.length<=maxLen)(aq:l.length<=140737488355328)
  (hp:AS.putv {S with objs:=(d,⟨S.nx+i,1,te,l.map Ze⟩)::S.objs} (some dd) (.sl d (S.nx+i) 1 l.length)=some S'):
  ∃y w',(Builtin.append_ #[t,u] ty #[.slice B 0 0,.string ⟨l.toArray⟩]).run P w=.ok y w'/\Ti (λj=>D j\/j=i) w0 N0 S' (a.put (some dd) y) w':=by
 have af:=Dr ht;have s:=Iv hu;have⟨f,n,ah,aa,ag⟩:=hz;have k:(ByteArray.mk l.toArray).size=l.length:=by simp[ByteArray.size]
 have hf:=Lib.run_firstCells_string (P:=P) w 1 ⟨l.toArray⟩
 rcases l with _ |⟨b0,l0⟩
 .refine⟨.slice B 0 0,w,?_,?_⟩
  .rw[k]at hf;simp only[Bg]at hf;cases B<;>simp[Builtin.append_,run_underlying af,run_underlying s,sizeOf,typeInfo,n,aa,Builtin.lenOf,k,hf,storeCells,Lib.strCells]
  .have o:=h.muSet_mono hi d none
   have⟨hr,_⟩:=h.update (D':=λj=>D j\/j=i) (d:=d) (o':=⟨S.nx+i,1,te,[]⟩) (l':=none) (w':=w) (μ':=J2 μ d (S.nx+i) none) o (h.muSet_fresh i d _) (Dg _ _ _ _) h.below (Ex.refl _ _)
    (λ_ _ _ _ _ _ _=>rfl) (λg c e=>by cases e) (λN' hN=>rfl)
   exact⟨_,hr.putv hp (.slv d (S.nx+i) 1 B (Dg _ _ _ _))⟩
 .generalize ad:b0::l0=l at*;have ab:0<l.length:=by rw[<-ad];simp
  have z:=grownCap_ge w l.length 0 te;have r:=grownCap_le_maxLen w l.length 0 te hl
  have ae:(Builtin.append_ #[t,u] ty #[.slice B 0 0,.string ⟨l.toArray⟩]).run P w=.ok (.slice (some ⟨w.heap.size,0,none⟩) l.length (grownCap w l.length 0 te))
    (w.drew.alloc (.cells ((Lib.strCells ⟨l.toArray⟩).toArray++Builtin.zeroCells (Value.int .u8 0).cells (grownCap w l.length 0 te-l.length)) te)):=by
   have am:¬(9223372036854775807<(l.length:Int)):=by simp only[maxLen]at hl;omega
   have al:Builtin.nextslicecap l.length 0=l.length:=by simp[Builtin.nextslicecap,ab]
   have ai:¬(281474976710656<Builtin.nextslicecap l.length 0*f.bytes):=by rw[ag,al];omega
   have h0:¬(l.length<=0):=om;have aj:l≠[]:=by rw[<-ad];simp
   have x:=Lib.run_firstCells_string (P:=P) w.drew 1 ⟨l.toArray⟩;rw[k]at x
   have an:(Builtin.firstCells 1 0 (.slice B 0 0)).run P w.drew=.ok #[] w.drew:=by
    cases B<;>simp[Builtin.firstCells,loadCells,loadCellsFrom]
   simp[Builtin.append_,run_underlying af,run_underlying s,sizeOf,typeInfo,zeroValue,n,ah,aa,Builtin.lenOf,k,aj,am,ai,Question.forced,x,an,newRow,grownCap]
  refine⟨_,_,ae,?_⟩;have ao:Ex w (Fp N0 μ S) w.drew:=⟨A2 _,λ_ _ _=>rfl⟩;have m:(Lib.strCells ⟨l.toArray⟩).length=l.length:=by rw[Lib.strCells_length,k]
  have ak:(Value.int IntKind.u8 0).cells.size=1:=rfl
  have hr:=h.drew.alloc hi d ((Lib.strCells ⟨l.toArray⟩).toArray++Builtin.zeroCells (Value.int .u8 0).cells (grownCap w l.length 0 te-l.length)) te 1 (grownCap w l.length 0 te) (l.map Ze)
   (by simp only[Lt,Dz,size_zeroCells,ak,m];omega) (sG z) r (Ag0 l) (Nz (Ag0 l) (by
    simp only[Db,Gs,Qv];rw[<-m,Xv];exact Aoa w.drew _ l))
  exact⟨_,hr.putv hp (.slr d (S.nx+i) 1 l.length w.heap.size _ (Dg _ _ _ _) z r)⟩
def Aqw(h:RelM D w0 N0 μ S a w)(hi:¬D i){v:Nat}{u:TypeId}{s:Value}{l:List UInt8}{o:Ob}
  (ht:Fw P t=some te)(hu:Aa4 P u=true)(hz:∃z,P.info? te=some z/\z.zero=some (.int .u8 0)/\z.size=1/\z.bytes=1)
  (hs:Enc w (Fp N0 μ S) μ s (.sl d v o.sz len))(ho:get S.objs d=some o)(a0:o.v=v)(a5:o.sz=1)(ah:o.es.length=len)(a3:o.ty=te)(hl:len+l.length<=maxLen)(aw:len+l.length<=140737488355328)
  (hp:AS.putv {S with objs:=(d,⟨S.nx+i,1,te,o.es++l.map Ze⟩)::S.objs} (some dd) (.sl d (S.nx+i) 1 (len+l.length))=some S'):
  ∃y w',(Builtin.append_ #[t,u] ty #[s,.string ⟨l.toArray⟩]).run P w=.ok y w'/\Ti (λj=>D j\/j=i) w0 N0 S' (a.put (some dd) y) w':=by
 subst a0;cases hs with
 |pur hs=>cases hs
 |slv _ _ _ B hm=>
  have av:o.es=[]:=by
   have⟨l,n,am⟩:=h.objs d o ho;rw[hm]at n;cases n;exact am
  rw[av]at hp;simp only[D8,Dn]at hp hl aw;exact Abg h hi ht hu hz hl aw hp
 |slr _ _ _ _ g f hm a9 ay=>
  have ax:=Dr ht;have ao:=Iv hu;have⟨z,aj,a1,ar,az⟩:=hz;have⟨lo,n,am⟩:=h.objs d o ho;rw[hm]at n;cases n;have⟨o1,o2,o3,o4,m,o5,o6,o7⟩:=am;rw[a5]at o4 o6 o7;subst a3;have ai:=Adp (w:=w) (N:=Fp N0 μ S) (μ:=μ) o4 (by rw[o6];exact By _ o2) o7;simp only[Gs]at ai o6;have aa:(ByteArray.mk l.toArray).size=l.length:=by simp[ByteArray.size]
  have a8:=(B3.1 o5).1
  have ad:∀e∈o.es++l.map Ze,e.fits 1:=λe he=>by
   rcases Cc.1 he with h1|h1
   .exact o4 e h1
   .exact Ag0 l e h1
  have ae:(Lib.strCells ⟨l.toArray⟩).length=l.length:=by rw[Lib.strCells_length,aa]
  by_cases r:len+l.length<=f
  .have ab:=Lib.run_append_room_string (P:=P) w t u ty o.ty z ax ao aj ar g len f m o5 ⟨l.toArray⟩ (by rw[aa];exact r) (by rw[aa,o6];exact r);rw[aa]at ab;refine⟨_,_,ab,?_⟩;have ag:=h.muSet_mono hi d (some (g,f))
   have af:Ex w (Fp N0 μ S) (w.setRow g (m.toList.take len++Lib.strCells ⟨l.toArray⟩++m.toList.drop (len+l.length)).toArray):=
    ⟨by simp,λb hb hN=>setRow_other w g b _ (λe=>hN (by subst e;exact .inr ⟨d,o,f,ho,hm⟩))⟩
   have⟨hr,_⟩:=h.update (D':=λj=>D j\/j=i) (d:=d) (o':=⟨S.nx+i,1,o.ty,o.es++l.map Ze⟩) (l':=some (g,f)) (w':=w.setRow g (m.toList.take len++Lib.strCells ⟨l.toArray⟩++m.toList.drop (len+l.length)).toArray) (μ':=J2 μ d (S.nx+i) (some (g,f))) ag (h.muSet_fresh i d _) (Dg _ _ _ _)
    (⟨h.below.os,h.below.tape,h.below.output,by simpa using h.below.size,λk hk hx=>by
     rw[setRow_other w g k _ (λe=>by subst e;rcases o1 with h|h;omega;exact hx h)];exact h.below.block k hk hx⟩) af
    (λd1 ba g1 c1 au h1 h2=>setRow_other w g g1 _ (λe=>au (by subst e;exact h.inj _ _ _ _ _ _ _ h1 ho h2 hm)))
    (λg2 c2 e=>by
     simp only[Am,Bw]at e;obtain⟨rfl,rfl⟩:=e;exact .inr ⟨o,f,ho,hm⟩)
    (λN' hN=>by
     refine⟨o1,by simp[ah];exact r,o3,ad,_,setRow_heap w g m _ o.ty (0,0) o5,?_,?_⟩
     .simp only[Dz,Aq,C8,D6,I7,ae];omega
     .refine Nz ad ?_
      have e1:(m.toList.take len++Lib.strCells ⟨l.toArray⟩++m.toList.drop (len+l.length)).toArray.toList.take ((o.es++l.map Ze).length*1)=m.toList.take o.es.length++Lib.strCells ⟨l.toArray⟩:=by
       simp only[Aq,Db,Gs,ah];rw[Cx (by simp[ae];omega),Ba (by simp[ae];omega)]
      rw[e1,V9];exact Row.append ⟨ai.1,λj x c h1 h2=>(ai.2 j x c h1 h2).keep af hN ag⟩ (Aoa _ _ l))
   exact⟨_,hr.putv hp (.slr d (S.nx+i) 1 _ g f (Dg _ _ _ _) r ay)⟩
  .have al:∀j u,(m.toList.take o.es.length)[j]?=some u->w.cell? ((⟨g,0,none⟩:Addr).add j)=some u:=by
    intro j u hj;have a7:j<o.es.length:=by have:=(Al.1 hj).1;simp at this;omega
    rw[Cq a7]at hj;rw[Addr.add_lit,cell_of_row w g _ m o.ty (0,0) o5,Dn];simpa using hj
   have a6:(m.toList.take o.es.length).length=len*z.size:=by rw[ar];simp;omega
   have ak:Builtin.nextslicecap (len+l.length) f*z.bytes<=281474976710656:=by rw[az];exact growslice_fits om om
   have ab:=Lib.run_append_grow_string (P:=P) w t u ty o.ty z (.int .u8 0) ax ao aj a1 ⟨g,0,none⟩ len f _ a6 al ⟨l.toArray⟩ (by rw[aa];omega) (by rw[aa];simp only[maxLen]at hl;omega) (by rw[aa];exact ak);rw[aa]at ab;refine⟨_,_,ab,?_⟩;have aq:=grownCap_ge w (len+l.length) f o.ty;have an:=grownCap_le_maxLen w (len+l.length) f o.ty hl;have a2:(Value.int IntKind.u8 0).cells.size=1:=rfl;have a4:Ex w (Fp N0 μ S) w.drew:=⟨A2 _,λ_ _ _=>rfl⟩
   have hr:=h.drew.alloc hi d ((m.toList.take o.es.length).toArray++(Lib.strCells ⟨l.toArray⟩).toArray++Builtin.zeroCells (Value.int .u8 0).cells (grownCap w (len+l.length) f o.ty-(len+l.length))) o.ty 1 (grownCap w (len+l.length) f o.ty) (o.es++l.map Ze)
    (by simp only[Lt,Dz,size_zeroCells,a2,ae,C8,I7];omega) (by simpa[ah]using aq) an ad (Nz ad (by
     have e1:((m.toList.take o.es.length).toArray++(Lib.strCells ⟨l.toArray⟩).toArray++Builtin.zeroCells (Value.int .u8 0).cells (grownCap w (len+l.length) f o.ty-(len+l.length))).toList.take ((o.es++l.map Ze).length*1)=m.toList.take o.es.length++Lib.strCells ⟨l.toArray⟩:=by
      simp only[Qv,Aq,Db,Gs];rw[Cx (by simp[ae];omega),Ba (by simp[ae];omega)]
     rw[e1,V9];exact Row.append ⟨ai.1,λj x c h1 h2=>(ai.2 j x c h1 h2).keep a4 (λ_ _ hb=>hb) (λ_ _ _ hh=>hh)⟩ (Aoa _ _ l)))
   exact⟨_,hr.putv hp (.slr d (S.nx+i) 1 _ w.heap.size _ (Dg _ _ _ _) aq an)⟩
def Au4(h:RelM D w0 N0 μ S a w)(hi:¬D i){v:Nat}{s:Value}{a7 b:Nat}{f:List V}{o:Ob}
  (ht:Fw P t=some te)(hn:Hz P te=some n)(hb:Iw P te=some b)(hs:Enc w (Fp N0 μ S) μ s (.sl d v o.sz len))(ho:get S.objs d=some o)(br:o.v=v)(ah:o.es.length=len)(a6:o.ty=te)(a2:n=o.sz)(bw:0<n)
  (hx:Enc w (Fp N0 μ S) μ x xv)(he:S.elems xv=some (a7,f))(ba:f≠[]->a7=o.sz)(a9:∃z,Ds P te=some z/\z.cells.length=n/\Nn z=true)(hl:len+f.length<=maxLen)(a0:(len+f.length)*b<=140737488355328)
  (hp:AS.putv {S with objs:=(d,⟨S.nx+i,o.sz,te,o.es++f⟩)::S.objs} (some dd) (.sl d (S.nx+i) o.sz (len+f.length))=some S'):
  ∃y w',(Builtin.append_ #[t,t] ty #[s,x]).run P w=.ok y w'/\Ti (λj=>D j\/j=i) w0 N0 S' (a.put (some dd) y) w':=by
 subst br;cases hs with
 |pur hs=>cases hs
 |slv _ _ _ B hm=>
  have au:o.es=[]:=by
   have⟨l,aa,an⟩:=h.objs d o ho;rw[hm]at aa;cases aa;exact an
  rw[au]at hp;simp only[D8,Dn]at hp hl a0;subst a2;exact Ae9 h hi ht hn hb hx he ba a9 hl a0 hp
 |slr _ _ _ _ g r hm az av=>
  have hu:=Dr ht;unfold Hz at hn;obtain⟨aw,ak,rfl⟩:=Ay.1 hn;unfold Iw at hb;obtain⟨bx,ab,rfl⟩:=Ay.1 hb;rw[ak]at ab;cases ab;obtain⟨A,c,rfl,b2,ax⟩:=h.elems hx he;have⟨l,aa,an⟩:=h.objs d o ho;rw[hm]at aa;cases aa;have⟨o1,o2,o3,o4,a8,o5,o6,o7⟩:=an
  by_cases am:f=[]
  .subst am;refine⟨_,w,Ae8 hu ak az,?_⟩;have m:=h.muSet_mono hi d (some (g,r))
   have⟨hr,_⟩:=h.update (D':=λj=>D j\/j=i) (d:=d) (o':=⟨S.nx+i,o.sz,te,o.es++[]⟩) (l':=some (g,r)) (w':=w) (μ':=J2 μ d (S.nx+i) (some (g,r))) m (h.muSet_fresh i d _) (Dg _ _ _ _) h.below (Ex.refl _ _)
    (λ_ _ _ _ _ _ _=>rfl) (λg' c' e=>by
     simp only[Am,Bw]at e;obtain⟨rfl,rfl⟩:=e;exact .inr ⟨o,r,ho,hm⟩) (λN' hN=>by
     have:=an.keep (w':=w) (N':=N') (μ':=J2 μ d (S.nx+i) (some (g,r))) (Ex.refl _ _) hN m (λ_ _ _=>rfl);rw[Do,<-a6];exact this)
   exact⟨_,hr.putv hp (.slr d (S.nx+i) o.sz len g r (Dg _ _ _ _) az av)⟩
  .obtain⟨hf,ad,vs,rfl,bp,bh,ai⟩:=ax am;have bi:=ba am;subst bi;have⟨z,bs,bt,bg⟩:=a9;have al:=bs;unfold Ds at al;have⟨bz,ae,al⟩:=Cf.1 al;rw[ak]at ae;cases ae;have⟨zv,bm,al⟩:=Cf.1 al;have bu:=Pn al w (Fp N0 μ S)
   have bk:zv.cells.size=aw.size:=by
    have:=(Enc.pur (μ:=μ) bu).cells_at (K0 bg);rw[this.1,bt]
   subst a6;have a1:=Adp (w:=w) (N:=Fp N0 μ S) (μ:=μ) o4 (by rw[o6];exact By _ o2) o7
   have bc:w.ownsRow 0 o.ty o.sz (.slice (some ⟨g,0,none⟩) len r) len (a8.toList.take (o.es.length*o.sz)):=by
    refine⟨by rw[a1.1,J3 o4,ah],.inr ⟨g,r,a8,rfl,B5 _,o5,az,av,o6,by rw[ah]⟩⟩
   have a4:∀u∈vs,u.oneCell'=true:=by
    intro u bq;have⟨j,hj⟩:=De bq;have bv:j<(flat f).length:=by rw[<-ai.1];exact(Al.1 hj).1
    have hc:=Ah bv;refine(ai.2 j u _ hj hc).cell_oneCell ?_;have ao:=Ar hc;unfold flat at ao;have⟨e,bj,bf⟩:=List.mem_flatMap.1 ao;exact(hf e bj).2 _ bf
   have⟨y,w',a5,ay,ag,au,bl⟩:=run_append_own_at (P:=P) w 0 t ty o.ty aw zv o.sz aw.bytes hu ak bm a2 rfl (by rw[bk];exact a2) om (.slice (some ⟨g,0,none⟩) len r) len _ bc
    ad f.length c vs bp bh a4 hl a0 (B5 _)
   refine⟨y,w',a5,?_⟩;have be:0<len+f.length:=by have:=Ey.2 am;omega
   obtain⟨Ec,Sk|⟨g',aj,bn,rfl,q1,q2,q3,q4,q5,q6⟩⟩:=ay
   .omega
   .have a3:g'=g\/g'=w.heap.size:=by
     simpa[Value.ownBlock]using bl
    have aq:∀k,k<w.heap.size->k≠g->w'.heap[k]?=w.heap[k]? :=λk hk bo=>ag.block k hk (by simpa[Value.ownBlock]using bo)
    have b0:=(B3.1 o5).1;have m:=h.muSet_mono hi d (some (g',aj));have af:Ex w (Fp N0 μ S) w':=⟨ag.size,λk hk hN=>aq k hk (λe=>hN (by subst e;exact .inr ⟨d,o,r,ho,hm⟩))⟩
    have ar:∀e∈o.es++f,e.fits o.sz:=λe he=>by
     rcases Cc.1 he with h1|h1
     .exact o4 e h1
     .exact hf e h1
    have⟨hr,_⟩:=h.update (D':=λj=>D j\/j=i) (d:=d) (o':=⟨S.nx+i,o.sz,o.ty,o.es++f⟩) (l':=some (g',aj)) (w':=w') (μ':=J2 μ d (S.nx+i) (some (g',aj))) m (h.muSet_fresh i d _) (Dg _ _ _ _)
     (h.below.grown ag h.below.size (λk hk=>by simp[Value.ownBlock]at hk;subst hk;exact o1)) af
     (λd1 b1 g1 c1 bd h1 h2=>aq g1 (h.block_lt h1 h2) (λe=>bd (by subst e;exact h.inj _ _ _ _ _ _ _ h1 ho h2 hm)))
     (λg2 c2 e=>by
      simp only[Am,Bw]at e;obtain⟨rfl,rfl⟩:=e
      rcases a3 with rfl|rfl
      .exact .inr ⟨o,r,ho,hm⟩
      .exact .inl (A2 _))
     (λN' hN=>by
      refine⟨by rcases a3 with rfl|rfl;exact o1;exact .inl h.below.size,by simp[ah];exact q3,q4,ar,bn,q2,q5,?_⟩;refine Nz ar ?_;have e1:(o.es++f).length*o.sz=(len+f.length)*o.sz:=by simp[ah]
      rw[e1,q6,V9];refine Row.append ⟨a1.1,λj x c h1 h2=>(a1.2 j x c h1 h2).keep af hN m⟩ ⟨ai.1,λj x c h1 h2=>(ai.2 j x c h1 h2).keep af hN m⟩)
    exact⟨_,hr.putv hp (.slr d (S.nx+i) o.sz _ g' aj (Dg _ _ _ _) q3 q4)⟩
end
variable {B:Bs}{k kd:Nat}
def Alg(h:B.Below w){g:Nat}(f:B.free g)(c:Array Value):B.Below (w.setRow g c):=
 ⟨h.os,h.tape,h.output,by simpa using h.size,λk j d=>by
  rw[setRow_other w g k _ (λe=>by subst e;rcases f with h|h;omega;exact d h)];exact h.block k j d⟩
section
def Abh{t:Nat}(h:Sv P t=some n):∃z,Ds P t=some z/\Hz P t=some n/\z.cells.length=n/\Nn z=true/\0<n:=by
 unfold Sv at h;split at h
 case h_2=>cases h
 rename_i z m h1 h2;split at h
 case isFalse=>cases h
 rename_i c;cases h;exact⟨z,h1,h2,c.1,c.2.1,c.2.2⟩
def Alh(h:RelM D w0 N0 μ S a w){t v:Nat}{o:Ob}(hx:Enc w (Fp N0 μ S) μ x (.bp d v o.sz k off))(hy:Enc w (Fp N0 μ S) μ y u)(hn:Hz P t=some n)(ho:get S.objs d=some o)
  (ay:o.v=v)(hu:u.cells.length=n)(ai:Nn u=true)(aj:0<n)(hk:o.es[k]?=some e)(al:off+n<=e.cells.length):
  ∃w',(Instr.storeAt t x y).run P w=.ok () w'/\RelM D w0 N0 μ {S with objs:=(d,{o with es:=o.es.set k (e.setPart off u)})::S.objs} a w':=by
 subst ay hu;cases hx with
 |pur hx=>cases hx
 |bp _ _ _ _ _ g ag hm=>
 have⟨l,aa,a0⟩:=h.objs d o ho;rw[hm]at aa;cases aa;have⟨o1,o2,o3,o4,f,o5,o6,o7⟩:=a0;have ab:=o4 e (Ar hk);have m:=hy.row ai;have s:=m.1;have af:=Akc (u:=u) al aj
 have au:(e.setPart off u).fits o.sz:=by
  refine⟨by rw[af];simp;have:=ab.1;omega,λc z=>?_⟩;rw[af]at z;simp only[Cc]at z
  rcases z with(z|z)|z
  .exact ab.2 c (Da z)
  .exact Ao.1 ai c z
  .exact ab.2 c (Df z)
 have az:=(Al.1 hk).1
 have av:k*o.sz+off+u.cells.length<=o.es.length*o.sz:=by
  have h1:(k+1)*o.sz<=o.es.length*o.sz:=By _ az;have h2:=ab.1;rw[Ca]at h1;omega
 have ah:o.es.length*o.sz<=f.size:=by rw[o6];exact By _ o2
 have ao:∀v∈y.cells.toList,v.oneCell'=true:=by
  intro v hv;have⟨j,hj⟩:=De hv;have aq:j<u.cells.length:=by rw[<-s];exact(Al.1 hj).1
  exact(m.2 j v _ hj (Ah aq)).cell_oneCell (Ao.1 ai _ (As aq))
 have am:=run_storeCells_at (P:=P) g (k*o.sz+off) o.ty y.cells.toList 0 f w o5 (by rw[s];omega) ao;simp only[Eb,s]at am
 refine⟨w.setRow g (f.toList.take (k*o.sz+off)++y.cells.toList++f.toList.drop (k*o.sz+off+u.cells.length)).toArray,?_,?_⟩
 .have ax:=sG s
  simp only[Instr.storeAt,Instr.sureAddr,Sem.run_bind,Sem.run_pure,Result.andThen_ok,storeVar,Og hn,ax,ne_eq,not_true_eq_false,if_false,am]
 .have r:Ex w (Fp N0 μ S) (w.setRow g (f.toList.take (k*o.sz+off)++y.cells.toList++f.toList.drop (k*o.sz+off+u.cells.length)).toArray):=
   ⟨by simp,λb hb hN=>setRow_other w g b _ (λe=>hN (by subst e;exact .inr ⟨d,o,ag,ho,hm⟩))⟩
  refine(h.update (D':=D) (d:=d) (o':={o with es:=o.es.set k (e.setPart off u)}) (l':=some (g,ag)) (μ':=μ) (λ_ _ _ hh=>hh) h.fresh hm (Alg h.below o1 _) r
   (λd1 a1 g1 c1 an h1 h2=>setRow_other w g g1 _ (λe=>an (by subst e;exact h.inj _ _ _ _ _ _ _ h1 ho h2 hm)))
   (λg2 c2 e=>by
    simp only[Am,Bw]at e;obtain⟨rfl,rfl⟩:=e;exact .inr ⟨o,ag,ho,hm⟩) (λN' hN=>?_)).1
  have ad:∀e1∈o.es.set k (e.setPart off u),e1.fits o.sz:=λe1 aw=>by
   rcases Fz aw with h1|h1
   .exact o4 e1 h1
   .subst h1;exact au
  refine⟨o1,by simpa using o2,o3,ad,_,setRow_heap w g f _ o.ty (0,0) o5,?_,?_⟩
  .simp only[Dz,Aq,C8,D6,I7,s];rw[<-o6];omega
  .refine Nz ad ?_;have ar:=Adp (w:=w) (N:=Fp N0 μ S) (μ:=μ) o4 ah o7;have ae:Row (w.setRow g (f.toList.take (k*o.sz+off)++y.cells.toList++f.toList.drop (k*o.sz+off+u.cells.length)).toArray) N' μ (f.toList.take (o.es.length*o.sz)) (flat o.es):=⟨ar.1,λj x c h1 h2=>(ar.2 j x c h1 h2).keep r hN (λ_ _ _ hh=>hh)⟩;have ak:Row (w.setRow g (f.toList.take (k*o.sz+off)++y.cells.toList++f.toList.drop (k*o.sz+off+u.cells.length)).toArray) N' μ y.cells.toList u.cells:=⟨m.1,λj x c h1 h2=>(m.2 j x c h1 h2).keep r hN (λ_ _ _ hh=>hh)⟩;rw[Agz o4 hk al af];simp only[Hy]
   have e1:(f.toList.take (k*o.sz+off)++y.cells.toList++f.toList.drop (k*o.sz+off+u.cells.length)).toArray.toList.take (o.es.length*o.sz)=
     (f.toList.take (o.es.length*o.sz)).take (k*o.sz+off)++y.cells.toList++(f.toList.take (o.es.length*o.sz)).drop (k*o.sz+off+u.cells.length):=by
    rw[Xw,G6 om,Xx];simp only[B6];rw[Uw,Uw];have hA:(f.toList.take (k*o.sz+off)).length=k*o.sz+off:=by simp;omega
    rw[hA,s,Ba (by rw[hA];omega),Ba (l:=y.cells.toList) (by rw[s];omega)]
    congr 3
    omega
   rw[e1];exact((ae.take _).append ak).append (ae.drop _)
def Ag1{sz:Nat}:∀ {vs:List (Nat×V)}{es r:List V},(∀e∈es,e.fits sz)->Abe sz es vs=some r->(∀e∈r,e.fits sz)/\r.length=es.length
 |[],es,r,h,c=>by simp only[Abe,Am]at c;subst c;exact⟨h,rfl⟩
 |(i,v)::vs,es,r,h,c=>by
  simp only[Abe]at c;split at c
  case isFalse=>cases c
  rename_i d
  have⟨h1,h2⟩:=Ag1 (es:=es.set i v) (λe f=>by
   rcases Fz f with h1|h1
   .exact h e h1
   .subst h1;rw[<-d.1];exact K0 d.2.2) c
  exact⟨h1,by simpa using h2⟩
def Ali{sz:Nat}(z:0<sz):∀(vs:List (Nat×V))(ps:List (Nat×Value))(es:List V)(cells:Array Value)(r:List V),ps.length=vs.length->
  (∀(j:Nat)p q,ps[j]?=some p->vs[j]?=some q->p.1=q.1/\Enc w N μ p.2 q.2)->(∀e∈es,e.fits sz)->Row w N μ cells.toList (flat es)->Abe sz es vs=some r->
  ∃c,Instr.fill (λi=>some (i*sz,sz)) cells ps=some c/\Row w N μ c.toList (flat r)
 |[],[],es,cells,r,_,_,_,n,h=>by
  simp only[Abe,Am]at h;subst h;exact⟨cells,rfl,n⟩
 |[],_ ::_,_,_,_,h,_,_,_,_=>by simp at h
 |_ ::_,[],_,_,_,h,_,_,_,_=>by simp at h
 |(i,v)::vs,(g,x)::ps,es,cells,r,hl,hp,u,n,h=>by
  have⟨e,hx⟩:=hp 0 _ _ rfl rfl;simp only at e hx;subst e;simp only[Abe]at h;split at h
  case isFalse=>cases h
  rename_i hb;have⟨m,f,l⟩:=hb;have d:=hx.row l;have s:x.cells.size=sz:=by have:=d.1;simp at this;omega
  have aa:cells.size=es.length*sz:=by have:=n.1;rw[J3 u]at this;simpa using this
  have t:=u _ (As f)
  have y:=Agz u (k:=g) (e:=es[g]) (e':=v) (off:=0) (us:=v.cells) (Ah f) (by have:=t.1;omega) (by
   have:=t.1;rw[Hs oM];simp)
  have hm:(g+1)*sz<=es.length*sz:=By _ f;rw[Ca,Xu]at hm
  have o:Row w N μ (x.cells.zipIdx.foldl (λcs p=>cs.setIfInBounds (g*sz+p.2) p.1) cells).toList (flat (es.set g v)):=by
   rw[<-Array.foldl_toList,Array.toList_zipIdx,Adn (g*sz) x.cells.toList 0 cells so,y];simp only[Eb,I7,s,m];exact((n.take _).append d).append (n.drop _)
  have⟨c,h1,h2⟩:=Ali z vs ps (es.set g v) _ r (sG hl) (λj p q h1 h2=>hp (j+1) p q (sG h1) (sG h2)) (λe he=>by
   rcases Fz he with h1|h1
   .exact u e h1
   .subst h1;rw[<-m];exact K0 l) o h
  refine⟨c,?_,h2⟩;simp only[Instr.fill,s];rw[I (by simp;omega)];exact h1
def Alj{j:Array Value}{z:V}{sz:Nat}(s:Row w N μ j.toList z.cells)(hs:z.cells.length=sz)(l:0<sz)(y:z.fits sz):
  Row w N μ ((Array.range (n*sz)).map (j[·%j.size]!)).toList (flat (List.replicate n z)):=by
 have f:∀e∈List.replicate n z,e.fits sz:=λe he=>by rw[Kg he];exact y
 have h:j.size=sz:=by have:=s.1;simp at this;omega
 refine⟨by rw[J3 f];simp,λi x c r hc=>?_⟩;have u:i<n*sz:=by have:=(Al.1 r).1;simpa using this
 have hk:=Qe (by rw[Bf];exact u);have g:i%sz<sz:=Dd _ l;have t:i%sz<z.cells.length:=om;have e1:i/sz*sz+i%sz=i:=by rw[Bf];exact G5 i sz
 have d:=Qa f (k:=i/sz) (e:=z) Gi (Ah t);rw[e1,hc]at d;cases d;have m:j.toList[i%sz]?=some (j[i%sz]'(by omega)):=by simp[h,g]
 have:=s.2 _ _ _ m (Ah t)
 have o:x=j[i%sz]'(by omega):=by
  simp only[Array.toList_map,Array.toList_range,Bj,M8 u,I0,Am,h]at r;rw[<-r];simp[h,g]
 rw[o];exact this
def Ag2(h:RelM D w0 N0 μ S a w)(hi:¬D i)(hv:Akb P i S o.dst kd o.op=some S'):
  ∃x w',Bkn P o a w x w'/\Ti (λj=>D j\/j=i) w0 N0 S' (a.put o.dst x) w':=by
 unfold Akb at hv;split at hv
 case h_2=>cases hv
 rename_i O val g;unfold Bkn execOp;cases hop:o.op<;>rw[hop]at g<;>simp only[Abf]at g<;>(try(cases g;done))<;>dsimp only
 case alloc t=>
  split at g
  case h_2=>cases g
  rename_i d z n hd hz hk;simp only[Am,Bw]at g;obtain⟨rfl,rfl⟩:=g;have⟨z',ab,h2,h3,h4,h5⟩:=Abh hk;rw[hz]at ab;cases ab;subst h3;obtain⟨zv,aa,al⟩:=Ado hz w (Fp N0 μ S);rw[hd]at hv|-;obtain⟨μ',hr⟩:=Agy h hi (t:=t) (.pur al) h4 hv;refine⟨_,_,.inl ?_,⟨μ',hr⟩⟩;simp only[Sem.run_bind,Instr.alloc,aa,Result.andThen_ok,newVar,newRow,run_newObj,World.alloc_eq,Sem.run_pure]
 case box t x=>
  split at g
  case h_2=>cases g
  rename_i d z hd hz;split at g
  case isFalse=>cases g
  rename_i bb;simp only[Am,Bw]at g;obtain⟨rfl,rfl⟩:=g;rw[hd]at hv|-;obtain⟨μ',hr⟩:=Agy h hi (t:=t) (h.evc hz rfl) bb hv;refine⟨_,_,.inl ?_,⟨μ',hr⟩⟩;simp only[Sem.run_bind,Instr.box,newVar,newRow,run_newObj,World.alloc_eq,Result.andThen_ok,Sem.run_pure]
 case buildSlice t len parts=>
  split at g
  case h_2=>cases g
  rename_i d te vs hd ax bj;split at g
  case h_2=>cases g
  rename_i z n hz hk;split at g
  case isFalse=>cases g
  rename_i a5;split at g
  case h_2=>cases g
  rename_i es a3;simp only[Am,Bw]at g;obtain⟨rfl,rfl⟩:=g;obtain⟨z',ab,h2,h3,h4,h5⟩:=Abh hk;rw[hz]at ab;injection ab with ab;subst ab;have hu:=Dr ax;obtain⟨zv,aa,al⟩:=Ado hz w (Fp N0 μ S);obtain⟨e1,e2⟩:=h.evs rfl bj;have am:z.fits n:=by rw[<-h3];exact K0 h4
  have aj:∀e∈List.replicate len z,e.fits n:=λe he=>by rw[Kg he];exact am
  have ag:=(Enc.pur (μ:=μ) al).row h4;have a0:=Alj (n:=len) ag h3 h5 am
  obtain⟨az,f1,f2⟩:=Ali (w:=w) (μ:=μ) (N:=Fp N0 μ S) h5 vs (parts.toList.map λp=>(p.1,a.eval p.2)) (List.replicate len z) _ es Gi (λj p q hp hq=>by
   simp only[Bj,Ay]at hp;obtain⟨p',a7,rfl⟩:=hp;exact e2 j p' q a7 hq) aj a0 a3
  obtain⟨g1,g2⟩:=Ag1 aj a3;have aw:es.length=len:=sG g2
  have a6:az.size=len*n:=by have:=f2.1;rw[J3 g1,aw]at this;simpa using this
  have af:len<=maxLen:=by
   have:len<=len*n:=Nat.le_mul_of_pos_right _ h5;simp only[maxLen];omega
  rw[hd]at hv|-;have hr:=h.alloc hi kd az te n len es a6 om af g1 (Nz g1 (by rw[aw,Ba Gi];exact f2));refine⟨_,_,.inl ?_,⟨_,hr.putv hv (.slr kd (S.nx+i) n len w.heap.size len (Dg _ _ _ _) (A2 _) af)⟩⟩;have au:¬(len*n>2^24):=om
  by_cases h0:len*n=0
  .have be:Instr.fill (λi=>some (i*n,n)) ((Array.range (len*n)).map λx=>(#[]:Array Value)[x%(#[]:Array Value).size]!) (parts.toList.map λp=>(p.1,a.eval p.2))=some az:=by
    rw[<-f1,h0,Array.range_zero',Array.map_empty,Array.map_empty]
   simp only[Sem.run_bind,Instr.buildSlice,run_underlying hu,Result.andThen_ok,Og h2,I au,Ab h0,Sem.run_pure,Ro,be,newRow,run_newObj,World.alloc_eq]
  .simp only[Sem.run_bind,Instr.buildSlice,run_underlying hu,Result.andThen_ok,Og h2,I au,I h0,aa,Sem.run_pure,Ro,f1,newRow,run_newObj,World.alloc_eq]
 case makeSlice t l c=>
  split at g
  case h_2=>cases g
  rename_i d te k1 lv k2 cv hd ax hl hc;split at g
  case h_2=>cases g
  rename_i z n b hz hk hb;split at g
  case isFalse=>cases g
  rename_i a1;simp only[Am,Bw]at g;obtain⟨rfl,rfl⟩:=g;obtain⟨c1,c2,c3,c4⟩:=a1;obtain⟨z',ab,h2,h3,h4,h5⟩:=Abh hk;rw[hz]at ab;injection ab with ab;subst ab;have hu:=Dr ax;obtain⟨zv,aa,al⟩:=Ado hz w (Fp N0 μ S);have am:z.fits n:=by rw[<-h3];exact K0 h4
  have ag:=(Enc.pur (μ:=μ) al).row h4;have a0:=Alj (n:=cv.toNat) ag h3 h5 am;have aj:∀m,∀e∈List.replicate m z,e.fits n:=λm e he=>by rw[Kg he];exact am
  have an:=h.evc hl rfl;have ar:=h.evc hc rfl;generalize a.eval l=lx at an|-;generalize a.eval c=cx at ar|-;cases an.pi;cases ar.pi;unfold Iw at hb;obtain⟨a2,ah,rfl⟩:=Ay.1 hb;have af:cv.toNat<=maxLen:=by simp only[maxLen];omega
  have ay:(List.replicate lv.toNat z)=(List.replicate cv.toNat z).take lv.toNat:=by
   rw[List.take_replicate,G6 oM]
  rw[hd]at hv|-
  have hr:=h.alloc hi kd ((Array.range (cv.toNat*n)).map (zv.cells[·%zv.cells.size]!)) te n cv.toNat (List.replicate lv.toNat z) sm so af (aj _) (λk e j c hk hj=>by
   have ba:(List.replicate cv.toNat z)[k]?=some e:=by
    rw[ay]at hk;have bf:k<lv.toNat:=by have:=(Al.1 hk).1;simp at this;omega
    rwa[Cq bf]at hk
   exact Nz (aj _) (by rw[Ba (by simp)];exact a0) k e j c ba hj)
  refine⟨_,_,.inl ?_,⟨_,hr.putv hv (.slr kd (S.nx+i) n lv.toNat w.heap.size cv.toNat (Dg _ _ _ _) om af)⟩⟩
  have bh:=run_make (P:=P) w t te a2 zv hu ah (by
   unfold Ds at hz;obtain⟨bl,ad,hz⟩:=Cf.1 hz;rw[ah]at ad;injection ad with ad;subst ad;obtain⟨bp,av,hz⟩:=Cf.1 hz;simp only[zeroValue,typeInfo,Sem.run_bind,run_program,ah,Result.andThen_ok,av,Sem.run_pure,Result.ok.injEq]at aa;rw[<-aa.1];exact av) k1 k2 lv cv om om c4 om
  have a8:a2.size=n:=by
   unfold Hz at h2;rw[ah]at h2;simpa using h2
  rw[Sem.run_bind,bh,Result.andThen_ok,a8];rfl
 case store t x y=>
  split at g
  case h_2=>cases g
  rename_i d v sz k off u n hx hy hn;split at g
  case h_2=>cases g
  rename_i ob ak;split at g
  case isFalse=>cases g
  rename_i hb;obtain⟨b1,b2,b3,b4,b5⟩:=hb;split at g
  case h_2=>cases g
  rename_i e he;rw[C0]at he;split at g
  case isFalse=>cases g
  rename_i a5;simp only[Am,Bw]at g;obtain⟨rfl,rfl⟩:=g;subst b2;obtain⟨w',aa,hr⟩:=Alh (P:=P) h (h.evc hx rfl) (h.evc hy rfl) hn ak b1 b3 b4 b5 he a5;refine⟨undef,w',.inr ⟨?_,rfl⟩,⟨μ,(hr.putv hv (.whn _ _ _ (λhf=>(by cases hf)) (λ_=>rfl))).more (λj hj=>.inl hj)⟩⟩;simp only[Sem.run_bind,aa,Result.andThen_ok,Sem.run_pure]
 case call cl=>
  obtain⟨ao,args,ai⟩:=cl;cases ao with
  |value f=>cases g
  |invoke r m=>cases g
  |builtin b=>
  cases b<;>simp only at g<;>try(cases g;done)
  split at g
  case h_2=>cases g
  rename_i s x t t' dd ha ht a9;have bk:args= #[s,x]:=by apply Fb;simpa using ha
  have bg:ai= #[t,t']:=by apply Fb;simpa using ht
  subst bk;subst bg;simp only[Sem.run_bind,resolve,Sem.run_pure,Result.andThen_ok,invoke,builtin,Mx,Br,Ci];rw[a9]at hv|-
  split at g
  .rename_i bc;subst bc;split at g
   case h_2=>cases g
   rename_i sv xv te h1 h2 h3;split at g
   case h_2=>cases g
   rename_i bo bm n b h4 h5 h6;obtain⟨z,k1,k2,k3,k4,k5⟩:=Abh h5
   split at g
   .rename_i d v sz len;split at g
    case h_2=>cases g
    rename_i ob ak;split at g
    case isFalse=>cases g
    rename_i hb;obtain⟨b1,b2,b3,b4,b5,b6,b7,b8⟩:=hb;simp only[Am,Bw]at g;obtain⟨rfl,rfl⟩:=g;subst b2;obtain⟨y,w',aa,hr⟩:=Au4 (P:=P) (ty:=o.type) h hi h3 k2 h6 (h.evc h1 rfl) ak b1 b3 b4 b5 k5 (h.evc h2 rfl) h4 b6 ⟨z,k1,k3,k4⟩ b7 b8 hv;exact⟨y,w',.inl (by rw[aa];rfl),hr⟩
   .split at g
    case isFalse=>cases g
    rename_i hb;obtain⟨b6,b7,b8⟩:=hb;simp only[Am,Bw]at g;obtain⟨rfl,rfl⟩:=g;have ae:=h.evc h1 rfl;generalize a.eval s=sx at ae|-;cases ae with
    |pur ae=>
    cases ae with
    |nils B=>
    obtain⟨y,w',aa,hr⟩:=Ae9 (P:=P) (ty:=o.type) (B:=B) h hi h3 k2 h6 (h.evc h2 rfl) h4 b6 ⟨z,k1,k3,k4⟩ b7 b8 hv;exact⟨y,w',.inl (by rw[aa];rfl),hr⟩
   .cases g
  .split at g
   case isFalse=>cases g
   rename_i bi;obtain⟨a4,bn⟩:=bi;split at g
   case h_2=>cases g
   rename_i sv l te h1 h2 h3;split at g
   case h_2=>cases g
   rename_i h5;have aq:=h.evc h2 rfl
   have bd:a.eval x=.string ⟨l.toArray⟩:=by
    generalize a.eval x=y at aq;cases aq with
    |pur aq=>cases aq;rfl
   rw[bd];have hz:=A4v h5
   split at g
   .rename_i d v sz len;split at g
    case h_2=>cases g
    rename_i ob ak;split at g
    case isFalse=>cases g
    rename_i hb;obtain⟨b1,b2,b3,b4,b5,b6,b7⟩:=hb;simp only[Am,Bw]at g;obtain⟨rfl,rfl⟩:=g;subst b2;obtain⟨y,w',aa,hr⟩:=Aqw (P:=P) (ty:=o.type) h hi h3 a4 hz (h.evc h1 rfl) ak b1 b3 b4 b5 b6 b7 hv;exact⟨y,w',.inl (by rw[aa];rfl),hr⟩
   .split at g
    case isFalse=>cases g
    rename_i hb;obtain⟨b7,b8⟩:=hb;simp only[Am,Bw]at g;obtain⟨rfl,rfl⟩:=g;have ae:=h.evc h1 rfl;generalize a.eval s=sx at ae|-;cases ae with
    |pur ae=>
    cases ae with
    |nils B=>
    obtain⟨y,w',aa,hr⟩:=Abg (P:=P) (ty:=o.type) (B:=B) h hi h3 a4 hz b7 b8 hv;exact⟨y,w',.inl (by rw[aa];rfl),hr⟩
   .cases g
end
def V.pureC:V->Bool
 |.sl .. |.ss .. |.bp .. |.whn .. |.agg _ |.tup _ |.mp .. |.clo .. |.rm .. |.mr .. =>false
 |.ifc _ v=>v.flat2
 |.fc _ us vs=>us.all V.still&&vs.all V.still
 |_=>true
def V.pureE(v:V):Bool:=v.cells.all V.pureC
def Ag3{v:V}(h:v.pureC=true):v.isCell=true:=by cases v<;>first|rfl|exact h|simp[V.pureC]at h
section
def Enc.flat2{v:V}(h:Enc w N μ x v)(c:v.isCell=true)(hp:v.flat2=true):Pur w N x v:=by
 cases h with
 |pur h=>exact h
 |agg=>simp[V.isCell]at c
 |_=>simp[V.flat2,V.flat1]at hp
def Enc.flatP{v:V}(h:Enc w N μ x v)(hp:v.flat=true):Pur w N x v:=by
 cases h with
 |pur h=>exact h
 |ifc t x v c h=>exact .ifc t x v hp (h.flat2 c hp)
 |_=>simp[V.flat]at hp
def Enc.pureC{v:V}(h:Enc w N μ x v)(hp:v.pureC=true):Pur w N x v:=by
 cases h with
 |pur h=>exact h
 |ifc t x v c h=>exact .ifc t x v hp (h.flat2 c hp)
 |_=>simp[V.pureC]at hp
def Enc.pureE{v:V}(h:Enc w N μ x v)(hp:v.pureE=true):Pur w N x v:=by
 cases h with
 |pur h=>exact h
 |agg xs cs f d e=>exact .agg xs cs f d (λi x c h1 h2=>(e i x c h1 h2).pureC (Ao.1 hp c (Ar h2)))
 |ifc t x v d h=>exact(Enc.ifc t x v d h).pureC (by simpa[V.pureE,V.cells]using hp)
 |_=>simp[V.pureE,V.cells,V.pureC]at hp
def AS.viewC(S:AS)(v:V):Option V:=
 match v with
 |.sl .. |.ss .. =>match S.elems v with
  |some (sz,es)=>if es.all V.pureE=true then some (.ro sz es)else none
  |none=>none
 |_=>if v.pureC=true then some v else none
def AS.viewL(S:AS):List V->Option (List V)
 |[]=>some []
 |v::r=>match S.viewC v,S.viewL r with
  |some u,some us=>some (u::us)
  |_,_=>none
def AS.view(S:AS)(v:V):Option V:=
 match v with
 |.agg cs=>match S.viewL cs with
  |some us=>some (.agg us)
  |none=>none
 |.tup _=>none
 |v=>S.viewC v
def RelM.viewC(h:RelM D w0 N0 μ S a w){v:V}(m:Enc w (Fp N0 μ S) μ x v)(n:S.viewC v=some u):Pur w N0 x u/\u.isCell=true:=by
 have ab:∀b,b<w.heap.size->N0 b->Fp N0 μ S b:=λb _ hb=>.inl hb
 have aj:∀(v u:V),Enc w (Fp N0 μ S) μ x v->(match S.elems v with|some (sz,es)=>if es.all V.pureE=true then some (V.ro sz es)else none|none=>none)=some u->(∀d v' sz len,v=.sl d v' sz len->True)->(∃d v' sz off len,v=.ss d v' sz off len\/v=.sl d v' sz len)->Pur w N0 x u/\u.isCell=true:=by
  intro v u m n _ t;split at n
  case h_2=>cases n
  rename_i sz es f;split at n
  case isFalse=>cases n
  rename_i hp;cases n;refine⟨?_,rfl⟩;obtain⟨A,c,rfl,al,ag⟩:=h.elems m f
  by_cases af:es=[]
  .subst af
   have hc:c<=maxLen:=by
    obtain⟨d,v',av,off,len,rfl|rfl⟩:=t
    .cases m with
     |pur m=>cases m
     |ss _ _ _ _ _ g c' ae A' h1 h2 h3=>exact h2
    .cases m with
     |pur m=>cases m
     |slr _ _ _ _ g ae h1 h2 h3=>exact h3
     |slv=>simp[maxLen]
   exact .ro A ⟨0,0,none⟩ 0 c sz [] (λ_ _=>undef) rfl al hc (λh0=>absurd h0 sm) sm sm sm
  .obtain⟨hf,ad,vs,rfl,aw,aq,aa⟩:=ag af
   have s:ad.block<w.heap.size/\¬N0 ad.block/\c<=maxLen:=by
    have r:=Ey.2 af
    obtain⟨d,v',av,off,len,rfl|rfl⟩:=t
    .simp only[AS.elems]at f;split at f
     case h_2=>cases f
     rename_i o ho;split at f
     case isFalse=>cases f
     rename_i hb;obtain⟨rfl,rfl,an⟩:=hb;simp only[Am,Bw]at f;obtain⟨rfl,rfl⟩:=f;have ao:((o.es.drop off).take len).length=len:=by simp;omega
     rw[ao]at r m;cases m with
     |pur m=>cases m
     |ss _ _ _ _ _ g c' ae A' h1 h2 h3=>
      have⟨hm,hA⟩:=h3 r;cases hA;refine⟨h.block_lt ho hm,λhn=>?_,h2⟩;have:=h.n0.1 _ hn;have⟨l,z,ah⟩:=h.objs d o ho;rw[hm]at z;cases z;exact absurd ah.1 (λhf=>hf.elim (λh=>by have:=this.1;simp only at*;omega) this.2)
    .simp only[AS.elems]at f;split at f
     case h_2=>cases f
     rename_i o ho;split at f
     case isFalse=>cases f
     rename_i hb;obtain⟨rfl,rfl,an⟩:=hb;simp only[Am,Bw]at f;obtain⟨rfl,rfl⟩:=f;rw[an]at r m;cases m with
     |pur m=>cases m
     |slr _ _ _ _ g ae hm h2 h3=>
      refine⟨h.block_lt ho hm,λhn=>?_,h3⟩;have:=h.n0.1 _ hn;have⟨l,z,ah⟩:=h.objs d o ho;rw[hm]at z;cases z;exact absurd ah.1 (λhf=>hf.elim (λh=>by have:=this.1;simp only at*;omega) this.2)
     |slv=>exact absurd r sm
   have ak:∀(k:Nat)e(j:Nat)c,es[k]?=some e->e.cells[j]?=some c->∃y,vs[k*sz+j]?=some y/\Enc w (Fp N0 μ S) μ y c:=by
    intro k e j c hk hj;have ai:=Qa hf hk hj;have am:k*sz+j<vs.length:=by rw[aa.1];exact(Al.1 ai).1
    exact⟨_,Ah am,aa.2 _ _ c (Ah am) ai⟩
   refine .ro _ ad es.length c sz es (λk j=>(vs[k*sz+j]?).getD undef) rfl al s.2.2 (λ_=>⟨rfl,s.1,s.2.1⟩) hf (λk e j c hk hj=>?_) λk e j c hk hj=>?_
   .have⟨y,hy,_⟩:=ak k e j c hk hj;simp only[hy,Fv];exact aq _ _ hy
   .have⟨y,hy,au⟩:=ak k e j c hk hj;simp only[hy,Fv];exact(au.pureC (Ao.1 (Ao.1 hp e (Ar hk)) c (Ar hj))).keep (Ex.refl _ _) ab
 unfold AS.viewC at n
 split at n
 .exact aj _ u m n (λ_ _ _ _ _=>trivial) ⟨_,_,_,0,_,.inr rfl⟩
 .exact aj _ u m n (λ_ _ _ _ _=>trivial) ⟨_,_,_,_,_,.inl rfl⟩
 .split at n
  case isFalse=>cases n
  rename_i hp;cases n;exact⟨(m.pureC hp).keep (Ex.refl _ _) ab,Ag3 hp⟩
def Z1:∀ {cs us:List V},S.viewL cs=some us->us.length=cs.length/\∀(i:Nat)c u,cs[i]?=some c->us[i]?=some u->S.viewC c=some u
 |[],us,h=>by simp only[AS.viewL,Am]at h;subst h;simp
 |c::cs,us,h=>by
  simp only[AS.viewL]at h;split at h
  case h_2=>cases h
  rename_i u f h1 h2;cases h;have⟨k,g⟩:=Z1 h2;refine⟨by simp[k],λi c' j d e=>?_⟩
  rcases i with _ |i
  .simp at d e;subst d e;exact h1
  .simp at d e;exact g i c' j d e
def RelM.view(h:RelM D w0 N0 μ S a w){v:V}(f:Enc w (Fp N0 μ S) μ x v)(d:S.view v=some u):Pur w N0 x u:=by
 have n:∀b,b<w.heap.size->N0 b->Fp N0 μ S b:=λb _ r=>.inl r
 unfold AS.view at d
 split at d
 .rename_i cs;split at d
  case h_2=>cases d
  rename_i us m;cases d;have⟨h1,h2⟩:=Z1 m
  have j:∀xs:List Value,xs.length=cs.length->(∀(i:Nat)x c,xs[i]?=some x->cs[i]?=some c->Enc w (Fp N0 μ S) μ x c)->Pur w N0 (.agg xs.toArray) (.agg us):=by
   intro xs k e
   refine .agg xs us om (λc g=>?_) λi x c f g=>?_
   .have⟨i,o⟩:=De g;have l:=(Al.1 o).1;exact(h.viewC (e i xs[i] cs[i] (Ah om) (Ah om)) (h2 i cs[i] c (Ah om) o)).2
   .have l:=(Al.1 g).1;exact(h.viewC (e i x cs[i] f (Ah om)) (h2 i cs[i] c (Ah om) g)).1
  cases f with
  |pur f=>
   cases f with
   |agg xs _ k g e=>exact j xs k (λi x c h1 h2=>.pur (e i x c h1 h2))
  |agg xs _ k g e=>exact j xs k e
 .cases d
 .exact(h.viewC f d).1
end
variable {Q:Exit->AS->Prop}{R:V->Prop}{kb:Nat}{l ops:List Oper}
def AC(P:Program)(f:FuncId)(args:List V)(R:V->Prop):Prop:=
 ∀(w:World)(N:Nat->Prop)(xs:List Value),(∀b,N b->b<w.heap.size)->xs.length=args.length->(∀(i:Nat)x v,xs[i]?=some x->args[i]?=some v->Pur w N x v)->
  Calls P f xs.toArray w (λe w'=>∃x r,e=.returned x/\R r/\Pur w' N x r/\Below w.heap.size w w')
def AC.mono{f:FuncId}{args:List V}{c:V->Prop}(h:AC P f args R)(e:∀r,R r->c r):AC P f args c:=
 λw N xs h1 h2 d=>(h w N xs h1 h2 d).mono λ_ _⟨x,r,he,hR,hp,hb⟩=>⟨x,r,he,e r hR,hp,hb⟩
def post(w0:Bs)(N0:Nat->Prop)(Q:Exit->AS->Prop)(e:Exit)(a:Act)(w:World):Prop:=∃S,Q e S/\Rel w0 N0 S a w
def AW(P:Program)(w0:Bs)(N0:Nat->Prop)(c:Code)(Q:Exit->AS->Prop)(S:AS):Prop:=∀a w,Rel w0 N0 S a w->c.wp P (post w0 N0 Q) a w
def Jb(P:Program)(w0:Bs)(N0:Nat->Prop)(ops:List Oper)(Q:Exit->AS->Prop)(i:Nat)(l:List Oper)(S:AS):Prop:=
 ∀D a w,(∀j,D j->j<i)->Ti D w0 N0 S a w->wpList P ops.toArray (post w0 N0 Q) l a w
section
def AW.mono{c:Code}{Q':Exit->AS->Prop}(h:AW P w0 N0 c Q S)(hq:∀e S,Q e S->Q' e S):AW P w0 N0 c Q' S:=
  λa w hr=>wp_mono (h a w hr) λ_ _ _⟨S',hQ,hR⟩=>⟨S',hq _ _ hQ,hR⟩
def T1{c:Code}(d:S.le S')(h:AW P w0 N0 c Q S'):AW P w0 N0 c Q S:=λa w e=>h a w (d _ _ _ _ e)
@[reducible]def Ph(K:AS->Prop)(Q:Exit->AS->Prop):Exit->AS->Prop
 |.normal,S=>K S
 |e,S=>Q e S
@[reducible]def Oh(id:Nat)(Q:Exit->AS->Prop):Exit->AS->Prop
 |.exit c,S=>if c=id then Q .normal S else Q (.exit c) S
 |e,S=>Q e S
def D9(h:Q .normal S):AW P w0 N0 .skip Q S:=λ_ _ c=>wp_skip ⟨S,h,c⟩
def A3{id:Nat}(h:Q (.exit id) S):AW P w0 N0 (.exit id) Q S:=λ_ _ c=>wp_exit ⟨S,h,c⟩
def Aj(h:Q .ret S):AW P w0 N0 .ret Q S:=λ_ _ c=>wp_ret ⟨S,h,c⟩
def J{x y:Code}(h:AW P w0 N0 x (Ph (AW P w0 N0 y Q) Q) S):AW P w0 N0 (.seq x y) Q S:=by
 intro a w g;refine wp_seq (wp_mono (h a w g) ?_);rintro e f w'⟨S',c,d⟩;cases e with
 |normal=>exact c f w' d
 |_=>exact⟨S',c,d⟩
def Ad{id:Nat}{c:Code}(h:AW P w0 N0 c (Oh id Q) S):AW P w0 N0 (.block id c) Q S:=by
 intro a w j;refine wp_block (wp_mono (h a w j) ?_);rintro e a' w'⟨S',d,g⟩;cases e with
 |exit k=>
  simp only[Oh]at d;simp only[Exit.inBlock]
  split
  .rename_i f;rw[Ab f]at d;exact⟨S',d,g⟩
  .rename_i f;rw[I f]at d;exact⟨S',d,g⟩
 |_=>exact⟨S',d,g⟩
def Lq{c:Operand}{x y:Code}{t:Bool}(l:S.evc true c=some (.bool t))(k:t=true->AW P w0 N0 x Q S)(f:t=false->AW P w0 N0 y Q S):AW P w0 N0 (.cond c x y) Q S:=by
 intro a w j;have⟨μ,e⟩:=j;have d:=e.evc l rfl
 have g:a.eval c=.bool t:=by
  generalize a.eval c=v at d;cases d.pb;rfl
 exact wp_cond_split g (λh=>k h a w ⟨μ,e⟩) λh=>f h a w ⟨μ,e⟩
def If{c:Code}(z:α->AS)(f:α->Prop)(m:α->Nat)(x0:α)(h0:f x0)(hS:S.le (z x0))
  (h:∀x,f x->AW P w0 N0 c (Ph (λS'=>∃j,f j/\m j<m x/\S'.le (z j)) Q) (z x)):AW P w0 N0 (.loop c) Q S:=by
 intro a w u
 have aa:∀n x,m x=n->f x->∀a w,Rel w0 N0 (z x) a w->(Code.loop c).wp P (post w0 N0 Q) a w:=by
  intro n x hn hx a w u b k cs
  have y:∀n x,m x=n->f x->∀a w,Rel w0 N0 (z x) a w->∃e a' w',post w0 N0 Q e a' w'/\Arrives P (lone (b.at a (.code c:: .inLoop c::k)) cs w) b k cs e a' w':=by
   intro n
   induction n using Nat.strongRecOn with
   |_ n ih=>
    intro x hn hx a w u;have⟨e,r,o,⟨S',t,s⟩,d⟩:=h x hx a w u b (.inLoop c::k) cs;cases e with
    |normal=>
     have⟨j,ab,af,ae⟩:=t;have⟨e2,a2,w2,ad,g⟩:=ih (m j) (hn▸af) j rfl ab r o (ae _ _ _ _ s);exact⟨e2,a2,w2,ad,.of_steps (Steps.trans d (.one step_inLoop)) g⟩
    |exit id=>exact⟨_,r,o,⟨S',t,s⟩,.pass (x:=.inLoop c) rfl (λ_ _=>.inl sm) d⟩
    |goto l=>exact⟨_,r,o,⟨S',t,s⟩,.pass (x:=.inLoop c) rfl (λ_ _=>.inl sm) d⟩
    |ret=>exact⟨_,r,o,⟨S',t,s⟩,.pass (x:=.inLoop c) rfl (λ_ _=>.inl sm) d⟩
    |panic ch=>exact⟨_,r,o,⟨S',t,s⟩,.pass (x:=.inLoop c) rfl (λ_ _=>.inl sm) d⟩
    |outgrown=>exact⟨_,r,o,⟨S',t,s⟩,.pass (x:=.inLoop c) rfl (λ_ _=>.inl sm) d⟩
  have⟨e,a',w',hq,d⟩:=y n x hn hx a w u;exact⟨e,a',w',hq,.of_steps (.one step_loop) d⟩
 exact aa _ x0 rfl h0 a w (hS _ _ _ _ u)
def AS.gd(S:AS)(ops:List Oper)(j:Nat)(c:Bool):Option Bool:=
 match ops[j]? with
 |some o=>match o.dst with
  |some d=>match get S.env d with
   |some (.bool g)=>some (g==c)
   |some (.whn b (.bool g))=>some (b&&(g==c))
   |_=>none
  |none=>none
 |none=>none
def AS.fb(S:AS)(c:Bool):Op->Bool
 |.load _ x=>match S.evc c x with
  |some (.bp ..)=>false
  |some (.rp _)=>false
  |_=>true
 |_=>true
def No(P:Program)(kb:Nat)(ops:List Oper)(i:Nat)(o:Oper)(S:AS):Option AS:=
 match o.guard with
 |none=>match Zy P S true o.op with
  |some v=>S.putv o.dst v
  |none=>Akb P i S o.dst (kb+o.dst.getD 0) o.op
 |some (j,d)=>match S.gd ops j d with
  |some c=>match Zy P S c o.op with
   |some v=>S.putv o.dst (.whn c v)
   |none=>if c=false/\S.fb c o.op=true then S.putv o.dst (.whn false (.bool true))else none
  |none=>none
def Bko(P:Program)(ops:List Oper)(i:Nat)(o:Oper)(S:AS):Option AS:=No P 0 ops i o S
def X7(h:RelM D w0 N0 μ S a w){j:Nat}{f c:Bool}(hg:o.guard=some (j,f))(k:S.gd ops j f=some c):
  Region.wanted o (yielded ops.toArray a.tmps)=c:=by
 unfold AS.gd at k;split at k
 case h_2=>cases k
 rename_i oj s;split at k
 case h_2=>cases k
 rename_i d hd
 have z:∀(x:Value)(t:Bool),a.tmps.getD d undef=x->d<S.nt->(yielded ops.toArray a.tmps j=match x with|.bool b=>some b|_=>none):=by
  intro x t y m;have r:d<a.tmps.size:=by rw[h.size];exact m
  unfold yielded;simp only[H8,s,Option.bind_some,hd,M1 r];rw[Hf,M1 r]at y;simp only[Fv]at y;rw[y];split<;>simp_all
 unfold Region.wanted;rw[hg];simp only
 split at k
 .rename_i g l;injection k with k;have⟨m,e⟩:=h.env d _ l;generalize n:a.tmps.getD d undef=x at e;have h1:=z x true n m;cases e.pb;rw[h1,<-k];cases g<;>cases f<;>rfl
 .rename_i b g l;injection k with k;have⟨m,e⟩:=h.env d _ l;generalize n:a.tmps.getD d undef=x at e;have h1:=z x true n m;cases e with
  |pur e=>cases e
  |whn _ _ _ hh hu=>
  cases b with
  |false=>
   rw[h1,hu rfl,<-k];cases f<;>rfl
  |true=>
   have u:=hh rfl;cases u.pb;rw[h1,<-k];cases g<;>cases f<;>rfl
 .cases k
def Ax3(h:Q .normal {S with nx:=S.nx+i}):Jb P w0 N0 ops Q i [] S:=by
 rintro D a w k⟨μ,c⟩;refine wpList_nil ⟨_,h,μ,⟨c.defers,c.size,c.below,c.n0,λd v g=>?_,c.objs,c.inj,c.env⟩⟩
 rcases c.fresh d v g with h1|⟨j,f,e⟩
 .exact .inl sy
 .have:=k j f;exact .inl sy
def Adq{e:List Oper}(hs:No P kb ops i o S=some S')(h:Jb P w0 N0 ops Q (i+1) e S'):Jb P w0 N0 ops Q i (o::e) S:=by
 rintro D a w hD⟨μ,g⟩;have hi:¬D i:=λhd=>absurd (hD i hd) om
 have l:∀j,(D j\/j=i)->j<i+1:=λj n=>by
  rcases n with n|n
  .have:=hD j n;omega
  .omega
 have d:∀j,D j->j<i+1:=λj n=>l j (.inl n)
 refine wpList_step λK r=>?_
 unfold No at hs
 split at hs
 .rename_i z;have hw:Region.wanted o (yielded ops.toArray a.tmps)=true:=by simp[Region.wanted,z]
  rw[Ab hw]
  split at hs
  .rename_i v t;have⟨x,m,k⟩:=Abd g rfl t;unfold Oper.wp;rw[m];exact r _ _ (h D _ w d ⟨μ,g.putv hs k⟩)
  .have⟨x,w',u,f⟩:=Ag2 g hi hs;unfold Oper.wp
   rcases u with m|⟨m,rfl⟩
   .rw[m];exact r _ _ (h _ _ w' l f)
   .rw[m];exact r _ _ (h _ _ w' l f)
 .rename_i j ab z;split at hs
  case h_2=>cases hs
  rename_i c hc;rw[(X7 g z hc)]
  split at hs
  .rename_i v t;cases c with
   |true=>
    rw[Ab rfl];have⟨x,m,k⟩:=Abd g rfl t;unfold Oper.wp;rw[m];exact r _ _ (h D _ w d ⟨μ,g.putv hs (.whn _ _ _ (λ_=>k) (λs=>(by cases s)))⟩)
   |false=>
    rw[I (by simp)];exact r _ _ (h D _ w d ⟨μ,g.putv hs (.whn _ _ _ (λs=>(by cases s)) (λ_=>rfl))⟩)
  .split at hs
   case isFalse=>cases hs
   rename_i aa;obtain⟨rfl,_⟩:=aa;rw[I (by simp)];exact r _ _ (h D _ w d ⟨μ,g.putv hs (.whn _ _ _ (λs=>(by cases s)) (λ_=>rfl))⟩)
def K3(P:Program)(kb:Nat)(ops:List Oper):Nat->List Oper->AS->Option AS
 |_,[],S=>some S
 |i,o::c,S=>match No P kb ops i o S with
  |some S'=>K3 P kb ops (i+1) c S'
  |none=>none
def Z2(P:Program)(ops:List Oper)(i:Nat)(l:List Oper)(S:AS):Option AS:=K3 P 0 ops i l S
def Aqx:∀ {l:List Oper}{i:Nat}{S S':AS},K3 P kb ops i l S=some S'->Q .normal {S' with nx:=S'.nx+(i+l.length)}->Jb P w0 N0 ops Q i l S
 |[],i,S,S',hs,h=>by
  simp only[K3,Am]at hs;subst hs;exact Ax3 h
 |o::c,i,S,S',hs,h=>by
  simp only[K3]at hs;split at hs
  case h_2=>cases hs
  rename_i S1 h1;refine Adq h1 (Aqx hs ?_);rw[show i+1+c.length=i+(o::c).length by simp;omega];exact h
def Cb{id:Nat}(h:Jb P w0 N0 l Q 0 l S):AW P w0 N0 (.region id l.toArray false) Q S:=
 λa w d=>wp_region_lit (h (λ_=>False) a w (λ_ c=>c.elim) d)
end
variable {N':Nat->Prop}{S1:AS}{args:Array Operand}{f:Operand}{fn:Func}{r:V}{w':World}{ρ:Operand->Value}
section
def V.pureV:V->Bool
 |.tup _=>false
 |.mp .. |.rm .. |.fc .. =>true
 |v=>v.pureE
def Enc.pureV{v:V}(h:Enc w N μ x v)(hp:v.pureV=true):Pur w N x v:=by
 cases v with
 |tup vs=>simp[V.pureV]at hp
 |mp|rm|fc=>cases h with
  |pur h=>exact h
 |_=>exact h.pureE hp
def RelM.own_lt(h:RelM D w0 N0 μ S a w)(b:Nat)(e:Fp N0 μ S b):b<w.heap.size:=by
 rcases e with e|⟨d,o,c,h1,h2⟩
 .exact Cp (h.n0.1 b e).1 h.below.size
 .exact h.block_lt h1 h2
def RelM.later(h:RelM D w0 N0 μ S a w)(k:Below w.heap.size w w'):RelM D w0 N0 μ S a w':=by
 have n:Ex w (Fp N0 μ S) w':=Ex.of_below k _;refine⟨h.defers,h.size,h.below.trans (k.mono h.below.size),h.n0,h.fresh,λd o r=>?_,h.inj,λt u s=>⟨(h.env t u s).1,(h.env t u s).2.keep n (λ_ _ f=>f) (λ_ _ _ f=>f)⟩⟩;have⟨l,m,j⟩:=h.objs d o r;exact⟨l,m,j.keep n (λ_ _ f=>f) (λ_ _ _ f=>f) (λg c e=>k.block g (h.block_lt r (by rw[m,e])))⟩
def Ly{d:FuncId}{e:Array TypeId}(k:o.op=.call {callee:=.value f,args:=args,argTypes:=e})(j:ρ f=.func (.func d) #[] #[])
  (h:P.funcs[d]?=some fn)(n:fn.body.isSome=true)(l:(fn.name== "runtime.NumGoroutine")=false):(execOp ρ o).run P w=.ok (.enter d (args.map ρ)) w:=by
 unfold execOp;rw[k];have⟨c,m⟩:=Cv.1 n;have g:=sG l
 simp[resolve,j,Deferred.ofValue,invoke,callFunc,h,g,m]
def T2{k:List Oper}{g:FuncId}{s:Array TypeId}
  (hg:o.guard=none)(ho:o.op=.call {callee:=.value f,args:=args,argTypes:=s})(hf:S.evc true f=some (.fn g))(t:P.funcs[g]?=some fn)(hb:fn.body.isSome=true)(hn:(fn.name== "runtime.NumGoroutine")=false)
  (ha:S.args true args.toList=some vs)(hp:vs.all V.pureV=true)(hc:AC P g vs R)(h:∀r,R r->∃S',S.putv o.dst r=some S'/\Jb P w0 N0 ops Q (i+1) k S'):Jb P w0 N0 ops Q i (o::k) S:=by
 rintro D a w hD⟨μ,n⟩;refine wpList_plain hg λK hK=>?_
 have d:=n.evc hf rfl
 have aa:a.eval f=.func (.func g) #[] #[]:=by
  generalize a.eval f=y at d;cases d.pf;rfl
 have⟨h1,h2⟩:=Gc n rfl ha;unfold Oper.wp;rw[Ly ho aa t hb hn]
 have c:=hc w (Fp N0 μ S) (args.toList.map a.eval) n.own_lt Gi (λj x v hx hv=>by
  simp only[Bj,Ay]at hx;obtain⟨y,hy,rfl⟩:=hx;exact(h2 j y v hy hv).pureV (Ao.1 hp v (Ar hv)))
 have m:(args.toList.map a.eval).toArray=args.map a.eval:=by apply Fb;simp
 rw[m]at c;refine c.mono ?_;rintro e w'⟨x,r,rfl,hR,u,z⟩;have⟨S',hs,l⟩:=h r hR;exact hK _ _ (l D _ w' (λj hj=>Fx (hD j hj)) ⟨μ,(n.later z).putv hs (.pur u)⟩)
def V.light:V->Bool
 |.agg cs=>cs.all V.flat
 |.tup vs=>vs.all λv=>match v with|.agg cs=>cs.all V.flat|v=>v.flat
 |v=>v.flat
def Pur.of_light{v:V}(h:Pur w N x v)(m:v.light=true):Pur w' N' x v:=by
 have o:∀(xs:List Value)(cs:List V),cs.all V.flat=true->xs.length=cs.length->(∀c∈cs,c.isCell=true)->(∀(i:Nat)x c,xs[i]?=some x->cs[i]?=some c->Pur w N x c)->Pur w' N' (.agg xs.toArray) (.agg cs):=
  λxs cs h1 h2 j s=>.agg xs cs h2 j (λi x c g d=>(s i x c g d).of_flat (Ao.1 h1 c (Ar d)))
 cases h with
 |agg xs cs h1 h2 j=>exact o xs cs m h1 h2 j
 |tup xs cs h1 h2=>
  refine .tup xs cs h1 λi x c g d=>?_;have e:=Ao.1 m c (Ar d);cases(h2 i x c g d)with
  |agg z r g1 u y=>exact o z r e g1 u y
  |bool b=>exact .bool b
  |int k n=>exact .int k n
  |str l=>exact .str l
  |nils A=>exact .nils A
  |fn f=>exact .fn f
  |nilp=>exact .nilp
  |nili=>exact .nili
  |nilf=>exact .nilf
  |ifc t x v h1 h2=>exact .ifc t x v h1 (h2.of_flat2 h1)
  |tup|ro|rp|mp|fc|dm|rm=>simp[V.flat]at e
 |bool b=>exact .bool b
 |int k n=>exact .int k n
 |str l=>exact .str l
 |nils A=>exact .nils A
 |fn f=>exact .fn f
 |nilp=>exact .nilp
 |nili=>exact .nili
 |nilf=>exact .nilf
 |ifc t x v h1 h2=>exact .ifc t x v h1 (h2.of_flat2 h1)
 |ro|rp|mp|fc|dm|rm=>simp[V.light,V.flat]at m
def AS.views(S:AS):List V->Option (List V)
 |[]=>some []
 |v::r=>match S.view v,S.views r with
  |some u,some us=>some (u::us)
  |_,_=>none
def Z3:∀ {vs us:List V},S.views vs=some us->us.length=vs.length/\∀(i:Nat)v u,vs[i]?=some v->us[i]?=some u->S.view v=some u
 |[],us,h=>by simp only[AS.views,Am]at h;subst h;simp
 |c::cs,us,h=>by
  simp only[AS.views]at h;split at h
  case h_2=>cases h
  rename_i u f h1 h2;cases h;have⟨k,g⟩:=Z3 h2;refine⟨by simp[k],λi c' j d e=>?_⟩
  rcases i with _ |i
  .simp at d e;subst d e;exact h1
  .simp at d e;exact g i c' j d e
def X8(P:Program)(S:AS):ResultVar->Option V
 |.tmp t=>S.evc true (.tmp t)
 |.cell t ty=>match S.evc true (.tmp t)with
  |some p=>match S.place p,Hz P ty,En P ty with
   |some (e,off),some n,some g=>e.part off n g
   |_,_,_=>none
  |none=>none
def Re(P:Program)(S:AS):List ResultVar->Option (List V)
 |[]=>some []
 |r::rs=>match X8 P S r,Re P S rs with
  |some v,some vs=>match S.view v with
   |some u=>some (u::vs)
   |none=>none
  |_,_=>none
def Ko(P:Program)(S:AS)(rs:List ResultVar):Option V:=
 match Re P S rs with
 |some [v]=>some v
 |some vs=>some (.tup vs)
 |none=>none
def Wa(P:Program)(fn:Func)(R:V->Prop)(e:Exit)(S:AS):Prop:=
 match e with
 |.ret|.normal=>match Ko P S fn.results.toList with|some r=>R r|none=>False
 |_=>False
def U2(c:Array Value):ResultVar->Sem Value
 |.tmp t=>pure (c.getD t undef)
 |.cell b t=>do loadVar t (<-asAddr (c.getD b undef))
def Rp(fn:Func)(c:Array Value):results fn c=(do let vs <-fn.results.mapM (U2 c);pure (if h:vs.size=1 then vs[0]else .tuple vs)):=rfl
def Wb(h:RelM D w0 N0 μ S a w){r:ResultVar}{v:V}(c:X8 P S r=some v):
  ∃x,(U2 a.tmps r).run P w=.ok x w/\Enc w (Fp N0 μ S) μ x v:=by
 cases r with
 |tmp t=>exact⟨_,rfl,h.evc c rfl⟩
 |cell t ty=>
  simp only[X8]at c;split at c
  case h_2=>cases c
  rename_i p hp;split at c
  case h_2=>cases c
  rename_i e off n g h1 h2 o;have⟨j,sz,m,k,s⟩:=h.place h1 (h.evc hp rfl);have⟨y,l,f⟩:=Ae5 (P:=P) h2 o k s c;have d:a.tmps.getD t undef=.pointer (some (j.add off)):=m;exact⟨y,by simp only[U2,d,Sem.run_bind,asAddr,Sem.run_pure,Result.andThen_ok,l],f⟩
def Abi(h:RelM D w0 N0 μ S a w)(d:Ko P S fn.results.toList=some r):∃x,(results fn a.tmps).run P w=.ok x w/\Pur w N0 x r:=by
 have g:∀(l:List ResultVar)(vs:List V),Re P S l=some vs->∃xs:List Value,(l.mapM (U2 a.tmps)).run P w=.ok xs w/\
   xs.length=vs.length/\∀(i:Nat)x v,xs[i]?=some x->vs[i]?=some v->Pur w N0 x v:=by
  intro l
  induction l with
  |nil=>intro vs c;simp only[Re,Am]at c;subst c;exact⟨[],rfl,rfl,by simp⟩
  |cons q l ih=>
   intro vs c;simp only[Re]at c;split at c
   case h_2=>cases c
   rename_i v o h1 h2;split at c
   case h_2=>cases c
   rename_i u hu;cases c;have⟨x,hx,k⟩:=Wb h h1;have⟨xs,f,m,t⟩:=ih o h2
   refine⟨x::xs,?_,by simp[m],λi y v j d=>?_⟩
   .rw[O0,Sem.run_bind,hx,Result.andThen_ok,Sem.run_bind,f,Result.andThen_ok];rfl
   .rcases i with _ |i
    .simp at j d;subst j d;exact h.view k hu
    .simp at j d;exact t i y v j d
 unfold Ko at d
 have e:∀xs:List Value,(fn.results.toList.mapM (U2 a.tmps)).run P w=.ok xs w->
   (results fn a.tmps).run P w=.ok (if h:xs.toArray.size=1 then xs.toArray[0]else .tuple xs.toArray) w:=by
  intro xs f;rw[Rp,Sem.run_bind,Gk,Sem.run_map,f];rfl
 split at d
 .rename_i v c;cases d;have⟨xs,h1,h2,n⟩:=g _ _ c
  match xs,h2 with
  |[x],_=>exact⟨x,e [x] h1,n 0 x _ rfl rfl⟩
 .rename_i vs s c;cases d;have⟨xs,h1,h2,n⟩:=g _ _ c;refine⟨.tuple xs.toArray,?_,.tup xs vs h2 n⟩;rw[e xs h1]
  have:¬xs.toArray.size=1:=by
   intro z;have m:vs.length=1:=sO z
   match vs,m with
   |[v],_=>exact s v rfl
  rw[dif_neg this]
 .cases d
def Nb:Nat->List V->List (Nat×V)
 |_,[]=>[]
 |i,v::vs=>(i,v)::Nb (i+1) vs
def Abj:∀ {vs:List V}{i t:Nat}{v:V},get (Nb i vs) t=some v->i<=t/\vs[t-i]?=some v
 |[],i,t,v,h=>by simp[Nb,get]at h
 |u::vs,i,t,v,h=>by
  simp only[Nb,Dh]at h
  split at h
  .rename_i c;cases h;subst c;exact⟨A2 _,by simp⟩
  .rename_i c;have⟨h1,h2⟩:=Abj h;refine⟨by omega,?_⟩;rw[show t-i=(t-(i+1))+1 by omega];simpa using h2
def Bhe{args:List V}{xs:List Value}{n:Nat}(hl:args.length<=n)(hN:∀b,N b->b<w.heap.size)(aa:xs.length=args.length)(hp:∀(i:Nat)x v,xs[i]?=some x->args[i]?=some v->Pur w N x v):RelM (λ_=>False) ⟨w,λ_=>False,λ_ _=>none,[]⟩ N (λ_ _=>none) ⟨Nb 0 args,[],0,n⟩ ⟨xs.toArray++Array.replicate (n-xs.toArray.size) undef,[]⟩ w:=by
 refine⟨rfl,?_,Bs.Below.refl _,⟨λb n=>⟨hN b n,λh=>h⟩,λ_ _ _ h=>by cases h⟩,λd v y=>absurd rfl y,λd o hd=>?_,λd o _ _ _ _ _ hd=>?_,λt v y=>?_⟩
 .simp only[Lt,Dz,Array.size_replicate];omega
 .simp[get]at hd
 .simp[get]at hd
 .have⟨_,h2⟩:=Abj y;simp only[Mz]at h2;have ht:=(Al.1 h2).1;refine⟨by simp only;omega,.pur ?_⟩;have l:xs[t]?=some xs[t]:=Ah om;have:=hp t xs[t] v l h2
  have k:(xs.toArray++Array.replicate (n-xs.toArray.size) undef).getD t undef=xs[t]:=by
   rw[Hf,Sa (by simp;omega)];simp[l]
  rw[k]
  exact this.keep (Ex.refl _ _) (λb n ho=>by
   rcases ho with h0|⟨d,o,c,h1,_⟩
   .exact h0
   .simp[get]at h1)
def Bkp{f:FuncId}{c:Code}{args:List V}{xs:List Value}(hf:P.funcs[f]?=some fn)(n:fn.body=some c)(hl:args.length<=fn.ntmps)(hN:∀b,N b->b<w.heap.size)(aa:xs.length=args.length)(hp:∀(i:Nat)x v,xs[i]?=some x->args[i]?=some v->Pur w N x v)
  (h:AW P ⟨w,λ_=>False,λ_ _=>none,[]⟩ N c (Wa P fn R) ⟨Nb 0 args,[],0,fn.ntmps⟩):Calls P f xs.toArray w (λe w'=>∃x r,e=.returned x/\R r/\Pur w' N x r/\Below w.heap.size w w'):=by
 refine calls_of_wp hf n (wp_mono (h _ w ⟨_,Bhe hl hN aa hp⟩) ?_)
 rintro e a' w'⟨S',s,⟨μ,m⟩⟩
 have g:(match Ko P S' fn.results.toList with|some r=>R r|none=>False)->∃v,(results fn a'.tmps).run P w'=.ok v w'/\∃x r,Ending.returned v=.returned x/\R r/\Pur w' N x r/\Below w.heap.size w w':=by
  intro z
  split at z
  .rename_i r j;have⟨x,l,u⟩:=Abi m j;exact⟨x,l,x,r,rfl,z,u,m.below.plain⟩
  .exact z.elim
 cases e with
 |ret=>exact⟨m.defers,g s⟩
 |normal=>exact⟨m.defers,g s⟩
 |_=>exact s.elim
def Aqy{f:FuncId}{c:Code}{args:List V}(hf:P.funcs[f]?=some fn)(n:fn.body=some c)(hl:args.length<=fn.ntmps)
  (h:∀w0 N0,AW P w0 N0 c (Wa P fn R) ⟨Nb 0 args,[],0,fn.ntmps⟩):AC P f args R:=λ_ _ _ a b d=>Bkp hf n hl a b d (h _ _)
def Afa(l:List (Nat×α)):List Nat->List (Nat×α)
 |[]=>[]
 |t::r=>match get l t with
  |some v=>(t,v)::Afa l r
  |none=>Afa l r
def X9{l:List (Nat×α)}:∀ {L:List Nat}{t:Nat}{v:α},get (Afa l L) t=some v->get l t=some v
 |[],t,v,h=>by simp[Afa,get]at h
 |k::L,t,v,h=>by
  simp only[Afa]at h
  split at h
  .rename_i u c;rw[Dh]at h
   split at h
   .rename_i e;subst e;rw[c];exact h
   .exact X9 h
  .exact X9 h
def AS.keep(S:AS)(L M:List Nat):AS:={S with env:=Afa S.env L,objs:=Afa S.objs M}
def Ya(h:S'.nt=S.nt)(u:S.nx<=S'.nx)(x:∀t v,get S'.env t=some v->get S.env t=some v)(k:∀d o,get S'.objs d=some o->get S.objs d=some o):S.le S':=by
 rintro w0 N0 a w⟨μ,e⟩
 have f:∀b,b<w.heap.size->Fp N0 μ S' b->Fp N0 μ S b:=by
  rintro b _(h0|⟨d,o,c,h1,h2⟩)
  .exact .inl h0
  .exact .inr ⟨d,o,c,k d o h1,h2⟩
 have s:=Ex.refl w (Fp N0 μ S)
 refine⟨μ,⟨e.defers,by rw[h];exact e.size,e.below,e.n0,λd v n=>?_,λd o z=>?_,λd o y o' g c c' h1 h2=>e.inj d o y o' g c c' (k _ _ h1) (k _ _ h2),λt v n=>?_⟩⟩
 .rcases e.fresh d v n with h1|⟨j,hj,_⟩
  .exact .inl om
  .exact hj.elim
 .have⟨l,hl,r⟩:=e.objs d o (k _ _ z);exact⟨l,hl,r.keep s f (λ_ _ _ m=>m) (λ_ _ _=>rfl)⟩
 .have⟨h1,h2⟩:=e.env t v (x _ _ n);exact⟨by rw[h];exact h1,h2.keep s f (λ_ _ _ m=>m)⟩
def Me(S:AS)(L M:List Nat):S.le (S.keep L M):=Ya rfl (A2 _) (λ_ _ h=>X9 h) (λ_ _ h=>X9 h)
def AS.le_refl(S:AS):S.le S:=λ_ _ _ _ h=>h
theorem Z{S:AS}:S.le S:=AS.le_refl S
def AS.le_trans{c:AS}(h:S.le S1)(k:S1.le c):S.le c:=λ_ _ _ _ d=>k _ _ _ _ (h _ _ _ _ d)
end
attribute [simp] Rn Af0 V.flat1 V.flat2 K3 No eqC eqL AS.fb Gz Z2 Bko Zy Akb Abf AS.evc AS.ev get V6 AS.place V.part V.cells AS.putv Bbt Bbr Afz An9 Bbs aun AS.gd AS.evs AS.evo Md Agt Adk Nn Abe AS.elems V.setPart
attribute [simp] V.still V.pl V.plA V.pcell Adm dmV AS.viewC AS.viewL AS.view AS.views AS.args V.pureV V.pureE V.pureC V.isCell Afa AS.keep X8 Re Ko Nb V.light V.flat
def AS.bump(S:AS)(n:Nat):AS:={S with nx:=S.nx+n}
attribute [simp] AS.bump
def Aqz(P:Program)(kb:Nat)(l:List Oper)(L M:List Nat)(S:AS):Option AS:=
 match K3 P kb l 0 l S with
 |some S'=>some ((S'.bump l.length).keep L M)
 |none=>none
def Akd(P:Program)(l:List Oper)(L M:List Nat)(S:AS):Option AS:=Aqz P 0 l L M S
attribute [simp] Akd Aqz
section
def U3{id:Nat}(kb:Nat)(L M:List Nat)(hs:Aqz P kb l L M S=some S')(h:Q .normal S'):AW P w0 N0 (.region id l.toArray false) Q S:=by
 unfold Aqz at hs;split at hs
 case h_2=>cases hs
 rename_i S1 h1;cases hs;intro a w d;refine wp_mono (Cb (Q:=λe T=>e=.normal/\T=S1.bump l.length) (id:=id) (Aqx h1 ⟨rfl,by simp[AS.bump]⟩) a w d) ?_;rintro e a' w'⟨T,⟨rfl,rfl⟩,c⟩;exact⟨_,h,Me _ L M _ _ _ _ c⟩
def A6{id:Nat}(L M:List Nat)(hs:Akd P l L M S=some S')(h:Q .normal S'):AW P w0 N0 (.region id l.toArray false) Q S:=U3 0 L M hs h
def Ez{id:Nat}{c:Code}(kb:Nat)(L M:List Nat)(hs:Aqz P kb l L M S=some S')(h:AW P w0 N0 c Q S'):AW P w0 N0 (.seq (.region id l.toArray false) c) Q S:=
 J (U3 kb L M hs h)
def Y{id:Nat}{c:Code}(L M:List Nat)(hs:Akd P l L M S=some S')(h:AW P w0 N0 c Q S'):AW P w0 N0 (.seq (.region id l.toArray false) c) Q S:=
 J (A6 L M hs h)
def Ax4{c:Code}(L M:List Nat)(d:S.keep L M=S')(h:AW P w0 N0 c Q S'):AW P w0 N0 c Q S:=by
 subst d;exact T1 (Me S L M) h
def Aa(c:Ko P S fn.results.toList=some r)(h:R r):Wa P fn R .ret S:=by
 unfold Wa;simp only[c];exact h
def Au5(c:(S.bump i).le S')(h:Q .normal S'):Jb P w0 N0 ops Q i [] S:=by
 intro D a w f g;obtain⟨T,⟨_,rfl⟩,d⟩:=Ax3 (P:=P) (w0:=w0) (N0:=N0) (ops:=ops) (i:=i) (S:=S) (Q:=λe T=>e=.normal/\T=S.bump i) ⟨rfl,rfl⟩ D a w f g;exact wpList_nil ⟨S',h,c _ _ _ _ d⟩
def Ag4:∀ {l:List Oper}{i:Nat}{S S1 S':AS},K3 P kb ops i l S=some S1->(S1.bump (i+l.length)).le S'->Q .normal S'->Jb P w0 N0 ops Q i l S
 |[],i,S,S1,S',hs,d,h=>by
  simp only[K3,Am]at hs;subst hs;exact Au5 d h
 |o::c,i,S,S1,S',hs,d,h=>by
  simp only[K3]at hs;split at hs
  case h_2=>cases hs
  rename_i S2 h1;refine Adq h1 (Ag4 hs ?_ h);rw[show i+1+c.length=i+(o::c).length by simp;omega];exact d
def Oi(kb:Nat)(L M:List Nat)(hs:(match K3 P kb ops i l S with|some S1=>some ((S1.bump (i+l.length)).keep L M)|none=>none)=some S')(h:Q .normal S'):Jb P w0 N0 ops Q i l S:=by
 split at hs
 case h_2=>cases hs
 rename_i S1 h1;cases hs;exact Ag4 h1 (Me _ L M) h
def Ak(L M:List Nat)(hs:(match Z2 P ops i l S with|some S1=>some ((S1.bump (i+l.length)).keep L M)|none=>none)=some S')(h:Q .normal S'):Jb P w0 N0 ops Q i l S:=Oi 0 L M hs h
def Ax5:∀ {d l2:List Oper}{i:Nat}{S S1:AS},K3 P kb ops i d S=some S1->Jb P w0 N0 ops Q (i+d.length) l2 S1->Jb P w0 N0 ops Q i (d++l2) S
 |[],l2,i,S,S1,hs,h=>by
  simp only[K3,Am]at hs;subst hs;exact h
 |o::c,l2,i,S,S1,hs,h=>by
  simp only[K3]at hs;split at hs
  case h_2=>cases hs
  rename_i S2 h1;refine Adq h1 (Ax5 hs ?_);rw[show i+1+c.length=i+(o::c).length by simp;omega];exact h
def Qz(kb n:Nat)(hs:K3 P kb ops i (l.take n) S=some S1)(h:Jb P w0 N0 ops Q (i+(l.take n).length) (l.drop n) S1):Jb P w0 N0 ops Q i l S:=by
 have:=Ax5 (l2:=l.drop n) hs h
 rwa[Ga]at this
def C3(n:Nat)(hs:Z2 P ops i (l.take n) S=some S1)(h:Jb P w0 N0 ops Q (i+(l.take n).length) (l.drop n) S1):Jb P w0 N0 ops Q i l S:=Qz 0 n hs h
def Ef{c:List Oper}{d:FuncId}{g:Array TypeId}
  (u:AC P d vs (λr=>r=e))(j:P.funcs[d]?=some fn)(w:fn.body.isSome=true)(n:(fn.name== "runtime.NumGoroutine")=false)
  (t:o.guard=none)(m:o.op=.call {callee:=.value f,args:=args,argTypes:=g})(k:S.evc true f=some (.fn d))
  (l:S.args true args.toList=some vs)(hp:vs.all V.pureV=true)(hs:S.putv o.dst e=some S')(h:Jb P w0 N0 ops Q (i+1) c S'):Jb P w0 N0 ops Q i (o::c) S:=
 T2 t m k j w n l hp u (λr s=>by subst s;exact⟨S',hs,h⟩)
end
variable {β:Type}{Q':Exit->Act->World->Prop}{T:AS}
def Z4:Op->Bool
 |.alloc _ |.box .. |.buildSlice .. |.makeSlice .. |.store .. |.mapUpdate .. =>true
 |.call {callee:=.builtin .append,..}=>true
 |_=>false
def Sw:Op->Bool
 |.alloc _ |.box .. |.buildSlice .. |.makeSlice .. =>true
 |_=>false
def Abk:Op->Bool
 |.mapUpdate .. =>true
 |_=>false
def Vp:Op->Bool
 |.load .. =>true
 |_=>false
def AS.gv(S:AS)(ops:List Oper)(o:Oper):Option Bool:=match o.guard with|none=>some true|some (j,want)=>S.gd ops j want
def Fj(o:Oper)(c:Bool)(v:V):V:=match o.guard with|none=>v|some _=>.whn c v
def ACB(w0:Bs)(P:Program)(f:FuncId)(args:List V)(R:V->Prop):Prop:=
 ∀(w:World)(N:Nat->Prop)(xs:List Value),w0.Below w->(∀b,N b->b<w.heap.size)->xs.length=args.length->(∀(i:Nat)x v,xs[i]?=some x->args[i]?=some v->Pur w N x v)->
  Calls P f xs.toArray w (λe w'=>∃x r,e=.returned x/\R r/\Pur w' N x r/\Below w.heap.size w w')
theorem AC.b{w0:Bs}{P:Program}{f:FuncId}{args:List V}{R:V->Prop}(h:AC P f args R):ACB w0 P f args R:=fun w N xs _ h1 h2 c=>h w N xs h1 h2 c
def A4w(P:Program)(w0:Bs)(ops:List Oper)(o:Oper)(S S':AS):Prop:=
 ∃c f args g d fn vs e,S.gv ops o=some c/\o.op=.call {callee:=.value f,args:=args,argTypes:=g}/\S.evc c f=some (.fn d)/\P.funcs[d]?=some fn/\fn.body.isSome=true/\(fn.name== "runtime.NumGoroutine")=false/\
  S.args c args.toList=some vs/\vs.all V.pureV=true/\(c=true->ACB w0 P d vs (λr=>r=e))/\S.putv o.dst (Fj o c e)=some S'
def Tj(f:α->β):List (Nat×α)->List (Nat×β)
 |[]=>[]
 |(k,x)::r=>(k,f x)::Tj f r
def T3(f:α->β)(t:Nat):∀(l:List (Nat×α)),get (Tj f l) t=(get l t).map f
 |[]=>rfl
 |(k,x)::r=>by
  unfold Tj;rw[Dh,Dh,T3 f t r];split<;>rfl
def V.mset(b:Nat)(k:IntKind)(m:List (Int×V)):V->V
 |.mp b' d c=>if b'=b then .mp b' k m else .mp b' d c
 |.rm b' d c=>if b'=b then .rm b' k m else .rm b' d c
 |u=>u
def V.okM1:V->Bool
 |.mp .. |.tup _ |.whn _ _ |.rm .. =>false
 |.fc _ us vs=>us.all V.still&&vs.all V.still
 |_=>true
def V.okM:V->Bool
 |.tup vs=>vs.all V.okM1
 |.whn _ (.tup vs)=>vs.all V.okM1
 |.whn _ v=>v.okM1
 |.mp .. |.rm .. =>true
 |v=>v.okM1
def Aob:List (Nat×V)->Bool
 |[]=>true
 |(_,v)::r=>v.okM&&Aob r
def Bbw(P:Program)(w0:Bs)(o:Oper)(S S':AS):Prop:=
 ∃t m x v b k es a u e,o.guard=none/\o.dst=none/\o.op=.mapUpdate t m x v/\S.evc true m=some (.mp b k es)/\S.evc true x=some (.int k a)/\S.evc true v=some u/\u.flat0=true/\Aa6 P t=some (k,e)/\w0.free b/\
  (∀t v,get S.env t=some v->v.okM=true)/\S'= {S with env:=Tj (V.mset b k ((a,u)::es)) S.env}
def Abl(P:Program)(kb:Nat)(w0:Bs)(ops:List Oper)(i:Nat)(o:Oper)(S S':AS):Prop:=No P kb ops i o S=some S'\/A4w P w0 ops o S S'\/Bbw P w0 o S S'
section
def Lf{v:V}(h:v.isCell=true):v.okM1=true:=by cases v<;>first|rfl|exact h|simp[V.isCell]at h
def Ag5{v:V}(h:v.still=true):v.okM1=true:=by cases v<;>first|rfl|simp[V.still]at h
structure MapTurn(w w':World)(b:Nat):Prop where
 was:∃es clock,w.heap[b]?=some (.map es clock)
 size:w'.heap.size=w.heap.size
 other:∀k,k≠b->w'.heap[k]?=w.heap[k]?
def MapTurn.cell{b:Nat}(h:MapTurn w w' b){d:Addr}(f:w.cell? d=some x):w'.cell? d=some x/\d.block≠b:=by
 have c:d.block≠b:=by
  rintro rfl;have⟨es,e,g⟩:=h.was;simp[World.cell?,g]at f
 exact⟨by rw[World.cell?_of_block (w:=w) (h.other _ c)];exact f,c⟩
def Pur.mapTurn{b:Nat}(h:MapTurn w w' b){v:V}(hx:Pur w N x v):v.okM1=true->Pur w' N x v:=by
 induction hx with
 |bool b=>intro _;exact .bool b
 |int k n=>intro _;exact .int k n
 |str l=>intro _;exact .str l
 |agg xs cs u m _ ih=>intro _;exact .agg xs cs u m (λi x c h1 h2=>ih i x c h1 h2 (Lf (m c (Ar h2))))
 |tup=>intro r;simp[V.okM1]at r
 |ro A ad n aa sz es g hn y s hA o m _ ih=>
  intro _;refine .ro A ad n aa sz es g hn y s (λh0=>?_) o (λk e j c he d=>(h.cell (m k e j c he d)).1) (λk e j c he d=>ih k e j c he d (Lf ((o e (Ar he)).2 c (Ar d))));have⟨h1,h2,h3⟩:=hA h0;exact⟨h1,by rw[h.size];exact h2,h3⟩
 |nils A=>intro _;exact .nils A
 |rp ad sz e g hb ab o m _ ih=>
  intro _;exact .rp ad sz e g (by rw[h.size];exact hb) ab o (λj c d=>(h.cell (m j c d)).1) (λj c d=>ih j c d (Lf (o.2 c (Ar d))))
 |fn f=>intro _;exact .fn f
 |nilp=>intro _;exact .nilp
 |nili=>intro _;exact .nili
 |nilf=>intro _;exact .nilf
 |ifc t x v o hx _=>intro _;exact .ifc t x v o (hx.of_flat2 o)
 |mp=>intro r;simp[V.okM1]at r
 |fc f xs ys us vs u hm _ _ ih ik=>
  intro r;have z:=Bool.and_eq_true_iff.1 r;exact .fc f xs ys us vs u hm (λi x c h1 h2=>ih i x c h1 h2 (Ag5 (Ao.1 z.1 c (Ar h2)))) (λi x c h1 h2=>ik i x c h1 h2 (Ag5 (Ao.1 z.2 c (Ar h2))))
 |dm t xs cs u m _ ih=>intro _;exact .dm t xs cs u m (λi x c h1 h2=>ih i x c h1 h2 (Lf (m c (Ar h2))))
 |rm=>intro r;simp[V.okM1]at r
def Enc.mapTurn{b:Nat}(h:MapTurn w w' b){v:V}(s:Enc w N μ x v):v.okM1=true->Enc w' N μ x v:=by
 induction s with
 |pur hp=>intro l;exact .pur (hp.mapTurn h l)
 |slr d v sz len g e h1 h2 m=>intro _;exact .slr d v sz len g e h1 h2 m
 |slv d v sz A h1=>intro _;exact .slv d v sz A h1
 |ss d v sz off len g c e A h2 m r=>intro _;exact .ss d v sz off len g c e A h2 m r
 |bp d v sz k off g e h1=>intro _;exact .bp d v sz k off g e h1
 |agg xs cs n j _ ih=>intro _;exact .agg xs cs n j (λi x c h1 h2=>ih i x c h1 h2 (Lf (j c (Ar h2))))
 |tup=>intro l;simp[V.okM1]at l
 |ifc t x v j _ ih=>intro _;exact .ifc t x v j (ih (Lf j))
 |clo f xs y cs o n u j _ _ ih z=>intro _;exact .clo f xs y cs o n u j (λi x c h1 h2=>ih i x c h1 h2 (Lf (j c (.inl (Ar h2))))) (λi x c h1 h2=>z i x c h1 h2 (Lf (j c (.inr (Ar h2)))))
 |whn=>intro l;simp[V.okM1]at l
 |mr d v g e h1=>intro _;exact .mr d v g e h1
def Abm{a c:Int}{u:Value}{k:IntKind}:∀ {es:List MapEntry}{n:Nat}{p:Nat×Value},K1 a es n=some p->H3 c (es.modify (p.1-n) (λe=>{e with key:=.int k a,val:=u}))=if c=a then some u else H3 c es
 |[],n,p,h=>by simp[K1]at h
 |e::r,n,p,h=>by
  unfold K1 at h
  split at h
  .rename_i f;cases h;simp only[F4,List.modify_zero_cons,H3];have:Pc {e with key:=.int k a,val:=u}=a:=rfl;rw[this]
   by_cases d:c=a
   .subst d;simp
   .rw[I (λh=>d h.symm),I d,f,I (λh=>d h.symm)]
  .rename_i f;have g:=(Ny h).2.1;rw[show p.1-n=(p.1-(n+1))+1 by omega];simp only[List.modify_succ_cons,H3];rw[(Abm (c:=c) (u:=u) (k:=k) h)]
   by_cases d:c=a
   .subst d;simp[f]
   .simp[d]
def Ag6{a c:Int}{e:MapEntry}(f:Pc e=a):∀ {es:List MapEntry},H3 a es=none->H3 c (es++[e])=if c=a then some e.val else H3 c es
 |[],_=>by
  simp only[D8,H3,f]
  by_cases d:c=a
  .subst d;simp
  .rw[I (λh=>d h.symm),I d]
 |x::r,h=>by
  unfold H3 at h
  split at h
  .cases h
  .rename_i g;simp only[Cj,H3,(Ag6 (c:=c) f h)]
   by_cases d:c=a
   .subst d;simp[g]
   .simp[d]
def Wc{a:Int}:∀ {es:List MapEntry},H3 a es=none->∀e∈es,Pc e≠a
 |[],_,e,c=>by cases c
 |x::r,h,e,c=>by
  unfold H3 at h
  split at h
  .cases h
  .rename_i d
   rcases Bu.1 c with rfl|c
   .exact d
   .exact Wc h e c
def Aoc(k:IntKind)(a:Int)(n:Nat):Instr.sameBits n (.int k a) (.int k a)=true:=by
 cases n<;>simp[Instr.sameBits]
def Ake{t e b:Nat}{k:IntKind}{m:List (Int×V)}{a:Int}{z:Value}(hx:Enc w N μ x (.mp b k m))(hy:Enc w N μ y (.int k a))(hu:Enc w N μ z u)(hf:u.flat0=true)(ht:Aa6 P t=some (k,e)):
  ∃w',(Instr.mapUpdate t x y z).run P w=.ok () w'/\MapTurn w w' b/\x=.map (some b)/\(∀N',¬N' b->Pur w' N' x (.mp b k ((a,u)::m)))/\w'.os=w.os/\w'.tape=w.tape/\w'.output=w.output:=by
 have⟨kt,ai,hk⟩:=X6 ht
 have ao:∀w2 N2,Pur w2 N2 z u:=by
  intro w2 N2;cases hu with
  |pur hu=>exact hu.of_flat0 hf
  |_=>simp[V.flat0]at hf
 cases hy.pi;cases hx with
 |pur hx=>
 cases hx with
 |mp _ _ _ es l g hN hb ab hs hn hw hh=>
 have ad:=St (q:=k) (a:=a) es.toList 0 ab
 have turn:∀f d,MapTurn w {w with heap:=w.heap.setIfInBounds b (.map f d)} b:=λf d=>
  ⟨⟨es,l,hb⟩,by simp,λj hj=>by simp[Le];intro h;exact absurd h.symm hj⟩
 have ak:∀f d,({w with heap:=w.heap.setIfInBounds b (.map f d)}:World).heap[b]?=some (.map f d):=λf d=>by
  simp[((B3.1 hb).1)]
 have pur:∀(f:Array MapEntry)d N',¬N' b->(∀e∈f.toList,∃a,e.key=.int k a)->(∀c,H3 c f.toList=if c=a then some z else H3 c es.toList)->((f.toList.map (·.born)).Nodup/\(∀e∈f.toList,e.born<d)/\(f.toList.map Pc).Nodup)->
   Pur {w with heap:=w.heap.setIfInBounds b (.map f d)} N' (.map (some b)) (.mp b k ((a,u)::m)):=by
  intro f d N' r ax aj am
  refine .mp b k _ f d (λc=>if c=a then z else g c) r (ak f d) ax (λc v o=>?_) (λc o=>?_) am λc v o=>?_
  .unfold Hj at o;rw[aj]
   by_cases e:a=c
   .subst e;simp only[if_true,Am]at o;subst o;simp[hf]
   .rw[I e]at o;have:=hs c v o;simp only[show¬c=a from λh=>e h.symm,if_false];exact this
  .unfold Hj at o;rw[aj]
   by_cases e:a=c
   .subst e;simp at o
   .rw[I e]at o;rw[I (λh=>e h.symm)];exact hn c o
  .unfold Hj at o
   by_cases e:a=c
   .subst e;simp only[if_true,Am]at o;subst o;simp only[if_true];exact ao _ _
   .rw[I e]at o;simp only[show¬c=a from λh=>e h.symm,if_false];exact(hh c v o).of_flat0 (hs c v o).2
 cases hp:K1 a es.toList 0 with
 |none=>
  rw[hp]at ad;have af:=MapKept.run_findKey (w:=w) hk ad;have hA:=Su.1 hp
  refine⟨_,?_,turn (es.push {key:=.int k a,val:=z,born:=l}) (l+1),rfl,λN' r=>pur _ _ N' r ?_ ?_ ?_,rfl,rfl,rfl⟩
  .unfold Instr.mapUpdate;simp only[Sem.run_bind,run_underlying ai,Result.andThen_ok,MapKept.run_getObj_map hb,MapKept.run_checkKey hk (k:=.int k a) (by simp[MapKept.IsKey]),af];exact MapKept.run_setObj_map _ hb
  .intro e n;simp only[Tc,Cc,Bz]at n
   rcases n with n|rfl
   .exact ab e n
   .exact⟨a,rfl⟩
  .intro c;rw[Tc];exact Ag6 rfl hA
  .rw[Tc]
   refine⟨?_,λe n=>?_,?_⟩
   .rw[Cg,O1];refine⟨hw.1,by simp,λx hx y hy=>?_⟩;simp only[Br,Ci,Bz]at hy;obtain⟨e,n,rfl⟩:=Bc.1 hx;have:=hw.2.1 e n;omega
   .simp only[Cc,Bz]at n
    rcases n with n|rfl
    .exact Fx (hw.2.1 e n)
    .exact P4 _
   .rw[Cg,O1];refine⟨hw.2.2,by simp,λx hx y hy=>?_⟩;simp only[Br,Ci,Bz]at hy;obtain⟨e,n,rfl⟩:=Bc.1 hx;intro ar;exact Wc hA e n (ar.trans hy)
 |some p=>
  rw[hp]at ad;have⟨hA,_,e0,aa,az,au⟩:=Ny hp;simp only[Mz]at aa;have⟨s,ag⟩:=ab e0 (Ar aa);have ha:s=a:=by simpa[Pc,ag]using au
  subst ha
  have al:(es[p.1]?.map (·.key)).getD (.int k s)=.int k s:=by
   have:=sG aa
   simp[this,ag]
  have ae:(Instr.keyThatStays (.int k s) (.int k s)).run P w=.ok (.int k s) w:=by
   unfold Instr.keyThatStays;rw[Aoc];rfl
  refine⟨_,?_,turn (es.modify p.1 λe=>{e with key:=.int k s,val:=z}) l,rfl,λN' r=>pur _ _ N' r ?_ ?_ ?_,rfl,rfl,rfl⟩
  .unfold Instr.mapUpdate;simp only[Sem.run_bind,run_underlying ai,Result.andThen_ok,MapKept.run_getObj_map hb,MapKept.run_checkKey hk (k:=.int k s) (by simp[MapKept.IsKey]),(MapKept.run_findKey (w:=w) hk ad),al,ae];exact MapKept.run_setObj_map _ hb
  .intro e n;rw[Qw]at n;have⟨j,hj⟩:=De n;rw[Qg]at hj;cases hgj:es.toList[j]? with
   |none=>rw[hgj]at hj;simp at hj
   |some e1=>
    rw[hgj]at hj;simp only[Td,I0,Am]at hj
    split at hj
    .subst hj;exact⟨s,rfl⟩
    .subst hj;exact ab _ (Ar hgj)
  .intro c;rw[Qw];have:=Abm (c:=c) (u:=z) (k:=k) hp;simpa using this
  .rw[Qw]
   have hm:(es.toList.modify p.1 λe=>{e with key:=Value.int k s,val:=z}).map (·.born)=es.toList.map (·.born):=by
    apply Lu;intro i;rw[Bj,Bj,Qg];cases es.toList[i]? with
    |none=>rfl
    |some e=>simp only[Td,I0];split<;>rfl
   have aq:(es.toList.modify p.1 λe=>{e with key:=Value.int k s,val:=z}).map Pc=es.toList.map Pc:=by
    have ah:es.toList[p.1]?=some e0:=sG aa
    apply Lu;intro i;rw[Bj,Bj,Qg];cases hei:es.toList[i]? with
    |none=>rfl
    |some e=>
     simp only[Td,I0]
     split
     .rename_i an;subst an;rw[ah]at hei;cases hei;simp[Pc,ag]
     .rfl
   refine⟨by rw[hm];exact hw.1,λe n=>?_,by rw[aq];exact hw.2.2⟩;have h1:e.born∈es.toList.map (·.born):=by rw[<-hm];exact Bc.2 ⟨e,n,rfl⟩
   have⟨e',av,ay⟩:=Bc.1 h1;rw[<-ay];exact hw.2.1 e' av
def Ag7(s:Ti D w0 N0 S a w)(hi:¬D i)(hs:Abl P kb w0 ops i o S S'){K:Act->World->Prop}
  (hK:∀a' w',Ti (λj=>D j\/j=i) w0 N0 S' a' w'->K a' w'):
  if Region.wanted o (yielded ops.toArray a.tmps)=true then o.wp P a w K Q' else K (a.put o.dst undef) w:=by
 have⟨μ,s⟩:=s;have z:∀ {a' w'},RelM D w0 N0 μ S' a' w'->Ti (λj=>D j\/j=i) w0 N0 S' a' w':=λh=>⟨μ,h.more (λj hj=>.inl hj)⟩
 rcases hs with hs|⟨c,f,args,bt,a9,fn,vs,bs,aa,ho,hf,bn,hb,hn,ha,hp,hc,hs⟩|⟨t,m,x,v,b,k,es,q,u,e,hg,hd,ho,hm,hx,hv,hu,ht,bm,bg,rfl⟩
 .unfold No at hs
  split at hs
  .rename_i hg;have hw:Region.wanted o (yielded ops.toArray a.tmps)=true:=by simp[Region.wanted,hg]
   rw[Ab hw]
   split at hs
   .rename_i v hv;have⟨x,hx,ag⟩:=Abd s rfl hv;unfold Oper.wp;rw[hx];exact hK _ _ (z (s.putv hs ag))
   .have⟨x,w',ba,ak⟩:=Ag2 s hi hs;unfold Oper.wp
    rcases ba with hx|⟨hx,rfl⟩
    .rw[hx];exact hK _ _ ak
    .rw[hx];exact hK _ _ ak
  .rename_i j a5 hg;split at hs
   case h_2=>cases hs
   rename_i c hc;have ay:=X7 s hg hc;rw[ay]
   split at hs
   .rename_i v hv;cases c with
    |true=>
     rw[Ab rfl];have⟨x,hx,ag⟩:=Abd s rfl hv;unfold Oper.wp;rw[hx];exact hK _ _ (z (s.putv hs (.whn _ _ _ (λ_=>ag) (λhf=>(by cases hf)))))
    |false=>
     rw[I (by simp)];exact hK _ _ (z (s.putv hs (.whn _ _ _ (λhf=>(by cases hf)) (λ_=>rfl))))
   .split at hs
    case isFalse=>cases hs
    rename_i bd;obtain⟨rfl,_⟩:=bd;rw[I (by simp)];exact hK _ _ (z (s.putv hs (.whn _ _ _ (λhf=>(by cases hf)) (λ_=>rfl))))
 .have ay:Region.wanted o (yielded ops.toArray a.tmps)=c:=by
   unfold AS.gv at aa
   split at aa
   .rename_i hg;cases aa;simp[Region.wanted,hg]
   .rename_i j a5 hg;exact X7 s hg aa
  rw[ay];cases c with
  |false=>
   rw[I (by simp)];refine hK _ _ (z (s.putv hs ?_));unfold Fj
   split
   .rename_i hg;simp[AS.gv,hg]at aa
   .exact .whn _ _ _ (λhf=>(by cases hf)) λ_=>rfl
  |true=>
   rw[Ab rfl];have aj:=s.evc hf rfl
   have bp:a.eval f=.func (.func a9) #[] #[]:=by
    generalize a.eval f=y at aj;cases aj.pf;rfl
   have⟨h1,h2⟩:=Gc s rfl ha;unfold Oper.wp;rw[Ly ho bp bn hb hn]
   have ah:=hc rfl w (Fp N0 μ S) (args.toList.map a.eval) s.below s.own_lt Gi (λj x v hx hv=>by
    simp only[Bj,Ay]at hx;obtain⟨y,hy,rfl⟩:=hx;exact(h2 j y v hy hv).pureV (Ao.1 hp v (Ar hv)))
   have a2:(args.toList.map a.eval).toArray=args.map a.eval:=by apply Fb;simp
   rw[a2]at ah;refine ah.mono ?_;rintro e w'⟨x,r,rfl,rfl,a7,bf⟩;refine hK _ _ (z ((s.later bf).putv hs ?_));unfold Fj
   split
   .exact .pur a7
   .exact .whn _ _ _ (λ_=>.pur a7) (λhf=>(by cases hf))
 .have hw:Region.wanted o (yielded ops.toArray a.tmps)=true:=by simp[Region.wanted,hg]
  rw[Ab hw];have⟨w',a1,n,ar,am,bh,be,bl⟩:=Ake (s.evc hm rfl) (s.evc hx rfl) (s.evc hv rfl) hu ht
  have a8:¬Fp N0 μ S b:=by
   have:=s.evc hm rfl;rw[ar]at this;cases this with
   |pur hp=>cases hp with
    |mp _ _ _ _ _ _ hN=>exact hN
  unfold Oper.wp
  have ag:(execOp a.eval o).run P w=.ok .skip w':=by
   unfold execOp;rw[ho];simp only[Sem.run_bind,a1,Result.andThen_ok,Sem.run_pure]
  rw[ag];refine hK _ _ ⟨μ,?_⟩;have a6:a.put o.dst undef=a:=by rw[hd];rfl
  rw[a6];have bq:∀g,Fp N0 μ {S with env:=Tj (V.mset b k ((q,u)::es)) S.env} g↔Fp N0 μ S g:=λg=>Iff.rfl
  refine⟨s.defers,s.size,⟨bh.trans s.below.os,be.trans s.below.tape,bl.trans s.below.output,by rw[n.size];exact s.below.size,λj hj hx=>(n.other j (λe=>by subst e;rcases bm with h|h;omega;exact hx h)).trans (s.below.block j hj hx)⟩,s.n0,λd v hv=>(s.fresh d v hv).imp id (λ⟨j,hj,e⟩=>⟨j,.inl hj,e⟩),λd1 o1 h1=>?_,s.inj,λt1 v1 h1=>?_⟩
  .have⟨l,hl,al⟩:=s.objs d1 o1 h1;refine⟨l,hl,?_⟩;cases l with
   |none=>exact al
   |some gc=>
    have⟨b1,b2,b3,b4,bi,b5,b6,b7⟩:=al
    have bj:gc.1≠b:=by
     rintro rfl;have⟨br,c1,a0⟩:=n.was;rw[b5]at a0;cases a0
    refine⟨b1,b2,b3,b4,bi,(n.other _ bj).trans b5,b6,λk e j c he hj=>?_⟩;have⟨y,hy,bo⟩:=b7 k e j c he hj;exact⟨y,hy,bo.mapTurn n (Lf ((b4 e (Ar he)).2 c (Ar hj)))⟩
  .simp only[T3,Ay]at h1;obtain⟨v0,h1,rfl⟩:=h1;have⟨h2,h3⟩:=s.env t1 v0 h1;refine⟨h2,?_⟩;have ae:=bg t1 v0 h1;generalize a.tmps.getD t1 undef=tv at h3;cases v0 with
   |mp b' k' m'=>
    simp only[V.mset];cases h3 with
    |pur h3=>
     cases h3 with
     |mp _ _ _ av ax g2 aq an au af ao Sk aw=>
      by_cases ab:b'=b
      .subst ab;simp only[if_true];rw[<-ar];exact .pur (am _ a8)
      .simp only[ab,if_false];exact .pur (.mp b' k' m' av ax g2 aq ((n.other _ ab).trans an) au af ao Sk (λc v hc=>(aw c v hc).of_flat0 (af c v hc).2))
   |rm b' k' m'=>
    simp only[V.mset];cases h3 with
    |pur h3=>
     cases h3 with
     |rm ad _ _ _ a3 az bk h4=>
     have⟨a4,_⟩:=n.cell bk;cases h4 with
     |mp _ _ _ av ax g2 aq an au af ao Sk aw=>
      by_cases ab:b'=b
      .subst ab;simp only[if_true];refine .pur (.rm ad b' k _ (by rw[n.size];exact a3) az a4 ?_);have h5:=am _ a8;rw[ar]at h5;exact h5
      .simp only[ab,if_false];exact .pur (.rm ad b' k' m' (by rw[n.size];exact a3) az a4 (.mp b' k' m' av ax g2 aq ((n.other _ ab).trans an) au af ao Sk (λc v hc=>(aw c v hc).of_flat0 (af c v hc).2)))
   |tup vs=>
    simp only[V.mset]
    have ai:∀xs:List Value,xs.length=vs.length->(∀(i:Nat)x c,xs[i]?=some x->vs[i]?=some c->Enc w (Fp N0 μ S) μ x c)->Enc w' (Fp N0 μ S) μ (.tuple xs.toArray) (.tup vs):=λxs hl hh=>
     .tup xs vs hl (λi x c h1 h2=>(hh i x c h1 h2).mapTurn n (Ao.1 ae c (Ar h2)))
    cases h3 with
    |pur h3=>cases h3 with
     |tup xs _ hl hh=>exact ai xs hl (λi x c a b=>.pur (hh i x c a b))
    |tup xs _ hl hh=>exact ai xs hl hh
   |whn c0 v1=>
    simp only[V.mset];cases h3 with
    |pur h3=>cases h3
    |whn _ _ _ hh bc=>
     refine .whn _ _ _ (λbb=>?_) bc;have h4:=hh bb;cases v1 with
     |tup vs=>
      have ai:∀xs:List Value,xs.length=vs.length->(∀(i:Nat)x c,xs[i]?=some x->vs[i]?=some c->Enc w (Fp N0 μ S) μ x c)->Enc w' (Fp N0 μ S) μ (.tuple xs.toArray) (.tup vs):=λxs hl hh=>
       .tup xs vs hl (λi x c h1 h2=>(hh i x c h1 h2).mapTurn n (Ao.1 ae c (Ar h2)))
      cases h4 with
      |pur h4=>cases h4 with
       |tup xs _ hl hh=>exact ai xs hl (λi x c a b=>.pur (hh i x c a b))
      |tup xs _ hl hh=>exact ai xs hl hh
     |_=>exact h4.mapTurn n (by first|rfl|exact ae)
   |_=>exact h3.mapTurn n (by first|rfl|exact ae)
def Aod{c:List Oper}(hs:Abl P kb w0 ops i o S S')(h:Jb P w0 N0 ops Q (i+1) c S'):Jb P w0 N0 ops Q i (o::c) S:=by
 intro D a w f k;have n:¬D i:=λl=>absurd (f i l) om
 refine wpList_step λK g=>Ag7 k n hs (λm w' e=>g _ _ (h _ m w' (λj d=>?_) e))
 rcases d with d|d
 .have:=f j d;omega
 .omega
def AS.ap(S:AS)(dst:Option Nat)(u:V)(O:List (Nat×Ob)):AS:={S with env:=(match dst with|some d=>(d,u)::S.env|none=>S.env),objs:=O++S.objs}
def K4{dst:Option Nat}(h:S.putv dst u=some S'):S'=S.ap dst u []/\∀d,dst=some d->d<S.nt:=by
 unfold AS.putv at h
 split at h
 .split at h
  .rename_i e;cases h;exact⟨rfl,λd' c=>by cases c;exact e⟩
  .cases h
 .cases h;exact⟨rfl,λd e=>by cases e⟩
def Mf{dst:Option Nat}(u:V)(h:∀d,dst=some d->d<S.nt):S.putv dst u=some (S.ap dst u []):=by
 unfold AS.putv;cases dst with
 |none=>rfl
 |some d=>simp only[h d rfl,if_true];rfl
def Oj(ops:List Oper)(o:Oper)(S T:AS):Prop:=(∀t∈o.looksAt ops.toArray,get S.env t=get T.env t)/\S.nt=T.nt/\S.nx=T.nx
def Oj.ev(h:Oj ops o S T){x:Operand}(c:x∈o.op.operands):S.ev x=T.ev x:=by
 cases x with
 |tmp t=>
  refine h.1 t ?_;unfold Oper.looksAt;refine L9 _ (List.mem_filterMap.2 ⟨.tmp t,by simpa using c,rfl⟩)
 |_=>rfl
def Oj.evc(h:Oj ops o S T){x:Operand}(d:x∈o.op.operands)(c:Bool):S.evc c x=T.evc c x:=by
 unfold AS.evc;rw[h.ev d]
def Oj.gv(h:Oj ops o S T):S.gv ops o=T.gv ops o:=by
 unfold AS.gv
 split
 .rfl
 .rename_i j c f;unfold AS.gd;cases ho:ops[j]? with
  |none=>rfl
  |some e=>
   simp only;cases hd:e.dst with
   |none=>rfl
   |some d=>
    simp only
    have:=h.1 d (by
     unfold Oper.looksAt;refine Pl _ ?_;rw[f];simp[ho,hd])
    rw[this]
def Adr{c:Bool}:∀ {l:List (Nat×Operand)},(∀p∈l,S.evc c p.2=T.evc c p.2)->S.evs c l=T.evs c l
 |[],_=>rfl
 |(i,x)::r,h=>by
  simp only[AS.evs];rw[h (i,x) sm,Adr (λp hp=>h p Gi)]
def Jh{c:Bool}:∀ {l:List Operand},(∀x∈l,S.evc c x=T.evc c x)->S.args c l=T.args c l
 |[],_=>rfl
 |x::r,h=>by
  simp only[AS.args];rw[h x sm,Jh (λp hp=>h p Gi)]
def Alk{c:Bool}{x:Option Operand}(h:∀y,x=some y->S.evc c y=T.evc c y):S.evo c x=T.evo c x:=by
 cases x with
 |none=>rfl
 |some y=>simp only[AS.evo];rw[h y rfl]
def Z5(h:Oj ops o S T){c:Bool}{v:V}(aa:Vp o.op=true->∀p r,S.place p=some r->T.place p=some r)(d:Zy P S c o.op=some v):Zy P T c o.op=some v:=by
 have j:=λx(w:x∈o.op.operands)(c:Bool)=>h.evc w c
 clear h;generalize o.op=op at*;cases op<;>simp only[Zy]at d|-<;>(try(cases d;done))
 case move x=>rw[<-j x (by simp[Op.operands])];exact d
 case assign x=>rw[<-j x (by simp[Op.operands])];exact d
 case pick x y z=>simp only[<-j x (by simp[Op.operands]),<-j y (by simp[Op.operands]),<-j z (by simp[Op.operands])];exact d
 case load t x=>
  rw[<-j x (by simp[Op.operands])]
  split at d
  .exact d
  .rename_i p ab hp;split at d
   case h_2=>cases d
   rename_i e off n g h1 h2 h3;simp only[aa rfl _ _ h1,h2,h3];exact d
  .cases d
 case nilCheck x=>rw[<-j x (by simp[Op.operands])];exact d
 case binOp op t x y yt=>rw[<-j x (by simp[Op.operands]),<-j y (by simp[Op.operands])];exact d
 case unOp op t x=>rw[<-j x (by simp[Op.operands])];exact d
 case convert src dst x=>rw[<-j x (by simp[Op.operands])];exact d
 case fieldAddr t x f=>rw[<-j x (by simp[Op.operands])];exact d
 case field t x f=>rw[<-j x (by simp[Op.operands])];exact d
 case indexAddr t x i=>rw[<-j x (by simp[Op.operands]),<-j i (by simp[Op.operands])];exact d
 case index t x i=>rw[<-j x (by simp[Op.operands]),<-j i (by simp[Op.operands])];exact d
 case extract x i=>rw[<-j x (by simp[Op.operands])];exact d
 case makeInterface t x=>rw[<-j x (by simp[Op.operands])];exact d
 case typeAssert x xt at_ ok=>rw[<-j x (by simp[Op.operands])];exact d
 case makeFunc fv first caps=>
  cases fv with
  |func f=>
   simp only at d|-;rw[<-Jh (S:=S) (T:=T) (c:=c) (l:=first.toList) (λx w=>j x (by simp[Op.operands];left;simpa using w) c),<-Jh (S:=S) (T:=T) (c:=c) (l:=caps.toList) (λx w=>j x (by simp[Op.operands];right;simpa using w) c)];exact d
  |_=>simp only at d;cases d
 case lookup t x i ok=>rw[<-j x (by simp[Op.operands]),<-j i (by simp[Op.operands])];exact d
 case slice t x lo hi mx=>
  cases mx with
  |some m=>simp only at d;cases d
  |none=>
   simp only at d|-;rw[<-j x (by simp[Op.operands]),<-Alk (S:=S) (T:=T) (c:=c) (x:=lo) (λy hy=>j y (by simp[Op.operands,hy]) c),<-Alk (S:=S) (T:=T) (c:=c) (x:=hi) (λy hy=>j y (by simp[Op.operands,hy]) c)];exact d
 case build t parts=>
  rw[<-Adr (S:=S) (T:=T) (c:=c) (l:=parts.toList) (λp hp=>j p.2 (by simp[Op.operands];exact⟨p.1,by simpa using hp⟩) c)];exact d
 case call cl=>
  have⟨k,args,u⟩:=cl;cases k with
  |value f=>cases d
  |invoke r m=>cases d
  |builtin b=>
  cases b<;>simp only at d|-<;>try(cases d;done)
  case min=>
   split at d
   case h_2=>cases d
   rename_i x y s;rw[<-j x (by simp[Op.operands,Call.operands];rw[<-Hc,s];simp),<-j y (by simp[Op.operands,Call.operands];rw[<-Hc,s];simp)];exact d
  case max=>
   split at d
   case h_2=>cases d
   rename_i x y s;rw[<-j x (by simp[Op.operands,Call.operands];rw[<-Hc,s];simp),<-j y (by simp[Op.operands,Call.operands];rw[<-Hc,s];simp)];exact d
  split at d
  case h_2=>cases d
  rename_i x t s ht;rw[<-j x (by simp[Op.operands,Call.operands];rw[<-Hc,s];simp)];exact d
def Oj.symm(h:Oj ops o S T):Oj ops o T S:=⟨λt c=>(h.1 t c).symm,h.2.1.symm,h.2.2.symm⟩
def A0u(h:Oj ops o S T){c:Bool}(d:S.fb c o.op=true)(e:Zy P S c o.op=none):Zy P T c o.op=none/\T.fb c o.op=true:=by
 cases hl:Vp o.op with
 |false=>
  refine⟨?_,?_⟩
  .cases hT:Zy P T c o.op with
   |none=>rfl
   |some v=>
    have:=Z5 h.symm (λj=>by rw[hl]at j;cases j) hT;rw[e]at this;cases this
  .generalize o.op=op at*;cases op<;>first|rfl|simp[Vp]at hl
 |true=>
  have l:=λx(f:x∈o.op.operands)(c:Bool)=>h.evc f c
  generalize o.op=op at*;cases op<;>first|(simp[Vp]at hl;done)|skip
  case load t x=>
  simp only[AS.fb]at d|-;simp only[Zy];rw[<-(l x (by simp[Op.operands]) c)];refine⟨?_,d⟩
  split
  .rename_i b k m hp;simp only[Zy,hp]at e;exact e
  .rename_i p g hp;rw[hp]at d;cases p<;>first|(simp at d;done)|rfl|exact absurd rfl (g _ _ _)
  .rfl
def Afb(h:∀d,get S.objs d=get T.objs d)(p:V):S.elems p=T.elems p:=by
 cases p<;>simp only[AS.elems]<;>rw[h]
def Sx(h:∀d,get S.objs d=get T.objs d)(p:V):S.place p=T.place p:=by
 cases p<;>simp only[AS.place]<;>rw[h]
def Sy(h:Oj ops o S T)(ab:∀d,get S.objs d=get T.objs d){O:List (Nat×Ob)}{v:V}(g:Abf P i S o.dst kd o.op=some (O,v)):
  ∃d ob,O=(d,ob)::S.objs/\Abf P i T o.dst kd o.op=some ((d,ob)::T.objs,v)/\(Sw o.op=true->o.dst.isSome=true/\d=kd):=by
 have he:=λx(hx:x∈o.op.operands)(c:Bool)=>h.evc hx c
 have w:=h.2.2;clear h;generalize o.op=op,o.dst=dst at*;cases op<;>simp only[Abf]at g|-<;>(try(cases g;done))
 case alloc t=>
  split at g
  case h_2=>cases g
  rename_i d z n h1 h2;simp only[Am,Bw]at g;obtain⟨rfl,rfl⟩:=g;exact⟨kd,_,rfl,by simp only[w],λ_=>⟨rfl,rfl⟩⟩
 case box t x=>
  split at g
  case h_2=>cases g
  rename_i d z h2;split at g
  case isFalse=>cases g
  rename_i ai;simp only[Am,Bw]at g;obtain⟨rfl,rfl⟩:=g;rw[he x (by simp[Op.operands])]at h2;exact⟨kd,_,rfl,by simp only[h2,ai,if_true,w],λ_=>⟨rfl,rfl⟩⟩
 case buildSlice t len parts=>
  split at g
  case h_2=>cases g
  rename_i d te vs h2 h3;split at g
  case h_2=>cases g
  rename_i z n h4 h5;split at g
  case isFalse=>cases g
  rename_i h6;split at g
  case h_2=>cases g
  rename_i es h7;simp only[Am,Bw]at g;obtain⟨rfl,rfl⟩:=g;rw[Adr (S:=S) (T:=T) (c:=true) (l:=parts.toList) (λp hp=>he p.2 (by simp[Op.operands];exact⟨p.1,by simpa using hp⟩) true)]at h3;exact⟨kd,_,rfl,by simp only[h2,h3,h4,h5,Ab h6,h7,w],λ_=>⟨rfl,rfl⟩⟩
 case makeSlice t l c=>
  split at g
  case h_2=>cases g
  rename_i d te k1 lv k2 cv h2 h3 h4;split at g
  case h_2=>cases g
  rename_i z n b h5 h6 h7;split at g
  case isFalse=>cases g
  rename_i h8;simp only[Am,Bw]at g;obtain⟨rfl,rfl⟩:=g;rw[he l (by simp[Op.operands])]at h3;rw[he c (by simp[Op.operands])]at h4;exact⟨kd,_,rfl,by simp only[h2,h3,h4,h5,h6,h7,Ab h8,w],λ_=>⟨rfl,rfl⟩⟩
 case store t x y=>
  split at g
  case h_2=>cases g
  rename_i d v' sz k off u n h1 h2 h3;split at g
  case h_2=>cases g
  rename_i ob j;split at g
  case isFalse=>cases g
  rename_i h4;split at g
  case h_2=>cases g
  rename_i e h5;split at g
  case isFalse=>cases g
  rename_i h6;simp only[Am,Bw]at g;obtain⟨rfl,rfl⟩:=g;rw[he x (by simp[Op.operands])]at h1;rw[he y (by simp[Op.operands])]at h2;rw[ab]at j;exact⟨d,_,rfl,by simp only[h1,h2,h3,j,Ab h4,h5,Ab h6],λhm=>by simp[Sw]at hm⟩
 case call cl=>
  have⟨ad,args,ae⟩:=cl;cases ad with
  |value f=>cases g
  |invoke r m=>cases g
  |builtin b=>
  cases b<;>simp only at g|-<;>try(cases g;done)
  split at g
  case h_2=>cases g
  rename_i s x t t' dd ha ht;have ah:=he s (by simp[Op.operands,Call.operands];rw[<-Hc,ha];simp) true;have af:=he x (by simp[Op.operands,Call.operands];rw[<-Hc,ha];simp) true
  split at g
  .rename_i aa;split at g
   case h_2=>cases g
   rename_i sv xv te h1 h2 h3;split at g
   case h_2=>cases g
   rename_i ak aj n b h4 h5 h6;rw[ah]at h1;rw[af]at h2;rw[Afb ab]at h4
   split at g
   .rename_i d v' sz len;split at g
    case h_2=>cases g
    rename_i ob j;split at g
    case isFalse=>cases g
    rename_i hb;simp only[Am,Bw]at g;obtain⟨rfl,rfl⟩:=g;rw[ab]at j;exact⟨d,_,rfl,by simp only[Ab aa,h1,h2,h3,h4,h5,h6,j,Ab hb,w],λhm=>by simp[Sw]at hm⟩
   .split at g
    case isFalse=>cases g
    rename_i hb;simp only[Am,Bw]at g;obtain⟨rfl,rfl⟩:=g;exact⟨kd,_,rfl,by simp only[Ab aa,h1,h2,h3,h4,h5,h6,Ab hb,w],λhm=>by simp[Sw]at hm⟩
   .cases g
  .rename_i aa;split at g
   case isFalse=>cases g
   rename_i ag;split at g
   case h_2=>cases g
   rename_i sv l te h1 h2 h3;split at g
   case h_2=>cases g
   rename_i h5;rw[ah]at h1;rw[af]at h2
   split at g
   .rename_i d v' sz len;split at g
    case h_2=>cases g
    rename_i ob j;split at g
    case isFalse=>cases g
    rename_i hb;simp only[Am,Bw]at g;obtain⟨rfl,rfl⟩:=g;rw[ab]at j;exact⟨d,_,rfl,by simp only[I aa,Ab ag,h1,h2,h3,h5,j,Ab hb,w],λhm=>by simp[Sw]at hm⟩
   .split at g
    case isFalse=>cases g
    rename_i hb;simp only[Am,Bw]at g;obtain⟨rfl,rfl⟩:=g;exact⟨kd,_,rfl,by simp only[I aa,Ab ag,h1,h2,h3,h5,Ab hb,w],λhm=>by simp[Sw]at hm⟩
   .cases g
def All{e:Op}(h:Z4 e=false)(i:Nat)(S:AS)(dst:Option Nat)(g:Nat):Abf P i S dst g e=none:=by
 cases e<;>first|rfl|(simp[Z4]at h;done)|skip
 case call cl=>
  have⟨c,args,d⟩:=cl;cases c with
  |value f=>rfl
  |invoke r m=>rfl
  |builtin b=>cases b<;>first|rfl|simp[Z4]at h
def A4x{g:Op}(h:Z4 g=true)(S:AS)(c:Bool):Zy P S c g=none:=by
 cases g<;>first|rfl|(simp[Z4]at h;done)|skip
 case call cl=>
  have⟨d,args,e⟩:=cl;cases d with
  |value f=>rfl
  |invoke r m=>rfl
  |builtin b=>cases b<;>first|rfl|simp[Z4]at h
def Alm(hs:Abl P kb w0 ops i o S S')(h:Abk o.op=false\/o.guard≠none):
  ∃u O,S'=S.ap o.dst u O/\(Z4 o.op=false->O=[])/\(Sw o.op=true->∀d ob,(d,ob)∈O->∃e,o.dst=some e/\d=kb+e)/\
   ∀T,Oj ops o S T->(Z4 o.op=true->∀d,get S.objs d=get T.objs d)->(Vp o.op=true->∀p r,S.place p=some r->T.place p=some r)->Abl P kb w0 ops i o T (T.ap o.dst u O):=by
 rcases hs with hs|⟨c,f,args,ai,am,fn,vs,ae,an,ho,hf,ak,hb,hn,ha,hp,hc,hs⟩|⟨t,m,x,v,b,k,es,q,u,e,s,hd,ho,_⟩
 .have ax:=hs;unfold No at hs
  split at hs
  .rename_i s
   split at hs
   .rename_i v hv;have⟨h1,h2⟩:=K4 hs;refine⟨v,[],h1,λ_=>rfl,λ_ d ob y=>(by simp at y),λT g _ w=>.inl ?_⟩;unfold No;rw[s];simp only[Z5 g w hv];exact Mf v (λd hd=>by rw[<-g.2.1];exact h2 d hd)
   .rename_i hv
    have n:Z4 o.op=true:=by
     cases h0:Z4 o.op with
     |true=>rfl
     |false=>
      unfold Akb at hs;rw[All h0]at hs;cases hs
    unfold Akb at hs;split at hs
    case h_2=>cases hs
    rename_i O v l;have⟨h1,h2⟩:=K4 hs;obtain⟨d,ob,rfl,_,aw⟩:=Sy (ops:=ops) (T:=S) ⟨λ_ _=>rfl,rfl,rfl⟩ (λ_=>rfl) l
    refine⟨v,[(d,ob)],by rw[h1];rfl,λh0=>(by rw[n]at h0;cases h0),λy d' aj z=>?_,λT g au _=>.inl ?_⟩
    .simp at z;have⟨m1,m2⟩:=aw y;have⟨e,he⟩:=Cv.1 m1;exact⟨e,he,by rw[z.1,m2,he];rfl⟩
    .unfold No;rw[s];simp only[A4x n];have⟨d',aj,he,ag,_⟩:=Sy g (au n) l;injection he with he _;injection he with he1 he2;subst he1 he2;unfold Akb;simp only[ag]
     have aq:∀d1,o.dst=some d1->d1<({T with objs:=(d,ob)::T.objs}:AS).nt:=λd1 ar=>by
      have:=h2 d1 ar;simp only at this|-;rw[<-g.2.1];exact this
     have:=Mf (S:={T with objs:=(d,ob)::T.objs}) v aq;rw[this];rfl
  .rename_i j aa s;split at hs
   case h_2=>cases hs
   rename_i c hc;have ab:S.gv ops o=some c:=by simp only[AS.gv,s];exact hc
   split at hs
   .rename_i v hv;have⟨h1,h2⟩:=K4 hs;refine⟨.whn c v,[],h1,λ_=>rfl,λ_ d ob y=>(by simp at y),λT g _ w=>.inl ?_⟩;have ad:T.gd ops j aa=some c:=by have:=g.gv;rw[ab]at this;simp only[AS.gv,s]at this;exact this.symm
    unfold No;rw[s];simp only[ad,Z5 g w hv];exact Mf _ (λd hd=>by rw[<-g.2.1];exact h2 d hd)
   .rename_i hv;split at hs
    case isFalse=>cases hs
    rename_i ao;obtain⟨rfl,al⟩:=ao;have⟨h1,h2⟩:=K4 hs;refine⟨.whn false (.bool true),[],h1,λ_=>rfl,λ_ d ob y=>(by simp at y),λT g _ w=>?_⟩;have ad:T.gd ops j aa=some false:=by have:=g.gv;rw[ab]at this;simp only[AS.gv,s]at this;exact this.symm
    have⟨av,ah⟩:=A0u g al hv;refine .inl ?_;unfold No;rw[s];simp only[ad,av,ah,and_self,if_true];exact Mf _ (λd hd=>by rw[<-g.2.1];exact h2 d hd)
 .have⟨h1,h2⟩:=K4 hs;refine⟨Fj o c ae,[],h1,λ_=>rfl,λ_ d ob y=>(by simp at y),λT g _ _=>.inr (.inl ?_)⟩
  have af:∀x∈args.toList,x∈o.op.operands:=λx hx=>by
   rw[ho];simp[Op.operands,Call.operands]
   right;simpa using hx
  refine⟨c,f,args,ai,am,fn,vs,ae,by rw[<-g.gv];exact an,ho,?_,ak,hb,hn,?_,hp,hc,Mf _ (λd hd=>by rw[<-g.2.1];exact h2 d hd)⟩
  .rw[<-g.evc (by rw[ho];simp[Op.operands,Call.operands])];exact hf
  .rw[<-Jh (S:=S) (T:=T) (λx hx=>g.evc (af x hx) c)];exact ha
 .rcases h with h|h
  .rw[ho]at h;cases h
  .exact absurd s h
end
variable {K:AS->Prop}{X ks:List Nat}
def AS.eqv(S T:AS):Prop:=(∀t,get S.env t=get T.env t)/\(∀d,get S.objs d=get T.objs d)/\S.nx=T.nx/\S.nt=T.nt
def AS.eqv.le(h:S.eqv T):S.le T:=Ya h.2.2.2.symm (by rw[h.2.2.1];exact A2 _) (λt v e=>by rw[h.1];exact e) (λd o c=>by rw[h.2.1];exact c)
def Ag8{l r:List (Nat×α)}(h:∀t,get l t=get r t):∀(O:List (Nat×α))(t:Nat),get (O++l) t=get (O++r) t
 |[],t=>h t
 |(k,x)::O,t=>by
  simp only[Cj,Dh];rw[Ag8 h O t]
def Au6(h:S.eqv T)(dst:Option Nat)(u:V)(O:List (Nat×Ob)):(S.ap dst u O).eqv (T.ap dst u O):=by
 refine⟨λt=>?_,λd=>Ag8 h.2.1 O d,h.2.2.1,h.2.2.2⟩;cases dst with
 |none=>exact h.1 t
 |some d=>simp only[AS.ap,Dh];rw[h.1 t]
section
def Aq0:∀ {l:List (Nat×V)},Aob l=true->∀t v,get l t=some v->v.okM=true
 |[],_,t,v,h=>by simp[get]at h
 |(k,x)::l,d,t,v,c=>by
  simp only[Aob,Be]at d;rw[Dh]at c
  split at c
  .cases c;exact d.1
  .exact Aq0 d.2 t v c
def A4y(hs:Abl P kb w0 ops i o S S')(h:S.eqv T):∃T',Abl P kb w0 ops i o T T'/\S'.eqv T':=by
 by_cases l:Abk o.op=false\/o.guard≠none
 .obtain⟨u,O,rfl,_,_,g⟩:=Alm hs l;exact⟨_,g T ⟨λt _=>h.1 t,h.2.2.2,h.2.2.1⟩ (λ_=>h.2.1) (λ_ p r hp=>by rw[<-Sx (S:=S) (T:=T) h.2.1];exact hp),Au6 h _ _ _⟩
 .have d:∀x,S.evc true x=T.evc true x:=λx=>by
   have:S.ev x=T.ev x:=by
    cases x with
    |tmp t=>exact h.1 t
    |_=>rfl
   unfold AS.evc;rw[this]
  rcases hs with hs|⟨c,f,args,ab,_,_,_,_,_,w,_⟩|⟨t,m,x,v,b,k,es,q,u,e,hg,hd,w,n,hx,z,hu,ht,aa,s,rfl⟩
  .exfalso
   have y:o.guard=none:=by
    cases hg:o.guard with
    |none=>rfl
    |some p=>exact absurd (.inr (by rw[hg];simp)) l
   have j:¬Abk o.op=false:=λh=>l (.inl h)
   cases hop:o.op<;>rw[hop]at j<;>first|(exact j rfl)|skip
   unfold No at hs;rw[y]at hs;simp only[hop,Zy,Akb,Abf]at hs;cases hs
  .exact absurd (.inl (by rw[w];rfl)) l
  .refine⟨{T with env:=Tj (V.mset b k ((q,u)::es)) T.env},.inr (.inr ⟨t,m,x,v,b,k,es,q,u,e,hg,hd,w,by rw[<-d];exact n,by rw[<-d];exact hx,by rw[<-d];exact z,hu,ht,aa,λt v z=>s t v (by rw[h.1];exact z),rfl⟩),λt=>?_,h.2.1,h.2.2.1,h.2.2.2⟩;rw[T3,T3,h.1]
def blk(ops:List Oper)(c:Array Bool)(i:Nat):List Nat:=
 (List.range ops.length).foldl (λB j=>if c.getD j true then B else(match ops[j]? with
  |some d=>if d.after.any (λe=>Region.binds .any e&&(e.on==i||B.contains e.on))then j::B else B
  |none=>B)) []
def Bgv(ops:List Oper)(c:Array Bool)(i:Nat)(B:List Nat):Bool:=
 B.all λj=> !c.getD j true&&(match ops[j]? with
  |some d=>d.after.any (λe=>Region.binds .any e&&(e.on==i||B.contains e.on))
  |none=>false)
def A4z(ops:List Oper)(c:Array Bool)(i:Nat)(B:List Nat):Prop:=
 ∀j∈B,c.getD j true=false/\∃d,ops[j]?=some d/\∃e∈d.after,Region.binds .any e=true/\(e.on=i\/e.on∈B)
theorem Au7{ops:List Oper}{c:Array Bool}{i:Nat}{B:List Nat}(h:Bgv ops c i B=true):A4z ops c i B:=by
 intro j l;have h1:=Ao.1 h j l;simp only[Be,Ht]at h1;refine⟨h1.1,?_⟩;have h2:=h1.2
 split at h2
 .rename_i g d;have⟨e,k,f⟩:=Array.any_eq_true'.1 h2;simp only[Be,I1,beq_iff_eq]at f;exact⟨g,d,e,k,f.1,f.2.imp id (λh=>by simpa using h)⟩
 .cases h2
def Wd(ops:List Oper):Bool:=(List.range ops.length).all λj=>(List.range ops.length).all λk=>j==k||(match ops[j]?,ops[k]? with
 |some c,some ok=> !Sw c.op|| !Sw ok.op||c.dst != ok.dst
 |_,_=>true)
def A0v(h:Wd ops=true){j:Nat}{c ok:Oper}(f:ops[j]?=some c)(e:ops[k]?=some ok)(g:Sw c.op=true)(d:Sw ok.op=true)(l:c.dst=ok.dst):j=k:=by
 have h1:=Ao.1 (Ao.1 h j (Kv.2 (Al.1 f).1)) k (Kv.2 (Al.1 e).1);simp only[f,e,g,d,l,Bool.not_true,bne_self_eq_false,Bool.or_false,beq_iff_eq]at h1;exact h1
def Abn(P:Program)(kb:Nat)(ops:List Oper)(i:Nat)(o:Oper)(S S':AS):Prop:=
 ∃j c O v,o.guard=some (j,c)/\S.gd ops j c=some true/\Abf P i S o.dst (kb+o.dst.getD 0) o.op=some (O,v)/\({S with objs:=O}:AS).putv o.dst (.whn true v)=some S'
def Abo(P:Program)(w0:Bs)(ops:List Oper)(i:Nat)(o:Oper)(S S':AS):Prop:=
 ∀(N0:Nat->Prop)(D:Nat->Prop)(a:Act)(w:World),Ti D w0 N0 S a w->¬D i->(∀j,D j->j<ops.length)->∀(K:Act->World->Prop)(Q':Exit->Act->World->Prop),(∀c w',Ti (λj=>D j\/j=i) w0 N0 S' c w'->K c w')->
  if Region.wanted o (yielded ops.toArray a.tmps)=true then o.wp P a w K Q' else K (a.put o.dst undef) w
def U4(P:Program)(w0:Bs)(ops:List Oper)(i:Nat)(o:Oper)(S S':AS):Prop:=
 ∃u O,S'=S.ap o.dst u O/\∀T,Oj ops o S T->(∀d,get S.objs d=get T.objs d)->Abo P w0 ops i o T (T.ap o.dst u O)
def Yb(P:Program)(w0:Bs)(ops:List Oper)(i:Nat)(o:Oper)(Q:Exit->AS->Prop)(S:AS):Prop:=
 ∀T,Oj ops o S T->(∀d,get S.objs d=get T.objs d)->∀(N0:Nat->Prop)(D:Nat->Prop)(a:Act)(w:World),Ti D w0 N0 T a w->¬D i->(∀j,D j->j<ops.length)->
  Region.wanted o (yielded ops.toArray a.tmps)=true/\∀(K:Act->World->Prop),o.wp P a w K (post w0 N0 Q)
def Lb(P:Program)(kb:Nat)(w0:Bs)(X:List Nat)(ops:List Oper)(i:Nat)(o:Oper)(S S':AS):Prop:=Abl P kb w0 ops i o S S'\/Abn P kb ops i o S S'\/(i∈X/\U4 P w0 ops i o S S')
def Z6(X:List Nat)(j:Nat)(o:Oper):Bool:=Z4 o.op||X.contains j
def Ag9(X:List Nat)(j:Nat)(o:Oper):Bool:=Sw o.op&& !X.contains j
def RelM.whn{dst:Option Nat}{v:V}(h1:S.putv dst v=some S1)(h2:S.putv dst (.whn true v)=some S')(h:RelM D w0 N0 μ S1 a w):RelM D w0 N0 μ S' a w:=by
 obtain⟨rfl,_⟩:=K4 h1;obtain⟨rfl,_⟩:=K4 h2;refine⟨h.defers,h.size,h.below,h.n0,h.fresh,h.objs,h.inj,λt u c=>?_⟩;cases dst with
 |none=>exact h.env t u c
 |some d=>
  simp only[AS.ap,Dh]at c
  by_cases e:d=t
  .rw[Ab e]at c;cases c;have:=h.env t v (by simp only[AS.ap,Dh];rw[Ab e]);exact⟨this.1,.whn _ _ _ (λ_=>this.2) (λf=>by cases f)⟩
  .rw[I e]at c;exact h.env t u (by simp only[AS.ap,Dh];rw[I e];exact c)
def Au8(hs:Abn P kb ops i o S S'):Abo P w0 ops i o S S':=by
 intro N0 D a w g t _ K Q' m;have⟨j,n,O,v,s,r,k,d⟩:=hs;have⟨μ,g⟩:=g;rw[X7 g s r,Ab rfl];have⟨h1,h2⟩:=K4 d
 have f:Akb P i S o.dst (kb+o.dst.getD 0) o.op=some (({S with objs:=O}:AS).ap o.dst v []):=by
  unfold Akb;simp only[k];exact Mf v h2
 have⟨x,w',h,μ',e⟩:=Ag2 g t f;have c:Ti (λj=>D j\/j=i) w0 N0 S' (a.put o.dst x) w':=⟨μ',e.whn (Mf v h2) d⟩;unfold Oper.wp
 rcases h with l|⟨l,rfl⟩
 .rw[l];exact m _ _ c
 .rw[l];exact m _ _ c
def We(f:Ti D w0 N0 S a w)(g:¬D i)(d:∀j,D j->j<ops.length)(hs:Lb P kb w0 X ops i o S S'){K:Act->World->Prop}
  (e:∀h w',Ti (λj=>D j\/j=i) w0 N0 S' h w'->K h w'):
  if Region.wanted o (yielded ops.toArray a.tmps)=true then o.wp P a w K Q' else K (a.put o.dst undef) w:=by
 rcases hs with hs|hs|⟨_,hs⟩
 .exact Ag7 f g hs e
 .exact Au8 hs N0 D a w f g d K Q' e
 .obtain⟨u,O,rfl,c⟩:=hs;exact c S ⟨λ_ _=>rfl,rfl,rfl⟩ (λ_=>rfl) N0 D a w f g d K Q' e
def Aha(hs:Abn P kb ops i o S S'):∃d ob v,S'=S.ap o.dst (.whn true v) [(d,ob)]/\Z4 o.op=true/\(Sw o.op=true->∃e,o.dst=some e/\d=kb+e)/\
  ∀T,Oj ops o S T->(∀d,get S.objs d=get T.objs d)->Abn P kb ops i o T (T.ap o.dst (.whn true v) [(d,ob)]):=by
 have⟨j,f,O,v,t,hc,c,k⟩:=hs;have⟨h1,h2⟩:=K4 k;obtain⟨d,ob,rfl,_,u⟩:=Sy (ops:=ops) (T:=S) ⟨λ_ _=>rfl,rfl,rfl⟩ (λ_=>rfl) c
 refine⟨d,ob,v,by rw[h1];rfl,?_,λy=>by
  have⟨z,w⟩:=u y;have⟨e,g⟩:=Cv.1 z;exact⟨e,g,by rw[w,g];rfl⟩,λT l s=>?_⟩
 .cases h0:Z4 o.op with
  |true=>rfl
  |false=>rw[All h0]at c;cases c
 .have⟨d',aa,g,m,_⟩:=Sy l s c;injection g with g _;injection g with he1 he2;subst he1 he2;have h:S.gv ops o=some true:=by simp only[AS.gv,t];exact hc
  have n:T.gd ops j f=some true:=by have:=l.gv;rw[h]at this;simp only[AS.gv,t]at this;exact this.symm
  refine⟨j,f,_,v,t,n,m,?_⟩;have:=Mf (S:={T with objs:=(d,ob)::T.objs}) (dst:=o.dst) (.whn true v) (λx r=>by have:=h2 x r;simp only at this|-;rw[<-l.2.1];exact this);rw[this];rfl
def A0w(hs:Lb P kb w0 X ops i o S S')(h:S.eqv T):∃e,Lb P kb w0 X ops i o T e/\S'.eqv e:=by
 rcases hs with hs|hs|⟨k,hs⟩
 .have⟨e,h1,h2⟩:=A4y hs h;exact⟨e,.inl h1,h2⟩
 .obtain⟨d,ob,v,rfl,_,_,c⟩:=Aha hs;exact⟨_,.inr (.inl (c T ⟨λt _=>h.1 t,h.2.2.2,h.2.2.1⟩ h.2.1)),Au6 h _ _ _⟩
 .obtain⟨u,O,rfl,c⟩:=hs;refine⟨T.ap o.dst u O,.inr (.inr ⟨k,u,O,rfl,λe f g=>c e ⟨λt j=>(h.1 t).trans (f.1 t j),h.2.2.2.trans f.2.1,h.2.2.1.trans f.2.2⟩ (λd=>(h.2.1 d).trans (g d))⟩),Au6 h _ _ _⟩
def Ahb(hs:Lb P kb w0 X ops i o S S')(x:Abk o.op=false):
  ∃u O,S'=S.ap o.dst u O/\(Z6 X i o=false->O=[])/\(Ag9 X i o=true->∀d ob,(d,ob)∈O->∃e,o.dst=some e/\d=kb+e)/\
   ∀T,Oj ops o S T->(Z6 X i o=true->∀d,get S.objs d=get T.objs d)->(Vp o.op=true->∀p r,S.place p=some r->T.place p=some r)->Lb P kb w0 X ops i o T (T.ap o.dst u O):=by
 have k:Z6 X i o=false->Z4 o.op=false:=λh=>by simp only[Z6,E8]at h;exact h.1
 have f:Z4 o.op=true->Z6 X i o=true:=λh=>by simp[Z6,h]
 have g:Ag9 X i o=true->Sw o.op=true:=λh=>by simp only[Ag9,Be]at h;exact h.1
 rcases hs with hs|hs|⟨hX,u,O,h1,l⟩
 .have⟨u,O,h1,h2,h3,w⟩:=Alm hs (.inl x);exact⟨u,O,h1,λh=>h2 (k h),λh=>h3 (g h),λT a b c=>.inl (w T a (λh=>b (f h)) c)⟩
 .have⟨d,ob,v,h1,h2,h3,w⟩:=Aha hs;refine⟨_,_,h1,λm=>(by rw[f h2]at m;cases m),λz d' aa j=>?_,λT a b c=>.inr (.inl (w T a (b (f h2))))⟩;simp at j;rw[j.1];exact h3 (g z)
 .have n:Z6 X i o=true:=by simp[Z6,hX]
  refine⟨u,O,h1,λm=>(by rw[n]at m;cases m),λz=>?_,λT a b c=>.inr (.inr ⟨hX,u,O,rfl,λT' s y=>l T' ⟨λt ht=>(a.1 t ht).trans (s.1 t ht),a.2.1.trans s.2.1,a.2.2.trans s.2.2⟩ (λd=>(b n d).trans (y d))⟩)⟩;simp[Ag9,hX]at z
def Zf(h:Yb P w0 ops i o Q S)(f:Oj ops o S T)(g:∀d,get S.objs d=get T.objs d):Yb P w0 ops i o Q T:=
 λk c e=>h k ⟨λt j=>(f.1 t j).trans (c.1 t j),f.2.1.trans c.2.1,f.2.2.trans c.2.2⟩ (λd=>(g d).trans (e d))
def Abp(P:Program)(kb:Nat)(w0:Bs)(X:List Nat)(ops:List Oper)(Q:Exit->AS->Prop)(K:AS->Prop):Nat->Array Bool->AS->Prop
 |0,c,S=>Region.ready .any ops.toArray c=[]/\K S
 |n+1,c,S=>(Region.ready .any ops.toArray c=[]->K S)/\∀i∈Region.ready .any ops.toArray c,(∃o S',ops[i]?=some o/\Lb P kb w0 X ops i o S S'/\Abp P kb w0 X ops Q K n (c.setIfInBounds i true) S')\/∃o,ops[i]?=some o/\Yb P w0 ops i o Q S
def Aq2(g:∀S T,S.eqv T->K S->K T):∀(n:Nat)(c:Array Bool)(S T:AS),S.eqv T->Abp P kb w0 X ops Q K n c S->Abp P kb w0 X ops Q K n c T
 |0,_,_,_,h,e=>⟨e.1,g _ _ h e.2⟩
 |n+1,c,S,T,h,e=>⟨λl=>g _ _ h (e.1 l),λi r=>by
  rcases e.2 i r with⟨o,S',f,hs,d⟩|⟨o,f,hp⟩
  .have⟨j,k,m⟩:=A0w hs h;exact .inl ⟨o,j,f,k,Aq2 g n _ S' j m d⟩
  .exact .inr ⟨o,f,Zf hp ⟨λt _=>h.1 t,h.2.2.2,h.2.2.1⟩ h.2.1⟩⟩
def Ahc(hK:∀S a w,K S->Ti (λj=>j<ops.length) w0 N0 S a w->post w0 N0 Q .normal a w):∀(n:Nat)(c:Array Bool)(S:AS)(a:Act)(w:World),c.size=ops.length->
  Ti (λj=>c.getD j false=true) w0 N0 S a w->Abp P kb w0 X ops Q K n c S->wpAny P .any ops.toArray (post w0 N0 Q) n c a w
 |0,c,S,a,w,y,e,t=>by
  have⟨μ,e⟩:=e;refine⟨t.1,hK S a w t.2 ⟨μ,e.more (λj d=>?_)⟩⟩
  rcases Cz j c.size with h|h
  .omega
  .simp[Dp h]at d
 |n+1,c,S,a,w,y,e,t=>by
  refine⟨λh0=>?_,λi hi=>?_⟩
  .have⟨μ,e⟩:=e;refine hK S a w (t.1 h0) ⟨μ,e.more (λj d=>?_)⟩
   rcases Cz j c.size with h|h
   .omega
   .simp[Dp h]at d
  .have l:=(mem_ready.1 hi).1
   have f:i<c.size:=by
    rcases Cz i c.size with h|h
    .exact h
    .simp[Dp h]at l
   have u:¬(c.getD i false=true):=by
    intro h1;simp[f]at l h1;rw[l]at h1;cases h1
   have x:∀j,c.getD j false=true->j<ops.length:=λj d=>by
    rcases Cz j c.size with h|h
    .omega
    .simp[Dp h]at d
   rcases t.2 i hi with⟨o,S',z,hs,g⟩|⟨o,z,hp⟩
   case inr=>
    unfold wpOp;have m:ops.toArray[i]?=some o:=sG z
    simp only[m];have⟨r,aa⟩:=hp S ⟨λ_ _=>rfl,rfl,rfl⟩ (λ_=>rfl) N0 _ a w e u x;rw[Ab r];exact .inl (aa _)
   unfold wpOp;have m:ops.toArray[i]?=some o:=sG z
   simp only[m]
   have:=We (P:=P) e u x hs (K:=wpAny P .any ops.toArray (post w0 N0 Q) n (c.setIfInBounds i true)) (Q':=post w0 N0 Q) (λa' w' k=>by
    have⟨μ',k⟩:=k;refine Ahc hK n _ S' a' w' (sG y) ⟨μ',k.more (λj d=>?_)⟩ g
    rcases d with d|d
    .by_cases s:i=j
     .subst s;simp[f]
     .rw[getD_set_ne false s];exact d
    .subst d;simp[f])
   split
   .rename_i r;rw[Ab r]at this;exact .inl this
   .rename_i r;rw[I r]at this;exact this
def Au9(hK:∀S T,S.eqv T->K S->K T){m:Oper}(hi:ops[i]?=some m)(hq:Z6 X i m=false)(bc:Abk m.op=false)(a9:Wd ops=true)(B:List Nat):
  ∀(n:Nat)(c:Array Bool)(S S1:AS),A4z ops c i B->
   (∀j oj,ops[j]?=some oj->j≠i->c.getD j true=false->j∉B->m.apart ops.toArray oj=true/\(Vp m.op=true->Z6 X j oj=true->Ag9 X j oj=true)/\Abk oj.op=false)->
   (Vp m.op=true->∀j oj d,ops[j]?=some oj->c.getD j true=false->Ag9 X j oj=true->oj.dst=some d->get S.objs (kb+d)=none)->
   i∈Region.ready .any ops.toArray c->Lb P kb w0 X ops i m S S1->
   Abp P kb w0 X ops Q K n (c.setIfInBounds i true) S1->Abp P kb w0 X ops Q K (n+1) c S:=by
 intro n
 induction n with
 |zero=>
  intro c S S1 _ _ _ hr hs H;refine⟨λh=>(by rw[h]at hr;cases hr),λj hj=>?_⟩
  by_cases o:j=i
  .subst o;exact .inl ⟨m,S1,hi,hs,H⟩
  .have:=ready_mono hj o;rw[H.1]at this;cases this
 |succ n ih=>
  intro c S S1 hB af a4 hr hs H;refine⟨λh=>(by rw[h]at hr;cases hr),λj hj=>?_⟩
  by_cases o:j=i
  .subst o;exact .inl ⟨m,S1,hi,hs,H⟩
  .have⟨ab,f,ax,a7⟩:=mem_ready.1 hj;have w:ops[j]?=some f:=sG ax
   have az:=(mem_ready.1 hr).1
   have am:∀k,c.getD k true=false->∀e∈f.after,Region.binds .any e=true->e.on≠k:=λk hk e he hb aj=>by
    have h1:=a7 e he hb;rw[aj]at h1
    rcases Cz k c.size with h'|h'
    .simp[h']at hk h1;rw[hk]at h1;cases h1
    .simp[Dp h']at h1
   have al:j∉B:=λbf=>by
    have⟨_,oq,a0,e,he,hb,ag⟩:=hB j bf;have:oq=f:=by rw[w]at a0;exact(J0 a0).symm
    subst this
    rcases ag with ag|ag
    .exact am i az e he hb ag
    .exact am e.on (hB e.on ag).1 e he hb rfl
   have⟨bg,ai,a5⟩:=af j f w o ab al;have⟨a1,a2,a3⟩:=Oper.apart_spec bg;obtain⟨u,O,rfl,hO,_,ao⟩:=Ahb hs bc;have bi:=hO hq;subst bi;rcases H.2 j (ready_mono hj o)with⟨oj,T',s,ar,z⟩|⟨oj,s,bj⟩
   case inr=>
    rw[w]at s;have:=J0 s;subst this;refine .inr ⟨f,w,Zf bj ⟨λt ht=>?_,rfl,rfl⟩ (λ_=>rfl)⟩;cases hd:m.dst with
    |none=>rfl
    |some d=>
     simp only[AS.ap,Dh];rw[I (λe=>a1 d hd (by rw[e];exact ht))]
   rw[w]at s;have:=J0 s;subst this;obtain⟨u2,x,rfl,ak,ad,y⟩:=Ahb ar a5
   have an:Lb P kb w0 X ops j f S (S.ap f.dst u2 x):=by
    refine y S ⟨λt ht=>?_,rfl,rfl⟩ (λ_ d=>rfl) (λ_ p r hp=>by rw[<-Sx (S:=S.ap f.dst u2 [] |>.ap none u2 []) (T:=S) (λd=>rfl)];rw[Sx (S:=S.ap m.dst u []) (T:=S.ap f.dst u2 [] |>.ap none u2 []) (λd=>rfl)]at hp;exact hp);cases hd:m.dst with
    |none=>rfl
    |some d=>
     simp only[AS.ap,Dh];rw[I (λe=>a1 d hd (by rw[e];exact ht))]
   have ae:Vp m.op=true->∀p r,S.place p=some r->(S.ap f.dst u2 x).place p=some r:=by
    intro hl p r hp;cases hact:Z6 X j f with
    |false=>
     rw[ak hact];rw[<-Sx (S:=S) (T:=S.ap f.dst u2 []) (λd=>rfl)];exact hp
    |true=>
     have hm:=ai hl hact
     have hk:∀d,get S.objs d≠none->get (S.ap f.dst u2 x).objs d=get S.objs d:=by
      intro d hd
      have g:∀ob,(d,ob)∉x:=λob l=>by
       have⟨e,he,au⟩:=ad hm d ob l;exact hd (by rw[au];exact a4 hl j f e w ab hm he)
      show get (x++S.objs) d=get S.objs d
      clear ad y ar z an ak
      induction x with
      |nil=>rfl
      |cons q x aw=>
       have⟨k,ob⟩:=q;simp only[Cj,Dh];rw[I (λe=>g ob (by rw[e];simp))];exact aw (λaq l=>g aq (by simp[l]))
     cases p<;>simp only[AS.place]at hp|-<;>try(first|exact hp|(cases hp;done))
     rename_i d v sz k off;cases hg:get S.objs d with
     |none=>rw[hg]at hp;cases hp
     |some ob=>
      rw[hk d (by rw[hg];simp)];exact hp
   have ay:Lb P kb w0 X ops i m (S.ap f.dst u2 x) ((S.ap f.dst u2 x).ap m.dst u []):=by
    refine ao _ ⟨λt ht=>?_,rfl,rfl⟩ (λh0=>by rw[hq]at h0;cases h0) ae;cases hd:f.dst with
    |none=>rfl
    |some d=>
     simp only[AS.ap,Dh];rw[I (λe=>a3 d hd (by rw[e];exact ht))]
   have aj:((S.ap m.dst u []).ap f.dst u2 x).eqv ((S.ap f.dst u2 x).ap m.dst u []):=by
    refine⟨λt=>?_,λd=>rfl,rfl,rfl⟩;cases hd1:m.dst with
    |none=>rfl
    |some d1=>
     cases hd2:f.dst with
     |none=>rfl
     |some d2=>
      have bb:d2≠d1:=λe=>a2 d1 hd1 (by rw[hd2,e])
      simp only[AS.ap,Dh];by_cases h1:d1=t<;>by_cases h2:d2=t<;>simp[h1,h2];exact absurd (h2.trans h1.symm) bb
   refine .inl ⟨f,_,w,an,ih (c.setIfInBounds j true) _ _ (λk hk=>by
    have aa:j≠k:=by rintro rfl;exact al hk
    exact⟨by rw[getD_set_ne true aa];exact(hB k hk).1,(hB k hk).2⟩) (λk ok hk ba ah bd=>af k ok hk ba ?_ bd) (λhl k ok d hk ah hm hd=>?_) (ready_mono hr (Ne.symm o)) ay ?_⟩
   .by_cases aa:j=k
    .subst aa;exact ab
    .rw[getD_set_ne true aa]at ah;exact ah
   .have aa:j≠k:=by
     rintro rfl
     have bh:j<c.size:=by
      rcases Cz j c.size with h|h
      .exact h
      .simp[Dp h]at ab
     simp[bh]at ah
    have a6:c.getD k true=false:=by rwa[getD_set_ne true aa]at ah
    have h0:=a4 hl k ok d hk a6 hm hd;show get (x++S.objs) (kb+d)=none
    cases hact:Z6 X j f with
    |false=>rw[ak hact];exact h0
    |true=>
     have av:=ai hl hact
     have g:∀ob,(kb+d,ob)∉x:=λob l=>by
      have⟨e,a8,au⟩:=ad av _ ob l;exact aa (A0v a9 w hk (by simp only[Ag9,Be]at av;exact av.1) (by simp only[Ag9,Be]at hm;exact hm.1) (by rw[a8,hd,(Nat.add_left_cancel au)]))
     clear ad y ar z an ak ae ay aj
     induction x with
     |nil=>exact h0
     |cons q x aw=>
      have⟨k',ob⟩:=q;simp only[Cj,Dh];rw[I (λe=>g ob (by rw[e];simp))];exact aw (λaq l=>g aq (by simp[l]))
   .rw[Array.setIfInBounds_comm _ _ o];exact Aq2 hK n _ _ _ aj z
def Ahd(X:List Nat)(ops:List Oper)(c:Array Bool)(i:Nat)(e:Oper):Bool:=
 Bgv ops c i (blk ops c i)&&(List.range ops.length).all λj=>j==i||c.getD j true||(match ops[j]? with
  |some d=>(blk ops c i).contains j||(e.apart ops.toArray d&& !Abk d.op&&(!Vp e.op|| !Z6 X j d||Ag9 X j d))
  |none=>true)
def Akf{c:Array Bool}{f:Oper}(h:Ahd X ops c i f=true):∃B,A4z ops c i B/\∀j d,ops[j]?=some d->j≠i->c.getD j true=false->j∉B->
  f.apart ops.toArray d=true/\(Vp f.op=true->Z6 X j d=true->Ag9 X j d=true)/\Abk d.op=false:=by
 unfold Ahd at h;rw[Be]at h;refine⟨blk ops c i,Au7 h.1,?_⟩;intro j d m k e l;have h1:=Ao.1 h.2 j (Kv.2 ((Al.1 m).1));simp only[m,e,Bool.or_false,I1,beq_iff_eq,Be]at h1
 rcases h1 with h1|h1|h1
 .exact absurd h1 k
 .exact absurd (sG h1) l
 .refine⟨h1.1.1,λo n=>?_,by simpa using h1.1.2⟩
  rcases h1.2 with(h2|h2)|h2
  .simp[o]at h2
  .simp[n]at h2
  .exact h2
def Rq(X:List Nat)(ops:List Oper)(c:Array Bool)(i:Nat)(ks:List Nat):Bool:=
 match ops[i]? with
 |some o=>(!Z6 X i o&& !Abk o.op&&(Region.ready .any ops.toArray c).contains i&&Ahd X ops c i o&&(!Vp o.op||(List.range ops.length).all λj=>c.getD j true||(match ops[j]? with
   |some e=> !Ag9 X j e||(match e.dst with|some d=>ks.contains d|none=>true)
   |none=>true)))||(Region.ready .any ops.toArray c== [i])
 |none=>false
def KQ(ops:List Oper)(Q:Exit->AS->Prop)(S:AS):Prop:=∃S',({S with nx:=S.nx+ops.length}:AS).le S'/\Q .normal S'
def Bkq(c:S.eqv T)(h:KQ ops Q S):KQ ops Q T:=by
 have⟨f,g,j⟩:=h;have e:({T with nx:=T.nx+ops.length}:AS).eqv {S with nx:=S.nx+ops.length}:=⟨λt=>(c.1 t).symm,λd=>(c.2.1 d).symm,by simp only;rw[c.2.2.1],c.2.2.2.symm⟩;exact⟨f,AS.le_trans e.le g,j⟩
def Ads{c:Array Bool}(e:Rq X ops c i ks=true)(hk:Wd ops=true)(l:ops[i]?=some o)(m:(ks.all λd=>(get S.objs (kb+d)).isNone)=true)(hs:Lb P kb w0 X ops i o S S')(h:Abp P kb w0 X ops Q (KQ ops Q) n (c.setIfInBounds i true) S'):Abp P kb w0 X ops Q (KQ ops Q) (n+1) c S:=by
 unfold Rq at e;simp only[l,I1,Be,beq_iff_eq]at e
 rcases e with⟨⟨⟨⟨h1,k⟩,h2⟩,w⟩,f⟩|e
 .have⟨B,hB,c⟩:=Akf w;refine Au9 (λS T y x=>Bkq y x) l (sG h1) (sG k) hk B _ _ S S' hB c (λhl j oj d g n r hd=>?_) (sG h2) hs h
  rcases f with f|f
  .simp[hl]at f
  .have t:=Ao.1 f j (Kv.2 (Al.1 g).1);simp only[n,g,r,hd,Bool.not_true,Bool.false_or]at t;simpa using(Ao.1 m d (sG t))
 .refine⟨λs=>(by rw[e]at s;cases s),λj g=>?_⟩;rw[e]at g;have:=sG g
  subst this;exact .inl ⟨o,S',l,hs,h⟩
def A40{id:Nat}(kb:Nat)(X:List Nat)(m:P.follows .mixedOrders=true)(h:Abp P kb w0 X l Q (KQ l Q) l.length (Array.replicate l.length false) S):AW P w0 N0 (.region id l.toArray true) Q S:=by
 rintro a w⟨μ,c⟩;refine wp_region_any m ?_;have f:l.toArray.size=l.length:=sm;rw[f]
 refine Ahc (K:=KQ l Q) ?_ l.length _ S a _ sm ⟨μ,?_⟩ h
 .rintro S a w⟨S',h1,h2⟩⟨μ,c⟩;refine⟨S',h2,h1 _ _ _ _ ⟨μ,⟨c.defers,c.size,c.below,c.n0,λd v k=>?_,c.objs,c.inj,c.env⟩⟩⟩
  rcases c.fresh d v k with h3|⟨j,g,e⟩
  .exact .inl sy
  .exact .inl sy
 .have:=c.drew;exact this.more λj g=>g.elim
def Jy(ops:List Oper):Array Bool->List (Nat×List Nat)->Bool
 |c,[]=>(Region.ready .any ops.toArray c).isEmpty
 |c,(i,ks)::l=>Rq [] ops c i ks&&Jy ops (c.setIfInBounds i true) l
def AWO(P:Program)(kb:Nat)(w0:Bs)(ops:List Oper)(Q:Exit->AS->Prop):List (Nat×List Nat)->AS->Prop
 |[],S=>∃S',({S with nx:=S.nx+ops.length}:AS).le S'/\Q .normal S'
 |(i,ks)::l,S=>∃o S',ops[i]?=some o/\(ks.all λd=>(get S.objs (kb+d)).isNone)=true/\Abl P kb w0 ops i o S S'/\AWO P kb w0 ops Q l S'
def Ax6(hk:Wd ops=true):∀(l:List (Nat×List Nat))(c:Array Bool)(S:AS),Jy ops c l=true->AWO P kb w0 ops Q l S->Abp P kb w0 [] ops Q (KQ ops Q) l.length c S
 |[],c,S,m,h=>⟨by simpa[Jy]using m,h⟩
 |(i,ks)::l,c,S,m,h=>by
  simp only[Jy,Be]at m;have⟨o,S',w,u,hs,f⟩:=h;exact Ads m.1 hk w u (.inl hs) (Ax6 hk l _ S' m.2 f)
def Aq3{id:Nat}(kb:Nat)(f:List (Nat×List Nat))(r:P.follows .mixedOrders=true)(k:(Jy l (Array.replicate l.length false) f&&(Wd l&&f.length==l.length))=true)(h:AWO P kb w0 l Q f S):AW P w0 N0 (.region id l.toArray true) Q S:=by
 simp only[Be,beq_iff_eq]at k;have⟨k,s,t⟩:=k;have g:=Ax6 s f _ S k h;rw[t]at g;exact A40 kb [] r g
def H0{id:Nat}(c:List (Nat×List Nat))(d:P.follows .mixedOrders=true)(e:(Jy l (Array.replicate l.length false) c&&(Wd l&&c.length==l.length))=true)(h:AWO P 0 w0 l Q c S):AW P w0 N0 (.region id l.toArray true) Q S:=Aq3 0 c d e h
def Ol(P:Program)(kb:Nat)(ops:List Oper):List (Nat×List Nat)->AS->Option AS
 |[],S=>some S
 |(i,ks)::l,S=>match Gz ops i with
  |some o=>if(ks.all λd=>(get S.objs (kb+d)).isNone)=true then(match No P kb ops i o S with
   |some S'=>Ol P kb ops l S'
   |none=>none)else none
  |none=>none
def Aof:∀ {l:List (Nat×List Nat)}{S S1 S':AS},Ol P kb ops l S=some S1->({S1 with nx:=S1.nx+ops.length}:AS).le S'->Q .normal S'->AWO P kb w0 ops Q l S
 |[],S,S1,S',hs,c,h=>by
  simp only[Ol,Am]at hs;subst hs;exact⟨S',c,h⟩
 |(i,ks)::l,S,S1,S',hs,c,h=>by
  simp only[Ol]at hs;split at hs
  case h_2=>cases hs
  rename_i o e;split at hs
  case isFalse=>cases hs
  rename_i d;split at hs
  case h_2=>cases hs
  rename_i f h2;rw[C0]at e;exact⟨o,f,e,d,.inl h2,Aof hs c h⟩
end
variable {g:V}
def Bkr(P:Program)(ops:List Oper)(l:List (Nat×List Nat))(S:AS):Option AS:=Ol P 0 ops l S
attribute [simp] Bkr Ol AS.gv Fj
def Aq4(P:Program)(kb:Nat)(l:List Oper)(c:List (Nat×List Nat))(L M:List Nat)(S:AS):Option AS:=
 match Ol P kb l c S with
 |some S'=>some ((S'.bump l.length).keep L M)
 |none=>none
def Ava(P:Program)(l:List Oper)(c:List (Nat×List Nat))(L M:List Nat)(S:AS):Option AS:=Aq4 P 0 l c L M S
attribute [simp] Ava Aq4
section
def A41{id:Nat}(kb:Nat)(c:List (Nat×List Nat))(L M:List Nat)(d:P.follows .mixedOrders=true)(e:(Jy l (Array.replicate l.length false) c&&(Wd l&&c.length==l.length))=true)(hs:Aq4 P kb l c L M S=some S')(h:Q .normal S'):
  AW P w0 N0 (.region id l.toArray true) Q S:=by
 unfold Aq4 at hs;split at hs
 case h_2=>cases hs
 rename_i S1 h1;cases hs;exact Aq3 kb c d e (Aof h1 (Me _ L M) h)
def Ax7{id:Nat}(c:List (Nat×List Nat))(L M:List Nat)(d:P.follows .mixedOrders=true)(e:(Jy l (Array.replicate l.length false) c&&(Wd l&&c.length==l.length))=true)(hs:Ava P l c L M S=some S')(h:Q .normal S'):
  AW P w0 N0 (.region id l.toArray true) Q S:=A41 0 c L M d e hs h
def Om{id:Nat}{d:Code}(c:List (Nat×List Nat))(L M:List Nat)(e:P.follows .mixedOrders=true)(f:(Jy l (Array.replicate l.length false) c&&(Wd l&&c.length==l.length))=true)(hs:Ava P l c L M S=some S')(h:AW P w0 N0 d Q S'):
  AW P w0 N0 (.seq (.region id l.toArray true) d) Q S:=J (Ax7 c L M e f hs h)
def Ax8:∀ {d l2:List (Nat×List Nat)}{S S1:AS},Ol P kb ops d S=some S1->AWO P kb w0 ops Q l2 S1->AWO P kb w0 ops Q (d++l2) S
 |[],l2,S,S1,hs,h=>by
  simp only[Ol,Am]at hs;subst hs;exact h
 |(i,ks)::l,l2,S,S1,hs,h=>by
  simp only[Ol]at hs;split at hs
  case h_2=>cases hs
  rename_i o e;split at hs
  case isFalse=>cases hs
  rename_i c;split at hs
  case h_2=>cases hs
  rename_i f h2;rw[C0]at e;exact⟨o,f,e,c,.inl h2,Ax8 hs h⟩
def B8{l:List (Nat×List Nat)}(n:Nat)(hs:Bkr P ops (l.take n) S=some S1)(h:AWO P 0 w0 ops Q (l.drop n) S1):AWO P 0 w0 ops Q l S:=by
 have:=Ax8 (kb:=0) (l2:=l.drop n) hs h
 rwa[Ga]at this
def C5{l:List (Nat×List Nat)}(L M:List Nat)(hs:Ava P ops l L M S=some S')(h:Q .normal S'):AWO P 0 w0 ops Q l S:=by
 unfold Ava Aq4 at hs;split at hs
 case h_2=>cases hs
 rename_i S1 h1;cases hs;exact Aof h1 (Me _ L M) h
def D7{l:List (Nat×List Nat)}{c:Bool}{e:FuncId}{j:Array TypeId}
  (y:c=true->AC P e vs (λr=>r=g))(m:P.funcs[e]?=some fn)(z:fn.body.isSome=true)(w:(fn.name== "runtime.NumGoroutine")=false)(n:Gz ops i=some o)(k:(ks.all λd=>(get S.objs (0+d)).isNone)=true)
  (x:S.gv ops o=some c)(u:o.op=.call {callee:=.value f,args:=args,argTypes:=j})(s:S.evc c f=some (.fn e))(t:S.args c args.toList=some vs)(hp:vs.all V.pureV=true)(hs:S.putv o.dst (Fj o c g)=some S')(h:AWO P 0 w0 ops Q l S'):AWO P 0 w0 ops Q ((i,ks)::l) S:=by
 rw[C0]at n;exact⟨o,S',n,k,.inr (.inl ⟨c,f,args,j,e,fn,vs,g,x,u,s,m,z,w,t,hp,λh=>(y h).b,hs⟩),h⟩
def Ff{e:List Oper}{c:Bool}{d:FuncId}{j:Array TypeId}
  (u:c=true->AC P d vs (λr=>r=g))(k:P.funcs[d]?=some fn)(w:fn.body.isSome=true)(s:(fn.name== "runtime.NumGoroutine")=false)
  (t:S.gv ops o=some c)(n:o.op=.call {callee:=.value f,args:=args,argTypes:=j})(l:S.evc c f=some (.fn d))(m:S.args c args.toList=some vs)(hp:vs.all V.pureV=true)(hs:S.putv o.dst (Fj o c g)=some S')(h:Jb P w0 N0 ops Q (i+1) e S'):Jb P w0 N0 ops Q i (o::e) S:=
 Aod (kb:=0) (.inr (.inl ⟨c,f,args,j,d,fn,vs,g,t,n,l,k,w,s,m,hp,λh=>(u h).b,hs⟩)) h
def H4{c:Code}(j:Nat->Nat->AS)(d:Nat->Prop)(n:Nat)(h:Nat)(m:d 0)(o:S.le (j 0 h))
  (g:∀k nx,k<=n->d k->AW P w0 N0 c (Ph (λS'=>k<n/\d (k+1)/\∃f,S'.le (j (k+1) f)) Q) (j k nx)):AW P w0 N0 (.loop c) Q S:=by
 refine If (λx:Nat×Nat=>j x.1 x.2) (λx=>x.1<=n/\d x.1) (λx=>n-x.1) (0,h) ⟨B5 _,m⟩ o ?_;rintro⟨k,nx⟩⟨r,t⟩;refine(g k nx r t).mono ?_;intro e T l;cases e with
 |normal=>
  have⟨h1,h2,f,s⟩:=l;exact⟨(k+1,f),⟨h1,h2⟩,by simp only;omega,s⟩
 |_=>exact l
end
def AS.adoptS(S:AS)(t d sz:Nat)(ty:TypeId):AS:={S with env:=(t,.sl d S.nx sz 0)::S.env,objs:=(d,⟨S.nx,sz,ty,[]⟩)::S.objs,nx:=S.nx+1}
def AS.adoptC(S:AS)(k i d sz:Nat)(ty:TypeId):Option AS:=
 match get S.objs k with
 |some o=>match o.es with
  |[.agg cs]=>match Gz cs i with
   |some .nils=>if k=d then none else some {S with objs:=(k,{o with es:=[.agg (cs.set i (.sl d S.nx sz 0))]})::(d,⟨S.nx,sz,ty,[]⟩)::S.objs,nx:=S.nx+1}
   |_=>none
  |_=>none
 |none=>none
section
def RelM.addRow(h:RelM (λ_=>False) w0 N0 μ S a w)(d sz:Nat)(ty:TypeId):
  RelM (λ_=>False) w0 N0 (J2 μ d S.nx none) {S with objs:=(d,⟨S.nx,sz,ty,[]⟩)::S.objs,nx:=S.nx+1} a w:=by
 have f:=h.muSet_mono (i:=0) (λn=>n) d none;have m:=h.muSet_fresh 0 d none;simp only[Eb]at f m
 have⟨k,_⟩:=h.update (D':=λj=>False\/j=0) (d:=d) (o':=⟨S.nx,sz,ty,[]⟩) (l':=none) (w':=w) (μ':=J2 μ d S.nx none) f m (Dg _ _ _ _) h.below (Ex.refl _ _)
  (λ_ _ _ _ _ _ _=>rfl) (λg c e=>by cases e) (λN' hN=>rfl)
 refine⟨k.defers,k.size,k.below,k.n0,λd v o=>?_,k.objs,k.inj,k.env⟩
 rcases k.fresh d v o with h1|⟨j,l,e⟩
 .exact .inl (by simp only at h1|-;omega)
 .rcases l with l|l
  .exact l.elim
  .subst l;exact .inl (by simp only at e|-;omega)
def A0x{t sz:Nat}(j:get S.env t=some .nils):S.le (S.adoptS t d sz ty):=by
 rintro w0 N0 a w⟨μ,h⟩;have c:=h.addRow d sz ty;refine⟨_,⟨c.defers,c.size,c.below,c.n0,c.fresh,c.objs,c.inj,λg v f=>?_⟩⟩;simp only[AS.adoptS,Dh]at f
 split at f
 .rename_i e;subst e;cases f;have⟨h1,h2⟩:=c.env t .nils j;refine⟨h1,?_⟩;generalize a.tmps.getD t undef=x at h2;cases h2 with
  |pur h2=>cases h2 with
   |nils A=>exact .slv d S.nx sz A (Dg _ _ _ _)
 .exact c.env g v f
def A0y{sz:Nat}(hs:S.adoptC k i d sz ty=some S'):S.le S':=by
 unfold AS.adoptC at hs;split at hs
 case h_2=>cases hs
 rename_i o ho;split at hs
 case h_2=>cases hs
 rename_i cs n;split at hs
 case h_2=>cases hs
 rename_i hc;rw[C0]at hc;split at hs
 case isTrue=>cases hs
 rename_i al;cases hs;rintro w0 N0 a w⟨μ,h⟩;have u:=h.addRow d sz ty;have y:get ((d,(⟨S.nx,sz,ty,[]⟩:Ob))::S.objs) k=some o:=by rw[Dh,I (λe=>al e.symm)];exact ho
 have⟨l,hl,ag⟩:=u.objs k o y;cases l with
 |none=>
  have:o.es=[]:=ag;rw[n]at this;cases this
 |some gc=>
  have⟨g,ak⟩:=gc;have⟨o1,o2,o3,o4,ai,o5,o6,o7⟩:=ag
  have s:∀b,b<w.heap.size->Fp N0 (J2 μ d S.nx none) {S with objs:=(k,{o with es:=[.agg (cs.set i (.sl d S.nx sz 0))]})::(d,⟨S.nx,sz,ty,[]⟩)::S.objs,nx:=S.nx+1} b->Fp N0 (J2 μ d S.nx none) {S with objs:=(d,⟨S.nx,sz,ty,[]⟩)::S.objs,nx:=S.nx+1} b:=by
   rintro b _(h0|⟨r,q,c,h1,h2⟩)
   .exact .inl h0
   .simp only[Dh k]at h1
    split at h1
    .rename_i e;subst e;cases h1;exact .inr ⟨k,o,c,y,h2⟩
    .exact .inr ⟨r,q,c,h1,h2⟩
  have hk:=Ex.refl w (Fp N0 (J2 μ d S.nx none) {S with objs:=(d,⟨S.nx,sz,ty,[]⟩)::S.objs,nx:=S.nx+1});have af:=o4 (.agg cs) (by rw[n];simp)
  refine⟨J2 μ d S.nx none,⟨u.defers,u.size,u.below,u.n0,u.fresh,λr q f=>?_,λr q d2 q2 g1 c1 c2 h1 h2 h3 h4=>?_,λt v hv=>⟨(u.env t v hv).1,(u.env t v hv).2.keep hk s (λ_ _ _ hh=>hh)⟩⟩⟩
  .simp only[Dh k]at f
   split at f
   .rename_i e;subst e;cases f
    have ae:(V.agg (cs.set i (.sl d S.nx sz 0))).fits o.sz:=by
     refine⟨by have:=af.1;simpa[V.cells]using this,λc aj=>?_⟩
     rcases Fz aj with h1|h1
     .exact af.2 c h1
     .subst h1;rfl
    refine⟨some (g,ak),hl,o1,by rw[n]at o2;exact o2,o3,λe he=>by simp at he;subst he;exact ae,ai,o5,o6,λk' e j c aa z=>?_⟩
    rcases k' with _ |k'
    .simp at aa;subst aa;simp only[V.cells]at z
     by_cases ab:i=j
     .subst ab;rw[O2 ((Al.1 hc).1)]at z;cases z;have⟨x,hx,m⟩:=o7 0 (.agg cs) i .nils (by rw[n];rfl) hc;refine⟨x,hx,?_⟩;cases m with
      |pur m=>cases m with
       |nils A=>exact .slv d S.nx sz A (Dg _ _ _ _)
     .rw[Ip ab]at z;have⟨x,hx,m⟩:=o7 0 (.agg cs) j c (by rw[n];rfl) z;exact⟨x,hx,m.keep hk s (λ_ _ _ hh=>hh)⟩
    .simp at aa
   .have⟨l1,an,ah⟩:=u.objs r q f;exact⟨l1,an,ah.keep hk s (λ_ _ _ hh=>hh) (λ_ _ _=>rfl)⟩
  .have ad:∀r q c1,get ((k,({o with es:=[.agg (cs.set i (.sl d S.nx sz 0))]}:Ob))::(d,(⟨S.nx,sz,ty,[]⟩:Ob))::S.objs) r=some q->J2 μ d S.nx none r q.v=some (some (g1,c1))->
     ∃q',get ((d,(⟨S.nx,sz,ty,[]⟩:Ob))::S.objs) r=some q'/\J2 μ d S.nx none r q'.v=some (some (g1,c1)):=by
    intro r q c1 f hm;rw[Dh k]at f
    split at f
    .rename_i e;subst e;cases f;exact⟨o,y,hm⟩
    .exact⟨q,f,hm⟩
   have⟨q1,a1,a2⟩:=ad r q c1 h1 h3;have⟨q3,b1,b2⟩:=ad d2 q2 c2 h2 h4;exact u.inj _ _ _ _ _ _ _ a1 b1 a2 b2
def Fg{c:Code}(t d sz:Nat)(ty:TypeId)(L M:List Nat)(f:get S.env t=some .nils)(e:(S.adoptS t d sz ty).keep L M=S')(h:AW P w0 N0 c Q S'):AW P w0 N0 c Q S:=by
 subst e;exact T1 (AS.le_trans (A0x f) (Me _ L M)) h
def AS.adoptCK(S:AS)(k i d sz:Nat)(ty:TypeId)(L M:List Nat):Option AS:=
 match S.adoptC k i d sz ty with
 |some S'=>some (S'.keep L M)
 |none=>none
def N3{c:Code}(k i d sz:Nat)(ty:TypeId)(L M:List Nat)(e:S.adoptCK k i d sz ty L M=some S')(h:AW P w0 N0 c Q S'):AW P w0 N0 c Q S:=by
 unfold AS.adoptCK at e;split at e
 case h_2=>cases e
 rename_i S1 h1;cases e;exact T1 (AS.le_trans (A0y h1) (Me _ L M)) h
end
attribute [simp] AS.adoptS AS.adoptC AS.adoptCK
open Go.ChangeShapes Go.WideShapes
variable {H:Type}{W:World}
def Ahe(P:Program):List Field->Nat->Nat->Bool
 |[],off,c=>off==c
 |f::r,off,c=>(f.offset==off)&&Ahe P r (off+P.cellsOf f.type) c
def mkV(b:Option Bool)(cs:List V):V:=if b=some true then .agg cs else cs.headD .nils
def RdF(P:Program)(r:TypeId->List V->Prop):List Field->List V->Prop
 |[],vs=>vs=[]
 |f::d,vs=>∃us c,vs=us++c/\r f.type us/\RdF P r d c
def Rd(P:Program):Nat->TypeId->List V->Prop
 |0,_,_=>False
 |n+1,t,vs=>match P.underlying t with
  |some .bool=>∃b,vs=[.bool b]
  |some (.int k)=>∃i,vs=[.int k i]/\(Lit.int k i).wf=true
  |some .string=>∃l,vs=[.str l]/\l.length<=maxLen
  |some (.slice e)=>∃es:List (List V),vs=[.ro (P.cellsOf e) (es.map (mkV (En P e)))]/\es.length<=maxLen/\∀x∈es,Rd P n e x
  |some (.struct c)=>RdF P (Rd P n) c.toList vs
  |_=>False
def Vy(w:World)(N:Nat->Prop)(cs:List Value)(vs:List V):Prop:=
 cs.length=vs.length/\∀(i:Nat)x v,cs[i]?=some x->vs[i]?=some v->Pur w N x v
def Vy.append{a b:List Value}{u v:List V}(h:Vy w N a u)(k:Vy w N b v):Vy w N (a++b) (u++v):=by
 refine⟨by simp[h.1,k.1],λi x y d c=>?_⟩
 by_cases e:i<a.length
 .rw[Bt e]at d;rw[Bt (by rw[<-h.1];exact e)]at c;exact h.2 i x y d c
 .rw[Bn oM]at d;rw[Bn (by rw[<-h.1];omega),<-h.1]at c;exact k.2 _ x y d c
def Vy.one{v:V}(h:Pur w N x v):Vy w N [x] [v]:=by
 refine⟨rfl,λi y u c d=>?_⟩
 rcases i with _ |i
 .simp at c d;subst c d;exact h
 .simp at c
def Ax9{p:Nat->α->Prop}:∀ {n:Nat},(∀i,i<n->∃y,p i y)->∃l:List α,l.length=n/\∀i y,l[i]?=some y->p i y
 |0,_=>⟨[],rfl,by simp⟩
 |n+1,h=>by
  have⟨l,f,hp⟩:=Ax9 (n:=n) (λi d=>h i om);have⟨y,e⟩:=h n om;refine⟨l++[y],by simp[f],λi z c=>?_⟩
  by_cases d:i<l.length
  .rw[Bt d]at c;exact hp i z c
  .rw[Bn oM]at c
   have:i-l.length=0:=by
    rcases h0:i-l.length with _ |k
    .rfl
    .rw[h0]at c;simp at c
   rw[this]at c;simp at c;subst c;have:i=n:=om;subst this;exact e
def Avb{f:α->β}:∀ {l:List β},(∀x∈l,∃y,x=f y)->∃l':List α,l=l'.map f
 |[],_=>⟨[],rfl⟩
 |x::r,h=>by
  have⟨y,d⟩:=h x sm;have⟨l',c⟩:=Avb (λx e=>h x Gi:∀x∈r,∃y,x=f y);exact⟨y::l',by simp[d,c]⟩
section
variable {H:Type}{enc:TypeId×Value->H}{P:Program}{w:World}{base:Nat}{spare:Nat->Bool}{held:Bool}
end
def Zg{c:TypeId×Value->H}{j:World}(l:laidOutB P=true)(k:Below W.heap.size W j):∀ {ts:List TypeId}{vs:List Value}{e:List (DataW H)}{ps:List MemPlace},
  (∀t∈ts,P.readableRec t=true/\t<P.types.size)->DataW.TrodAll c P W 0 (λ_=>true) true ts vs e ps->DataW.TrodAll c P j 0 (λb=>decide (b<W.heap.size)) true ts vs e ps
 |[],vs,e,ps,_,h=>by
  obtain⟨rfl,rfl,rfl⟩:=trodAll_nil h;exact trodAll_mk0
 |t::ts,vs,e,ps,f,h=>by
  obtain⟨v,u,d,n,p,q,rfl,rfl,rfl,h1,h2⟩:=trodAll_cons h;have g:∀x∈p,x.block<W.heap.size:=by have⟨m,r⟩:=h1;exact DataW.trod_lt m _ _ _ r
  exact trodAll_cons_mk (Below.trod l (f t sm).1 (f t sm).2 h1 k g) (Zg l k (λt o=>f t Gi) h2)
section
variable {P:Program}{n:Nat}{t e:TypeId}{k:IntKind}{vs:List V}{fs:Array Field}
def Bbx(c:P.underlying t=some .bool)(h:Rd P n t vs):∃b,vs=[.bool b]:=by
 cases n with
 |zero=>exact h.elim
 |succ n=>unfold Rd at h;rw[c]at h;exact h
def Aog(c:P.underlying t=some (.int k))(h:Rd P n t vs):∃i,vs=[.int k i]/\(Lit.int k i).wf=true:=by
 cases n with
 |zero=>exact h.elim
 |succ n=>unfold Rd at h;rw[c]at h;exact h
def Bhf(c:P.underlying t=some .string)(h:Rd P n t vs):∃l,vs=[.str l]/\l.length<=maxLen:=by
 cases n with
 |zero=>exact h.elim
 |succ n=>unfold Rd at h;rw[c]at h;exact h
def Lz(c:P.underlying t=some (.slice e))(h:Rd P n t vs):∃es:List (List V),vs=[.ro (P.cellsOf e) (es.map (mkV (En P e)))]/\es.length<=maxLen/\∀x∈es,Rd P (n-1) e x:=by
 cases n with
 |zero=>exact h.elim
 |succ n=>unfold Rd at h;rw[c]at h;exact h
def Hu(c:P.underlying t=some (.struct fs))(h:Rd P n t vs):RdF P (Rd P (n-1)) fs.toList vs:=by
 cases n with
 |zero=>exact h.elim
 |succ n=>unfold Rd at h;rw[c]at h;exact h
end
variable {F:Nat->Nat->V}{vq:Nat}{μ':Mu}
def ACO(P:Program)(f:FuncId)(args:List V)(sz:Nat)(ty:TypeId)(R:(Nat->Nat->V)->List V->Prop):Prop:=
 ∀(w:World)(N:Nat->Prop)(xs:List Value),(∀b,N b->b<w.heap.size)->xs.length=args.length->(∀(i:Nat)x v,xs[i]?=some x->args[i]?=some v->Pur w N x v)->
  Calls P f xs.toArray w (λe w'=>∃x F es l,e=.returned x/\R F es/\Below w.heap.size w w'/\
   ∀d v μ N',μ d v=some l->Enc w' N' μ x (F d v)/\Ae4 w' N' μ ⟨w,λ_=>False,λ_ _=>none,[]⟩ ⟨v,sz,ty,es⟩ l)
def Ih(e:V):Bool:=e.cells.all V.flat
def V.reC(q vq d v:Nat):V->V
 |.sl c v' sz len=>if c=q/\v'=vq then .sl d v sz len else .sl c v' sz len
 |u=>u
def V.re(q vq d v:Nat):V->V
 |.agg cs=>.agg (cs.map (V.reC q vq d v))
 |u=>u.reC q vq d v
def V.liteC(q vq:Nat):V->Bool
 |.sl c v' _ _=>(c==q)&&(v'==vq)
 |u=>u.flat
def V.liteE(q vq:Nat):V->Bool
 |.agg cs=>cs.all (V.liteC q vq)
 |u=>u.liteC q vq
section
def Enc.reC{q v:Nat}(h:Enc w N μ x u)(c:u.liteC q vq=true)(j:∀l,μ q vq=some l->μ' d v=some l):Enc w N' μ' x (u.reC q vq d v)/\(u.reC q vq d v).isCell=true:=by
 cases h with
 |pur h=>
  cases h with
  |bool b=>exact⟨.pur (.bool b),rfl⟩
  |int k n=>exact⟨.pur (.int k n),rfl⟩
  |str l=>exact⟨.pur (.str l),rfl⟩
  |nils A=>exact⟨.pur (.nils A),rfl⟩
  |fn f=>exact⟨.pur (.fn f),rfl⟩
  |nilp=>exact⟨.pur .nilp,rfl⟩
  |nili=>exact⟨.pur .nili,rfl⟩
  |nilf=>exact⟨.pur .nilf,rfl⟩
  |ifc t x v h1 h2=>exact⟨.pur (.ifc t x v h1 (h2.of_flat2 h1)),rfl⟩
  |agg|tup|ro|rp|mp|fc|dm|rm=>simp[V.liteC,V.flat]at c
 |slr m v' sz len g e h1 h2 o=>
  simp only[V.liteC,Be,beq_iff_eq]at c;obtain⟨rfl,rfl⟩:=c;simp only[V.reC,and_self,if_true];exact⟨.slr d v sz len g e (j _ h1) h2 o,rfl⟩
 |slv m v' sz A h1=>
  simp only[V.liteC,Be,beq_iff_eq]at c;obtain⟨rfl,rfl⟩:=c;simp only[V.reC,and_self,if_true];exact⟨.slv d v sz A (j _ h1),rfl⟩
 |ifc t x v r h=>exact⟨.pur ((Pur.ifc t x v c (h.flat2 r c)).of_flat c),rfl⟩
 |ss|bp|agg|tup|whn|clo|mr=>simp[V.liteC,V.flat]at c
def Enc.re{q v:Nat}(h:Enc w N μ x u)(o:u.liteE q vq=true)(n:∀l,μ q vq=some l->μ' d v=some l):Enc w N' μ' x (u.re q vq d v):=by
 have g:∀(xs:List Value)(cs:List V),xs.length=cs.length->(∀(i:Nat)x c,xs[i]?=some x->cs[i]?=some c->Enc w N μ x c)->cs.all (V.liteC q vq)=true->Enc w N' μ' (.agg xs.toArray) (.agg (cs.map (V.reC q vq d v))):=by
  intro xs cs h1 h2 f
  refine .agg xs _ Gi (λc k=>?_) λi x c s k=>?_
  .simp only[Bc]at k;obtain⟨j,e,rfl⟩:=k;have⟨i,r⟩:=De e;have m:i<xs.length:=by rw[h1];exact(Al.1 r).1
   exact((h2 i xs[i] j (Ah m) r).reC (N':=N') (Ao.1 f j e) n).2
  .simp only[Bj,Ay]at k;obtain⟨j,e,rfl⟩:=k;exact((h2 i x j s e).reC (Ao.1 f j (Ar e)) n).1
 cases u with
 |agg cs=>
  cases h with
  |pur h=>cases h with
   |agg xs _ h1 h2 f=>exact g xs cs h1 (λi x c a b=>.pur (f i x c a b)) o
  |agg xs _ h1 h2 f=>exact g xs cs h1 f o
 |_=>exact(h.reC o n).1
def A0z{s:List Oper}{r:FuncId}{af:Array TypeId}{sz:Nat}{R:(Nat->Nat->V)->List V->Prop}(d:Nat)
  (hg:o.guard=none)(ho:o.op=.call {callee:=.value f,args:=args,argTypes:=af})(hf:S.evc true f=some (.fn r))(ag:P.funcs[r]?=some fn)(hb:fn.body.isSome=true)(hn:(fn.name== "runtime.NumGoroutine")=false)
  (ha:S.args true args.toList=some vs)(hp:S.views vs=some us)(hc:ACO P r us sz ty R)
  (h:∀F es,R F es->∃S',({S with objs:=(d,⟨S.nx+i,sz,ty,es⟩)::S.objs}:AS).putv o.dst (F d (S.nx+i))=some S'/\Jb P w0 N0 ops Q (i+1) s S'):Jb P w0 N0 ops Q i (o::s) S:=by
 rintro D a w hD⟨μ,k⟩;refine wpList_plain hg λK hK=>?_
 have n:=k.evc hf rfl
 have ah:a.eval f=.func (.func r) #[] #[]:=by
  generalize a.eval f=y at n;cases n.pf;rfl
 have⟨h1,h2⟩:=Gc k rfl ha;have⟨h3,h4⟩:=Z3 hp;unfold Oper.wp;rw[Ly ho ah ag hb hn]
 have m:=hc w N0 (args.toList.map a.eval) (λb hb=>Cp (k.n0.1 b hb).1 k.below.size) Gi (λj x v hx hv=>by
  simp only[Bj,Ay]at hx;obtain⟨y,hy,rfl⟩:=hx;have t:j<vs.length:=by rw[<-h3];exact(Al.1 hv).1
  exact k.view (h2 j y vs[j] hy (Ah t)) (h4 j vs[j] v (Ah t) hv))
 have ae:(args.toList.map a.eval).toArray=args.map a.eval:=by apply Fb;simp
 rw[ae]at m;refine m.mono ?_;rintro e w'⟨x,F,es,l,rfl,hR,ab,aa⟩;have⟨S',hs,z⟩:=h F es hR;have hi:¬D i:=λhd=>absurd (hD i hd) om
 have u:=k.muSet_mono hi d l
 have⟨ad,_⟩:=k.update (D':=λj=>D j\/j=i) (d:=d) (o':=⟨S.nx+i,sz,ty,es⟩) (l':=l) (w':=w') (μ':=J2 μ d (S.nx+i) l) u (k.muSet_fresh i d _) (Dg _ _ _ _)
  (k.below.trans (ab.mono k.below.size)) (Ex.of_below ab _) (λd1 o1 g c _ h1 h2=>ab.block g (k.block_lt h1 h2))
  (λg c e=>by
   have:=(aa d (S.nx+i) (J2 μ d (S.nx+i) l) (λ_=>False) (Dg _ _ _ _)).2;rw[e]at this;exact .inl (this.1.elim id (λh=>h.elim)))
  (λN' _=>by
   have:=(aa d (S.nx+i) (J2 μ d (S.nx+i) l) N' (Dg _ _ _ _)).2;cases l with
   |none=>exact this
   |some gc=>exact⟨.inl (Ae k.below.size (this.1.elim id (λh=>h.elim))),this.2⟩)
 refine hK _ _ (z (λj=>D j\/j=i) _ w' (λj t=>?_) ⟨_,ad.putv hs (aa d (S.nx+i) _ _ (Dg _ _ _ _)).1⟩)
 rcases t with t|t
 .have:=hD j t;omega
 .omega
def K5{c:List Oper}{e:FuncId}{j:Array TypeId}{sz:Nat}(d:Nat)
  (u:ACO P e us sz ty (λt g=>t=F/\g=es))(k:P.funcs[e]?=some fn)(w:fn.body.isSome=true)(r:(fn.name== "runtime.NumGoroutine")=false)
  (s:o.guard=none)(n:o.op=.call {callee:=.value f,args:=args,argTypes:=j})(m:S.evc true f=some (.fn e))
  (l:S.args true args.toList=some vs)(hp:S.views vs=some us)(hs:({S with objs:=(d,⟨S.nx+i,sz,ty,es⟩)::S.objs}:AS).putv o.dst (F d (S.nx+i))=some S')
  (h:Jb P w0 N0 ops Q (i+1) c S'):Jb P w0 N0 ops Q i (o::c) S:=
 A0z d s n m k w r l hp u (λ_ _⟨h1,h2⟩=>by subst h1 h2;exact⟨S',hs,h⟩)
def Aln(P:Program)(S:AS):List ResultVar->Option (List V)
 |[]=>some []
 |r::rs=>match X8 P S r,Aln P S rs with
  |some v,some vs=>some (v::vs)
  |_,_=>none
def Alo(P:Program)(S:AS)(q vq:Nat)(rs:List ResultVar):Option (Nat->Nat->V):=
 match Aln P S rs with
 |some [v]=>if v.liteE q vq=true then some (λd w=>v.re q vq d w)else none
 |some vs=>if vs.all (V.liteE q vq)=true then some (λd w=>.tup (vs.map (V.re q vq d w)))else none
 |none=>none
def A42(P:Program)(fn:Func)(sz:Nat)(ty:TypeId)(R:(Nat->Nat->V)->List V->Prop)(e:Exit)(S:AS):Prop:=
 (e=.ret\/e=.normal)/\((∃q o F,get S.objs q=some o/\o.sz=sz/\o.ty=ty/\o.es.all Ih=true/\Alo P S q o.v fn.results.toList=some F/\R F o.es)\/
  ∃F,Alo P S 0 (S.nx+1) fn.results.toList=some F/\R F [])
def Alp(h:RelM D w0 N0 μ S a w){q:Nat}(f:Alo P S q vq fn.results.toList=some F):
  ∃x,(results fn a.tmps).run P w=.ok x w/\∀d v(μ':Mu)N',(∀l,μ q vq=some l->μ' d v=some l)->Enc w N' μ' x (F d v):=by
 have m:∀(l:List ResultVar)(vs:List V),Aln P S l=some vs->∃xs:List Value,(l.mapM (U2 a.tmps)).run P w=.ok xs w/\
   xs.length=vs.length/\∀(i:Nat)x v,xs[i]?=some x->vs[i]?=some v->Enc w (Fp N0 μ S) μ x v:=by
  intro l
  induction l with
  |nil=>intro vs e;simp only[Aln,Am]at e;subst e;exact⟨[],rfl,rfl,by simp⟩
  |cons q l ih=>
   intro vs e;simp only[Aln]at e;split at e
   case h_2=>cases e
   rename_i v z h1 h2;cases e;have⟨x,s,r⟩:=Wb h h1;have⟨xs,j,k,hh⟩:=ih z h2
   refine⟨x::xs,?_,by simp[k],λi y v o f=>?_⟩
   .rw[O0,Sem.run_bind,s,Result.andThen_ok,Sem.run_bind,j,Result.andThen_ok];rfl
   .rcases i with _ |i
    .simp at o f;subst o f;exact r
    .simp at o f;exact hh i y v o f
 have g:∀xs:List Value,(fn.results.toList.mapM (U2 a.tmps)).run P w=.ok xs w->
   (results fn a.tmps).run P w=.ok (if h:xs.toArray.size=1 then xs.toArray[0]else .tuple xs.toArray) w:=by
  intro xs j;rw[Rp,Sem.run_bind,Gk,Sem.run_map,j];rfl
 unfold Alo at f
 split at f
 .rename_i v e;split at f
  case isFalse=>cases f
  rename_i k;cases f;have⟨xs,h1,h2,u⟩:=m _ _ e
  match xs,h2 with
  |[x],_=>exact⟨x,g [x] h1,λd v' μ' N' t=>(u 0 x _ rfl rfl).re k t⟩
 .rename_i vs aa e;split at f
  case isFalse=>cases f
  rename_i k;cases f;have⟨xs,h1,h2,u⟩:=m _ _ e
  refine⟨.tuple xs.toArray,?_,λd v' μ' N' t=>.tup xs _ Gi (λi x c s hc=>?_)⟩
  .rw[g xs h1]
   have:¬xs.toArray.size=1:=by
    intro h0;have k:vs.length=1:=sO h0
    match vs,k with
    |[v],_=>exact aa v rfl
   rw[dif_neg this]
  .simp only[Bj,Ay]at hc;obtain⟨c0,n,rfl⟩:=hc;exact(u i x c0 s n).re (Ao.1 k c0 (Ar n)) t
 .cases f
def A00{f:FuncId}{c:Code}{args:List V}{sz:Nat}{R:(Nat->Nat->V)->List V->Prop}(hf:P.funcs[f]?=some fn)(hb:fn.body=some c)(hl:args.length<=fn.ntmps)
  (h:∀w0 N0,AW P w0 N0 c (A42 P fn sz ty R) ⟨Nb 0 args,[],0,fn.ntmps⟩):ACO P f args sz ty R:=by
 intro w N xs hN aj hp
 refine calls_of_wp hf hb (wp_mono (h ⟨w,λ_=>False,λ_ _=>none,[]⟩ N _ w ⟨_,Bhe hl hN aj hp⟩) ?_)
 .rintro e a' w'⟨S',⟨he,hE⟩,⟨μ,n⟩⟩
  have z:∃v,(results fn a'.tmps).run P w'=.ok v w'/\∃x F es l,Ending.returned v=.returned x/\R F es/\Below w.heap.size w w'/\
    ∀d v μ N',μ d v=some l->Enc w' N' μ x (F d v)/\Ae4 w' N' μ ⟨w,λ_=>False,λ_ _=>none,[]⟩ ⟨v,sz,ty,es⟩ l:=by
   rcases hE with⟨q,o,F,hq,ah,ag,af,m,hR⟩|⟨F,m,hR⟩
   .have⟨x,s,r⟩:=Alp n m;have⟨l,hl,ad⟩:=n.objs q o hq
    refine⟨x,s,x,F,o.es,l,rfl,hR,n.below.plain,λd v μ' N' hμ=>⟨r d v μ' N' (λl' g=>?_),?_⟩⟩
    .rw[hl]at g;cases g;exact hμ
    .subst ah ag;cases l with
     |none=>exact ad
     |some gc=>
      have⟨h1,h2,h3,h4,ae,h5,h6,h7⟩:=ad;refine⟨h1,h2,h3,h4,ae,h5,h6,λk e j c ab hj=>?_⟩;have⟨y,hy,ai⟩:=h7 k e j c ab hj;have u:=Ao.1 (Ao.1 af e (Ar ab)) c (Ar hj);refine⟨y,hy,?_⟩;exact .pur ((ai.flatP u).of_flat u)
   .have⟨x,s,r⟩:=Alp n m;refine⟨x,s,x,F,[],none,rfl,hR,n.below.plain,λd v μ' N' hμ=>⟨r d v μ' N' (λl' g=>?_),rfl⟩⟩
    exfalso
    rcases n.fresh 0 (S'.nx+1) (by rw[g];simp)with h1|⟨j,hj,_⟩
    .omega
    .exact hj
  rcases he with rfl|rfl
  .exact⟨n.defers,z⟩
  .exact⟨n.defers,z⟩
def Hv{sz:Nat}{R:(Nat->Nat->V)->List V->Prop}(q:Nat){o:Ob}(f:get S.objs q=some o)(e:o.sz=sz)(d:o.ty=ty)(c:o.es.all Ih=true)(g:Alo P S q o.v fn.results.toList=some F)(h:R F o.es):A42 P fn sz ty R .ret S:=
 ⟨.inl rfl,.inl ⟨q,o,F,f,e,d,c,g,h⟩⟩
attribute [simp] Alo Aln V.liteE V.liteC V.re V.reC Ih
end
def V.slen:V->Option Nat
 |.ro _ es=>some es.length
 |.nils=>some 0
 |.sl _ _ _ n=>some n
 |.ss _ _ _ _ n=>some n
 |_=>none
attribute [simp] V.slen
def A43(P:Program)(t:TypeId):Bool:=match P.underlying t with|some (.slice _)=>true|_=>false
section
def Enc.slen{v:V}(h:Enc w N μ x v)(e:v.slen=some n):∃A l c,x=.slice A l c/\(A=none->n=0):=by
 cases h with
 |pur h=>
  cases h with
  |ro A ad m f sz es g h1 h2 o r=>
   simp only[V.slen,Am]at e;refine⟨A,m,f,rfl,λj=>?_⟩
   rcases Eu m with k|k
   .omega
   .have:=(r k).1;rw[j]at this;cases this
  |nils A=>simp only[V.slen,Am]at e;exact⟨A,0,0,rfl,λ_=>e.symm⟩
  |_=>simp[V.slen]at e
 |slr d v sz len g f h1 h2 o=>exact⟨_,_,_,rfl,λj=>by cases j⟩
 |slv d v sz A h1=>simp only[V.slen,Am]at e;exact⟨A,0,0,rfl,λ_=>e.symm⟩
 |ss d v sz off len g c f A h1 h2 o=>
  simp only[V.slen,Am]at e;refine⟨A,len,c,rfl,λj=>?_⟩
  rcases Eu len with k|k
  .omega
  .have:=(o k).2;rw[j]at this;cases this
 |_=>simp[V.slen]at e
def Akg{e:TypeId}(f:P.underlying t=some (.slice e))(A:Option Addr)(m c l c':Nat):∀d,(Op.equalIn (d+1) t (.slice A m c) (.slice none l c')).run P w=.ok A.isNone w:=by
 intro d;have g:=run_underlying (w:=w) f;cases A with
 |none=>simp[Op.equalIn,g]
 |some ad=>simp[Op.equalIn,g]
def N4{d:List Oper}{x:Operand}{t':TypeId}{v:V}{l c:Nat}(hg:o.guard=none)(ho:o.op=.binOp .eql t x (.const (.slice none l c)) t')(hx:S.evc true x=some v)(hn:v.slen=some n)(z:A43 P t=true)
  (h:∀b:Bool,(b=true->n=0)->∃S',S.putv o.dst (.bool b)=some S'/\Jb P w0 N0 ops Q (i+1) d S'):Jb P w0 N0 ops Q i (o::d) S:=by
 rintro D a w hD⟨μ,hr⟩;refine wpList_plain hg λK hK=>?_
 have⟨A,m,r,he,hA⟩:=(hr.evc hx rfl).slen hn;have⟨S',hs,f⟩:=h A.isNone (λu=>hA (sG u))
 have g:∃e,P.underlying t=some (.slice e):=by
  unfold A43 at z
  split at z
  .exact⟨_,by assumption⟩
  .cases z
 have⟨e,g⟩:=g;unfold Oper.wp
 have k:(execOp a.eval o).run P w=.ok (.value (.bool A.isNone)) w:=by
  unfold execOp;rw[ho];have u:(binOp .eql t (.slice A m r) (.slice none l c):Sem Value)=(do pure (.bool (<-Op.equalIn (9999+1) t (.slice A m r) (.slice none l c)))):=rfl;have y:a.eval (.const (.slice none l c))=.slice none l c:=rfl;have s:(eqGuard .eql t x (.const (.slice none l c)) (.slice A m r) (.slice none l c):Sem Unit)=pure ():=rfl;simp only[he,y,s,u,Sem.run_bind,Sem.run_pure,Result.andThen_ok,(Akg (w:=w) g A m r l c 9999)]
 rw[k];exact hK _ _ (f D _ w (λj hj=>Fx (hD j hj)) ⟨μ,hr.putv hs (.pur (.bool _))⟩)
end
section
end
def Alq(w:World)(g:Nat)(ty:TypeId)(sz f:Nat)(es:List V):Prop:=
 es.length<=f/\(∀e∈es,e.fits sz)/\∃d,w.heap[g]?=some (.cells d ty (0,0))/\d.size=f*sz/\
  ∀(k:Nat)e(j:Nat)c,es[k]?=some e->e.cells[j]?=some c->∃x,d[k*sz+j]?=some x/\Pur w (λ_=>False) x c
def ACX(P:Program)(f:FuncId)(mk:Value->Array Value)(sz:Nat)(ty:TypeId)(es h:List V)(F:Nat->Nat->V):Prop:=
 (∀(w:World)(g c:Nat),c<=maxLen->Alq w g ty sz c es->Calls P f (mk (.slice (some ⟨g,0,none⟩) es.length c)) w (λe w'=>∃x,e=.returned x/\w.grownBy w' (some g)/\Alq w' g ty sz c h/\
   ∀d v μ N',μ d v=some (some (g,c))->Enc w' N' μ x (F d v)))/\
 (es=[]->h=[]/\∀(w:World)A,Calls P f (mk (.slice A 0 0)) w (λe w'=>∃x,e=.returned x/\w.grownBy w' none/\∀d v μ N',μ d v=some none->Enc w' N' μ x (F d v)))
def ACI(P:Program)(f:FuncId)(sz:Nat)(ty:TypeId)(es h:List V)(F:Nat->Nat->V):Prop:=ACX P f (λx=> #[x]) sz ty es h F
section
def Ex.of_grown{row:Option Nat}(h:w.grownBy w' row)(f:∀g,row=some g->N g):Ex w N w':=
 ⟨h.size,λb d c=>h.block b d (λe=>c (f b e.symm))⟩
def Alr{mk:Value->Array Value}{ag:List Oper}{x:Operand}{ab:FuncId}{ay:Array TypeId}{v sz:Nat}{t:List V}
  (hc:ACX P ab mk sz ty es t F)(al:∀(a:Act)(w:World)D μ,RelM D w0 N0 μ S a w->args.map a.eval=mk (a.eval x))(av:es.all Ih=true)(ak:t.all Ih=true)(a0:P.funcs[ab]?=some fn)(hb:fn.body.isSome=true)(hn:(fn.name== "runtime.NumGoroutine")=false)
  (hg:o.guard=none)(a1:o.op=.call {callee:=.value f,args:=args,argTypes:=ay})(hf:S.evc true f=some (.fn ab))
  (hx:S.evc true x=some (.sl d v sz es.length))(ho:get S.objs d=some ⟨v,sz,ty,es⟩)(hs:({S with objs:=(d,⟨v,sz,ty,t⟩)::S.objs}:AS).putv o.dst (F d v)=some S')
  (h:Jb P w0 N0 ops Q (i+1) ag S'):Jb P w0 N0 ops Q i (o::ag) S:=by
 rintro D a w hD⟨μ,hr⟩;refine wpList_plain hg λK hK=>?_
 have ad:=hr.evc hf rfl
 have ax:a.eval f=.func (.func ab) #[] #[]:=by
  generalize a.eval f=y at ad;cases ad.pf;rfl
 have z:=hr.evc hx rfl;have⟨l,hl,af⟩:=hr.objs d _ ho;unfold Oper.wp;rw[Ly a1 ax a0 hb hn];rw[al _ _ _ _ hr]
 have s:∀(e:Ending)(w':World)(xv:Value)(row:Option Nat),e=.returned xv->w.grownBy w' row->(∀g,row=some g->∃c,l=some (g,c))->(∀N',Ae4 w' N' μ w0 ⟨v,sz,ty,t⟩ l)->(∀N',Enc w' N' μ xv (F d v))->
   ∃r,e=.returned r/\K (a.put o.dst r) w':=by
  rintro e w' xv row rfl n aa ao m;refine⟨xv,rfl,?_⟩
  have aj:=hr.below.grown n hr.below.size (λk hk=>by
   have⟨c,e⟩:=aa k hk;rw[e]at af;exact af.1)
  have⟨am,_⟩:=hr.update (D':=D) (d:=d) (o':=⟨v,sz,ty,t⟩) (l':=l) (w':=w') (μ':=μ) (λ_ _ _ hh=>hh) hr.fresh hl aj
   (Ex.of_grown n (λg hg=>by have⟨c,e⟩:=aa g hg;exact .inr ⟨d,_,c,ho,by rw[hl,e]⟩))
   (λd1 o1 g c az h1 h2=>n.block g (hr.block_lt h1 h2) (λe=>by
    have⟨c',e'⟩:=aa g e.symm;exact az (hr.inj _ _ _ _ _ _ _ h1 ho h2 (by rw[hl,e']))))
   (λg c e=>.inr ⟨_,c,ho,by rw[hl,e]⟩) (λN' _=>ao N')
  exact hK _ _ (h D _ w' (λj hj=>Fx (hD j hj)) ⟨μ,am.putv hs (m _)⟩)
 have u:∀ {w1 w2:World}{N1:Nat->Prop}{μ1:Mu}{y:Value}{c:V},c.flat=true->Enc w1 N1 μ1 y c->Pur w2 (λ_=>False) y c:=by
  intro w1 w2 N1 μ1 y c ar hy;exact(hy.flatP ar).of_flat ar
 generalize a4:a.eval x=xv at z
 have ah:Calls P ab (mk xv) w (λe w'=>∃r,e=.returned r/\K (a.put o.dst r) w'):=by
  generalize ae:V.sl d v sz es.length=sv at z;cases z with
  |pur z=>cases z<;>cases ae
  |slr d' v' a2 len g an h1 h2 h3=>
   cases ae
   rw[hl]at h1;cases h1;have⟨b1,b2,b3,b4,aw,b5,b6,b7⟩:=af
   refine(hc.1 w g an h3 ⟨b2,b4,aw,b5,b6,λk e j c he hj=>?_⟩).mono ?_
   .have⟨y,hy,ai⟩:=b7 k e j c he hj;exact⟨y,hy,u (Ao.1 (Ao.1 av e (Ar he)) c (Ar hj)) ai⟩
   .rintro e w'⟨r,he,n,⟨c1,c2,aq,c3,c4,c5⟩,m⟩;refine s e w' r (some g) he n (λg' a3=>by cases a3;exact⟨an,rfl⟩) (λN'=>⟨b1,c1,h3,c2,aq,c3,c4,λk e j c he hj=>?_⟩) λN'=>m d v μ N' hl;have⟨y,hy,ai⟩:=c5 k e j c he hj;exact⟨y,hy,.pur (ai.of_flat (Ao.1 (Ao.1 ak e (Ar he)) c (Ar hj)))⟩
  |slv d' v' a2 A h1=>
   injection ae with e1 e2 e3 e4;subst e1 e2 e3;rw[hl]at h1;cases h1;have⟨h2,h3⟩:=hc.2 af;refine(h3 w A).mono ?_;rintro e w'⟨r,he,n,m⟩;exact s e w' r none he n (λg hg=>by cases hg) (λN'=>h2) λN'=>m d v μ N' hl
  |_=>cases ae
 refine ah.mono ?_;rintro e w'⟨r,rfl,hk⟩;exact hk
def Yc{ag:List Oper}{x:Operand}{ab:FuncId}{ay:Array TypeId}{v sz:Nat}{t:List V}
  (hc:ACI P ab sz ty es t F)(av:es.all Ih=true)(ak:t.all Ih=true)(a0:P.funcs[ab]?=some fn)(hb:fn.body.isSome=true)(hn:(fn.name== "runtime.NumGoroutine")=false)
  (hg:o.guard=none)(a1:o.op=.call {callee:=.value f,args:= #[x],argTypes:=ay})(hf:S.evc true f=some (.fn ab))
  (hx:S.evc true x=some (.sl d v sz es.length))(ho:get S.objs d=some ⟨v,sz,ty,es⟩)(hs:({S with objs:=(d,⟨v,sz,ty,t⟩)::S.objs}:AS).putv o.dst (F d v)=some S')
  (h:Jb P w0 N0 ops Q (i+1) ag S'):Jb P w0 N0 ops Q i (o::ag) S:=Alr hc (λ_ _ _ _ _=>by simp) av ak a0 hb hn hg a1 hf hx ho hs h
end
def AS.viewT(S:AS):V->Option V
 |.tup vs=>match S.views vs with
  |some us=>some (.tup us)
  |none=>none
 |v=>S.view v
def ACO.ac{f:FuncId}{args:List V}{sz:Nat}{R:(Nat->Nat->V)->List V->Prop}{R':V->Prop}(h:ACO P f args sz ty R)
  (hv:∀F es,R F es->∃u,AS.viewT ⟨[],[(0,⟨0,sz,ty,es⟩)],1,0⟩ (F 0 0)=some u/\R' u):AC P f args R':=by
 intro w N xs h1 h2 h3;refine(h w N xs h1 h2 h3).mono ?_;rintro e w'⟨x,F,es,l,rfl,hR,n,s⟩;have⟨u,j,ad⟩:=hv F es hR;refine⟨x,u,rfl,ad,?_,n⟩;generalize hS:(⟨[],[(0,⟨0,sz,ty,es⟩)],1,0⟩:AS)=S at j
 let μ:Mu:=λd v=>if d=0/\v=0 then some l else none
 have hμ:μ 0 0=some l:=by simp[μ]
 have hr:RelM (λ_=>False) ⟨w,λ_=>False,λ_ _=>none,[]⟩ N μ S ⟨#[],[]⟩ w':=by
  subst hS
  refine⟨rfl,rfl,⟨n.os,n.tape,n.output,n.size,λk hk _=>n.block k hk⟩,⟨λb n=>⟨h1 b n,λh=>h⟩,λ_ _ _ h=>by cases h⟩,λd v ae=>?_,λd o z=>?_,λd o d' o' g c c' g1 g2 _ _=>?_,λt v ht=>by simp[get]at ht⟩
  .left
   by_cases e:d=0/\v=0
   .simp only;omega
   .simp[μ,e]at ae
  .simp only[Dh]at z
   split at z
   .rename_i e0;subst e0;cases z;exact⟨l,hμ,(s 0 0 μ _ hμ).2⟩
   .simp[get]at z
  .simp only[Dh]at g1 g2
   split at g1
   .split at g2
    .omega
    .simp[get]at g2
   .simp[get]at g1
 have hx:=(s 0 0 μ (Fp N μ S) hμ).1;generalize F 0 0=r at hx j;unfold AS.viewT at j
 split at j
 .rename_i vs;split at j
  case h_2=>cases j
  rename_i us ab;cases j;have⟨h4,h5⟩:=Z3 ab
  have aa:∀m:List Value,m.length=vs.length->(∀(i:Nat)y c,m[i]?=some y->vs[i]?=some c->Enc w' (Fp N μ S) μ y c)->Pur w' N (.tuple m.toArray) (.tup us):=by
   intro m hl hh;refine .tup m us (by rw[hl,h4]) λi y c hy hc=>?_;have hi:i<vs.length:=by rw[<-h4];exact(Al.1 hc).1
   exact hr.view (hh i y vs[i] hy (Ah hi)) (h5 i vs[i] c (Ah hi) hc)
  cases hx with
  |pur hx=>cases hx with
   |tup m _ hl hh=>exact aa m hl (λi y c a b=>.pur (hh i y c a b))
  |tup m _ hl hh=>exact aa m hl hh
 .exact hr.view hx j
attribute [simp] AS.viewT
def Lc{x y:Code}(S1:AS)(h1:AW P w0 N0 x (λe T=>e=.normal/\T.le S1) S)(h2:AW P w0 N0 y Q S1):AW P w0 N0 (.seq x y) Q S:=
 J (h1.mono λe T⟨he,hT⟩=>by subst he;exact T1 hT h2)
def Aoh{x y:Code}(S1:AS)(h1:AW P w0 N0 x (Ph (λT=>T.le S1) Q) S)(h2:AW P w0 N0 y Q S1):AW P w0 N0 (.seq x y) Q S:=
 J (h1.mono λe T c=>by
  cases e with
  |normal=>exact T1 c h2
  |_=>exact c)
def Kp(L M:List Nat)(f:(S.keep L M).env=S'.env)(c:(S.keep L M).objs=S'.objs)(e:S'.nt=S.nt)(g:S.nx<=S'.nx):S.le S':=
 AS.le_trans (Me S L M) (Ya e g (λt v h=>by rw[f];exact h) (λd o h=>by rw[c];exact h))
def Wg(f:S.env=S'.env)(c:S.objs=S'.objs)(e:S'.nt=S.nt)(g:S.nx<=S'.nx):S.le S':=
 Ya e g (λt v h=>by rw[f];exact h) (λd o h=>by rw[c];exact h)
open Go.ChangeAt
def Bby(P:Program)(L:List TypeId)(t:TypeId):Bool:=match P.underlying t with
 |some .bool|some (.int _)|some .string=>P.cellsOf t==1
 |some (.slice e)=>(P.cellsOf t==1)&&decide (0<P.cellsOf e)&&L.contains e
 |some (.struct c)=>Ahe P c.toList 0 (P.cellsOf t)&&c.toList.all λf=>L.contains f.type
 |_=>false
def okL(P:Program)(L:List TypeId):Bool:=L.all (Bby P L)
section
variable {H:Type}{enc:TypeId×Value->H}{P:Program}{w:World}{base:Nat}{spare:Nat->Bool}{held:Bool}
def RdW(P:Program)(t:TypeId)(v:V):Prop:=∃n vs,Rd P n t vs/\v=mkV (En P t) vs
end
def Avc(P:Program):List TypeId->List V->Prop
 |[],vs=>vs=[]
 |t::ts,vs=>∃u us,vs=u::us/\RdW P t u/\Avc P ts us
variable {l':List V}{v':V}
def Bh(v v':V):Prop:=(∀(w:World)(N:Nat->Prop)(x:Value),Pur w N x v->Pur w N x v')/\(v.isCell=true->v'.isCell=true)
inductive RelaxL:List V->List V->Prop
 |nil:RelaxL [] []
 |cons {v v':V} {l l':List V} (h:Bh v v') (t:RelaxL l l'):RelaxL (v::l) (v'::l')
def Bh.refl(v:V):Bh v v:=⟨λ_ _ _ h=>h,id⟩
def Pur.nils_ro(sz:Nat)(h:Pur w N x .nils):Pur w N x (.ro sz []):=by
 cases h with
 |nils A=>exact .ro A ⟨0,0,none⟩ 0 0 sz [] (λ_ _=>undef) rfl (A2 _) (B5 _) (λh0=>by omega) sm sm sm
def Bh.nils(sz:Nat):Bh .nils (.ro sz []):=⟨λ_ _ _ h=>h.nils_ro sz,λ_=>rfl⟩
def RelaxL.length{l:List V}(h:RelaxL l l'):l.length=l'.length:=by induction h<;>simp_all
def RelaxL.get{l:List V}(h:RelaxL l l'):∀(i:Nat)v',l'[i]?=some v'->∃v,l[i]?=some v/\Bh v v':=by
 induction h with
 |nil=>intro i v' h;simp at h
 |cons h _ ih=>
  intro i v' c
  rcases i with _ |i
  .simp at c;subst c;exact⟨_,rfl,h⟩
  .simp at c;have⟨v,h1,h2⟩:=ih i v' c;exact⟨v,by simpa using h1,h2⟩
def RelaxL.refl:∀l:List V,RelaxL l l
 |[]=>.nil
 |v::l=>.cons (Bh.refl v) (RelaxL.refl l)
def Bh.agg{cs e:List V}(h:RelaxL cs e):Bh (.agg cs) (.agg e):=by
 refine⟨λw N x j=>?_,λh=>by simp[V.isCell]at h⟩;cases j with
 |agg xs _ m l g=>
  refine .agg xs e (by rw[m,h.length]) (λc d=>?_) λi x c f d=>?_
  .have⟨i,k⟩:=De d;have⟨v,h1,h2⟩:=h.get i c k;exact h2.2 (l v (Ar h1))
  .have⟨v,h1,h2⟩:=h.get i c d;exact h2.1 _ _ _ (g i x v f h1)
def Bh.tup{cs d:List V}(h:RelaxL cs d):Bh (.tup cs) (.tup d):=by
 refine⟨λw N x j=>?_,λh=>by simp[V.isCell]at h⟩;cases j with
 |tup xs _ k g=>
  refine .tup xs d (by rw[k,h.length]) λi x c e f=>?_;have⟨v,h1,h2⟩:=h.get i c f;exact h2.1 _ _ _ (g i x v e h1)
def AC.relax{f:FuncId}{args:List V}{v:V}(h:AC P f args (λr=>r=v))(d:Bh v v'):AC P f args (λr=>r=v'):=
 λw N xs h1 h2 c=>(h w N xs h1 h2 c).mono λ_ _⟨x,_,he,hR,hp,hb⟩=>⟨x,v',he,rfl,d.1 _ _ _ (hR▸hp),hb⟩
def AC.argsR{f:FuncId}{args c:List V}(h:AC P f c R)(d:RelaxL args c):AC P f args R:=
 λw N xs h1 h2 l=>h w N xs h1 (by rw[h2,d.length]) (λi x v j g=>by
  have⟨u,e,k⟩:=d.get i v g;exact k.1 _ _ _ (l i x u j e))
def Enc.relax{v:V}(h:Enc w N μ x v)(hp:v.pureV=true)(c:Bh v v'):Enc w N μ x v':=.pur (c.1 _ _ _ (h.pureV hp))
def A44{t:Nat}{v:V}(d:get S.env t=some v)(hp:v.pureV=true)(f:Bh v v'):S.le {S with env:=(t,v')::S.env}:=by
 rintro w0 N0 a w⟨μ,h⟩;refine⟨μ,h.defers,h.size,h.below,h.n0,h.fresh,h.objs,h.inj,λu x c=>?_⟩;rw[Dh]at c
 by_cases e:t=u
 .subst e;simp only[if_true,Am]at c;subst c;exact⟨(h.env t v d).1,(h.env t v d).2.relax hp f⟩
 .simp only[e,if_false]at c;exact h.env u x c
def Aq6{c:Code}(t:Nat){v:V}(v':V)(L M:List Nat)(f:get S.env t=some v)(hp:v.pureV=true)(d:Bh v v')(e:AS.keep {S with env:=(t,v')::S.env} L M=S')(h:AW P w0 N0 c Q S'):AW P w0 N0 c Q S:=
 T1 (A44 f hp d) (Ax4 L M e h)
def Pur.ro_len{sz:Nat}(h:Pur w N x (.ro sz es)):es.length<=maxLen:=by
 cases h with
 |ro A ad n e _ _ g hn c d _ _ _ _=>omega
def K6{f:FuncId}{args:List V}(i:Nat){sz:Nat}(h:args[i]?=some (.ro sz es))(k:es.length<=maxLen->AC P f args R):AC P f args R:=by
 intro w N xs h1 h2 c;have d:i<xs.length:=by rw[h2];exact(Al.1 h).1
 exact k (c i xs[i] _ (Ah d) h).ro_len w N xs h1 h2 c
def E4(l:List V)(z:V)(k:Nat):List V:=l.take k++List.replicate (l.length-k) z
def Ia(l:List V)(z:V):E4 l z 0=List.replicate l.length z:=by simp[E4]
def Jz(l:List V)(z:V)(k:Nat)(h:l.length<=k):E4 l z k=l:=by
 rw[E4,Ba h,show l.length-k=0 by omega];simp
def Jc(l:List V)(z:V)(k:Nat)(h:k<=l.length):(E4 l z k).length=l.length:=by simp[E4];omega
def Jd(l:List V)(z:V)(k:Nat)(h:k<l.length):Gz (E4 l z k) k=some z:=by
 rw[C0,E4,Bn (by simp;omega)];rw[Hd,C8,G6 (Ig h),Ab oM]
def Je(l:List V)(z:V)(k:Nat)(h:k<l.length){x:V}(d:l[k]?=some x):(E4 l z k).set k x=E4 l z (k+1):=by
 have c:l[k]=x:=by rw[Ah h]at d;injection d
 unfold E4;rw[Fl _ _ so,Av h,c];simp only[C8,G6 (Ig h),F4];rw[show l.length-k=(l.length-(k+1))+1 by omega,Gm,K8];simp
def Bbz{l:List V}{x:V}(h:k<l.length):Gz (l.set k x) k=some x:=by rw[C0];simp[h]
def Ahf{l:List V}{x:V}:Gz (l++[x]) l.length=some x:=by rw[C0];simp
end Go.Eng
