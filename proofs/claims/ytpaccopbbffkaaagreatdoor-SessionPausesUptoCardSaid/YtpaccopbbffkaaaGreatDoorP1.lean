/- Sessions: part 1 of the proof. No condition. -/
import Derived.KernelRfl
import Derived.Below
import Derived.Tactics
import Derived.Laws.Rows
import Derived.Maps.AppendAt
import Derived.Laws.Strings
import Derived.Laws.Concat
import Derived.Laws.StructEq
import Derived.Laws.Slices
import Derived.WalkKit
import Derived.MapKept
import Derived.Laws.Small
import Derived.Laws.BytesString
import Derived.Laws.CopyRow
import Derived.Laws.MakeOwn
import Derived.Lib.AppendStr
import Derived.Laws.CopyOwn
import Derived.Orders
import Derived.Still
import Derived.ProofKit
import Derived.OpenShut
import Derived.ShutString
import Derived.ChangeOld
import Derived.Carry
import Derived.Sort.OwnSortedInts
namespace Go
abbrev A0:=@Option.map_eq_some_iff
abbrev A1:=@List.take_succ_eq_append_getElem
abbrev A8:=@Nat.le_add_right
abbrev A9:=@Nat.le_refl
abbrev Ai:=@Nat.le_trans
abbrev Al:=@List.getElem?_eq_getElem
abbrev Ap:=@List.getElem?_eq_some_iff
abbrev Aq:=@List.length_eq_zero_iff
abbrev Au:=@Option.some.injEq
abbrev Aw:=@List.all_eq_true
abbrev Ay:=@List.mem_of_getElem?
abbrev Az:=@List.getElem_mem
abbrev B0:=@Prod.mk.injEq
abbrev B2:=@Array.getElem?_eq_some_iff
abbrev B3:=@Nat.mul_le_mul_right
abbrev B4:=@Nat.zero_le
abbrev B5:=@Nat.mul_assoc
abbrev B6:=@Nat.lt_of_lt_of_le
abbrev B7:=@Option.bind_eq_some_iff
abbrev B8:=@List.mem_of_mem_take
abbrev B9:=@Nat.add_mul
abbrev Ba:=@List.length_cons
abbrev Bc:=@List.getElem?_map
abbrev Be:=@List.getElem?_append_right
abbrev Bf:=@List.length_append
abbrev Bg:=@List.take_of_length_le
abbrev Bj:=@Nat.mul_comm
abbrev Bk:=@Bool.and_eq_true
abbrev Bl:=@List.take_length
abbrev Bm:=@List.mem_map
abbrev Bn:=@List.getElem?_append_left
abbrev Bt:=@List.drop_eq_getElem_cons
abbrev Bx:=@List.length_nil
abbrev Bz:=@List.mem_singleton
abbrev C3:=@List.append_assoc
abbrev C4:=@List.size_toArray
abbrev C8:=@Int.natCast_add
abbrev C9:=@Nat.mod_lt
abbrev Cc:=@List.mem_append
abbrev Cd:=@List.drop_length
abbrev Cg:=@List.getElem?_take_of_lt
abbrev Ch:=@List.cons_append
abbrev Ci:=@Nat.mod_eq_of_lt
abbrev Cj:=@List.mem_cons
abbrev Ck:=@Nat.pow_succ
abbrev Cl:=@Int.eq_ofNat_of_zero_le
abbrev Cm:=@Option.isSome_iff_exists
abbrev Co:=@List.getElem?_of_mem
abbrev Cq:=@Nat.div_div_eq_div_mul
abbrev Cr:=@List.map_append
abbrev Cs:=@List.length_take
abbrev Ct:=@List.map_cons
abbrev Cu:=@Array.getElem?_eq_none
abbrev Cx:=@List.mem_of_mem_drop
abbrev Cy:=@List.getElem?_drop
abbrev Cz:=@Nat.div_lt_iff_lt_mul
abbrev D0:=@Nat.le_succ_of_le
abbrev D9:=@Nat.mul_le_mul_left
abbrev Da:=@List.getElem?_cons_zero
abbrev De:=@Nat.lt_or_ge
abbrev Df:=@List.getD_eq_getElem?_getD
abbrev Dj:=@Nat.zero_add
abbrev Dm:=@Array.getD_eq_getD_getElem?
abbrev Dn:=@Int.toNat_natCast
abbrev Dv:=@List.mem_cons_of_mem
abbrev Dw:=@Nat.mul_add
abbrev Dy:=@Nat.add_zero
abbrev Dz:=@List.any_eq_true
abbrev E0:=@List.set_append_right
abbrev E4:=@Nat.div_mul_le_self
abbrev E7:=@Int.natCast_mul
abbrev Ee:=@Nat.pow_le_pow_right
abbrev Eg:=@List.length_map
abbrev Eh:=@Nat.lt_succ_of_lt
abbrev Ej:=@Array.ext'
abbrev Ek:=@Int.natAbs_natCast
abbrev Em:=@List.length_pos_iff
abbrev En:=@Option.getD_some
abbrev Eo:=@List.append_nil
abbrev Es:=@Nat.eq_zero_or_pos
abbrev Et:=@List.mem_cons_self
abbrev F0:=@Nat.mul_one
abbrev F3:=@Bool.or_eq_false_iff
abbrev F4:=@Nat.pow_add
abbrev F7:=@List.length_drop
abbrev F8:=@List.map_nil
abbrev F9:=@List.not_mem_nil
abbrev Fe:=@Nat.pow_pos
abbrev Fg:=@List.mem_or_eq_of_mem_set
abbrev Fh:=@Bool.false_eq_true
abbrev Fi:=@Nat.lt_of_le_of_lt
abbrev Fj:=@List.drop_eq_nil_of_le
abbrev Fm:=@List.nil_append
abbrev Ft:=@List.length_filter_le
abbrev Fv:=@Nat.sub_self
abbrev Fw:=@Nat.mul_lt_mul_of_pos_right
abbrev Fy:=@List.getElem?_cons_succ
abbrev G5:=@Array.getElem?_append_left
abbrev G6:=@Int.fdiv_eq_ediv_of_nonneg
abbrev Ga:=@Nat.div_eq_of_lt
abbrev Gc:=@List.replicate_succ
abbrev Gf:=@List.eq_nil_of_length_eq_zero
abbrev Gi:=@List.take_append_drop
abbrev Gj:=@Nat.le_div_iff_mul_le
abbrev Gk:=@List.getElem?_eq_none
abbrev Gq:=@Nat.div_add_mod
abbrev Gw:=@Array.mem_toList_iff
abbrev Gz:=@Array.size_append
abbrev H1:=@List.getElem?_replicate
abbrev H6:=@Option.map_some
abbrev H7:=@List.nodup_cons
abbrev H8:=@List.all_append
abbrev Ha:=@List.length_set
abbrev Hb:=@Nat.min_eq_left
abbrev Hc:=@Bool.or_eq_true
abbrev Hd:=@Nat.div_le_self
abbrev Hf:=@Array.mapM_eq_mapM_toList
abbrev Hg:=@List.pairwise_iff_getElem
abbrev Hh:=@Decidable.byContradiction
abbrev Hm:=@Nat.pos_of_ne_zero
abbrev Ho:=@Nat.le_of_lt
abbrev Hu:=@List.mem_iff_getElem
abbrev Hv:=@List.mem_range
abbrev Hw:=@List.getElem?_set_ne
abbrev Hx:=@Nat.mul_le_mul
abbrev I1:=@Array.size_replicate
abbrev I2:=@List.mem_append_left
abbrev I3:=@Bool.not_eq_true'
abbrev I4:=@List.all_eq_false
abbrev I5:=@Nat.le_of_eq
abbrev Ia:=@Array.length_toList
abbrev Ib:=@Nat.lt_mul_div_succ
abbrev Ic:=@List.length_take_le
abbrev Iq:=@List.take_zero
abbrev Ir:=@Nat.lt_of_mul_lt_mul_right
abbrev Iv:=@List.getElem?_toArray
abbrev Iw:=@Nat.le_of_ble_eq_true
abbrev Ix:=@Option.some.inj
abbrev Iy:=@Nat.mul_ne_zero
abbrev J3:=@List.set_cons_zero
abbrev J4:=@Nat.sub_zero
abbrev J7:=@Array.getElem?_setIfInBounds
abbrev J8:=@List.mem_filter
abbrev Jb:=@Nat.add_assoc
abbrev Jc:=@List.eq_of_mem_replicate
abbrev Js:=@Nat.mul_div_cancel_left
abbrev Jt:=@List.filter_cons_of_pos
abbrev Ju:=@List.filter_cons_of_neg
abbrev K0:=@Array.replicate_succ
abbrev K1:=@Array.replicate_zero
abbrev Ke:=@List.map_take
abbrev Kj:=@Array.getElem?_modify
abbrev Kk:=@List.flatMap_cons
abbrev Kl:=@List.nodup_append
abbrev Km:=@List.ext_getElem?
abbrev Kn:=@List.getElem?_set
abbrev Ky:=@Nat.add_mul_div_left
abbrev Kz:=@Int.le_refl
abbrev L4:=@Bool.eq_iff_iff
abbrev Lp:=@List.getElem?_range
abbrev Lq:=@List.take_succ_cons
abbrev Lr:=@List.append_toArray
abbrev Ls:=@List.mem_map_of_mem
abbrev M7:=@List.mapM_cons
abbrev M8:=@Nat.mul_left_comm
abbrev M9:=@List.map_set
abbrev Mb:=@BitVec.toNat_ofNat
abbrev Mc:=@List.pairwise_cons
abbrev Md:=@List.filter_append
abbrev N4:=@List.map_toArray
abbrev N5:=@Nat.min_le_right
abbrev N6:=@Nat.le_of_not_lt
abbrev Na:=@List.any_eq_false
abbrev Nb:=@Int.natAbs_neg
abbrev Nc:=@List.push_toArray
abbrev O4:=@Nat.zero_mul
abbrev O5:=@List.map_map
abbrev Oa:=@Bool.false_or
abbrev P1:=@Rat.zero_mkRat
abbrev P3:=@Int.natAbs_mul
abbrev Qx:=@Bool.not_true
abbrev Qy:=@List.any_cons
abbrev Sa:=@Nat.not_lt
abbrev Sb:=@Nat.lt_trans
abbrev Sc:=@Nat.pow_zero
abbrev Sf:=@Nat.mul_zero
abbrev Sg:=@Nat.add_comm
abbrev Ud:=@Nat.one_mul
abbrev Ue:=@Nat.mod_one
abbrev Uf:=@Nat.mod_mul
abbrev Ug:=@Int.mul_neg
abbrev Ww:=@Nat.sub_le
abbrev Y2:=@Ne.symm
end Go
set_option maxHeartbeats 8000000
set_option linter.all false
namespace Go
theorem sr{p:Prop}(h:p:=by simp<;>rfl):p:=h
theorem kr{p:Prop}(h:p:=by kernel_rfl):p:=h
theorem om{p:Prop}(h:p:=by omega):p:=h
theorem sm{p:Prop}(h:p:=by simp):p:=h
theorem dc{p:Prop}(h:p:=by decide):p:=h
theorem so{p:Prop}(h:p:=by simp;omega):p:=h
theorem sy{p:Prop}(h:p:=by simp only;omega):p:=h
theorem rf{p:Prop}(h:p:=by exact rfl):p:=h
theorem ly{p:Prop}(h:p:=by constructor<;>first|kernel_rfl|(intro;kernel_rfl)|decide):p:=h
theorem lx{p:Prop}(h:p:=by constructor<;>first|kernel_rfl|(intro;kernel_rfl)|decide|(constructor<;>first|kernel_rfl|(intro;kernel_rfl)|decide)):p:=h
end Go
namespace Go.Eng
open Go.RowKit
def G8{α:Type}:List α->Nat->Option α
 | [],_ =>none
 |x::_,0=>some x
 |_ ::r,n+1=>G8 r n
theorem C0{α:Type}:∀(l:List α)(k:Nat),G8 l k=l[k]?
 | [],_ =>by simp [G8]
 |_ ::_,0=>by simp [G8]
 |_ ::r,n+1=>by simp [G8,C0 r n]
inductive V where
 |bool (b:Bool)
 |int (k:IntKind) (n:Int)
 |str (l:List UInt8)
 |agg (cs:List V)
 |tup (vs:List V)
 |ro (sz:Nat) (es:List V)
 |nils
 |rp (e:V)
 |fn (f:FuncId)
 |sl (d v sz len:Nat)
 |ss (d v sz off len:Nat)
 |bp (d v sz k off:Nat)
 |whn (b:Bool) (v:V)
 |mp (b:Nat) (k:IntKind) (m:List (Int × V))
 |nilp
 |nili
 |nilf
 |ifc (t:TypeId) (v:V)
 |clo (f:FuncId) (first caps:List V)
 |fc (f:FuncId) (first caps:List V)
 |dm (t:TypeId) (cs:List V)
 |rm (b:Nat) (k:IntKind) (m:List (Int × V))
def V.still:V->Bool
 | .mp .. | .rm .. | .fc .. | .tup _ | .whn .. =>false
 |_ =>true
def V.isCell:V->Bool
 | .agg _ | .tup _ | .whn _ _ | .mp .. | .rm .. =>false
 | .fc _ us vs=>us.all V.still&&vs.all V.still
 |_ =>true
def V.cells:V->List V
 | .agg cs=>cs
 |v=>[v]
def V.fits(sz:Nat)(e:V):Prop:=e.cells.length=sz/\∀c∈e.cells,c.isCell=true
def Gd(a:Int):List (Int × V)->Option V
 | []=>none
 |(x,v)::r=>if x=a then some v else Gd a r
def Nd(e:MapEntry):Int:=match e.key with| .int _ a=>a|_ =>0
def Hi(a:Int):List MapEntry->Option Value
 | []=>none
 |e::r=>if Nd e=a then some e.val else Hi a r
def V.flat0:V->Bool
 | .bool _ | .int _ _ | .str _ =>true
 |_ =>false
def V.flat1:V->Bool
 | .bool _ | .int _ _ | .str _ | .nils| .fn _ | .nilp| .nili| .nilf=>true
 |_ =>false
def V.flat2:V->Bool
 | .agg cs=>cs.all V.flat1
 |v=>v.flat1
inductive Pur(w:World)(N:Nat->Prop):Value->V->Prop
 |bool (b:Bool):Pur w N (.bool b) (.bool b)
 |int (k:IntKind) (n:Int):Pur w N (.int k n) (.int k n)
 |str (l:List UInt8):Pur w N (.string ⟨l.toArray⟩) (.str l)
 |agg (xs:List Value) (cs:List V) (hl:xs.length=cs.length) (hc:∀c∈cs,c.isCell=true)
   (h:∀(i:Nat)x c,xs[i]? =some x->cs[i]? =some c->Pur w N x c):Pur w N (.agg xs.toArray) (.agg cs)
 |tup (xs:List Value) (cs:List V) (hl:xs.length=cs.length)
   (h:∀(i:Nat)x c,xs[i]? =some x->cs[i]? =some c->Pur w N x c):Pur w N (.tuple xs.toArray) (.tup cs)
 |ro (A:Option Addr) (ad:Addr) (n cap sz:Nat) (es:List V) (g:Nat->Nat->Value) (hn:es.length=n) (hcap:n<=cap) (hmax:cap<=maxLen)
   (hA:0<n->A=some ad/\ad.block<w.heap.size/\¬N ad.block) (hf:∀e∈es,e.fits sz)
   (hc:∀(k:Nat)e(j:Nat)c,es[k]? =some e->e.cells[j]? =some c->w.cell? (ad.add (k*sz+j))=some (g k j))
   (h:∀(k:Nat)e(j:Nat)c,es[k]? =some e->e.cells[j]? =some c->Pur w N (g k j) c):Pur w N (.slice A n cap) (.ro sz es)
 |nils (A:Option Addr):Pur w N (.slice A 0 0) .nils
 |rp (ad:Addr) (sz:Nat) (e:V) (g:Nat->Value) (hb:ad.block<w.heap.size) (hN:¬N ad.block) (hf:e.fits sz)
   (hc:∀(j:Nat)c,e.cells[j]? =some c->w.cell? (ad.add j)=some (g j))
   (h:∀(j:Nat)c,e.cells[j]? =some c->Pur w N (g j) c):Pur w N (.pointer (some ad)) (.rp e)
 |fn (f:FuncId):Pur w N (.func (.func f) #[] #[]) (.fn f)
 |nilp:Pur w N (.pointer none) .nilp
 |nili:Pur w N .nilIface .nili
 |nilf:Pur w N .nilFunc .nilf
 |ifc (t:TypeId) (x:Value) (v:V) (hf:v.flat2=true) (h:Pur w N x v):Pur w N (.iface t x) (.ifc t v)
 |mp (b:Nat) (k:IntKind) (m:List (Int × V)) (es:Array MapEntry) (clock:Nat) (g:Int->Value) (hN:¬N b) (hb:w.heap[b]? =some (.map es clock)) (hk:∀e∈es.toList,∃a,e.key=.int k a)
   (hs:∀a v,Gd a m=some v->Hi a es.toList=some (g a)/\v.flat0=true) (hn:∀a,Gd a m=none->Hi a es.toList=none)
   (hw:(es.toList.map (·.born)).Nodup/\(∀e∈es.toList,e.born<clock)/\(es.toList.map Nd).Nodup)
   (h:∀a v,Gd a m=some v->Pur w N (g a) v):Pur w N (.map (some b)) (.mp b k m)
 |fc (f:FuncId) (xs ys:List Value) (us vs:List V) (hl:xs.length=us.length) (hm:ys.length=vs.length) (h:∀(i:Nat)x c,xs[i]? =some x->us[i]? =some c->Pur w N x c)
   (k:∀(i:Nat)x c,ys[i]? =some x->vs[i]? =some c->Pur w N x c):Pur w N (.func (.func f) xs.toArray ys.toArray) (.fc f us vs)
 |dm (t:TypeId) (xs:List Value) (cs:List V) (hl:xs.length=cs.length) (hc:∀c∈cs,c.isCell=true)
   (h:∀(i:Nat)x c,xs[i]? =some x->cs[i]? =some c->Pur w N x c):Pur w N (.iface t (.agg xs.toArray)) (.dm t cs)
 |rm (ad:Addr) (b:Nat) (k:IntKind) (m:List (Int × V)) (hb:ad.block<w.heap.size) (hN:¬N ad.block) (hc:w.cell? ad=some (.map (some b)))
   (h:Pur w N (.map (some b)) (.mp b k m)):Pur w N (.pointer (some ad)) (.rm b k m)
def Ef(w:World)(N:Nat->Prop)(w':World):Prop:=
 w.heap.size<=w'.heap.size/\∀b,b<w.heap.size->¬N b->w'.heap[b]? =w.heap[b]?
theorem Ef.refl(w:World)(N:Nat->Prop):Ef w N w:=⟨A9 _,fun _ _ _ =>rfl⟩
theorem Ef.of_below{w w':World}(h:Below w.heap.size w w')(N:Nat->Prop):Ef w N w':=⟨h.size,fun b a _ =>h.block b a⟩
theorem Ef.alloc(w:World)(N:Nat->Prop)(o:Obj):Ef w N (w.alloc o):=⟨by simp,fun b a _ =>Below.heap_alloc w o b a⟩
theorem add_block(a:Addr)(n:Nat):(a.add n).block=a.block:=by unfold Addr.add;split<;>rfl
theorem Qz(a:Addr)(i j:Nat):(a.add i).add j=a.add (i+j):=by
 unfold Addr.add;by_cases c:i=0<;>by_cases d:j=0<;>simp [c,d,Jb]
theorem Pur.keep{w w':World}{N N':Nat->Prop}(r:Ef w N w')(hN:∀b,b<w.heap.size->N' b->N b){x:Value}{v:V}(h:Pur w N x v):Pur w' N' x v:=by
 induction h with
 |bool b=>exact .bool b
 |int k n=>exact .int k n
 |str l=>exact .str l
 |agg xs cs u i _ ih=>exact .agg xs cs u i ih
 |tup xs cs u _ ih=>exact .tup xs cs u ih
 |ro A ad n ab sz es g hn z y hA hf i _ ih=>
  refine .ro A ad n ab sz es g hn z y (fun h0=>?_) hf (fun k e j c he hj=>?_) ih
  ·obtain⟨h1,h2,h3⟩:=hA h0;exact⟨h1,B6 h2 r.1,fun o=>h3 (hN _ h2 o)⟩
  ·have h0:0<n:=by
    have:=(Ap.1 he).1;omega
   obtain⟨_,h2,h3⟩:=hA h0;rw [World.cell?_of_block (w:=w) (r.2 _ (by rw [add_block];exact h2) (by rw [add_block];exact h3))];exact i k e j c he hj
 |nils A=>exact .nils A
 |rp ad sz e g d a hf i _ ih=>
  refine .rp ad sz e g (B6 d r.1) (fun o=>a (hN _ d o)) hf (fun j c hj=>?_) ih;rw [World.cell?_of_block (w:=w) (r.2 _ (by rw [add_block];exact d) (by rw [add_block];exact a))];exact i j c hj
 |fn f=>exact .fn f
 |nilp=>exact .nilp
 |nili=>exact .nili
 |nilf=>exact .nilf
 |ifc t x v hf _ ih=>exact .ifc t x v hf ih
 |mp b k m es s g a d ae hs hn hw _ ih=>
  have aa:b<w.heap.size:=(B2.1 d).1;exact .mp b k m es s g (fun o=>a (hN _ aa o)) ((r.2 b aa a).trans d) ae hs hn hw ih
 |fc f xs ys us vs u hm _ _ ih ik=>exact .fc f xs ys us vs u hm ih ik
 |dm t xs cs u i _ ih=>exact .dm t xs cs u i ih
 |rm ad b k m d a i _ ih=>
  refine .rm ad b k m (B6 d r.1) (fun o=>a (hN _ d o)) ?_ ih;rw [World.cell?_of_block (w:=w) (r.2 _ d a)];exact i
def V.flat:V->Bool
 | .bool _ | .int _ _ | .str _ | .nils| .fn _ | .nilp| .nili| .nilf=>true
 | .ifc _ v=>v.flat2
 |_ =>false
theorem Pur.of_flat1{w w':World}{N N':Nat->Prop}{x:Value}{v:V}(h:Pur w N x v)(a:v.flat1=true):Pur w' N' x v:=by
 cases h with
 |bool b=>exact .bool b
 |int k n=>exact .int k n
 |str l=>exact .str l
 |nils A=>exact .nils A
 |fn f=>exact .fn f
 |nilp=>exact .nilp
 |nili=>exact .nili
 |nilf=>exact .nilf
 |agg|tup|ro|rp|mp|ifc|fc|dm|rm=>simp [V.flat1]at a
theorem Pur.of_flat2{w w':World}{N N':Nat->Prop}{x:Value}{v:V}(h:Pur w N x v)(a:v.flat2=true):Pur w' N' x v:=by
 cases h with
 |agg xs cs e d h=>exact .agg xs cs e d (fun i x c h1 h2=>(h i x c h1 h2).of_flat1 (Aw.1 a c (Ay h2)))
 |bool b=>exact .bool b
 |int k n=>exact .int k n
 |str l=>exact .str l
 |nils A=>exact .nils A
 |fn f=>exact .fn f
 |nilp=>exact .nilp
 |nili=>exact .nili
 |nilf=>exact .nilf
 |tup|ro|rp|mp|ifc|fc|dm|rm=>simp [V.flat2,V.flat1]at a
theorem Pur.of_flat{w w':World}{N N':Nat->Prop}{x:Value}{v:V}(h:Pur w N x v)(a:v.flat=true):Pur w' N' x v:=by
 cases h with
 |bool b=>exact .bool b
 |int k n=>exact .int k n
 |str l=>exact .str l
 |nils A=>exact .nils A
 |fn f=>exact .fn f
 |nilp=>exact .nilp
 |nili=>exact .nili
 |nilf=>exact .nilf
 |ifc t x v h1 h2=>exact .ifc t x v h1 (h2.of_flat2 h1)
 |agg|tup|ro|rp|mp|fc|dm|rm=>simp [V.flat]at a
theorem Pur.cell_oneCell{w:World}{N:Nat->Prop}{x:Value}{v:V}(h:Pur w N x v)(a:v.isCell=true):x.oneCell'=true:=by
 cases h<;>first|rfl|simp [V.isCell]at a
abbrev Mu:=Nat->Nat->Option (Option (Nat × Nat))
inductive Enc(w:World)(N:Nat->Prop)(μ:Mu):Value->V->Prop
 |pur {x:Value} {v:V} (h:Pur w N x v):Enc w N μ x v
 |slr (d v sz len g cap:Nat) (hμ:μ d v=some (some (g,cap))) (h:len<=cap) (hmax:cap<=maxLen):Enc w N μ (.slice (some ⟨g,0,none⟩) len cap) (.sl d v sz len)
 |slv (d v sz:Nat) (A:Option Addr) (hμ:μ d v=some none):Enc w N μ (.slice A 0 0) (.sl d v sz 0)
 |ss (d v sz off len g c cap:Nat) (A:Option Addr) (h:len<=c) (hc:c<=maxLen) (hA:0<len->μ d v=some (some (g,cap))/\A=some ⟨g,off*sz,none⟩):Enc w N μ (.slice A len c) (.ss d v sz off len)
 |bp (d v sz k off g cap:Nat) (hμ:μ d v=some (some (g,cap))):Enc w N μ (.pointer (some ⟨g,k*sz+off,none⟩)) (.bp d v sz k off)
 |agg (xs:List Value) (cs:List V) (hl:xs.length=cs.length) (hc:∀c∈cs,c.isCell=true)
   (h:∀(i:Nat)x c,xs[i]? =some x->cs[i]? =some c->Enc w N μ x c):Enc w N μ (.agg xs.toArray) (.agg cs)
 |tup (xs:List Value) (cs:List V) (hl:xs.length=cs.length)
   (h:∀(i:Nat)x c,xs[i]? =some x->cs[i]? =some c->Enc w N μ x c):Enc w N μ (.tuple xs.toArray) (.tup cs)
 |ifc (t:TypeId) (x:Value) (v:V) (hc:v.isCell=true) (h:Enc w N μ x v):Enc w N μ (.iface t x) (.ifc t v)
 |clo (f:FuncId) (xs ys:List Value) (cs ds:List V) (hl:xs.length=cs.length) (hm:ys.length=ds.length) (hc:∀c,c∈cs\/c∈ds->c.isCell=true)
   (h:∀(i:Nat)x c,xs[i]? =some x->cs[i]? =some c->Enc w N μ x c) (k:∀(i:Nat)x c,ys[i]? =some x->ds[i]? =some c->Enc w N μ x c):Enc w N μ (.func (.func f) xs.toArray ys.toArray) (.clo f cs ds)
 |whn (x:Value) (b:Bool) (v:V) (h:b=true->Enc w N μ x v) (hu:b=false->x=undef):Enc w N μ x (.whn b v)
structure Ob where
 v:Nat
 sz:Nat
 ty:TypeId
 es:List V
def get{α:Type}:List (Nat × α)->Nat->Option α
 | [],_ =>none
 |(k,x)::r,t=>if k=t then some x else get r t
structure AS where
 env:List (Nat × V)
 objs:List (Nat × Ob)
 nx:Nat
 nt:Nat
structure Bs where
 w:World
 X:Nat->Prop
 M:Mu
 df:List Deferred
def Bs.free(B:Bs)(g:Nat):Prop:=B.w.heap.size<=g\/B.X g
structure Bs.Below(B:Bs)(w':World):Prop where
 os:w'.os=B.w.os
 tape:w'.tape=B.w.tape
 output:w'.output=B.w.output
 size:B.w.heap.size<=w'.heap.size
 block:∀k,k<B.w.heap.size->¬B.X k->w'.heap[k]? =B.w.heap[k]?
theorem Bs.Below.refl(B:Bs):B.Below B.w:=⟨rfl,rfl,rfl,A9 _,fun _ _ _ =>rfl⟩
theorem Bs.Below.trans{B:Bs}{a c:World}(h:B.Below a)(k:Go.RowKit.Below B.w.heap.size a c):B.Below c:=
 ⟨k.os.trans h.os,k.tape.trans h.tape,k.output.trans h.output,Ai h.size k.size,fun i d e=>(k.block i d).trans (h.block i d e)⟩
theorem Bs.Below.alloc{B:Bs}{w:World}(h:B.Below w)(a:B.w.heap.size<=w.heap.size)(o:Obj):B.Below (w.alloc o):=
 h.trans ((Go.RowKit.Below.refl _ _).alloc a o)
theorem Bs.Below.drew{B:Bs}{w:World}(h:B.Below w):B.Below w.drew:=⟨h.os,h.tape,h.output,h.size,h.block⟩
theorem Bs.Below.grown{B:Bs}{w w':World}{row:Option Nat}(h:B.Below w)(a:w.grownBy w' row)(hB:B.w.heap.size<=w.heap.size)(f:∀k,row=some k->B.free k):B.Below w':=
 ⟨a.os.trans h.os,a.tape.trans h.tape,a.output.trans h.output,Ai h.size a.size,fun k d c=>
  (a.block k om (fun e=>by rcases f k e.symm with h|h;omega;exact c h)).trans (h.block k d c)⟩
theorem Bs.Below.plain{w w':World}(h:(Bs.mk w (fun _ =>False) (fun _ _ =>none) []).Below w'):Go.RowKit.Below w.heap.size w w':=⟨h.os,h.tape,h.output,h.size,fun k a=>h.block k a (fun h=>h)⟩
def Wx(w:World)(N:Nat->Prop)(μ:Mu)(f:Bs)(o:Ob):Option (Nat × Nat)->Prop
 |none=>o.es= []
 |some (g,d)=>f.free g/\o.es.length<=d/\d<=maxLen/\(∀e∈o.es,e.fits o.sz)/\
   ∃a,w.heap[g]? =some (.cells a o.ty (0,0))/\a.size=d*o.sz/\
    ∀(k:Nat)e(j:Nat)c,o.es[k]? =some e->e.cells[j]? =some c->∃x,a[k*o.sz+j]? =some x/\Enc w N μ x c
def Fb(N0:Nat->Prop)(μ:Mu)(S:AS)(b:Nat):Prop:=N0 b\/∃d o a,get S.objs d=some o/\μ d o.v=some (some (b,a))
structure RelM(D:Nat->Prop)(w0:Bs)(N0:Nat->Prop)(μ:Mu)(S:AS)(a:Act)(w:World):Prop where
 defers:a.defers=w0.df
 size:a.tmps.size=S.nt
 below:w0.Below w
 n0:(∀b,N0 b->b<w0.w.heap.size/\¬w0.X b)/\∀d v l,w0.M d v=some l->μ d v=some l
 fresh:∀d v,μ d v≠none->v<S.nx\/∃j,D j/\v=S.nx+j
 objs:∀d o,get S.objs d=some o->∃l,μ d o.v=some l/\Wx w (Fb N0 μ S) μ w0 o l
 inj:∀d o d' o' g c c',get S.objs d=some o->get S.objs d'=some o'->μ d o.v=some (some (g,c))->μ d' o'.v=some (some (g,c'))->d=d'
 env:∀t v,get S.env t=some v->t<S.nt/\Enc w (Fb N0 μ S) μ (a.tmps.getD t undef) v
def Pd(D:Nat->Prop)(w0:Bs)(N0:Nat->Prop)(S:AS)(a:Act)(w:World):Prop:=∃μ,RelM D w0 N0 μ S a w
def Rel(w0:Bs)(N0:Nat->Prop)(S:AS)(a:Act)(w:World):Prop:=Pd (fun _ =>False) w0 N0 S a w
theorem Enc.keep{w w':World}{N N':Nat->Prop}{μ μ':Mu}(y:Ef w N w')(u:∀b,b<w.heap.size->N' b->N b)
  (j:∀d v l,μ d v=some l->μ' d v=some l){x:Value}{v:V}(h:Enc w N μ x v):Enc w' N' μ' x v:=by
 induction h with
 |pur h=>exact .pur (h.keep y u)
 |slr d v sz len g a h1 h2 m=>exact .slr d v sz len g a (j _ _ _ h1) h2 m
 |slv d v sz A h1=>exact .slv d v sz A (j _ _ _ h1)
 |ss d v sz off len g c a A h2 m n=>exact .ss d v sz off len g c a A h2 m (fun o=>⟨j _ _ _ (n o).1,(n o).2⟩)
 |bp d v sz k off g a h1=>exact .bp d v sz k off g a (j _ _ _ h1)
 |agg xs cs i e _ ih=>exact .agg xs cs i e ih
 |tup xs cs i _ ih=>exact .tup xs cs i ih
 |ifc t x v e _ ih=>exact .ifc t x v e ih
 |clo f xs z cs r i hm e _ _ ih ik=>exact .clo f xs z cs r i hm e ih ik
 |whn x b v _ s ih=>exact .whn x b v ih s
theorem Enc.cell_oneCell{w:World}{N:Nat->Prop}{μ:Mu}{x:Value}{v:V}(h:Enc w N μ x v)(a:v.isCell=true):x.oneCell'=true:=by
 cases h with
 |pur h=>exact h.cell_oneCell a
 |agg=>simp [V.isCell]at a
 |tup=>simp [V.isCell]at a
 |whn=>simp [V.isCell]at a
 |_ =>rfl
theorem Enc.cells_one{w:World}{N:Nat->Prop}{μ:Mu}{x:Value}{v:V}(h:Enc w N μ x v)(a:v.isCell=true):x.cells= #[x]:=by
 have:=h.cell_oneCell a;cases x<;>first|rfl|simp [Value.oneCell']at this
theorem V.cells_one{v:V}(a:v.isCell=true):v.cells= [v]:=by cases v<;>first|rfl|simp [V.isCell]at a
theorem Enc.cells_at{w:World}{N:Nat->Prop}{μ:Mu}{x:Value}{v:V}{sz:Nat}(h:Enc w N μ x v)(s:v.fits sz):
  x.cells.size=sz/\∀(i:Nat)c,v.cells[i]? =some c->∃y,x.cells[i]? =some y/\Enc w N μ y c/\y.oneCell'=true:=by
 obtain⟨h1,h2⟩:=s
 by_cases g:v.isCell=true
 ·rw [V.cells_one g]at h1|-;rw [h.cells_one g];refine⟨by simpa using h1,fun i c d=>?_⟩
  rcases i with _ |i
  ·simp only [Da,Au]at d;subst d;exact⟨x,by simp,h,h.cell_oneCell g⟩
  ·simp at d
 ·cases v with
  |agg cs=>
   have l:∀(xs:List Value),xs.length=cs.length->(∀(i:Nat)x c,xs[i]? =some x->cs[i]? =some c->Enc w N μ x c)->(∀c∈cs,c.isCell=true)->
     (Value.agg xs.toArray).cells.size=sz/\∀(i:Nat)c,cs[i]? =some c->∃y,(Value.agg xs.toArray).cells[i]? =some y/\Enc w N μ y c/\y.oneCell'=true:=by
    intro xs e t a;refine⟨by simpa [Value.cells,V.cells,e]using h1,fun i c d=>?_⟩;have j:i<xs.length:=by rw [e];exact(Ap.1 d).1
    have o:=t i xs[i] c (Al j) d;exact⟨xs[i],by simp [Value.cells,j],o,o.cell_oneCell (a c (Ay d))⟩
   cases h with
   |pur h=>
    cases h with
    |agg xs _ e a n=>exact l xs e (fun i x c r u=>.pur (n i x c r u)) a
   |agg xs _ e a n=>exact l xs e n a
  |tup vs=>exact absurd (h2 (.tup vs) (by simp [V.cells])) (by simp [V.isCell])
  |whn b v=>exact absurd (h2 (.whn b v) (by simp [V.cells])) (by simp [V.isCell])
  |mp b k m=>exact absurd (h2 (.mp b k m) (by simp [V.cells])) (by simp [V.isCell])
  |rm b k m=>exact absurd (h2 (.rm b k m) (by simp [V.cells])) (by simp [V.isCell])
  |fc f us vs=>exact absurd (h2 (.fc f us vs) (by simp [V.cells])) g
  |_ =>simp [V.isCell]at g
theorem C7{α:Type}(k:Nat)(x:α)(r:List (Nat × α))(t:Nat):get ((k,x)::r) t=if k=t then some x else get r t:=rfl
theorem Mq(a:Act)(d:Nat)(x:Value)(t:Nat)(c:d<a.tmps.size):(a.put (some d) x).tmps.getD t undef=if d=t then x else a.tmps.getD t undef:=by
 simp only [Act.put,Dm,J7]
 by_cases h:d=t
 ·subst h;simp [c]
 ·simp [h]
section
variable {D:Nat->Prop}{w0:Bs}{w:World}{N0:Nat->Prop}{μ:Mu}{S:AS}{a:Act}
theorem RelM.put(h:RelM D w0 N0 μ S a w){d:Nat}{x:Value}{v:V}(f:d<S.nt)(g:Enc w (Fb N0 μ S) μ x v):
  RelM D w0 N0 μ { S with env:=(d,v)::S.env} (a.put (some d) x) w:=by
 refine⟨h.defers,by simp [Act.put,h.size],h.below,h.n0,h.fresh,h.objs,h.inj,fun t u e=>?_⟩;rw [Mq a d x t (by rw [h.size];exact f)];rw [C7]at e
 by_cases c:d=t
 ·subst c;simp only [if_true,Au]at e;subst e;simp only [if_true];exact⟨f,g⟩
 ·simp only [c,if_false]at e|-;exact h.env t u e
theorem RelM.more(h:RelM D w0 N0 μ S a w){D':Nat->Prop}(c:∀j,D j->D' j):RelM D' w0 N0 μ S a w:=
 ⟨h.defers,h.size,h.below,h.n0,fun d v f=>(h.fresh d v f).imp id (fun⟨j,g,e⟩=>⟨j,c j g,e⟩),h.objs,h.inj,h.env⟩
theorem RelM.block_lt(h:RelM D w0 N0 μ S a w){d:Nat}{o:Ob}{g c:Nat}(m:get S.objs d=some o)(k:μ d o.v=some (some (g,c))):g<w.heap.size:=by
 obtain⟨l,f,i⟩:=h.objs d o m;rw [k]at f;injection f with f;subst f;obtain⟨_,_,_,_,j,e,_⟩:=i;exact(B2.1 e).1
theorem RelM.drew(h:RelM D w0 N0 μ S a w):RelM D w0 N0 μ S a w.drew:=by
 have s:Ef w (Fb N0 μ S) w.drew:=⟨A9 _,fun _ _ _ =>rfl⟩;refine⟨h.defers,h.size,h.below.drew,h.n0,h.fresh,fun d o hd=>?_,h.inj,fun t u r=>⟨(h.env t u r).1,(h.env t u r).2.keep s (fun _ _ n=>n) (fun _ _ _ i=>i)⟩⟩;obtain⟨l,hl,f⟩:=h.objs d o hd;refine⟨l,hl,?_⟩;cases l with
 |none=>exact f
 |some gc=>
  obtain⟨h1,h2,y,h4,m,h5,h6,h7⟩:=f
  exact⟨h1,h2,y,h4,m,h5,h6,fun k e j c he hj=>by
   obtain⟨x,z,g⟩:=h7 k e j c he hj;exact⟨x,z,g.keep s (fun _ _ n=>n) (fun _ _ _ i=>i)⟩⟩
theorem Wx.keep{w w':World}{N N':Nat->Prop}{μ μ':Mu}{a:Bs}{o:Ob}{l:Option (Nat × Nat)}(h:Wx w N μ a o l)(z:Ef w N w')(s:∀b,b<w.heap.size->N' b->N b)
  (hμ:∀d v l,μ d v=some l->μ' d v=some l)(hb:∀g c,l=some (g,c)->w'.heap[g]? =w.heap[g]?):Wx w' N' μ' a o l:=by
 cases l with
 |none=>exact h
 |some gc=>
  obtain⟨g,m⟩:=gc;obtain⟨h1,h2,n,t,i,u,y,h7⟩:=h
  exact⟨h1,h2,n,t,i,(hb g m rfl).trans u,y,fun k e j c he hj=>by
   obtain⟨x,r,f⟩:=h7 k e j c he hj;exact⟨x,r,f.keep z s hμ⟩⟩
theorem RelM.update(h:RelM D w0 N0 μ S a w){D':Nat->Prop}{d:Nat}{o':Ob}{l':Option (Nat × Nat)}{w':World}{μ':Mu}
  (hμ:∀d v l,μ d v=some l->μ' d v=some l)(z:∀d v,μ' d v≠none->v<S.nx\/∃j,D' j/\v=S.nx+j)(hd:μ' d o'.v=some l')
  (aa:w0.Below w')(s:Ef w (Fb N0 μ S) w')
  (y:∀i k g c,i≠d->get S.objs i=some k->μ i k.v=some (some (g,c))->w'.heap[g]? =w.heap[g]?)
  (x:∀g c,l'=some (g,c)->w.heap.size<=g\/∃o c0,get S.objs d=some o/\μ d o.v=some (some (g,c0)))
  (ab:∀N',(∀b,b<w.heap.size->N' b->Fb N0 μ S b)->Wx w' N' μ' w0 o' l'):
  RelM D' w0 N0 μ' { S with objs:=(d,o')::S.objs} a w'/\∀b,b<w.heap.size->Fb N0 μ' { S with objs:=(d,o')::S.objs} b->Fb N0 μ S b:=by
 have f:∀i k,get S.objs i=some k->μ' i k.v=μ i k.v:=by
  intro i k h1;obtain⟨l,hl,_⟩:=h.objs i k h1;rw [hμ _ _ _ hl,hl]
 have m:∀b,b<w.heap.size->Fb N0 μ' { S with objs:=(d,o')::S.objs} b->Fb N0 μ S b:=by
  rintro b hb(h0|⟨i,k,c,h1,h2⟩)
  ·exact .inl h0
  ·simp only [C7]at h1
   by_cases e:d=i
   ·subst e;simp only [if_true,Au]at h1;subst h1;rw [hd]at h2;injection h2 with h2
    rcases x _ _ h2 with n|⟨o,c0,n,r⟩
    ·omega
    ·exact .inr ⟨d,o,c0,n,r⟩
   ·simp only [e,if_false]at h1;rw [f i k h1]at h2;exact .inr ⟨i,k,c,h1,h2⟩
 refine⟨⟨h.defers,h.size,aa,⟨h.n0.1,fun d v l hl=>hμ _ _ _ (h.n0.2 d v l hl)⟩,z,fun i k h1=>?_,fun i k d2 o2 g c c' h1 h2 n r=>?_,fun t u hu=>⟨(h.env t u hu).1,(h.env t u hu).2.keep s m hμ⟩⟩,m⟩
 ·simp only [C7]at h1
  by_cases e:d=i
  ·subst e;simp only [if_true,Au]at h1;subst h1;exact⟨l',hd,ab _ m⟩
  ·simp only [e,if_false]at h1;obtain⟨l,hl,ho⟩:=h.objs i k h1;refine⟨l,hμ _ _ _ hl,ho.keep s m hμ (fun g c ad=>y i k g c (Y2 e) h1 (by rw [hl,ad]))⟩
 ·simp only [C7]at h1 h2
  by_cases e1:d=i<;>by_cases e2:d=d2
  ·rw [<- e1,<- e2]
  ·subst e1;simp only [if_true,Au]at h1;simp only [e2,if_false]at h2;subst h1;rw [hd]at n;injection n with n;rw [f d2 o2 h2]at r
   rcases x _ _ n with h5|⟨o,c0,h5,h6⟩
   ·have:=h.block_lt h2 r;omega
   ·exact h.inj _ _ _ _ _ _ _ h5 h2 h6 r
  ·subst e2;simp only [if_true,Au]at h2;simp only [e1,if_false]at h1;subst h2;rw [hd]at r;injection r with r;rw [f i k h1]at n
   rcases x _ _ r with h5|⟨o,c0,h5,h6⟩
   ·have:=h.block_lt h1 n;omega
   ·exact h.inj _ _ _ _ _ _ _ h1 h5 n h6
  ·simp only [e1,if_false]at h1;simp only [e2,if_false]at h2;rw [f i k h1]at n;rw [f d2 o2 h2]at r;exact h.inj _ _ _ _ _ _ _ h1 h2 n r
def Jd(μ:Mu)(d v:Nat)(l:Option (Nat × Nat)):Mu:=fun a c=>if a=d/\c=v then some l else μ a c
theorem Dc(μ:Mu)(d v:Nat)(l:Option (Nat × Nat)):Jd μ d v l d v=some l:=by simp [Jd]
theorem RelM.fresh_at(h:RelM D w0 N0 μ S a w){i:Nat}(c:¬D i)(d:Nat):μ d (S.nx+i)=none:=by
 cases hm:μ d (S.nx+i)with
 |none=>rfl
 |some l=>
  rcases h.fresh d (S.nx+i) (by rw [hm];simp)with h1|⟨j,hj,e⟩
  ·omega
  ·have:i=j:=om;subst this;exact absurd hj c
theorem RelM.muSet_mono(h:RelM D w0 N0 μ S a w){i:Nat}(j:¬D i)(d:Nat)(l:Option (Nat × Nat)):∀c f g,μ c f=some g->Jd μ d (S.nx+i) l c f=some g:=by
 intro c f g h1;unfold Jd
 by_cases e:c=d/\f=S.nx+i
 ·rw [e.1,e.2,h.fresh_at j d]at h1;cases h1
 ·rw [if_neg e];exact h1
theorem RelM.muSet_fresh(h:RelM D w0 N0 μ S a w)(i d:Nat)(l:Option (Nat × Nat)):∀f c,Jd μ d (S.nx+i) l f c≠none->c<S.nx\/∃j,(D j\/j=i)/\c=S.nx+j:=by
 intro f c h1;unfold Jd at h1
 by_cases e:f=d/\c=S.nx+i
 ·exact .inr ⟨i,.inr rfl,e.2⟩
 ·rw [if_neg e]at h1;exact(h.fresh f c h1).imp id (fun⟨j,g,e⟩=>⟨j,.inl g,e⟩)
theorem RelM.alloc(h:RelM D w0 N0 μ S a w){i:Nat}(hi:¬D i)(d:Nat)(l:Array Value)(ty:TypeId)(sz f:Nat)(es:List V)
  (u:l.size=f*sz)(t:es.length<=f)(o:f<=maxLen)(r:∀e∈es,e.fits sz)
  (n:∀(k:Nat)e(j:Nat)c,es[k]? =some e->e.cells[j]? =some c->∃x,l[k*sz+j]? =some x/\Enc w (Fb N0 μ S) μ x c):
  RelM (fun j=>D j\/j=i) w0 N0 (Jd μ d (S.nx+i) (some (w.heap.size,f))) { S with objs:=(d,⟨S.nx+i,sz,ty,es⟩)::S.objs} a (w.alloc (.cells l ty)):=by
 have m:=h.muSet_mono hi d (some (w.heap.size,f));have y:Ef w (Fb N0 μ S) (w.alloc (.cells l ty)):=Ef.alloc w _ _
 refine(h.update (D':=fun j=>D j\/j=i) (o':=⟨S.nx+i,sz,ty,es⟩) (l':=some (w.heap.size,f)) m (h.muSet_fresh i d _) (Dc _ _ _ _) (h.below.alloc h.below.size _) y
  (fun d1 o1 g c _ h1 h2=>Below.heap_alloc w _ g (h.block_lt h1 h2)) (fun g c e=>?_) (fun N' hN=>?_)).1
 ·simp only [Au,B0]at e;exact .inl om
 ·refine⟨.inl h.below.size,t,o,r,l,heap_alloc_new w _,u,fun k e j c he hj=>?_⟩;obtain⟨x,z,s⟩:=n k e j c he hj;exact⟨x,z,s.keep y hN m⟩
end
def AS.le(S S':AS):Prop:=∀w0 N0 a w,Rel w0 N0 S a w->Rel w0 N0 S' a w
def Ie(P:Program)(t:TypeId):Option Nat:=(P.info? t).map (·.size)
def Ex(P:Program)(t:TypeId):Option Bool:=(P.underlying t).map fun| .struct _ | .array _ _ =>true|_ =>false
def Fr(P:Program)(t:TypeId):Option TypeId:=match P.underlying t with|some (.slice e)=>some e|_ =>none
def Akm(P:Program)(t:TypeId):Option (Nat × Nat):=match P.underlying t with|some (.array n e)=>(Ie P e).map fun z=>(n,z)|_ =>none
def Ab4(P:Program)(t:TypeId):Option IntKind:=match P.underlying t with|some (.int k)=>some k|_ =>none
def Y3(P:Program)(t:TypeId):Bool:=match P.underlying t with|some .string=>true|_ =>false
def Bo(P:Program)(t f:Nat):Option (Nat × Nat × Bool):=
 match P.underlying t with
 |some (.struct c)=>match c[f]? with
  |some a=>match Ie P a.type,Ex P a.type with
   |some n,some g=>if n=0 then none else some (a.offset,n,g)
   |_,_ =>none
  |none=>none
 |_ =>none
def Sy:Value->Option V
 | .bool b=>some (.bool b)
 | .int k n=>some (.int k n)
 | .string s=>some (.str s.data.toList)
 | .slice none 0 0=>some .nils
 | .pointer none=>some .nilp
 | .nilIface=>some .nili
 | .nilFunc=>some .nilf
 |_ =>none
def Aow:Value->Option V
 | .agg cs=>(cs.toList.mapM Sy).map .agg
 |v=>Sy v
def D7(P:Program)(t:TypeId):Option V:=(P.info? t).bind fun i=>i.zero.bind Aow
theorem Akn{x:Value}{v:V}(h:Sy x=some v):v.isCell=true:=by
 unfold Sy at h;split at h<;>first|(injection h with h;subst h;rfl)|cases h
theorem V4{x:Value}{v:V}(h:Sy x=some v)(w:World)(N:Nat->Prop):Pur w N x v:=by
 unfold Sy at h
 split at h<;>first|(injection h with h;subst h)|cases h
 ·exact .bool _
 ·exact .int _ _
 ·exact .str _
 ·exact .nils _
 ·exact .nilp
 ·exact .nili
 ·exact .nilf
theorem Af8{α β:Type}{f:α->Option β}:∀ {l:List α}{r:List β},l.mapM f=some r->r.length=l.length/\∀(i:Nat)x y,l[i]? =some x->r[i]? =some y->f x=some y
 | [],r,h=>by simp at h;subst h;simp
 |x::l,r,h=>by
  simp only [M7,Option.bind_eq_bind,B7,Option.pure_def,Au]at h;obtain⟨y,e,r',g,rfl⟩:=h;obtain⟨h1,h2⟩:=Af8 g;refine⟨by simp [h1],fun i a b c d=>?_⟩
  rcases i with _ |i
  ·simp at c d;subst c;subst d;exact e
  ·simp at c d;exact h2 i a b c d
theorem Nk{x:Value}{v:V}(h:Aow x=some v)(w:World)(N:Nat->Prop):Pur w N x v:=by
 unfold Aow at h
 split at h
 ·rename_i cs;simp only [A0]at h;obtain⟨r,g,rfl⟩:=h;obtain⟨h1,h2⟩:=Af8 g;have d:cs=cs.toList.toArray:=sm;rw [d];refine .agg cs.toList r h1.symm (fun c a=>?_) fun i x c j a=>V4 (h2 i x c j a) w N;obtain⟨i,f⟩:=Co a;have e:i<cs.toList.length:=by rw [<- h1];exact(Ap.1 f).1
  exact Akn (h2 i _ c (Al e) f)
 ·exact V4 h w N
def AS.ev(S:AS):Operand->Option V
 | .tmp t=>get S.env t
 | .const c=>Sy c
 | .func f=>some (.fn f)
 | .global _ =>none
def V.part(e:V)(off n:Nat)(g:Bool):Option V:=
 if off+n<=e.cells.length then(if g then some (.agg ((e.cells.drop off).take n))else if n=1 then e.cells[off]? else none)else none
section
variable {D:Nat->Prop}{w0:Bs}{w:World}{N0:Nat->Prop}{μ:Mu}{S:AS}{a:Act}{P:Program}
theorem RelM.ev(h:RelM D w0 N0 μ S a w){x:Operand}{v:V}(d:S.ev x=some v):Enc w (Fb N0 μ S) μ (a.eval x) v:=by
 cases x with
 |tmp t=>exact(h.env t v d).2
 |const c=>exact .pur (V4 d _ _)
 |global g=>cases d
 |func f=>simp only [AS.ev,Au]at d;subst d;exact .pur (.fn f)
theorem Aah{N:Nat->Prop}{t:TypeId}{l:Addr}{e r:V}{off n sz:Nat}{g:Bool}(hn:Ie P t=some n)(s:Ex P t=some g)(hf:e.fits sz)
  (u:∀(j:Nat)c,e.cells[j]? =some c->∃x,w.cell? (l.add j)=some x/\Enc w N μ x c)(hp:e.part off n g=some r):
  ∃x,(loadVar t (l.add off)).run P w=.ok x w/\Enc w N μ x r:=by
 unfold V.part at hp;split at hp
 case isFalse=>cases hp
 rename_i af;unfold Ie at hn;obtain⟨i,hi,rfl⟩:=A0.1 hn;unfold Ex at s;obtain⟨de,ab,s⟩:=A0.1 s
 have d:(isAgg t).run P w=.ok g w:=by
  simp only [isAgg,Sem.run_bind,run_underlying ab,Result.andThen_ok];subst s;cases de<;>rfl
 cases g with
 |true=>
  simp only [if_true,Au]at hp;subst hp
  have a:∀j,j<i.size->∃x,w.cell? ((l.add off).add j)=some x/\∃c,e.cells[off+j]? =some c/\Enc w N μ x c:=by
   intro j k;have o:off+j<e.cells.length:=om;obtain⟨x,a,h⟩:=u (off+j) _ (Al o);exact⟨x,by rw [Qz];exact a,_,Al o,h⟩
  let f:Nat->Value:=fun j=>(w.cell? ((l.add off).add j)).getD undef
  have m:∀j,j<i.size->w.cell? ((l.add off).add j)=some (f j):=by
   intro j k;obtain⟨x,a,_⟩:=a j k;simp only [f,a,En]
  refine⟨.agg ((List.range i.size).map f).toArray,?_,.agg _ _ so (fun c u=>?_) (fun j x c h1 h2=>?_)⟩
  ·simp only [loadVar,Sem.run_bind,d,Result.andThen_ok,if_true,sizeOf,typeInfo,run_program,hi,Sem.run_pure,run_loadCells w (l.add off) i.size f m]
  ·exact hf.2 c (Cx (B8 u))
  ·have k:j<i.size:=by have:=(Ap.1 h1).1;simpa using this
   obtain⟨y,z,c',ae,aa⟩:=a j k;rw [m j k]at z;simp only [Bc,Lp k,H6,Au]at h1;rw [Cg k,Cy,ae]at h2;injection z with z;injection h2 with h2;subst h1;subst h2;rw [z];exact aa
 |false=>
  simp only [Fh,if_false]at hp;split at hp
  case isFalse=>cases hp
  obtain⟨x,a,h⟩:=u off r hp;refine⟨x,?_,h⟩;simp only [loadVar,Sem.run_bind,d,Result.andThen_ok,Fh,if_false,run_load,a]
def AS.place(S:AS):V->Option (V × Nat)
 | .rp e=>some (e,0)
 | .bp d v sz k off=>match get S.objs d with
  |some o=>if o.v=v/\o.sz=sz then(match G8 o.es k with|some e=>some (e,off)|none=>none)else none
  |none=>none
 |_ =>none
theorem RelM.place(h:RelM D w0 N0 μ S a w){x:Value}{p e:V}{off:Nat}(hp:S.place p=some (e,off))(i:Enc w (Fb N0 μ S) μ x p):
  ∃n sz,x=.pointer (some (Addr.add n off))/\e.fits sz/\∀(j:Nat)c,e.cells[j]? =some c->∃y,w.cell? (n.add j)=some y/\Enc w (Fb N0 μ S) μ y c:=by
 cases p<;>simp only [AS.place]at hp<;>try(cases hp;done)
 case rp e0=>
  simp only [Au,B0]at hp;obtain⟨rfl,rfl⟩:=hp;cases i with
  |pur i=>
   cases i with
   |rp n sz _ g hb hN hf hc z=>exact⟨n,sz,by simp [Addr.add],hf,fun j c m=>⟨g j,hc j c m,.pur (z j c m)⟩⟩
 case bp d v sz k off0=>
  split at hp
  case h_2=>cases hp
  rename_i o ho;split at hp
  case isFalse=>cases hp
  rename_i hv;obtain⟨rfl,rfl⟩:=hv;split at hp
  case h_2=>cases hp
  rename_i e1 f;rw [C0]at f;simp only [Au,B0]at hp;obtain⟨rfl,rfl⟩:=hp;cases i with
  |pur i=>cases i
  |bp _ _ _ _ _ g aa hm=>
   obtain⟨l,r,s⟩:=h.objs d o ho;rw [hm]at r;injection r with r;subst r;obtain⟨_,_,_,h4,t,h5,h6,h7⟩:=s;refine⟨⟨g,k*o.sz,none⟩,o.sz,by rw [Addr.add_lit],h4 _ (Ay f),fun j c m=>?_⟩;obtain⟨y,hy,u⟩:=h7 k e1 j c f m;exact⟨y,by rw [Addr.add_lit,cell_of_row w g _ t o.ty (0,0) h5];exact hy,u⟩
def imp(c b:Bool):Bool:= !c||b
@[simp]theorem A9y(c:Bool):imp c c=true:=by cases c<;>rfl
@[simp]theorem A9z(c:Bool):imp c true=true:=by cases c<;>rfl
@[simp]theorem A28(b:Bool):imp false b=true:=rfl
@[simp]theorem A65(b:Bool):imp true b=b:=rfl
def AS.evc(S:AS)(c:Bool)(x:Operand):Option V:=
 match S.ev x with
 |some (.whn b v)=>if imp c b=true then some v else none
 |r=>r
theorem RelM.evc(h:RelM D w0 N0 μ S a w){c:Bool}{x:Operand}{v:V}(d:S.evc c x=some v)(i:c=true):Enc w (Fb N0 μ S) μ (a.eval x) v:=by
 unfold AS.evc at d
 split at d
 ·rename_i b v' f
  split at d
  ·rename_i j;injection d with d;subst d;subst i;have e:b=true:=by simpa [imp]using j
   have:=h.ev f;generalize a.eval x=y at this;cases this with
   |pur hp=>cases hp
   |whn _ _ _ g _ =>exact g e
  ·cases d
 ·exact h.ev d
def A29(c:BinOp)(k:IntKind)(a b:Int):Option V:=
 match c with
 | .add=>some (.int k (k.wrap (a+b)))
 | .sub=>some (.int k (k.wrap (a-b)))
 | .mul=>some (.int k (k.wrap (a*b)))
 | .quo=>if b=0 then none else some (.int k (k.wrap (a.tdiv b)))
 | .rem=>if b=0 then none else some (.int k (a.tmod b))
 | .and=>some (.int k (bits .and k a b))
 | .or=>some (.int k (bits .or k a b))
 | .xor=>some (.int k (bits .xor k a b))
 | .andNot=>some (.int k (bits .andNot k a b))
 | .eql=>some (.bool (decide (a=b)))
 | .neq=>some (.bool (!decide (a=b)))
 | .lss=>some (.bool (decide (a<b)))
 | .leq=>some (.bool (decide (a<=b)))
 | .gtr=>some (.bool (decide (b<a)))
 | .geq=>some (.bool (decide (b<=a)))
 |_ =>none
def Aif(c:BinOp)(k:IntKind)(a b:Int):Option V:=
 if b<0 then none else
 match c with
 | .shl=>some (.int k (k.wrap (a*2^min b.toNat k.bits)))
 | .shr=>some (.int k (a.fdiv (2^min b.toNat k.bits)))
 |_ =>none
def A3a(c:BinOp)(a b:List UInt8):Option V:=
 match c with
 | .add=>if a.length+b.length<=9223372036854775807 then some (.str (a++b))else none
 | .eql=>some (.bool (decide (a=b)))
 | .neq=>some (.bool (!decide (a=b)))
 | .lss=>some (.bool (Op.bytesLess a b))
 | .leq=>some (.bool (Op.bytesLess a b||decide (a=b)))
 | .gtr=>some (.bool (!(Op.bytesLess a b||decide (a=b))))
 | .geq=>some (.bool (!Op.bytesLess a b))
 |_ =>none
def Abf:BinOp->Bool
 | .shl| .shr=>true
 |_ =>false
def Arl(P:Program)(t:TypeId):Bool:=match P.underlying t with|some .bool=>true|_ =>false
def Ako(P:Program)(t:TypeId):Option Nat:=match P.underlying t with
 |some (.int _)=>some 0
 |some .bool=>some 1
 |some .string=>some 2
 |_ =>none
def Ab5(P:Program):Nat->List Field->Option (List Nat)
 |_,[]=>some []
 |k,f::c=>match Ako P f.type,Ab5 P (k+1) c with
  |some q,some a=>if f.offset=k/\f.name≠ "_" then some (q::a)else none
  |_,_ =>none
def Akp(P:Program)(t:TypeId):Option (List Nat):=match P.underlying t with
 |some (.struct a)=>if P.stoodInHeld t=false/\P.eqGuardType P.depth t=false then Ab5 P 0 a.toList else none
 |_ =>none
def eqC:Nat->V->V->Option Bool
 |0,.int k a,.int c b=>if k=c then some (decide (a=b))else none
 |1,.bool a,.bool b=>some (a==b)
 |2,.str a,.str b=>some (decide (a=b))
 |_,_,_ =>none
def eqL:List Nat->List V->List V->Option Bool
 | [],[],[]=>some true
 |q::a,x::xs,y::c=>match eqC q x y,eqL a xs c with
  |some p,some r=>some (p&&r)
  |_,_ =>none
 |_,_,_ =>none
def A3b(P:Program)(t:TypeId)(c:BinOp):V->V->Option V
 | .agg as,.agg f=>match Akp P t with
  |some d=>match eqL d as f with
   |some r=>(match c with| .eql=>some (.bool r)| .neq=>some (.bool (!r))|_ =>none)
   |none=>none
  |none=>none
 | .int k a,.int e b=>if Abf c=true then Aif c k a b else if k=e then A29 c k a b else none
 | .str a,.str b=>A3a c a b
 | .bool a,.bool b=>if Arl P t=true then(match c with| .eql=>some (.bool (a==b))| .neq=>some (.bool (!(a==b)))|_ =>none)else none
 |_,_ =>none
theorem Pe{α:Type}[BEq α][LawfulBEq α][DecidableEq α](a b:α):(a==b)=decide (a=b):=by
 by_cases h:a=b<;>simp [h]
theorem Axk{a:BinOp}{k:IntKind}{x y:Int}{r:V}(h:A29 a k x y=some r)(hs:Abf a=false)(t:TypeId)(w:World)(N:Nat->Prop):
  ∃z,(binOp a t (.int k x) (.int k y)).run P w=.ok z w/\Pur w N z r:=by
 cases a<;>simp only [A29]at h<;>first|(cases h;done)|(simp [Abf]at hs;done)|(injection h with h;subst h)|skip
 case quo=>
  split at h
  ·cases h
  ·rename_i c;injection h with h;subst h;exact⟨_,by simp [binOp_quo,Op.intDiv,c],.int _ _⟩
 case rem=>
  split at h
  ·cases h
  ·rename_i c;injection h with h;subst h;exact⟨_,by simp [binOp_rem,Op.intDiv,c],.int _ _⟩
 all_goals first
  |exact⟨_,by rw [binOp_add];rfl,.int _ _⟩
  |exact⟨_,by rw [binOp_sub];rfl,.int _ _⟩
  |exact⟨_,by rw [binOp_mul];rfl,.int _ _⟩
  |exact⟨_,by rw [binOp_and,intBits_and];rfl,.int _ _⟩
  |exact⟨_,by rw [binOp_or,intBits_or];rfl,.int _ _⟩
  |exact⟨_,by rw [binOp_xor,intBits_xor];rfl,.int _ _⟩
  |exact⟨_,by rw [binOp_andNot,intBits_andNot];rfl,.int _ _⟩
  |exact⟨_,by rw [binOp_eql,Pe];rfl,.bool _⟩
  |exact⟨_,by rw [binOp_neq,bne,Pe];rfl,.bool _⟩
  |exact⟨_,by rw [binOp_lss];rfl,.bool _⟩
  |exact⟨_,by rw [binOp_leq];rfl,.bool _⟩
  |exact⟨_,by rw [binOp_gtr];rfl,.bool _⟩
  |exact⟨_,by rw [binOp_geq];rfl,.bool _⟩
theorem Aox{a:BinOp}{k d:IntKind}{x y:Int}{r:V}(h:Aif a k x y=some r)(t:TypeId)(w:World)(N:Nat->Prop):
  ∃z,(binOp a t (.int k x) (.int d y)).run P w=.ok z w/\Pur w N z r:=by
 unfold Aif at h
 split at h
 ·cases h
 ·rename_i c
  cases a<;>simp only at h<;>first|(cases h;done)|(injection h with h;subst h)
  ·exact⟨_,by rw [binOp_shl];simp [Op.shift,c],.int _ _⟩
  ·exact⟨_,by rw [binOp_shr];simp [Op.shift,c],.int _ _⟩
theorem Axl{a:BinOp}{x y:List UInt8}{r:V}(h:A3a a x y=some r)(t:TypeId)(w:World)(N:Nat->Prop):
  ∃z,(binOp a t (.string ⟨x.toArray⟩) (.string ⟨y.toArray⟩)).run P w=.ok z w/\Pur w N z r:=by
 cases a<;>simp only [A3a]at h<;>first|(cases h;done)|(injection h with h;subst h)|skip
 case add=>
  split at h
  ·rename_i c;injection h with h;subst h;refine⟨_,?_,.str _⟩;rw [binOp_string_add,run_string_add_sum w _ _ (by simpa [ByteArray.size]using c),ByteArray.mk_append_mk]
  ·cases h
 all_goals
  refine⟨_,?_,.bool _⟩;simp [binOp,Op.stringOp,ByteArray.toList_mk,Pe]
theorem Y4{t:TypeId}(h:Arl P t=true):P.underlying t=some .bool:=by
 unfold Arl at h
 split at h
 ·assumption
 ·cases h
theorem Ae3(t:TypeId)(p q:Bool)(h:P.underlying t=some .bool):(binOp .eql t (.bool p) (.bool q)).run P w=.ok (.bool (p==q)) w:=by
 simp only [binOp,Sem.run_bind,Op.equal,Op.maxDepth,run_equalIn_bool' w 9999 t p q h,Result.andThen_ok,Sem.run_pure]
theorem Ae4(t:TypeId)(p q:Bool)(h:P.underlying t=some .bool):(binOp .neq t (.bool p) (.bool q)).run P w=.ok (.bool (!(p==q))) w:=by
 simp only [binOp,Sem.run_bind,Op.equal,Op.maxDepth,run_equalIn_bool' w 9999 t p q h,Result.andThen_ok,Sem.run_pure]
theorem A3c{N:Nat->Prop}{q:Nat}{u v:V}{r:Bool}(h:eqC q u v=some r){x y:Value}(a:Enc w N μ x u)(c:Enc w N μ y v){t:TypeId}(e:Ako P t=some q)(d:Nat):
  (Op.equalIn (d+1) t x y).run P w=.ok r w/\u.isCell=true:=by
 unfold Ako at e;unfold eqC at h
 split at h
 ·cases a with
  |pur a=>
  cases a with
  |int=>
  cases c with
  |pur c=>
  cases c with
  |int=>
  split at h
  ·rename_i g;subst g;injection h with h;subst h;split at e<;>first|(simp at e;done)|skip
   rename_i i f;exact⟨by rw [run_equalIn_int w d t _ i _ _ f,Pe],rfl⟩
  ·cases h
 ·cases a with
  |pur a=>
  cases a with
  |bool=>
  cases c with
  |pur c=>
  cases c with
  |bool=>
  injection h with h;subst h;split at e<;>first|(simp at e;done)|skip
  rename_i f;exact⟨run_equalIn_bool' w d t _ _ f,rfl⟩
 ·cases a with
  |pur a=>
  cases a with
  |str=>
  cases c with
  |pur c=>
  cases c with
  |str=>
  injection h with h;subst h;split at e<;>first|(simp at e;done)|skip
  rename_i f;exact⟨by rw [run_equalIn_string w d t _ _ f,ByteArray.toList_mk,ByteArray.toList_mk,Pe],rfl⟩
 ·cases h
theorem Af9{t q:Nat}(h:Ako P t=some q)(w:World):(isAgg t).run P w=.ok false w:=by
 unfold Ako at h;split at h<;>first|(cases h;done)|(rename_i a;simp [isAgg,run_underlying a])
theorem Wy{N:Nat->Prop}(d:Nat)(xs g:List Value):∀(l:List Field)(k:Nat)(m:List Nat)(as i:List V)(r:Bool),Ab5 P k l=some m->eqL m as i=some r->
  (∀(j:Nat)c,as[j]? =some c->∃x,xs[k+j]? =some x/\Enc w N μ x c)->(∀(j:Nat)c,i[j]? =some c->∃y,g[k+j]? =some y/\Enc w N μ y c)->(Op.eqFields (d+1) xs.toArray g.toArray l).run P w=.ok r w
 | [],k,m,as,i,r,e,a,_,_ =>by
  simp only [Ab5,Au]at e;subst e;unfold eqL at a
  split at a<;>first|(injection a with a;subst a;rfl)|skip
  ·rename_i h1 _ _;cases h1
  ·cases a
 |f::l,k,m,as,i,r,e,a,hx,hy=>by
  simp only [Ab5]at e;split at e
  case h_2=>cases e
  rename_i q h h1 h2;split at e
  case isFalse=>cases e
  rename_i hf;injection e with e;subst e;unfold eqL at a
  split at a
  ·exact absurd (by assumption:q::h= []) sm
  ·rename_i q0 ae x0 o y0 t h3;injection h3 with h3 h4;subst h3;subst h4;split at a
   case h_2=>cases a
   rename_i p r' h5 h6;injection a with a;subst a;obtain⟨x,ab,s⟩:=hx 0 x0 rfl;obtain⟨y,n,ad⟩:=hy 0 y0 rfl;have ih:=Wy d xs g l (k+1) h o t r' h2 h6 (fun j c z=>by have:=hx (j+1) c (by simpa using z);rwa [show k+(j+1)=k+1+j by omega]at this) (fun j c z=>by have:=hy (j+1) c (by simpa using z);rwa [show k+(j+1)=k+1+j by omega]at this);have hr:=(A3c (P:=P) h5 s ad h1 d).1
   have aa:(part f.type xs.toArray f.offset).run P w=.ok x w:=by
    have:xs[f.offset]? =some x:=by rw [hf.1];simpa using ab
    simp [part,Af9 h1,this]
   have u:(part f.type g.toArray f.offset).run P w=.ok y w:=by
    have:g[f.offset]? =some y:=by rw [hf.1];simpa using n
    simp [part,Af9 h1,this]
   simp only [Op.eqFields,ne_eq,hf.2,not_false_eq_true,if_true,Sem.run_bind,aa,Result.andThen_ok,u,hr]
   cases p
   ·rfl
   ·simpa using ih
  ·cases a
theorem Enc.agg_cells{N:Nat->Prop}{x:Value}{cs:List V}(h:Enc w N μ x (.agg cs)):∃xs:List Value,x=.agg xs.toArray/\∀(j:Nat)c,cs[j]? =some c->∃y,xs[j]? =some y/\Enc w N μ y c:=by
 have d:∀xs:List Value,xs.length=cs.length->(∀(i:Nat)x c,xs[i]? =some x->cs[i]? =some c->Enc w N μ x c)->∀(j:Nat)c,cs[j]? =some c->∃y,xs[j]? =some y/\Enc w N μ y c:=by
  intro xs e a j c g;have f:j<xs.length:=by rw [e];exact(Ap.1 g).1
  exact⟨_,Al f,a j _ c (Al f) g⟩
 cases h with
 |pur h=>
  cases h with
  |agg xs _ e k a=>exact⟨xs,rfl,d xs e (fun i x c h1 h2=>.pur (a i x c h1 h2))⟩
 |agg xs _ e k a=>exact⟨xs,rfl,d xs e a⟩
theorem Axm{l:BinOp}{t:TypeId}{u v r:V}(h:A3b P t l u v=some r){x y:Value}{N:Nat->Prop}(d:Enc w N μ x u)(e:Enc w N μ y v)(ox oy:Operand):
  ∃z,(do eqGuard l t ox oy x y;binOp l t x y:Sem Value).run P w=.ok z w/\Pur w N z r:=by
 unfold A3b at h
 split at h
 ·rename_i as bs;split at h
  case h_2=>cases h
  rename_i qs a;split at h
  case h_2=>cases h
  rename_i r0 n;unfold Akp at a;split at a
  case h_2=>cases a
  rename_i fs i;split at a
  case isFalse=>cases a
  rename_i m;obtain⟨xs,rfl,aa⟩:=d.agg_cells;obtain⟨ys,rfl,o⟩:=e.agg_cells;have g:P.fieldsOf t=fs:=by simp [Program.fieldsOf,i]
  have f:(Op.equalIn 10000 t (.agg xs.toArray) (.agg ys.toArray)).run P w=.ok r0 w:=by
   rw [run_equalIn_struct w 9999 t _ _ (by rw [g];exact i) m.1,g];exact Wy 9998 xs ys fs.toList 0 qs as bs r0 a n (fun j c s=>by simpa using aa j c s) (fun j c s=>by simpa using o j c s)
  simp only [Sem.run_bind,run_eqGuard_agg w l t ox oy _ _ m.2,Result.andThen_ok]
  split at h
  ·injection h with h;subst h;exact⟨_,by rw [run_eql_struct,f];rfl,.bool _⟩
  ·injection h with h;subst h;exact⟨_,by rw [run_neq_struct,f];rfl,.bool _⟩
  ·cases h
 ·rename_i k p k' q;cases d with
  |pur d=>
  cases d with
  |int=>
  cases e with
  |pur e=>
  cases e with
  |int=>
  simp only [Sem.run_bind,eqGuard_at_int,Sem.run_pure,Result.andThen_ok]
  split at h
  ·exact Aox h t w N
  ·rename_i hs
   split at h
   ·rename_i hk;subst hk;exact Axk h (by simpa using hs) t w N
   ·cases h
 ·cases d with
  |pur d=>
  cases d with
  |str=>
  cases e with
  |pur e=>
  cases e with
  |str=>
  simp only [Sem.run_bind,eqGuard_at_string,Sem.run_pure,Result.andThen_ok];exact Axl h t w N
 ·cases d with
  |pur d=>
  cases d with
  |bool p=>
  cases e with
  |pur e=>
  cases e with
  |bool q=>
  split at h
  case isFalse=>cases h
  rename_i ht;have hu:=Y4 ht;simp only [Sem.run_bind,eqGuard_at_bool,Sem.run_pure,Result.andThen_ok]
  cases l<;>simp only at h<;>first|(cases h;done)|(injection h with h;subst h)
  ·exact⟨_,Ae3 t _ _ hu,.bool _⟩
  ·exact⟨_,Ae4 t _ _ hu,.bool _⟩
 ·cases h
def aun(a:UnOp):V->Option V
 | .bool b=>match a with| .not=>some (.bool (!b))|_ =>none
 | .int k n=>match a with| .neg=>some (.int k (k.wrap (0-n)))| .xor=>some (.int k (bits .xor k (if k.signed=true then -1 else k.max) n))|_ =>none
 |_ =>none
theorem A3d{c:UnOp}{u r:V}(h:aun c u=some r){x:Value}{N:Nat->Prop}(a:Enc w N μ x u):∃z,(Op.unary c x).run P w=.ok z w/\Pur w N z r:=by
 unfold aun at h
 split at h
 ·cases a with
  |pur a=>
  cases a with
  |bool p=>
  split at h
  ·injection h with h;subst h;exact⟨_,rfl,.bool _⟩
  ·cases h
 ·cases a with
  |pur a=>
  cases a with
  |int k n=>
  split at h
  ·injection h with h;subst h;exact⟨_,rfl,.int _ _⟩
  ·injection h with h;subst h;exact⟨_,rfl,.int _ _⟩
  ·cases h
 ·cases h
end
def K3(n:Nat):Option V->Option V->Option (Nat × Nat)
 |none,none=>some (0,n)
 |some (.int _ l),none=>if 0<=l/\l<=n then some (l.toNat,n)else none
 |none,some (.int _ h)=>if 0<=h/\h<=n then some (0,h.toNat)else none
 |some (.int _ l),some (.int _ h)=>if 0<=l/\l<=h/\h<=n then some (l.toNat,h.toNat)else none
 |_,_ =>none
def Ab6(place:Nat->Option (Nat × Nat))(cells:List V):List (Nat × V)->Option (List V)
 | []=>some cells
 |(i,v)::c=>
  match place i with
  |none=>none
  |some (off,a)=>
   if v.cells.length=a/\off+a<=cells.length then Ab6 place (cells.take off++v.cells++cells.drop (off+a)) c else none
def Y5(P:Program)(t i:Nat):Option (Nat × Nat):=(Bo P t i).map fun p=>(p.1,p.2.1)
def AS.evs(S:AS)(c:Bool):List (Nat × Operand)->Option (List (Nat × V))
 | []=>some []
 |(i,x)::r=>match S.evc c x,S.evs c r with
  |some v,some vs=>some ((i,v)::vs)
  |_,_ =>none
def AS.evo(S:AS)(c:Bool):Option Operand->Option (Option V)
 |none=>some none
 |some x=>(S.evc c x).map some
def AS.args(S:AS)(c:Bool):List Operand->Option (List V)
 | []=>some []
 |x::r=>match S.evc c x,S.args c r with
  |some v,some vs=>some (v::vs)
  |_,_ =>none
def Rn:List V->Option (List UInt8)
 | []=>some []
 | .int .u8 n::r=>match Rn r with
  |some l=>if 0<=n/\n<256 then some (UInt8.ofNat n.toNat::l)else none
  |none=>none
 |_ =>none
def byV(b:UInt8):V:=.int .u8 b.toNat
def Oc(P:Program)(t:TypeId):Bool:=match P.underlying t with|some (.interface _)|none=>false|_ =>true
def Ab7(P:Program)(t:TypeId):Bool:=match Fr P t with|some e=>Ab4 P e==some .u8|none=>false
def Abg(ok:Bool)(a:TypeId)(z:Option V):V->Option V
 | .ifc t v=>if t=a then some (if ok then .tup [v,.bool true]else v)else(if ok then z.map fun z=>.tup [z,.bool false]else none)
 | .nili=>if ok then z.map fun z=>.tup [z,.bool false]else none
 |_ =>none
def V.pl:V->Bool
 | .bool _ | .int _ _ | .str _ | .ro _ _ | .nils| .rp _ | .fn _ | .nilp| .nili| .nilf| .dm _ _ =>true
 |_ =>false
def V.plA:V->Bool
 | .agg cs=>cs.all V.pl
 | .rm .. =>true
 |v=>v.pl
def V.pcell:V->Option V
 | .clo f us vs=>if us.all V.pl=true/\vs.all V.pl=true then some (.fc f us vs)else none
 | .fc f us vs=>if us.all V.still=true/\vs.all V.still=true then some (.fc f us vs)else none
 |v=>if v.pl=true then some v else none
def Y6:List V->Option (List V)
 | []=>some []
 |c::r=>match c.pcell,Y6 r with
  |some d,some a=>some (d::a)
  |_,_ =>none
def dmV(t:TypeId):V->Option V
 | .agg cs=>(Y6 cs).map (.dm t)
 |_ =>none
def L5(v:V):Bool:=v.cells.all V.isCell
def Ep(P:Program)(t:TypeId):Bool:=match P.underlying t with
 |some (.struct a)=>a.all fun f=>(Ie P f.type).isSome
 |_ =>false
def Wz(P:Program)(t:TypeId):Option (IntKind × TypeId):=match P.underlying t with
 |some (.map k e)=>match P.underlying k with
  |some (.int q)=>some (q,e)
  |_ =>none
 |_ =>none
def Mr(ok:Bool)(z:V):Option V->V
 |some v=>if ok then .tup [v,.bool true]else v
 |none=>if ok then .tup [z,.bool false]else z
def V5(P:Program)(S:AS)(c:Bool):Op->Option V
 | .move x=>S.evc c x
 | .assign x=>S.evc c x
 | .pick x y z=>match S.evc c x with
  |some (.bool g)=>match S.evc (c&&g) y,S.evc (c&& !g) z with
   |some (.bool p),some (.bool q)=>some (.bool (cond g p q))
   |some u,some v=>match g with|true=>some u|false=>some v
   |_,_ =>none
  |_ =>none
 | .load t x=>match S.evc c x with
  |some (.rm b k m)=>if Ie P t=some 1/\Ex P t=some false then some (.mp b k m)else none
  |some p=>match S.place p,Ie P t,Ex P t with
   |some (e,off),some n,some g=>e.part off n g
   |_,_,_ =>none
  |none=>none
 | .nilCheck x=>match S.evc c x with
  |some (.rp e)=>some (.rp e)
  |some (.bp d v sz k off)=>some (.bp d v sz k off)
  |_ =>none
 | .binOp op t x y _ =>match S.evc c x,S.evc c y with
  |some u,some v=>A3b P t op u v
  |_,_ =>none
 | .unOp op _ x=>match S.evc c x with
  |some u=>aun op u
  |none=>none
 | .convert h dst x=>match S.evc c x,Ab4 P dst with
  |some (.int _ n),some k=>if(P.underlying h).isSome=true then some (.int k (k.wrap n))else none
  |some (.ro 1 es),none=>if Y3 P dst=true/\Ab7 P h=true then(Rn es).map .str else none
  |some (.str l),none=>if Y3 P dst=true/\(P.underlying h).isSome=true then some (.str l)else none
  |_,_ =>none
 | .makeInterface t x=>match S.evc c x with
  |some v=>if Oc P t=true/\(v.isCell=true\/v.flat2=true)then some (.ifc t v)else if Oc P t=true then dmV t v else none
  |none=>none
 | .typeAssert x _ j ok=>match S.evc c x with
  |some v=>if Oc P j=true then Abg ok j (D7 P j) v else none
  |none=>none
 | .makeFunc (.func f) first aa=>match S.args c first.toList,S.args c aa.toList with
  |some [],some []=>some (.fn f)
  |some us,some vs=>if us.all V.plA=true/\vs.all V.plA=true then some (.fc f us vs)else if us.all V.isCell=true/\vs.all V.isCell=true then some (.clo f us vs)else none
  |_,_ =>none
 | .fieldAddr t x f=>match S.evc c x,Bo P t f with
  |some (.rp e),some (off,n,g)=>(e.part off n g).map .rp
  |some (.bp d v sz k o),some (off,_,_)=>some (.bp d v sz k (o+off))
  |_,_ =>none
 | .field t x f=>match S.evc c x,Bo P t f with
  |some e,some (off,n,g)=>match e with| .agg cs=>(V.agg cs).part off n g|_ =>none
  |_,_ =>none
 | .indexAddr t x i=>match S.evc c x,S.evc c i,Fr P t with
  |some p,some (.int _ n),some te=>match Ie P te with
   |some z=>match p with
    | .ro sz es=>if 0<=n/\n<es.length/\z=sz then(match G8 es n.toNat with|some e=>some (.rp e)|none=>none)else none
    | .sl d v sz len=>if 0<=n/\n<len/\z=sz then some (.bp d v sz n.toNat 0)else none
    | .ss d v sz off len=>if 0<=n/\n<len/\z=sz then some (.bp d v sz (off+n.toNat) 0)else none
    |_ =>none
   |none=>none
  |some (.bp d v sz k off),some (.int _ n),none=>match Akm P t with
   |some (len,z)=>if 0<=n/\n<len then some (.bp d v sz k (off+n.toNat*z))else none
   |none=>none
  |_,_,_ =>none
 | .index t x i=>match S.evc c x,S.evc c i with
  |some (.str l),some (.int _ n)=>if Y3 P t=true/\0<=n then(match G8 l n.toNat with|some b=>some (.int .u8 b.toNat)|none=>none)else none
  |_,_ =>none
 | .extract x i=>match S.evc c x with
  |some (.tup vs)=>G8 vs i
  |_ =>none
 | .slice t x lo hi none=>match S.evc c x,S.evo c lo,S.evo c hi with
  |some p,some lv,some s=>match p with
   | .str l=>if Y3 P t=true then(match K3 l.length lv s with
    |some (p,q)=>some (.str ((l.drop p).take (q-p)))
    |none=>none)else none
   | .ro sz es=>match Fr P t with
    |some te=>match Ie P te,K3 es.length lv s with
     |some z,some (p,q)=>if z=sz then some (.ro sz ((es.drop p).take (q-p)))else none
     |_,_ =>none
    |none=>none
   | .sl d v sz len=>match Fr P t with
    |some te=>match Ie P te,K3 len lv s with
     |some z,some (p,q)=>if z=sz then some (.ss d v sz p (q-p))else none
     |_,_ =>none
    |none=>none
   | .ss d v sz off len=>match Fr P t with
    |some te=>match Ie P te,K3 len lv s with
     |some z,some (p,q)=>if z=sz then some (.ss d v sz (off+p) (q-p))else none
     |_,_ =>none
    |none=>none
   | .rp e=>match Akm P t,K3 e.cells.length lv s with
    |some (len,z),some (p,q)=>if z=1/\e.cells.length=len/\len<=1000000 then some (.ro 1 ((e.cells.drop p).take (q-p)))else none
    |_,_ =>none
   |_ =>none
  |_,_,_ =>none
 | .build t r=>match D7 P t,S.evs c r.toList with
  |some (.agg z),some vs=>if(vs.all fun p=>L5 p.2)=true/\Ep P t=true then(Ab6 (Y5 P t) z vs).map .agg else none
  |_,_ =>none
 | .lookup t x i ok=>match S.evc c x,S.evc c i,Wz P t with
  |some (.mp _ k m),some (.int w a),some (q,e)=>match D7 P e with
   |some z=>if k=w/\q=k then some (Mr ok z (Gd a m))else none
   |none=>none
  |_,_,_ =>none
 | .call { callee:=.builtin .min,args,argTypes:=_ }=>match args.toList with
  | [x,y]=>match S.evc c x,S.evc c y with
   |some (.int k a),some (.int w b)=>if k=w then some (.int k (if b<a then b else a))else none
   |_,_ =>none
  |_ =>none
 | .call { callee:=.builtin .max,args,argTypes:=_ }=>match args.toList with
  | [x,y]=>match S.evc c x,S.evc c y with
   |some (.int k a),some (.int w b)=>if k=w then some (.int k (if a<b then b else a))else none
   |_,_ =>none
  |_ =>none
 | .call { callee:=.builtin .len,args,argTypes}=>match args.toList,argTypes.toList with
  | [x],[t]=>match S.evc c x with
   |some (.str l)=>if Y3 P t=true then some (.int .i64 l.length)else none
   |some (.ro _ es)=>if(Fr P t).isSome=true then some (.int .i64 es.length)else none
   |some .nils=>if(Fr P t).isSome=true then some (.int .i64 0)else none
   |some (.sl _ _ _ n)=>if(Fr P t).isSome=true then some (.int .i64 n)else none
   |some (.ss _ _ _ _ n)=>if(Fr P t).isSome=true then some (.int .i64 n)else none
   |_ =>none
  |_,_ =>none
 |_ =>none
section
variable {D:Nat->Prop}{w0:Bs}{w:World}{N0:Nat->Prop}{μ:Mu}{S:AS}{a:Act}{P:Program}
theorem Dh{t e:TypeId}(h:Fr P t=some e):P.underlying t=some (.slice e):=by
 unfold Fr at h
 split at h
 ·rename_i e' a;injection h with h;subst h;exact a
 ·cases h
theorem H2{t:TypeId}(h:Y3 P t=true):P.underlying t=some .string:=by
 unfold Y3 at h
 split at h
 ·assumption
 ·cases h
theorem Sh{t:TypeId}{k:IntKind}(h:Ab4 P t=some k):P.underlying t=some (.int k):=by
 unfold Ab4 at h
 split at h
 ·rename_i k' a;injection h with h;subst h;exact a
 ·cases h
theorem Ms{t n:Nat}(h:Ie P t=some n)(w:World):(sizeOf t).run P w=.ok n w:=by
 unfold Ie at h;obtain⟨i,a,rfl⟩:=A0.1 h;simp [sizeOf,typeInfo,a]
theorem Akq{t:TypeId}{g:Bool}(h:Ex P t=some g)(w:World):(isAgg t).run P w=.ok g w:=by
 unfold Ex at h;obtain⟨de,a,c⟩:=A0.1 h;simp only [isAgg,Sem.run_bind,run_underlying a,Result.andThen_ok];subst c;cases de<;>rfl
theorem P6{t f off n:Nat}{g:Bool}(h:Bo P t f=some (off,n,g)):
  ∃c a,P.underlying t=some (.struct c)/\c[f]? =some a/\a.offset=off/\Ie P a.type=some n/\Ex P a.type=some g/\n≠0:=by
 unfold Bo at h;split at h
 case h_2=>cases h
 rename_i c d;split at h
 case h_2=>cases h
 rename_i a e;split at h
 case h_2=>cases h
 rename_i n' g' j i
 split at h
 ·cases h
 ·rename_i k;simp only [Au,B0]at h;obtain⟨rfl,rfl,rfl⟩:=h;exact⟨c,a,d,e,rfl,j,i,k⟩
theorem Axn{N:Nat->Prop}{t off n:Nat}{g:Bool}{cs:List V}{r:V}{x:Value}(s:Ie P t=some n)(m:Ex P t=some g)(k:Enc w N μ x (.agg cs))(hp:(V.agg cs).part off n g=some r):
  ∃xs y,x=.agg xs/\(part t xs off).run P w=.ok y w/\Enc w N μ y r:=by
 have h:∀(xs:List Value),xs.length=cs.length->(∀c∈cs,c.isCell=true)->(∀(i:Nat)x c,xs[i]? =some x->cs[i]? =some c->Enc w N μ x c)->
   ∃y,(part t xs.toArray off).run P w=.ok y w/\Enc w N μ y r:=by
  intro xs f d e;unfold V.part at hp;by_cases a:off+n<=(V.agg cs).cells.length
  case neg=>rw [if_neg a]at hp;cases hp
  rw [if_pos a]at hp;have l:off+n<=cs.length:=a;cases g with
  |true=>
   simp only [if_true,Au]at hp;subst hp
   refine⟨.agg ((xs.drop off).take n).toArray,?_,.agg _ _ (by simp [f,V.cells]) (fun c u=>d c (Cx (B8 u))) (fun i y c h1 h2=>?_)⟩
   ·simp only [part,Sem.run_bind,Akq m,Result.andThen_ok,if_true,Ms s,Sem.run_pure]
    congr 2
    simp
   ·have hi:i<n:=by have:=(Ap.1 h1).1;simp at this;omega
    rw [Cg hi,Cy]at h1 h2;exact e _ _ _ h1 h2
  |false=>
   simp only [Fh,if_false]at hp;by_cases h1:n=1
   case neg=>rw [if_neg h1]at hp;cases hp
   rw [if_pos h1]at hp;have j:off<xs.length:=by rw [f];omega
   refine⟨xs[off],?_,e off _ r (Al j) hp⟩;simp [part,Akq m,j]
 cases k with
 |pur k=>
  cases k with
  |agg xs _ f d e=>
   obtain⟨y,h1,h2⟩:=h xs f d (fun i x c o z=>.pur (e i x c o z));exact⟨_,y,rfl,h1,h2⟩
 |agg xs _ f d e=>
  obtain⟨y,h1,h2⟩:=h xs f d e;exact⟨_,y,rfl,h1,h2⟩
theorem Atn{e r:V}{off n sz:Nat}{g:Bool}(f:e.fits sz)(hp:e.part off n g=some r):r.fits n:=by
 unfold V.part at hp;split at hp
 case isFalse=>cases hp
 rename_i h
 split at hp
 ·injection hp with hp;subst hp;exact⟨by show((e.cells.drop off).take n).length=n;rw [Cs,F7];omega,fun c d=>f.2 c (Cx (B8 d))⟩
 ·split at hp
  case isFalse=>cases hp
  rename_i h1;have d:=f.2 r (Ay hp);refine⟨by rw [V.cells_one d];simp [h1],fun c a=>?_⟩;rw [V.cells_one d]at a;simp at a;subst a;exact d
theorem Ab8{e r:V}{off n sz:Nat}{g:Bool}(i:e.fits sz)(hp:e.part off n g=some r)(j:Nat)(c:V)(a:r.cells[j]? =some c):e.cells[off+j]? =some c:=by
 have h:=hp;unfold V.part at hp;split at hp
 case isFalse=>cases hp
 split at hp
 ·injection hp with hp;subst hp;simp only [V.cells]at a;have d:j<n:=by have:=(Ap.1 a).1;simp at this;omega
  rwa [Cg d,Cy]at a
 ·split at hp
  case isFalse=>cases hp
  have f:=i.2 r (Ay hp);rw [V.cells_one f]at a
  rcases j with _ |j
  ·simp at a;subst a;simpa using hp
  ·simp at a
theorem Nl{isSlice:Bool}{n c:Nat}{j g:Option V}{p q:Nat}(h:K3 n j g=some (p,q))(s:n<=c){N:Nat->Prop}{o m:Option Value}
  (t:∀v,j=some v->∃x,o=some x/\Enc w N μ x v)(e:j=none->o=none)(r:∀v,g=some v->∃x,m=some x/\Enc w N μ x v)(d:g=none->m=none):
  (Instr.sliceBounds isSlice n c o m none).run P w=.ok (p,q,c) w/\p<=q/\q<=n:=by
 unfold K3 at h
 split at h
 ·simp only [Au,B0]at h;obtain⟨rfl,rfl⟩:=h;rw [e rfl,d rfl];exact⟨by simp [Instr.sliceBounds],B4 _,A9 _⟩
 ·rename_i k l;split at h
  case isFalse=>cases h
  rename_i f;simp only [Au,B0]at h;obtain⟨rfl,rfl⟩:=h;obtain⟨x,rfl,a⟩:=t _ rfl;rw [d rfl];cases a with
  |pur a=>
  cases a with
  |int=>
  refine⟨?_,by omega,A9 _⟩;simp [Instr.sliceBounds,run_sliceBound w k l n _ f.1 Go.om]
 ·rename_i k l;split at h
  case isFalse=>cases h
  rename_i f;simp only [Au,B0]at h;obtain⟨rfl,rfl⟩:=h;obtain⟨x,rfl,a⟩:=r _ rfl;rw [e rfl];cases a with
  |pur a=>
  cases a with
  |int=>
  refine⟨?_,by omega,by omega⟩;simp [Instr.sliceBounds,run_sliceBound w k l c _ f.1 Go.om]
 ·rename_i k l u l';split at h
  case isFalse=>cases h
  rename_i f;simp only [Au,B0]at h;obtain⟨rfl,rfl⟩:=h;obtain⟨x,rfl,a⟩:=t _ rfl;obtain⟨y,rfl,i⟩:=r _ rfl;cases a with
  |pur a=>
  cases a with
  |int=>
  cases i with
  |pur i=>
  cases i with
  |int=>
  refine⟨?_,by omega,by omega⟩;simp [Instr.sliceBounds,run_sliceBound w u l' c _ om om,run_sliceBound w k l l'.toNat _ f.1 Go.om]
 ·cases h
end
section
variable {D:Nat->Prop}{w0:Bs}{w:World}{N0:Nat->Prop}{μ:Mu}{S:AS}{a:Act}{P:Program}
theorem RelM.evo(h:RelM D w0 N0 μ S a w){c:Bool}{x:Option Operand}{v:Option V}(e:S.evo c x=some v)(g:c=true):
  (∀u,v=some u->∃y,x.map a.eval=some y/\Enc w (Fb N0 μ S) μ y u)/\(v=none->x.map a.eval=none):=by
 cases x with
 |none=>
  simp only [AS.evo,Au]at e;subst e;exact⟨fun u f=>(by cases f),fun _ =>rfl⟩
 |some x=>
  simp only [AS.evo,A0]at e;obtain⟨u,f,rfl⟩:=e;refine⟨fun u' d=>?_,fun i=>(by cases i)⟩;injection d with d;subst d;exact⟨_,rfl,h.evc f g⟩
theorem RelM.evs(h:RelM D w0 N0 μ S a w){c:Bool}(f:c=true):∀ {xs:List (Nat × Operand)}{vs:List (Nat × V)},S.evs c xs=some vs->
  vs.length=xs.length/\∀(j:Nat)p q,xs[j]? =some p->vs[j]? =some q->p.1=q.1/\Enc w (Fb N0 μ S) μ (a.eval p.2) q.2
 | [],vs,d=>by simp only [AS.evs,Au]at d;subst d;simp
 |(i,x)::r,vs,d=>by
  simp only [AS.evs]at d;split at d
  case h_2=>cases d
  rename_i v k h1 h2;injection d with d;subst d;obtain⟨g,l⟩:=RelM.evs h f h2;refine⟨by simp [g],fun j p q hp e=>?_⟩
  rcases j with _ |j
  ·simp at hp e;subst hp;subst e;exact⟨rfl,h.evc h1 f⟩
  ·simp at hp e;exact l j p q hp e
theorem Ato(h:RelM D w0 N0 μ S a w){t:TypeId}{p v:V}{x:Value}{e:V}{off n:Nat}{g:Bool}(j:Enc w (Fb N0 μ S) μ x p)(hp:S.place p=some (e,off))(i:Ie P t=some n)(d:Ex P t=some g)
  (f:e.part off n g=some v):∃y,(Instr.loadAt t x).run P w=.ok y w/\Enc w (Fb N0 μ S) μ y v:=by
 obtain⟨ad,sz,rfl,m,k⟩:=h.place hp j;obtain⟨y,l,c⟩:=Aah i d m k f;exact⟨y,by simp [Instr.loadAt,Instr.sureAddr,l],c⟩
theorem Aoz{N:Nat->Prop}{t:TypeId}{x:Value}{b:Nat}{k:IntKind}{m:List (Int × V)}(d:Enc w N μ x (.rm b k m))(hn:Ie P t=some 1)(c:Ex P t=some false):∃y,(Instr.loadAt t x).run P w=.ok y w/\Enc w N μ y (.mp b k m):=by
 cases d with
 |pur d=>cases d with
  |rm g _ _ _ hb hN f h=>
   refine⟨.map (some b),?_,.pur h⟩;unfold Ex at c;obtain⟨de,e,c⟩:=A0.1 c
   have a:(isAgg t).run P w=.ok false w:=by
    simp only [isAgg,Sem.run_bind,run_underlying e,Result.andThen_ok];cases de<;>first|rfl|simp at c
   have i:(loadVar t g).run P w=.ok (.map (some b)) w:=by
    simp only [loadVar,Sem.run_bind,a,Result.andThen_ok];simp [f]
   simp [Instr.loadAt,Instr.sureAddr,i]
theorem Sz{a:Field}{n:Nat}(e:Ie P a.type=some n)(d:n≠0)(c:Addr):(fieldPlace c a).run P w=.ok (c.add a.offset) w:=by
 simp only [fieldPlace,Sem.run_bind,Ms e,Result.andThen_ok,if_neg d,Sem.run_pure]
theorem W0(_h:RelM D w0 N0 μ S a w){t f off n:Nat}{g:Bool}{e r:V}{x:Value}(i:Enc w (Fb N0 μ S) μ x (.rp e))(hf:Bo P t f=some (off,n,g))(h:e.part off n g=some r):
  ∃y,(Instr.fieldAt t x f).run P w=.ok y w/\Enc w (Fb N0 μ S) μ y (.rp r):=by
 obtain⟨fs,l,h1,h2,rfl,s,h5,z⟩:=P6 hf;cases i with
 |pur i=>
 cases i with
 |rp ad sz _ g' hb o d u m=>
 refine⟨.pointer (some (ad.add l.offset)),?_,.pur (.rp _ n r (fun j=>g' (l.offset+j)) (by rw [add_block];exact hb) (by rw [add_block];exact o) (Atn d h) (fun j c k=>?_) (fun j c k=>m _ c (Ab8 d h j c k)))⟩
 ·simp [Instr.fieldAt,run_underlying h1,h2,Instr.sureAddr,Sz s z]
 ·rw [Qz];exact u _ c (Ab8 d h j c k)
theorem W2(_h:RelM D w0 N0 μ S a w){t f off n:Nat}{g:Bool}{d v sz k o:Nat}{x:Value}(c:Enc w (Fb N0 μ S) μ x (.bp d v sz k o))(r:Bo P t f=some (off,n,g)):
  ∃y,(Instr.fieldAt t x f).run P w=.ok y w/\Enc w (Fb N0 μ S) μ y (.bp d v sz k (o+off)):=by
 obtain⟨fs,i,h1,h2,rfl,j,h5,l⟩:=P6 r;cases c with
 |pur c=>cases c
 |bp _ _ _ _ _ h e m=>
 refine⟨.pointer (some ⟨h,k*sz+(o+i.offset),none⟩),?_,.bp _ _ _ _ _ h e m⟩;simp [Instr.fieldAt,run_underlying h1,h2,Instr.sureAddr,Sz j l,Addr.add_lit,Jb]
theorem S0{t te n z:Nat}{k:IntKind}{i:Int}{c:Addr}{a:Nat}(e:Fr P t=some te)(d:Ie P te=some z)(f:0<=i)(h1:i<n):
  (Instr.indexAt t (.slice (some c) n a) (.int k i)).run P w=.ok (.pointer (some (c.add (i.toNat*z)))) w:=by
 simp [Instr.indexAt,run_underlying (Dh e),asIntOf,f,h1,Ms d]
theorem W4{t te z sz:Nat}{k:IntKind}{i:Int}{es:List V}{e:V}{x y:Value}{N:Nat->Prop}(d:Enc w N μ x (.ro sz es))(f:Enc w N μ y (.int k i))(ht:Fr P t=some te)(hz:Ie P te=some z)
  (h0:0<=i)(h1:i<es.length)(hs:z=sz)(o:es[i.toNat]? =some e):∃r,(Instr.indexAt t x y).run P w=.ok r w/\Enc w N μ r (.rp e):=by
 subst hs;cases d with
 |pur d=>
 cases d with
 |ro A ad n aa _ _ g hn s u hA hf hc hh=>
 cases f with
 |pur f=>
 cases f with
 |int=>
 obtain⟨h,l,a⟩:=hA om;subst h
 exact⟨_,S0 ht hz h0 om,.pur (.rp _ z e (g i.toNat) (by rw [add_block];exact l) (by rw [add_block];exact a) (hf e (Ay o))
  (fun j c m=>by rw [Qz];exact hc _ e j c o m) (fun j c m=>hh _ e j c o m))⟩
theorem W5{t te z sz d v len:Nat}{k:IntKind}{i:Int}{x y:Value}{N:Nat->Prop}(a:Enc w N μ x (.sl d v sz len))(c:Enc w N μ y (.int k i))(j:Fr P t=some te)(h:Ie P te=some z)
  (n:0<=i)(h1:i<len)(hs:z=sz):∃r,(Instr.indexAt t x y).run P w=.ok r w/\Enc w N μ r (.bp d v sz i.toNat 0):=by
 subst hs;cases c with
 |pur c=>
 cases c with
 |int=>
 cases a with
 |pur a=>cases a
 |slr _ _ _ _ g e m l f=>
  refine⟨_,S0 j h n h1,?_⟩;rw [Addr.add_lit,Dj];exact .bp d v z i.toNat 0 g e m
 |slv=>simp at h1;omega
theorem W6{t te z sz d v off len:Nat}{k:IntKind}{i:Int}{x y:Value}{N:Nat->Prop}(a:Enc w N μ x (.ss d v sz off len))(e:Enc w N μ y (.int k i))(l:Fr P t=some te)(j:Ie P te=some z)
  (s:0<=i)(h1:i<len)(hs:z=sz):∃r,(Instr.indexAt t x y).run P w=.ok r w/\Enc w N μ r (.bp d v sz (off+i.toNat) 0):=by
 subst hs;cases e with
 |pur e=>
 cases e with
 |int=>
 cases a with
 |pur a=>cases a
 |ss _ _ _ _ _ g c f A m h o=>
  obtain⟨n,rfl⟩:=o om;refine⟨_,S0 l j s h1,?_⟩;rw [Addr.add_lit,<- B9,<- Dy ((off+i.toNat)*z)];exact .bp d v z _ 0 g f n
theorem Uh{t te z n a p q:Nat}{A:Option Addr}{d c:Option Value}(g:Fr P t=some te)(f:Ie P te=some z)(h:(Instr.sliceBounds true n a d c none).run P w=.ok (p,q,a) w):
  (Instr.sliceAt t (.slice A n a) d c none).run P w=.ok (.slice (if a=p then A else A.map (·.add (p*z))) (q-p) (a-p)) w:=by
 have e:=Dh g;simp only [Instr.sliceAt,Sem.run_bind,run_underlying e,Result.andThen_ok,Instr.slice,h,Ms f,Sem.run_pure]
theorem Ae5{t te z sz p q:Nat}{es:List V}{x:Value}{lv y:Option V}{lo l:Option Value}{N:Nat->Prop}(o:Enc w N μ x (.ro sz es))(ht:Fr P t=some te)(hz:Ie P te=some z)(hs:z=sz)
  (hb:K3 es.length lv y=some (p,q))(hl:∀v,lv=some v->∃x,lo=some x/\Enc w N μ x v)(s:lv=none->lo=none)(hh:∀v,y=some v->∃x,l=some x/\Enc w N μ x v)(h:y=none->l=none):
  ∃r,(Instr.sliceAt t x lo l none).run P w=.ok r w/\Enc w N μ r (.ro sz ((es.drop p).take (q-p))):=by
 subst hs;cases o with
 |pur o=>
 cases o with
 |ro A ad n ae _ _ g hn d ab hA hf hc aa=>
 rw [hn]at hb;obtain⟨h1,h2,h3⟩:=Nl (P:=P) (isSlice:=true) hb d hl s hh h
 refine⟨_,Uh ht hz h1,.pur (.ro _ (ad.add (p*z)) _ _ z _ (fun k j=>g (p+k) j) so om om (fun h0=>?_) (fun e a=>hf e (Cx (B8 a))) (fun k e j c a m=>?_) (fun k e j c a m=>?_))⟩
 ·obtain⟨rfl,u,f⟩:=hA om;rw [if_neg Go.om];exact⟨rfl,by rw [add_block];exact u,by rw [add_block];exact f⟩
 ·have i:k<q-p:=by have:=(Ap.1 a).1;simp at this;omega
  rw [Cg i,Cy]at a;rw [Qz,show p*z+(k*z+j)=(p+k)*z+j by rw [B9];omega];exact hc _ e j c a m
 ·have i:k<q-p:=by have:=(Ap.1 a).1;simp at this;omega
  rw [Cg i,Cy]at a;exact aa _ e j c a m
theorem Ae6{t te z sz d v len p q:Nat}{x:Value}{h e:Option V}{l k:Option Value}{N:Nat->Prop}(f:Enc w N μ x (.sl d v sz len))(o:Fr P t=some te)(m:Ie P te=some z)(hs:z=sz)
  (hb:K3 len h e=some (p,q))(s:∀v,h=some v->∃x,l=some x/\Enc w N μ x v)(c:h=none->l=none)(n:∀v,e=some v->∃x,k=some x/\Enc w N μ x v)(a:e=none->k=none):
  ∃r,(Instr.sliceAt t x l k none).run P w=.ok r w/\Enc w N μ r (.ss d v sz p (q-p)):=by
 subst hs;cases f with
 |pur f=>cases f
 |slr _ _ _ _ g j u i y=>
  obtain⟨h1,h2,h3⟩:=Nl (P:=P) (isSlice:=true) hb i s c n a;refine⟨_,Uh o m h1,.ss d v z p (q-p) g _ j _ om om (fun h0=>⟨u,?_⟩)⟩;rw [if_neg Go.om];simp [Addr.add_lit]
 |slv _ _ _ A u=>
  obtain⟨h1,h2,h3⟩:=Nl (P:=P) (isSlice:=true) hb (A9 _) s c n a;exact⟨_,Uh o m h1,.ss d v z p (q-p) 0 _ 0 _ om om (fun h0=>by omega)⟩
theorem Ae7{t te z sz d v off len p q:Nat}{x:Value}{i a:Option V}{m l:Option Value}{N:Nat->Prop}(f:Enc w N μ x (.ss d v sz off len))(y:Fr P t=some te)(u:Ie P te=some z)(hs:z=sz)
  (hb:K3 len i a=some (p,q))(hl:∀v,i=some v->∃x,m=some x/\Enc w N μ x v)(h:i=none->m=none)(s:∀v,a=some v->∃x,l=some x/\Enc w N μ x v)(e:a=none->l=none):
  ∃r,(Instr.sliceAt t x m l none).run P w=.ok r w/\Enc w N μ r (.ss d v sz (off+p) (q-p)):=by
 subst hs;cases f with
 |pur f=>cases f
 |ss _ _ _ _ _ g c k A j o n=>
  obtain⟨h1,h2,h3⟩:=Nl (P:=P) (isSlice:=true) hb j hl h s e;refine⟨_,Uh y u h1,.ss d v z _ (q-p) g _ k _ om om (fun h0=>⟨(n om).1,?_⟩)⟩;rw [(n om).2,if_neg Go.om];simp [Addr.add_lit,B9]
theorem Ab9{t p q:Nat}{l:List UInt8}{x:Value}{f a:Option V}{h g:Option Value}{N:Nat->Prop}(d:Enc w N μ x (.str l))(m:Y3 P t=true)
  (o:K3 l.length f a=some (p,q))(n:∀v,f=some v->∃x,h=some x/\Enc w N μ x v)(e:f=none->h=none)(k:∀v,a=some v->∃x,g=some x/\Enc w N μ x v)(c:a=none->g=none):
  ∃r,(Instr.sliceAt t x h g none).run P w=.ok r w/\Enc w N μ r (.str ((l.drop p).take (q-p))):=by
 cases d with
 |pur d=>
 cases d with
 |str=>
 have j:=H2 m;obtain⟨h1,h2,h3⟩:=Nl (P:=P) (isSlice:=false) o (A9 _) n e k c;refine⟨.string ⟨((l.drop p).take (q-p)).toArray⟩,?_,.pur (.str _)⟩;have i:(ByteArray.mk l.toArray).size=l.length:=by simp [ByteArray.size]
 simp only [Instr.sliceAt,Sem.run_bind,run_underlying j,Result.andThen_ok,Instr.slice,Option.isSome_none,Fh,if_false,Sem.run_pure,i,h1,ByteArray.extract_mk]
def Jy(a:Int):List MapEntry->Nat->Option (Nat × Value)
 | [],_ =>none
 |e::r,n=>if Nd e=a then some (n,e.val)else Jy a r (n+1)
theorem P7{k:IntKind}{a:Int}{q:IntKind}:∀(es:List MapEntry)(n:Nat),(∀e∈es,∃b,e.key=.int k b)->Instr.findNow (.int q) (.int k a) es n=some (Jy a es n)
 | [],n,_ =>rfl
 |e::r,n,h=>by
  obtain⟨b,d⟩:=h e sm;have ih:=P7 (q:=q) (a:=a) r (n+1) (fun e g=>h e (by simp [g]));have f:Nd e=b:=by simp [Nd,d]
  simp only [Instr.findNow,d,Instr.sameNow,if_true,Jy,f]
  by_cases c:b=a
  ·subst c;simp
  ·have:(a==b)=false:=by simp;omega
   rw [this,if_neg c];exact ih
theorem Me{a:Int}:∀ {es:List MapEntry}{n:Nat}{p:Nat × Value},Jy a es n=some p->Hi a es=some p.2/\n<=p.1/\∃e,es[p.1-n]? =some e/\e.val=p.2/\Nd e=a
 | [],n,p,h=>by simp [Jy]at h
 |e::r,n,p,h=>by
  unfold Jy at h;unfold Hi
  split at h
  ·rename_i c;injection h with h;subst h;rw [if_pos c];exact⟨rfl,A9 _,e,by simp,rfl,c⟩
  ·rename_i c;rw [if_neg c];obtain⟨h1,h2,e',d,f⟩:=Me h;refine⟨h1,by omega,e',?_,f⟩;rw [show p.1-n=(p.1-(n+1))+1 by omega];simpa using d
theorem P8{a:Int}:∀ {es:List MapEntry}{n:Nat},Jy a es n=none↔Hi a es=none
 | [],n=>by simp [Jy,Hi]
 |e::r,n=>by
  unfold Jy Hi
  split
  ·simp
  ·exact P8
theorem Ui{t e:TypeId}{q:IntKind}(h:Wz P t=some (q,e)):∃k,P.underlying t=some (.map k e)/\P.underlying k=some (.int q):=by
 unfold Wz at h
 split at h
 ·rename_i k e' a
  split at h
  ·rename_i q' c;simp only [Au,B0]at h;obtain⟨rfl,rfl⟩:=h;exact⟨k,a,c⟩
  ·cases h
 ·cases h
theorem Pur.of_flat0{w w':World}{N N':Nat->Prop}{x:Value}{v:V}(h:Pur w N x v)(a:v.flat0=true):Pur w' N' x v:=by
 cases h with
 |bool b=>exact .bool b
 |int k n=>exact .int k n
 |str l=>exact .str l
 |nils|fn|agg|tup|ro|rp|mp|nilp|nili|nilf|ifc|fc|dm|rm=>simp [V.flat0]at a
theorem Ao0{N:Nat->Prop}{t e b:Nat}{k:IntKind}{m:List (Int × V)}{a:Int}{ok:Bool}{x y:Value}{z:V}(hx:Enc w N μ x (.mp b k m))(hy:Enc w N μ y (.int k a))(ht:Wz P t=some (k,e))
  {j:Value}(hz:(zeroValue e).run P w=.ok j w)(l:Pur w N j z):∃r,(Instr.lookup t x y ok).run P w=.ok r w/\Enc w N μ r (Mr ok z (Gd a m)):=by
 obtain⟨kt,hu,s⟩:=Ui ht;cases hy with
 |pur hy=>
 cases hy with
 |int=>
 cases hx with
 |pur hx=>
 cases hx with
 |mp _ _ _ es u g hN hb aa hs hn hw hh=>
 have h:=P7 (q:=k) (a:=a) es.toList 0 aa
 have f:∀p,Jy a es.toList 0=p->(Instr.lookup t (.map (some b)) (.int k a) ok).run P w=.ok (if ok then .tuple #[(match p with|some q=>q.2|none=>j),.bool p.isSome]else(match p with|some q=>q.2|none=>j)) w:=by
  intro p hp;rw [hp]at h;unfold Instr.lookup;simp only [Sem.run_bind,run_underlying hu,Result.andThen_ok,MapKept.run_getObj_map hb,MapKept.run_checkKey s (k:=.int k a) (by simp [MapKept.IsKey])];cases p with
  |none=>
   have hf:=MapKept.run_findKey (w:=w) s h;simp [hf,hz]
  |some q=>
   have hf:=MapKept.run_findKey (w:=w) s h;simp [hf]
 cases hp:Jy a es.toList 0 with
 |none=>
  have o:=P8.1 hp
  have d:Gd a m=none:=by
   cases h0:Gd a m with
   |none=>rfl
   |some v=>have:=(hs a v h0).1;rw [o]at this;cases this
  rw [d];refine⟨_,f _ hp,?_⟩
  cases ok
  ·exact .pur l
  ·exact .tup [j,.bool false] [z,.bool false] rfl (fun i x c h1 h2=>by
    rcases i with _ |_ |i
    ·simp at h1 h2;subst h1;subst h2;exact .pur l
    ·simp at h1 h2;subst h1;subst h2;exact .pur (.bool _)
    ·simp at h1)
 |some q=>
  have o:=(Me hp).1;cases d:Gd a m with
  |none=>have:=hn a d;rw [o]at this;cases this
  |some v=>
   have n:=(hs a v d).1;rw [o]at n;injection n with n;have hv:=hh a v d;rw [<- n]at hv;refine⟨_,f _ hp,?_⟩
   cases ok
   ·exact .pur hv
   ·exact .tup [q.2,.bool true] [v,.bool true] rfl (fun i x c h1 h2=>by
     rcases i with _ |_ |i
     ·simp at h1 h2;subst h1;subst h2;exact .pur hv
     ·simp at h1 h2;subst h1;subst h2;exact .pur (.bool _)
     ·simp at h1)
theorem Aga{t len z:Nat}(h:Akm P t=some (len,z)):∃e,P.underlying t=some (.array len e)/\Ie P e=some z:=by
 unfold Akm at h
 split at h
 ·rename_i n e a;obtain⟨z',c,h⟩:=A0.1 h;injection h with h1 h2;subst h1;subst h2;exact⟨e,a,c⟩
 ·cases h
theorem V6{t len z d v sz a off:Nat}{k:IntKind}{i:Int}{x y:Value}{N:Nat->Prop}(c:Enc w N μ x (.bp d v sz a off))(f:Enc w N μ y (.int k i))(m:Akm P t=some (len,z))
  (o:0<=i)(h1:i<len):∃r,(Instr.indexAt t x y).run P w=.ok r w/\Enc w N μ r (.bp d v sz a (off+i.toNat*z)):=by
 obtain⟨e,j,l⟩:=Aga m;cases f with
 |pur f=>
 cases f with
 |int=>
 cases c with
 |pur c=>cases c
 |bp _ _ _ _ _ g h n=>
  refine⟨.pointer (some ((⟨g,a*sz+off,none⟩:Addr).add (i.toNat*z))),?_,?_⟩
  ·simp [Instr.indexAt,asIntOf,run_underlying j,Instr.sureAddr,Ms l,o,h1]
  ·rw [Addr.add_lit,Jb];exact .bp d v sz a _ g h n
theorem Aca{t len p q:Nat}{e:V}{z u:Option V}{x:Value}{N:Nat->Prop}{lo l:Option Value}(o:Enc w N μ x (.rp e))(ht:Akm P t=some (len,1))(he:e.cells.length=len)(aa:len<=1000000)(hb:K3 e.cells.length z u=some (p,q))
  (hl:∀v,z=some v->∃x,lo=some x/\Enc w N μ x v)(s:z=none->lo=none)(hh:∀v,u=some v->∃x,l=some x/\Enc w N μ x v)(i:u=none->l=none):
  ∃r,(Instr.sliceAt t x lo l none).run P w=.ok r w/\Enc w N μ r (.ro 1 ((e.cells.drop p).take (q-p))):=by
 obtain⟨te,hu,hz⟩:=Aga ht;subst he;obtain⟨h1,h2,h3⟩:=Nl (P:=P) (isSlice:=false) hb (A9 _) hl s hh i;cases o with
 |pur o=>
 cases o with
 |rp ad sz _ g n hN hf hc hp=>
 refine⟨.slice (some (if e.cells.length=p then ad else ad.add (p*1))) (q-p) (e.cells.length-p),?_,.pur (.ro _ (ad.add (p*1)) _ _ 1 _ (fun k _ =>g (p+k)) so om (by unfold maxLen;omega) (fun h0=>?_) (fun c m=>?_) (fun k c j c' d f=>?_) (fun k c j c' d f=>?_))⟩
 ·simp [Instr.sliceAt,run_underlying hu,Instr.sureAddr,h1,Ms hz]
 ·rw [if_neg Go.om];exact⟨rfl,by rw [add_block];exact n,by rw [add_block];exact hN⟩
 ·have a:=hf.2 c (Cx (B8 m));rw [V.fits,V.cells_one a];exact⟨rfl,fun y hy=>by rw [Bz.1 hy];exact a⟩
 ·have h:k<q-p:=by have:=(Ap.1 d).1;simp at this;omega
  have a:=hf.2 c (Cx (B8 (Ay d)));rw [V.cells_one a]at f;rw [Cg h,Cy]at d
  rcases j with _ |j
  ·rw [Qz,show p*1+(k*1+0)=p+k by omega];exact hc (p+k) c d
  ·simp at f
 ·have h:k<q-p:=by have:=(Ap.1 d).1;simp at this;omega
  have a:=hf.2 c (Cx (B8 (Ay d)));rw [V.cells_one a]at f;rw [Cg h,Cy]at d
  rcases j with _ |j
  ·simp only [Da,Au]at f;subst f;exact hp (p+k) c d
  ·simp at f
end
theorem Akr{α:Type}(x:α):∀(l:List α)(i:Nat),i<l.length->(l.set i x).take (i+1)=l.take i++[x]
 | [],i,h=>by simp at h
 |y::l,0,_ =>by simp
 |y::l,i+1,h=>by
  simp only [List.set_cons_succ,Lq,Ch];rw [Akr x l i (by simpa using h)]
theorem Y7{α:Type}(off:Nat):∀(l:List α)(k:Nat)(cs:Array α),off+k+l.length<=cs.size->
  ((l.zipIdx k).foldl (fun cs p=>cs.setIfInBounds (off+p.2) p.1) cs).toList=cs.toList.take (off+k)++l++cs.toList.drop (off+k+l.length)
 | [],k,cs,_ =>by simp
 |x::l,k,cs,h=>by
  simp only [Ba]at h;simp only [List.zipIdx_cons,List.foldl_cons];rw [Y7 off l (k+1) (cs.setIfInBounds (off+k) x) (by simp;omega)];simp only [Array.toList_setIfInBounds,Ba];rw [<- Jb off k 1,Akr x cs.toList (off+k) so,List.drop_set_of_lt Go.om];simp only [C3,Ch,Fm];rw [show off+k+1+l.length=off+k+(l.length+1)by omega]
section
variable {D:Nat->Prop}{w0:Bs}{w:World}{N0:Nat->Prop}{μ:Mu}{S:AS}{a:Act}{P:Program}
def Vp(w:World)(N:Nat->Prop)(μ:Mu)(xs:List Value)(cs:List V):Prop:=xs.length=cs.length/\∀(i:Nat)x c,xs[i]? =some x->cs[i]? =some c->Enc w N μ x c
theorem Vp.append{N:Nat->Prop}{xs g:List Value}{cs e:List V}(h:Vp w N μ xs cs)(k:Vp w N μ g e):Vp w N μ (xs++g) (cs++e):=by
 refine⟨by simp [h.1,k.1],fun i x c a d=>?_⟩
 by_cases f:i<xs.length
 ·rw [Bn f]at a;rw [Bn (by rw [<- h.1];exact f)]at d;exact h.2 i x c a d
 ·rw [Be Go.om]at a;rw [Be (by rw [<- h.1];omega),<- h.1]at d;exact k.2 _ x c a d
theorem Vp.take{N:Nat->Prop}{xs:List Value}{cs:List V}(h:Vp w N μ xs cs)(n:Nat):Vp w N μ (xs.take n) (cs.take n):=by
 refine⟨by simp [h.1],fun i x c a d=>?_⟩;have e:i<n:=by have:=(Ap.1 a).1;simp at this;omega
 rw [Cg e]at a d;exact h.2 i x c a d
theorem Vp.drop{N:Nat->Prop}{xs:List Value}{cs:List V}(h:Vp w N μ xs cs)(n:Nat):Vp w N μ (xs.drop n) (cs.drop n):=by
 refine⟨by simp [h.1],fun i x c a d=>?_⟩;rw [Cy]at a d;exact h.2 _ x c a d
theorem Enc.row{N:Nat->Prop}{x:Value}{v:V}(h:Enc w N μ x v)(f:L5 v=true):Vp w N μ x.cells.toList v.cells:=by
 have j:v.fits v.cells.length:=⟨rfl,fun c e=>by simpa using Aw.1 f c e⟩;obtain⟨h1,h2⟩:=h.cells_at j;refine⟨by simpa using h1,fun i y c a e=>?_⟩;obtain⟨z,g,d,_⟩:=h2 i c e;rw [Array.getElem?_toList,g]at a;injection a with a;subst a;exact d
theorem Fx(h:RelM D w0 N0 μ S a w){c:Bool}(g:c=true):∀ {xs:List Operand}{vs:List V},S.args c xs=some vs->
  vs.length=xs.length/\∀(i:Nat)x v,xs[i]? =some x->vs[i]? =some v->Enc w (Fb N0 μ S) μ (a.eval x) v
 | [],vs,d=>by simp only [AS.args,Au]at d;subst d;simp
 |x::r,vs,d=>by
  simp only [AS.args]at d;split at d
  case h_2=>cases d
  rename_i v k h1 h2;injection d with d;subst d;obtain⟨j,l⟩:=Fx h g h2;refine⟨by simp [j],fun i y u f e=>?_⟩
  rcases i with _ |i
  ·simp at f e;subst f;subst e;exact h.evc h1 g
  ·simp at f e;exact l i y u f e
theorem Aai:∀ {es:List V}{l:List UInt8},Rn es=some l->∃a:List Int,es=a.map (V.int .u8)/\l=a.map (fun n=>UInt8.ofNat n.toNat)
 | [],l,h=>by simp only [Rn,Au]at h;subst h;exact⟨[],rfl,rfl⟩
 |e::es,l,h=>by
  cases e<;>try(cases h;done)
  rename_i k n;cases k<;>try(cases h;done)
  simp only [Rn]at h;split at h
  case h_2=>cases h
  rename_i l' c;split at h
  case isFalse=>cases h
  injection h with h;subst h;obtain⟨a,rfl,rfl⟩:=Aai c;exact⟨n::a,rfl,rfl⟩
theorem Acb:∀(a:List Int)(s:List UInt8),a.foldl (fun(r:ByteArray)n=>r.push (UInt8.ofNat n.toNat)) ⟨s.toArray⟩=⟨(s++a.map fun n=>UInt8.ofNat n.toNat).toArray⟩
 | [],s=>by simp
 |n::a,s=>by
  simp only [List.foldl_cons,Ct]
  have:(ByteArray.mk s.toArray).push (UInt8.ofNat n.toNat)=⟨(s++[UInt8.ofNat n.toNat]).toArray⟩:=by
   simp [ByteArray.push]
  rw [this,Acb a];simp
theorem W7{N:Nat->Prop}{x:Value}{es:List V}{l:List UInt8}{a dst:TypeId}(o:Enc w N μ x (.ro 1 es))(hd:Y3 P dst=true)(hs:Ab7 P a=true)(hb:Rn es=some l):
  (convert a dst x).run P w=.ok (.string ⟨l.toArray⟩) w:=by
 obtain⟨d,rfl,rfl⟩:=Aai hb;have k:=H2 hd;unfold Ab7 at hs;split at hs
 case h_2=>cases hs
 rename_i e he;have h:P.underlying e=some (.int .u8):=Sh (by simpa using hs);have i:=Dh he;cases o with
 |pur o=>
 cases o with
 |ro A s n c _ _ g r z u hA hf hc hh=>
 rw [run_convert_bytes_string w a dst e A n c i h k];have f:(ByteArray.empty:ByteArray)=⟨([]:List UInt8).toArray⟩:=rfl;cases hns:d with
 |nil=>
  subst hns;have h0:n=0:=by simpa using r.symm
  subst h0;cases A with
  |none=>simp [Conv.bytesToString];rfl
  |some a0=>
   rw [run_bytesToString w a0 0 c [] (by simp [loadCells,loadCellsFrom])];rfl
 |cons n0 aa=>
  obtain⟨rfl,_,_⟩:=hA (by rw [<- r,hns];simp);rw [<- hns]
  have hl:(loadCells s n).run P w=.ok (d.map (Value.int .u8)).toArray w:=by
   have:=run_loadCells_list (P:=P) w s (d.map (Value.int .u8)) (fun j v hj=>by
    simp only [Bc,A0]at hj;obtain⟨m,t,rfl⟩:=hj;have h1:=hc j (.int .u8 m) 0 (.int .u8 m) (by simp [t]) rfl;have h2:=hh j (.int .u8 m) 0 (.int .u8 m) (by simp [t]) rfl;simp only [F0,Dy]at h1;rw [h1];generalize g j 0=y at h2;cases h2
    rfl)
   rw [Eg,show d.length=n by simpa using r]at this;exact this
  rw [run_bytesToString w s n c d hl,f,Acb];simp
theorem V7{t:TypeId}(h:Oc P t=true):∃de,P.underlying t=some de/\∀l,de≠ .interface l:=by
 unfold Oc at h
 split at h
 ·cases h
 ·cases h
 ·rename_i h1 h2;cases hd:P.underlying t with
  |none=>exact absurd hd h2
  |some de=>exact⟨de,rfl,fun l a=>h1 l (by rw [hd,a])⟩
theorem Atp{N:Nat->Prop}{x:Value}{v:V}{t:TypeId}(d:Enc w N μ x v)(l:Oc P t=true)(a:v.isCell=true\/v.flat2=true):
  (Instr.makeInterface t x).run P w=.ok (.iface t x) w/\Enc w N μ (.iface t x) (.ifc t v):=by
 obtain⟨de,e,k⟩:=V7 l
 refine⟨?_,?_⟩
 ·simp only [Instr.makeInterface,Sem.run_bind,run_underlying e,Result.andThen_ok]
  try rfl
 ·rcases a with a|a
  ·exact .ifc t x v a d
  ·refine .pur (.ifc t x v a ?_);cases d with
   |pur d=>exact d
   |agg xs cs m j g=>
    refine .agg xs cs m j fun i x c h1 h2=>?_;have f:=Aw.1 a c (Ay h2);have:=g i x c h1 h2;cases this with
    |pur h=>exact h
    |_ =>simp [V.flat1]at f
   |_ =>simp [V.flat2,V.flat1]at a
theorem A91{N:Nat->Prop}{x y:Value}{u v:V}(a:Enc w N μ x u)(d:Enc w N μ y v):Enc w N μ (.tuple #[x,y]) (.tup [u,v]):=
 .tup [x,y] [u,v] rfl (fun i x' c h1 h2=>by
  rcases i with _ |_ |i
  ·simp at h1 h2;subst h1;subst h2;exact a
  ·simp at h1 h2;subst h1;subst h2;exact d
  ·simp at h1)
theorem Ao1{N:Nat->Prop}{x:Value}{u v:V}{a xt:TypeId}{ok:Bool}(o:Enc w N μ x u)(ht:Oc P a=true)(l:Abg ok a (D7 P a) u=some v):
  ∃y,(Instr.typeAssert x xt a ok).run P w=.ok y w/\Enc w N μ y v:=by
 obtain⟨de,i,m⟩:=V7 ht
 have h:∀z,D7 P a=some z->∃n,(zeroValue a).run P w=.ok n w/\Pur w N n z:=by
  intro z h;unfold D7 at h;obtain⟨ad,hi,h⟩:=B7.1 h;obtain⟨n,ab,h⟩:=B7.1 h;exact⟨n,by simp [zeroValue,typeInfo,hi,ab],Nk h w _⟩
 have hn:∀(y:Value),ok=true->(∀z,D7 P a=some z->v=.tup [z,.bool false]->((Instr.typeAssert y xt a ok).run P w=(do pure (.tuple #[<- zeroValue a,.bool false]):Sem Value).run P w)->∃s,(Instr.typeAssert y xt a ok).run P w=.ok s w/\Enc w N μ s v):=by
  intro y e z h1 h2 h3;obtain⟨n,h4,h5⟩:=h z h1;subst h2;exact⟨.tuple #[n,.bool false],by rw [h3];simp [h4],A91 (.pur h5) (.pur (.bool _))⟩
 have g:∀(t:TypeId)(y:Value)(c:V),Enc w N μ y c->(if t=a then some (if ok then V.tup [c,.bool true]else c)else(if ok then(D7 P a).map fun z=>V.tup [z,.bool false]else none))=some v->
   ∃s,(Instr.typeAssert (.iface t y) xt a ok).run P w=.ok s w/\Enc w N μ s v:=by
  intro t y c r d
  by_cases f:t=a
  ·rw [if_pos f]at d;injection d with d;subst d
   refine⟨if ok then .tuple #[y,.bool true]else y,?_,?_⟩
   ·simp only [Instr.typeAssert,Sem.run_bind,run_underlying i,Result.andThen_ok];cases de<;>first|(exact absurd rfl (m _))|(simp [f])
   ·cases ok
    ·exact r
    ·exact A91 r (.pur (.bool _))
  ·rw [if_neg f]at d;cases e:ok with
   |false=>rw [e]at d;simp at d
   |true=>
    rw [e]at d;simp only [if_true,A0]at d;obtain⟨z,j,k⟩:=d
    have h3:(Instr.typeAssert (.iface t y) xt a ok).run P w=(do pure (.tuple #[<- zeroValue a,.bool false]):Sem Value).run P w:=by
     simp only [Instr.typeAssert,Sem.run_bind,run_underlying i,Result.andThen_ok];cases de<;>first|(exact absurd rfl (m _))|(simp [f,e])
    have:=hn (.iface t y) e z j k.symm h3;rw [e]at this;exact this
 cases u<;>simp only [Abg]at l<;>try(cases l;done)
 case nili=>
  split at l
  case isFalse=>cases l
  rename_i e;obtain⟨z,j,k⟩:=A0.1 l
  have aa:x=.nilIface:=by
   cases o with
   |pur o=>cases o;rfl
  subst aa
  exact hn .nilIface e z j k.symm (by
   simp only [Instr.typeAssert,Sem.run_bind,run_underlying i,Result.andThen_ok];cases de<;>first|(exact absurd rfl (m _))|(simp [e]))
 case ifc t c=>
  cases o with
  |pur o=>
   cases o with
   |ifc _ y _ _ r=>exact g t y c (.pur r) l
  |ifc _ y _ _ r=>exact g t y c r l
theorem V.pl_pur{N:Nat->Prop}{x:Value}{v:V}(h:Enc w N μ x v)(hp:v.pl=true):Pur w N x v:=by
 cases h with
 |pur h=>exact h
 |_ =>simp [V.pl]at hp
theorem V.plA_pur{N:Nat->Prop}{x:Value}{v:V}(h:Enc w N μ x v)(hp:v.plA=true):Pur w N x v:=by
 cases h with
 |pur h=>exact h
 |agg xs cs d a e=>exact .agg xs cs d a (fun i x c h1 h2=>V.pl_pur (e i x c h1 h2) (Aw.1 hp c (Ay h2)))
 |_ =>simp [V.plA,V.pl]at hp
theorem V.pl_still{v:V}(h:v.pl=true):v.still=true/\v.isCell=true:=by cases v<;>first|exact⟨rfl,rfl⟩|simp [V.pl]at h
theorem V.pcell_pur{N:Nat->Prop}{x:Value}{v u:V}(h:Enc w N μ x v)(hp:v.pcell=some u):Pur w N x u/\u.isCell=true:=by
 have e:v.pl=true->u=v->Pur w N x u/\u.isCell=true:=fun h1 h2=>by subst h2;exact⟨V.pl_pur h h1,(V.pl_still h1).2⟩
 cases v with
 |clo f us vs=>
  simp only [V.pcell]at hp;split at hp
  case isFalse=>cases hp
  rename_i a;injection hp with hp;subst hp;cases h with
  |pur h=>cases h
  |clo _ xs k _ _ m l d g j=>
   refine⟨.fc f xs k us vs m l (fun i x c h1 h2=>V.pl_pur (g i x c h1 h2) (Aw.1 a.1 c (Ay h2))) (fun i x c h1 h2=>V.pl_pur (j i x c h1 h2) (Aw.1 a.2 c (Ay h2))),?_⟩;simp only [V.isCell,Bk,Aw];exact⟨fun c d=>(V.pl_still (Aw.1 a.1 c d)).1,fun c d=>(V.pl_still (Aw.1 a.2 c d)).1⟩
 |fc f us vs=>
  simp only [V.pcell]at hp;split at hp
  case isFalse=>cases hp
  rename_i a;injection hp with hp;subst hp;cases h with
  |pur h=>exact⟨h,by simp only [V.isCell,a.1,a.2,Bool.and_self]⟩
 |_ =>
  simp only [V.pcell]at hp;split at hp
  case isFalse=>cases hp
  rename_i a;injection hp with hp;exact e a hp.symm
theorem Aaj:∀ {cs a:List V},Y6 cs=some a->a.length=cs.length/\∀(i:Nat)c d,cs[i]? =some c->a[i]? =some d->c.pcell=some d
 | [],a,h=>by simp only [Y6,Au]at h;subst h;simp
 |c::r,a,h=>by
  simp only [Y6]at h;split at h
  case h_2=>cases h
  rename_i d k h1 h2;injection h with h;subst h;obtain⟨g,j⟩:=Aaj h2;refine⟨by simp [g],fun i y u f e=>?_⟩
  rcases i with _ |i
  ·simp at f e;subst f;subst e;exact h1
  ·simp at f e;exact j i y u f e
theorem A7i{N:Nat->Prop}{x:Value}{v u:V}{t:TypeId}(e:Enc w N μ x v)(z:Oc P t=true)(l:dmV t v=some u):
  (Instr.makeInterface t x).run P w=.ok (.iface t x) w/\Enc w N μ (.iface t x) u:=by
 obtain⟨de,n,y⟩:=V7 z
 refine⟨?_,?_⟩
 ·simp only [Instr.makeInterface,Sem.run_bind,run_underlying n,Result.andThen_ok]
  try rfl
 ·cases v with
  |agg cs=>
   simp only [dmV,A0]at l;obtain⟨m,r,rfl⟩:=l;obtain⟨h1,h2⟩:=Aaj r
   have h:∀xs:List Value,xs.length=cs.length->(∀(i:Nat)x c,xs[i]? =some x->cs[i]? =some c->Enc w N μ x c)->Enc w N μ (.iface t (.agg xs.toArray)) (.dm t m):=by
    intro xs k g
    have s:∀(i:Nat)x d,xs[i]? =some x->m[i]? =some d->Pur w N x d/\d.isCell=true:=by
     intro i x d e f;have o:i<cs.length:=by have:=(Ap.1 f).1;omega
     have j:=Al o;exact V.pcell_pur (g i x _ e j) (h2 i _ d j f)
    refine .pur (.dm t xs m om (fun d f=>?_) (fun i x d e f=>(s i x d e f).1));obtain⟨i,o,rfl⟩:=Hu.1 f;exact(s i xs[i] _ (Al om) (Al o)).2
   cases e with
   |pur e=>cases e with
    |agg xs _ k j g=>exact h xs k (fun i x c a b=>.pur (g i x c a b))
   |agg xs _ k j g=>exact h xs k g
  |_ =>simp [dmV]at l
theorem Atq{first g:List Operand}{us vs:List V}(h:RelM D w0 N0 μ S a w){c:Bool}(l:c=true)(d:us.all V.plA=true/\vs.all V.plA=true)(h1:S.args c first=some us)(h2:S.args c g=some vs)(f:FuncId):
  Enc w (Fb N0 μ S) μ (.func (.func f) (first.map a.eval).toArray (g.map a.eval).toArray) (.fc f us vs):=by
 obtain⟨n,o⟩:=Fx h l h1;obtain⟨r,m⟩:=Fx h l h2
 refine .pur (.fc f _ _ us vs (by simp [n]) (by simp [r]) (fun i x c j e=>?_) (fun i x c j e=>?_))
 ·simp only [Bc,A0]at j;obtain⟨y,k,rfl⟩:=j;exact V.plA_pur (o i y c k e) (Aw.1 d.1 c (Ay e))
 ·simp only [Bc,A0]at j;obtain⟨y,k,rfl⟩:=j;exact V.plA_pur (m i y c k e) (Aw.1 d.2 c (Ay e))
theorem Axo{first e:List Operand}{us vs:List V}(h:RelM D w0 N0 μ S a w){c:Bool}(k:c=true)(d:us.all V.isCell=true/\vs.all V.isCell=true)(h1:S.args c first=some us)(h2:S.args c e=some vs)(f:FuncId):
  Enc w (Fb N0 μ S) μ (.func (.func f) (first.map a.eval).toArray (e.map a.eval).toArray) (.clo f us vs):=by
 obtain⟨n,o⟩:=Fx h k h1;obtain⟨r,m⟩:=Fx h k h2
 refine .clo f _ _ us vs (by simp [n]) (by simp [r]) (fun c k=>k.elim (Aw.1 d.1 c) (Aw.1 d.2 c)) (fun i x c j g=>?_) fun i x c j g=>?_
 ·simp only [Bc,A0]at j;obtain⟨y,l,rfl⟩:=j;exact o i y c l g
 ·simp only [Bc,A0]at j;obtain⟨y,l,rfl⟩:=j;exact m i y c l g
theorem Aks{N:Nat->Prop}{place:Nat->Option (Nat × Nat)}{place':Nat->Option (Nat × Nat)}(n:∀i r,place i=some r->place' i=some r):
  ∀(vs:List (Nat × V))(ps:List (Nat × Value))(g:List V)(cells:Array Value)(r:List V),ps.length=vs.length->
  (∀(j:Nat)p q,ps[j]? =some p->vs[j]? =some q->p.1=q.1/\Enc w N μ p.2 q.2)->(∀p∈vs,L5 p.2=true)->(∀c∈g,c.isCell=true)->Vp w N μ cells.toList g->Ab6 place g vs=some r->
  ∃a,Instr.fill place' cells ps=some a/\Vp w N μ a.toList r/\(∀c∈r,c.isCell=true)
 | [],[],g,cells,r,_,_,_,t,l,h=>by
  simp only [Ab6,Au]at h;subst h;exact⟨cells,rfl,l,t⟩
 | [],_ ::_,_,_,_,h,_,_,_,_,_ =>by simp at h
 |_ ::_,[],_,_,_,h,_,_,_,_,_ =>by simp at h
 |(i,v)::vs,(z,x)::ps,g,cells,r,hl,hp,k,t,l,h=>by
  obtain⟨e,y⟩:=hp 0 _ _ rfl rfl;simp only at e y;subst e;simp only [Ab6]at h;split at h
  case h_1=>cases h
  rename_i off size u;split at h
  case isFalse=>cases h
  rename_i o;obtain⟨o,aa⟩:=o;have f:=y.row (k (z,v) sm);have s:x.cells.size=size:=by have:=f.1;simp at this;omega
  have ab:cells.size=g.length:=by simpa using l.1
  have m:Vp w N μ (x.cells.zipIdx.foldl (fun cs p=>cs.setIfInBounds (off+p.2) p.1) cells).toList (g.take off++v.cells++g.drop (off+size)):=by
   rw [<- Array.foldl_toList,Array.toList_zipIdx,Y7 off x.cells.toList 0 cells (by simp;omega)];simp only [Dy,Ia,s];exact((l.take _).append f).append (l.drop _)
  obtain⟨a,h1,h2,h3⟩:=Aks n vs ps _ _ r (by simpa using hl) (fun j p q h1 h2=>hp (j+1) p q (by simpa using h1) (by simpa using h2)) (fun p hp=>k p (by simp [hp]))
   (fun c d=>by
    simp only [Cc]at d
    rcases d with(d|d)|d
    ·exact t c (B8 d)
    ·exact Aw.1 (k (z,v) sm) c d
    ·exact t c (Cx d)) m h
  refine⟨a,?_,h2,h3⟩;simp only [Instr.fill,n _ _ u,s];rw [if_neg (by simp;omega)];exact h1
theorem Akt{a:Array Field}(h:∀(i:Nat)f,a[i]? =some f->∃n,Ie P f.type=some n):
  (a.mapM fun f=>do pure (f.offset,<- sizeOf f.type):Sem (Array (Nat × Nat))).run P w=.ok (a.map fun f=>(f.offset,(Ie P f.type).getD 0)) w:=by
 rw [Hf]
 have c:∀(l:List Field),(∀f∈l,∃n,Ie P f.type=some n)->(l.mapM fun f=>do pure (f.offset,<- sizeOf f.type):Sem (List (Nat × Nat))).run P w=.ok (l.map fun f=>(f.offset,(Ie P f.type).getD 0)) w:=by
  intro l
  induction l with
  |nil=>intro _;rfl
  |cons f l ih=>
   intro e;obtain⟨n,d⟩:=e f sm;simp only [M7,Sem.run_bind,Ms d,Result.andThen_ok,Sem.run_pure,ih (fun g j=>e g (by simp [j])),Ct,d,En]
 have m:∀f∈a.toList,∃n,Ie P f.type=some n:=fun f o=>by
  obtain⟨i,k⟩:=Co o;exact h i f (by simpa using k)
 rw [Sem.run_map,c _ m,Result.andThen_ok]
 congr 1
 apply Ej;simp
theorem Aku{t i off n:Nat}(h:Y5 P t i=some (off,n)):∃c a,P.underlying t=some (.struct c)/\c[i]? =some a/\a.offset=off/\Ie P a.type=some n:=by
 unfold Y5 at h;obtain⟨⟨o,n',g⟩,h1,h2⟩:=A0.1 h;simp only [B0]at h2;obtain⟨rfl,rfl⟩:=h2;obtain⟨c,a,d,f,j,e,_⟩:=P6 h1;exact⟨c,a,d,f,j,e⟩
theorem Atr{N:Nat->Prop}{t:TypeId}{z:List V}{vs:List (Nat × V)}{ps:List (Nat × Value)}{r:List V}(h:Ep P t=true)(d:D7 P t=some (.agg z))(hl:ps.length=vs.length)
  (hp:∀(j:Nat)p q,ps[j]? =some p->vs[j]? =some q->p.1=q.1/\Enc w N μ p.2 q.2)(l:∀p∈vs,L5 p.2=true)(hr:Ab6 (Y5 P t) z vs=some r):
  ∃x,(Instr.build t ps.toArray).run P w=.ok x w/\Enc w N μ x (.agg r):=by
 unfold Ep at h;split at h
 case h_2=>cases h
 rename_i k g;unfold D7 at d;obtain⟨af,e,d⟩:=B7.1 d;obtain⟨zv,ad,d⟩:=B7.1 d;have s:=Nk d w N
 have o:∀(i:Nat)f,k[i]? =some f->∃n,Ie P f.type=some n:=fun i f hf=>by
  have:=Array.all_eq_true'.1 h f (Array.mem_of_getElem? hf);exact Cm.1 this
 have aa:∀i q,Y5 P t i=some q->(k.map fun f=>(f.offset,(Ie P f.type).getD 0))[i]? =some q:=by
  rintro i⟨off,n⟩hq;obtain⟨ae,fd,h1,h2,u,h4⟩:=Aku hq;rw [g]at h1;injection h1 with h1;injection h1 with h1;subst h1;simp [h2,u,h4]
 cases s with
 |agg xs _ ab m y=>
 obtain⟨a,h1,h2,u⟩:=Aks (w:=w) (N:=N) (μ:=μ) (place':=fun i=>(k.map fun f=>(f.offset,(Ie P f.type).getD 0))[i]?) aa vs ps z xs.toArray r hl hp l m ⟨ab,fun i x c h1 h2=>.pur (y i x c h1 h2)⟩ hr
 refine⟨.agg a,?_,?_⟩
 ·simp only [Instr.build,Sem.run_bind,zeroValue,typeInfo,run_program,e,Sem.run_pure,Result.andThen_ok,ad,run_underlying g,Akt o,Value.cells,h1]
 ·have:a=a.toList.toArray:=sm;rw [this];exact .agg _ _ h2.1 u h2.2
theorem Pf(a:Act)(c:Array (Nat × Operand)):(c.map fun(i,x)=>(i,a.eval x))=(c.toList.map fun p=>(p.1,a.eval p.2)).toArray:=by
 apply Ej;simp
theorem W8(h:RelM D w0 N0 μ S a w){c:Bool}(hc:c=true){o:Oper}{v:V}(s:V5 P S c o.op=some v):
  ∃x,(execOp a.eval o).run P w=.ok (.value x) w/\Enc w (Fb N0 μ S) μ x v:=by
 unfold execOp;cases hop:o.op<;>rw [hop]at s<;>simp only [V5]at s<;>(try(cases s;done))<;>dsimp only
 case move x=>exact⟨_,rfl,h.evc s hc⟩
 case assign x=>exact⟨_,rfl,h.evc s hc⟩
 case pick x y z=>
  split at s
  case h_2=>cases s
  rename_i g hg;have hx:=h.evc hg hc;generalize a.eval x=xv at hx|-;cases hx with
  |pur hx=>
  cases hx with
  |bool=>
  subst hc;simp only [Sem.run_bind,asBool,Sem.run_pure,Result.andThen_ok]
  split at s
  ·rename_i p q hy hz;injection s with s;subst s
   cases g
   ·exact⟨_,rfl,by simpa using h.evc hz rfl⟩
   ·exact⟨_,rfl,by simpa using h.evc hy rfl⟩
  ·rename_i u v' ba hy hz
   split at s
   ·injection s with s;subst s;exact⟨_,rfl,by simpa using h.evc hy rfl⟩
   ·injection s with s;subst s;exact⟨_,rfl,by simpa using h.evc hz rfl⟩
  ·cases s
 case load t x=>
  split at s
  case h_3=>cases s
  ·rename_i b k m hp;split at s
   case isFalse=>cases s
   rename_i hb;injection s with s;subst s;obtain⟨y,hy,aa⟩:=Aoz (h.evc hp hc) hb.1 hb.2;exact⟨y,by simp [hy],aa⟩
  rename_i p _ hp;split at s
  case h_2=>cases s
  rename_i e off n g h1 h2 h3;obtain⟨y,hy,aa⟩:=Ato h (h.evc hp hc) h1 h2 h3 s;exact⟨y,by simp [hy],aa⟩
 case nilCheck x=>
  split at s
  ·rename_i e he;injection s with s;subst s;have hx:=h.evc he hc;generalize a.eval x=xv at hx|-;refine⟨xv,?_,hx⟩;cases hx with
   |pur hx=>
   cases hx with
   |rp=>rfl
  ·rename_i d v' sz k off he;injection s with s;subst s;have hx:=h.evc he hc;generalize a.eval x=xv at hx|-;refine⟨xv,?_,hx⟩;cases hx with
   |pur hx=>cases hx
   |bp=>rfl
  ·cases s
 case binOp op t x y yt=>
  split at s
  case h_2=>cases s
  rename_i u v' h1 h2;obtain⟨z,hz,ak⟩:=Axm s (h.evc h1 hc) (h.evc h2 hc) x y;exact⟨z,by rw [Sem.run_bind,hz];rfl,.pur ak⟩
 case unOp op t x=>
  split at s
  case h_2=>cases s
  rename_i u h1;obtain⟨z,hz,ak⟩:=A3d (P:=P) s (h.evc h1 hc);exact⟨z,by rw [Sem.run_bind,hz];rfl,.pur ak⟩
 case convert src dst x=>
  split at s
  ·rename_i k0 n k h1 h2;split at s
   case isFalse=>cases s
   rename_i hs;injection s with s;subst s;have hx:=h.evc h1 hc;generalize a.eval x=xv at hx|-;cases hx with
   |pur hx=>
   cases hx with
   |int=>
   have hu:=Sh h2;obtain⟨de,aj⟩:=Cm.1 hs;exact⟨.int k (k.wrap n),by simp [convert,run_underlying aj,run_underlying hu,Conv.intToInt],.pur (.int _ _)⟩
  ·rename_i es h1 h2;split at s
   case isFalse=>cases s
   rename_i hs;obtain⟨l,hl,rfl⟩:=A0.1 s;exact⟨_,by rw [Sem.run_bind,W7 (h.evc h1 hc) hs.1 hs.2 hl];rfl,.pur (.str _)⟩
  ·rename_i l h1 h2;split at s
   case isFalse=>cases s
   rename_i hs;injection s with s;subst s;have hx:=h.evc h1 hc;generalize a.eval x=xv at hx|-;cases hx with
   |pur hx=>
   cases hx with
   |str=>
   have hu:=H2 hs.1;obtain⟨de,aj⟩:=Cm.1 hs.2;exact⟨.string ⟨l.toArray⟩,by simp [convert,run_underlying aj,run_underlying hu],.pur (.str _)⟩
  ·cases s
 case makeInterface t x=>
  split at s
  case h_2=>cases s
  rename_i u h1
  split at s
  ·rename_i hb;injection s with s;subst s;obtain⟨h2,h3⟩:=Atp (P:=P) (h.evc h1 hc) hb.1 hb.2;exact⟨_,by rw [Sem.run_bind,h2];rfl,h3⟩
  ·split at s
   case isFalse=>cases s
   rename_i hb;obtain⟨h2,h3⟩:=A7i (P:=P) (h.evc h1 hc) hb s;exact⟨_,by rw [Sem.run_bind,h2];rfl,h3⟩
 case typeAssert x xt at_ ok=>
  split at s
  case h_2=>cases s
  rename_i u h1;split at s
  case isFalse=>cases s
  rename_i hb;obtain⟨y,hy,aa⟩:=Ao1 (P:=P) (xt:=xt) (h.evc h1 hc) hb s;exact⟨y,by rw [Sem.run_bind,hy];rfl,aa⟩
 case makeFunc fv first caps=>
  cases fv with
  |func f=>
   have au:∀us vs,us.all V.isCell=true/\vs.all V.isCell=true->S.args c first.toList=some us->S.args c caps.toList=some vs->Enc w (Fb N0 μ S) μ (.func (.func f) (first.map a.eval) (caps.map a.eval)) (.clo f us vs):=by
    intro us vs ae h1 h2;have:=Axo h hc ae h1 h2 f;have e1:(first.toList.map a.eval).toArray=first.map a.eval:=by apply Ej;simp
    have e2:(caps.toList.map a.eval).toArray=caps.map a.eval:=by apply Ej;simp
    rwa [e1,e2]at this
   simp only at s
   split at s
   ·rename_i h1 h2;injection s with s;subst s;obtain⟨a1,_⟩:=Fx h hc h1;obtain⟨b1,_⟩:=Fx h hc h2;have e1:first= #[]:=by simpa using a1.symm
    have e2:caps= #[]:=by simpa using b1.symm
    subst e1;subst e2;exact⟨.func (.func f) #[] #[],by simp [Instr.makeFunc],.pur (.fn f)⟩
   ·rename_i us vs _ h1 h2
    split at s
    ·rename_i ae;injection s with s;subst s;have:=Atq h hc ae h1 h2 f;have e1:(first.toList.map a.eval).toArray=first.map a.eval:=by apply Ej;simp
     have e2:(caps.toList.map a.eval).toArray=caps.map a.eval:=by apply Ej;simp
     rw [e1,e2]at this;exact⟨_,by simp only [Instr.makeFunc,Sem.run_bind,Sem.run_pure,Result.andThen_ok],this⟩
    split at s
    case isFalse=>cases s
    rename_i ae;injection s with s;subst s;exact⟨_,by simp only [Instr.makeFunc,Sem.run_bind,Sem.run_pure,Result.andThen_ok],au us vs ae h1 h2⟩
   ·cases s
  |_ =>simp only at s;cases s
 case fieldAddr t x f=>
  split at s
  ·rename_i e off n g h1 h2;obtain⟨r,hr,rfl⟩:=A0.1 s;obtain⟨y,hy,aa⟩:=W0 h (h.evc h1 hc) h2 hr;exact⟨y,by rw [Sem.run_bind,hy];rfl,aa⟩
  ·rename_i d v' sz k o' off n g h1 h2;injection s with s;subst s;obtain⟨y,hy,aa⟩:=W2 h (h.evc h1 hc) h2;exact⟨y,by rw [Sem.run_bind,hy];rfl,aa⟩
  ·cases s
 case field t x f=>
  split at s
  case h_2=>cases s
  rename_i e off n g h1 h2;split at s
  case h_2=>cases s
  rename_i cs;obtain⟨fs,fd,a1,a2,rfl,a4,a5,a6⟩:=P6 h2;obtain⟨xs,y,aw,hy,aa⟩:=Axn (P:=P) a4 a5 (h.evc h1 hc) s;refine⟨y,?_,aa⟩;rw [aw];simp only [Sem.run_bind,Instr.field,run_underlying a1,Result.andThen_ok,a2,asAgg,Sem.run_pure,hy]
 case indexAddr t x i=>
  split at s
  case h_3=>cases s
  case h_2=>
   rename_i d v' sz k0 off k n h1 h2 h3;split at s
   case h_2=>cases s
   rename_i len z ht;split at s
   case isFalse=>cases s
   rename_i hb;injection s with s;subst s;obtain⟨y,hy,aa⟩:=V6 (P:=P) (h.evc h1 hc) (h.evc h2 hc) ht hb.1 hb.2;exact⟨y,by rw [Sem.run_bind,hy];rfl,aa⟩
  rename_i p k n te h1 h2 h3;split at s
  case h_2=>cases s
  rename_i z hz
  split at s
  ·rename_i sz es;split at s
   case isFalse=>cases s
   rename_i hb;split at s
   case h_2=>cases s
   rename_i e he;rw [C0]at he;injection s with s;subst s;obtain⟨y,hy,aa⟩:=W4 (P:=P) (h.evc h1 hc) (h.evc h2 hc) h3 hz hb.1 hb.2.1 hb.2.2 he;exact⟨y,by rw [Sem.run_bind,hy];rfl,aa⟩
  ·rename_i d v' sz len;split at s
   case isFalse=>cases s
   rename_i hb;injection s with s;subst s;obtain⟨y,hy,aa⟩:=W5 (P:=P) (h.evc h1 hc) (h.evc h2 hc) h3 hz hb.1 hb.2.1 hb.2.2;exact⟨y,by rw [Sem.run_bind,hy];rfl,aa⟩
  ·rename_i d v' sz off len;split at s
   case isFalse=>cases s
   rename_i hb;injection s with s;subst s;obtain⟨y,hy,aa⟩:=W6 (P:=P) (h.evc h1 hc) (h.evc h2 hc) h3 hz hb.1 hb.2.1 hb.2.2;exact⟨y,by rw [Sem.run_bind,hy];rfl,aa⟩
  ·cases s
 case index t x i=>
  split at s
  case h_2=>cases s
  rename_i l k n h1 h2;split at s
  case isFalse=>cases s
  rename_i hb;split at s
  case h_2=>cases s
  rename_i b hl;rw [C0]at hl;injection s with s;subst s;have hx:=h.evc h1 hc;have hi:=h.evc h2 hc;generalize a.eval x=xv at hx|-;generalize a.eval i=iv at hi|-;cases hx with
  |pur hx=>
  cases hx with
  |str=>
  cases hi with
  |pur hi=>
  cases hi with
  |int=>
  have hu:=H2 hb.1;have af:n.toNat<l.length:=(Ap.1 hl).1
  have hs:(ByteArray.mk l.toArray)[n.toNat]? =some b:=by
   have:=ByteArray.getElem?_lt' (ByteArray.mk l.toArray) n.toNat (by simpa [ByteArray.size]using af);rw [this];have h2:=(Ap.1 hl).2;simp only [Au];rw [<- h2];rfl
  exact⟨.int .u8 b.toNat,by simp [Instr.index,asIntOf,run_underlying hu,hb.2,hs],.pur (.int _ _)⟩
 case extract x i=>
  split at s
  case h_2=>cases s
  rename_i vs h1;rw [C0]at s;have hx:=h.evc h1 hc;generalize a.eval x=xv at hx|-;cases hx with
  |pur hx=>
   cases hx with
   |tup xs _ hl hh=>
   have af:i<xs.length:=by rw [hl];exact(Ap.1 s).1
   exact⟨xs[i],by simp [Instr.extract,af],.pur (hh i _ v (Al af) s)⟩
  |tup xs _ hl hh=>
   have af:i<xs.length:=by rw [hl];exact(Ap.1 s).1
   exact⟨xs[i],by simp [Instr.extract,af],hh i _ v (Al af) s⟩
 case slice t x lo hi mx=>
  cases mx with
  |some m=>simp only at s;cases s
  |none=>
  simp only at s;split at s
  case h_2=>cases s
  rename_i p lv a7 h1 h2 h3;obtain⟨b1,b2⟩:=h.evo h2 hc;obtain⟨b3,b4⟩:=h.evo h3 hc;have hx:=h.evc h1 hc;simp only [Option.map_none]
  split at s
  ·split at s
   case isFalse=>cases s
   rename_i ht;split at s
   case h_2=>cases s
   rename_i p q hb;injection s with s;subst s;obtain⟨y,hy,aa⟩:=Ab9 (P:=P) hx ht hb b1 b2 b3 b4;exact⟨y,by rw [Sem.run_bind,hy];rfl,aa⟩
  ·split at s
   case h_2=>cases s
   rename_i te ab;split at s
   case h_2=>cases s
   rename_i z p q hz hb;split at s
   case isFalse=>cases s
   rename_i hs;injection s with s;subst s;obtain⟨y,hy,aa⟩:=Ae5 (P:=P) hx ab hz hs hb b1 b2 b3 b4;exact⟨y,by rw [Sem.run_bind,hy];rfl,aa⟩
  ·split at s
   case h_2=>cases s
   rename_i te ab;split at s
   case h_2=>cases s
   rename_i z p q hz hb;split at s
   case isFalse=>cases s
   rename_i hs;injection s with s;subst s;obtain⟨y,hy,aa⟩:=Ae6 (P:=P) hx ab hz hs hb b1 b2 b3 b4;exact⟨y,by rw [Sem.run_bind,hy];rfl,aa⟩
  ·split at s
   case h_2=>cases s
   rename_i te ab;split at s
   case h_2=>cases s
   rename_i z p q hz hb;split at s
   case isFalse=>cases s
   rename_i hs;injection s with s;subst s;obtain⟨y,hy,aa⟩:=Ae7 (P:=P) hx ab hz hs hb b1 b2 b3 b4;exact⟨y,by rw [Sem.run_bind,hy];rfl,aa⟩
  ·split at s
   case h_2=>cases s
   rename_i len z p q ax hb;split at s
   case isFalse=>cases s
   rename_i hs;injection s with s;subst s;obtain⟨ar,ay,av⟩:=hs;subst ar;obtain⟨y,hy,aa⟩:=Aca (P:=P) hx ax ay av hb b1 b2 b3 b4;exact⟨y,by rw [Sem.run_bind,hy];rfl,aa⟩
  ·cases s
 case build t parts=>
  split at s
  case h_2=>cases s
  rename_i z vs h1 h2;split at s
  case isFalse=>cases s
  rename_i al;obtain⟨r,hr,rfl⟩:=A0.1 s;obtain⟨h3,h4⟩:=h.evs hc h2
  obtain⟨y,hy,aa⟩:=Atr (P:=P) (w:=w) (μ:=μ) (N:=Fb N0 μ S) (ps:=parts.toList.map fun p=>(p.1,a.eval p.2)) al.2 h1 (by simp [h3]) (fun j p q hp hq=>by
   simp only [Bc,A0]at hp;obtain⟨p',an,rfl⟩:=hp;exact h4 j p' q an hq) (fun p hp=>Aw.1 al.1 p hp) hr
  exact⟨y,by simp only [Sem.run_bind,Pf,hy,Result.andThen_ok,Sem.run_pure],aa⟩
 case lookup t x i ok=>
  split at s
  case h_2=>cases s
  rename_i b k m k' n q e h1 h2 h3;split at s
  case h_2=>cases s
  rename_i z hz;split at s
  case isFalse=>cases s
  rename_i hk;obtain⟨rfl,rfl⟩:=hk;injection s with s;subst s;have a8:=hz;unfold D7 at hz;obtain⟨a9,hi,hz⟩:=B7.1 hz;obtain⟨zv,aq,hz⟩:=B7.1 hz;have am:(zeroValue e).run P w=.ok zv w:=by simp [zeroValue,typeInfo,hi,aq]
  obtain⟨r,hr,a0⟩:=Ao0 (ok:=ok) (h.evc h1 hc) (h.evc h2 hc) h3 am (Nk hz w _);exact⟨r,by simp only [Sem.run_bind,hr,Result.andThen_ok,Sem.run_pure],a0⟩
 case call cl=>
  obtain⟨ai,args,ag⟩:=cl;cases ai with
  |value f=>cases s
  |invoke r m=>cases s
  |builtin b=>
  cases b<;>simp only at s<;>try(cases s;done)
  case min=>
   split at s
   case h_2=>cases s
   rename_i x y ha;have ah:args= #[x,y]:=by apply Ej;simpa using ha
   subst ah;split at s
   case h_2=>cases s
   rename_i k p k' q h1 h2;split at s
   case isFalse=>cases s
   rename_i hk;subst hk;injection s with s;subst s;have hx:=h.evc h1 hc;have hy:=h.evc h2 hc;simp only [Sem.run_bind,resolve,Sem.run_pure,Result.andThen_ok,invoke,builtin,N4,Ct,F8];generalize a.eval x=xv at hx|-;generalize a.eval y=yv at hy|-;cases hx with
   |pur hx=>
   cases hx with
   |int=>
   cases hy with
   |pur hy=>
   cases hy with
   |int=>
   exact⟨_,by rw [run_min_int2];rfl,.pur (.int _ _)⟩
  case max=>
   split at s
   case h_2=>cases s
   rename_i x y ha;have ah:args= #[x,y]:=by apply Ej;simpa using ha
   subst ah;split at s
   case h_2=>cases s
   rename_i k p k' q h1 h2;split at s
   case isFalse=>cases s
   rename_i hk;subst hk;injection s with s;subst s;have hx:=h.evc h1 hc;have hy:=h.evc h2 hc;simp only [Sem.run_bind,resolve,Sem.run_pure,Result.andThen_ok,invoke,builtin,N4,Ct,F8];generalize a.eval x=xv at hx|-;generalize a.eval y=yv at hy|-;cases hx with
   |pur hx=>
   cases hx with
   |int=>
   cases hy with
   |pur hy=>
   cases hy with
   |int=>
   exact⟨_,by rw [run_max_int2];rfl,.pur (.int _ _)⟩
  split at s
  case h_2=>cases s
  rename_i x t ha ht;have ah:args= #[x]:=by apply Ej;simpa using ha
  have az:ag= #[t]:=by apply Ej;simpa using ht
  subst ah;subst az;simp only [Sem.run_bind,resolve,Sem.run_pure,Result.andThen_ok,invoke,builtin,N4,Ct,F8]
  split at s
  ·rename_i l h1;split at s
   case isFalse=>cases s
   rename_i hs;injection s with s;subst s;have hx:=h.evc h1 hc;generalize a.eval x=xv at hx|-;cases hx with
   |pur hx=>
   cases hx with
   |str=>
   have ao:(ByteArray.mk l.toArray).size=l.length:=by simp [ByteArray.size]
   exact⟨.int .i64 l.length,by simp [Builtin.len_,run_underlying (H2 hs),goInt,ao],.pur (.int _ _)⟩
  ·rename_i sz es h1;split at s
   case isFalse=>cases s
   rename_i hs;injection s with s;subst s;obtain⟨te,ab⟩:=Cm.1 hs;have hx:=h.evc h1 hc;generalize a.eval x=xv at hx|-;cases hx with
   |pur hx=>
   cases hx with
   |ro A ad n a3 _ _ g hn=>
   exact⟨.int .i64 es.length,by simp [Builtin.len_,run_underlying (Dh ab),goInt,hn],.pur (.int _ _)⟩
  ·rename_i h1;split at s
   case isFalse=>cases s
   rename_i hs;injection s with s;subst s;obtain⟨te,ab⟩:=Cm.1 hs;have hx:=h.evc h1 hc;generalize a.eval x=xv at hx|-;cases hx with
   |pur hx=>
   cases hx with
   |nils A=>
   exact⟨.int .i64 0,by simp [Builtin.len_,run_underlying (Dh ab),goInt],.pur (.int _ _)⟩
  ·rename_i d v' sz n h1;split at s
   case isFalse=>cases s
   rename_i hs;injection s with s;subst s;obtain⟨te,ab⟩:=Cm.1 hs;have hx:=h.evc h1 hc;generalize a.eval x=xv at hx|-;cases hx with
   |pur hx=>cases hx
   |slr=>exact⟨.int .i64 n,by simp [Builtin.len_,run_underlying (Dh ab),goInt],.pur (.int _ _)⟩
   |slv=>exact⟨.int .i64 0,by simp [Builtin.len_,run_underlying (Dh ab),goInt],.pur (.int _ _)⟩
  ·rename_i d v' sz off n h1;split at s
   case isFalse=>cases s
   rename_i hs;injection s with s;subst s;obtain⟨te,ab⟩:=Cm.1 hs;have hx:=h.evc h1 hc;generalize a.eval x=xv at hx|-;cases hx with
   |pur hx=>cases hx
   |ss=>exact⟨.int .i64 n,by simp [Builtin.len_,run_underlying (Dh ab),goInt],.pur (.int _ _)⟩
  ·cases s
end
def flat(es:List V):List V:=es.flatMap V.cells
theorem Iz{sz:Nat}:∀ {es:List V},(∀e∈es,e.fits sz)->(flat es).length=es.length*sz
 | [],_ =>by simp [flat]
 |e::es,h=>by
  have h1:=(h e sm).1;have h2:=Iz (es:=es) (fun x a=>h x (by simp [a]));unfold flat at h2|-;rw [Kk,Bf,h1,h2,Ba,B9];omega
theorem Od{sz:Nat}:∀ {es:List V},(∀e∈es,e.fits sz)->∀ {k j:Nat}{e c:V},es[k]? =some e->e.cells[j]? =some c->(flat es)[k*sz+j]? =some c
 | [],_,k,j,e,c,a,_ =>by simp at a
 |x::es,h,k,j,e,c,a,f=>by
  have h1:=(h x sm).1;have d:j<e.cells.length:=(Ap.1 f).1;unfold flat;rw [Kk]
  rcases k with _ |k
  ·simp only [Da,Au]at a;subst a;rw [O4,Dj,Bn d];exact f
  ·simp only [Fy]at a;have ih:=Od (es:=es) (fun y g=>h y (by simp [g])) a f;unfold flat at ih;rw [Be (by rw [h1,B9];omega),h1,show(k+1)*sz+j-sz=k*sz+j by rw [B9];omega];exact ih
theorem S4(a b:List V):flat (a++b)=flat a++flat b:=by simp [flat]
def V.setPart(e:V)(off:Nat)(v:V):V:=
 match e with
 | .agg cs=>.agg (cs.take off++v.cells++cs.drop (off+v.cells.length))
 |_ =>v
def AS.putv(S:AS)(dst:Option Nat)(v:V):Option AS:=
 match dst with
 |some d=>if d<S.nt then some { S with env:=(d,v)::S.env}else none
 |none=>some S
def AS.elems(S:AS):V->Option (Nat × List V)
 | .ro sz es=>some (sz,es)
 | .nils=>some (0,[])
 | .sl d v sz len=>match get S.objs d with
  |some o=>if o.v=v/\o.sz=sz/\o.es.length=len then some (sz,o.es)else none
  |none=>none
 | .ss d v sz off len=>match get S.objs d with
  |some o=>if o.v=v/\o.sz=sz/\off+len<=o.es.length then some (sz,(o.es.drop off).take len)else none
  |none=>none
 |_ =>none
def Ji(P:Program)(t:TypeId):Option Nat:=(P.info? t).map (·.bytes)
def W9(sz:Nat)(es:List V):List (Nat × V)->Option (List V)
 | []=>some es
 |(i,v)::r=>if v.cells.length=sz/\i<es.length/\L5 v=true then W9 sz (es.set i v) r else none
def Sx(P:Program)(t:TypeId):Option Nat:=match D7 P t,Ie P t with
 |some z,some n=>if z.cells.length=n/\L5 z=true/\0<n then some n else none
 |_,_ =>none
def tz8(P:Program)(t:TypeId):Bool:=match P.info? t with
 |some i=>(match i.zero with|some (.int .u8 n)=>n==0|_ =>false)&&i.size==1&&i.bytes==1
 |none=>false
def Xa(P:Program)(i:Nat)(S:AS)(dst:Option Nat)(kd:Nat):Op->Option (List (Nat × Ob)× V)
 | .alloc t=>match dst,D7 P t,Sx P t with
  |some _,some z,some n=>some ((kd,⟨S.nx+i,n,t,[z]⟩)::S.objs,.bp kd (S.nx+i) n 0 0)
  |_,_,_ =>none
 | .box t x=>match dst,S.evc true x with
  |some _,some z=>if L5 z=true then some ((kd,⟨S.nx+i,z.cells.length,t,[z]⟩)::S.objs,.bp kd (S.nx+i) z.cells.length 0 0)else none
  |_,_ =>none
 | .buildSlice t len parts=>match dst,Fr P t,S.evs true parts.toList with
  |some _,some te,some vs=>match D7 P te,Sx P te with
   |some z,some n=>if len*n<=16777216 then(match W9 n (List.replicate len z) vs with
    |some es=>some ((kd,⟨S.nx+i,n,te,es⟩)::S.objs,.sl kd (S.nx+i) n len)
    |none=>none)else none
   |_,_ =>none
  |_,_,_ =>none
 | .makeSlice t l c=>match dst,Fr P t,S.evc true l,S.evc true c with
  |some _,some te,some (.int _ l),some (.int _ c)=>match D7 P te,Sx P te,Ji P te with
   |some z,some n,some b=>if 0<=l/\l<=c/\c<=9223372036854775807/\(b:Int)*c<=281474976710656 then
     some ((kd,⟨S.nx+i,n,te,List.replicate l.toNat z⟩)::S.objs,.sl kd (S.nx+i) n l.toNat)else none
   |_,_,_ =>none
  |_,_,_,_ =>none
 | .store t x y=>match S.evc true x,S.evc true y,Ie P t with
  |some (.bp d v sz k off),some u,some n=>match get S.objs d with
   |some o=>if o.v=v/\o.sz=sz/\u.cells.length=n/\L5 u=true/\0<n then(match G8 o.es k with
    |some e=>if off+n<=e.cells.length then some ((d,{ o with es:=o.es.set k (e.setPart off u)})::S.objs,.whn false (.bool true))else none
    |none=>none)else none
   |none=>none
  |_,_,_ =>none
 | .call { callee:=.builtin .append,args,argTypes}=>match args.toList,argTypes.toList,dst with
  | [s,x],[t,t'],some _ =>if t=t' then(match S.evc true s,S.evc true x,Fr P t with
   |some sv,some xv,some te=>match S.elems xv,Sx P te,Ji P te with
    |some (sz',news),some n,some b=>match sv with
     | .sl d v sz len=>match get S.objs d with
      |some o=>if o.v=v/\o.sz=sz/\o.es.length=len/\o.ty=te/\n=sz/\(news≠ []->sz'=sz)/\len+news.length<=maxLen/\(len+news.length)*b<=140737488355328 then
        some ((d,⟨S.nx+i,sz,te,o.es++news⟩)::S.objs,.sl d (S.nx+i) sz (len+news.length))else none
      |none=>none
     | .nils=>if(news≠ []->sz'=n)/\news.length<=maxLen/\news.length*b<=140737488355328 then
        some ((kd,⟨S.nx+i,n,te,news⟩)::S.objs,.sl kd (S.nx+i) n news.length)else none
     |_ =>none
    |_,_,_ =>none
   |_,_,_ =>none)else if Y3 P t'=true/\Ab7 P t=true then(match S.evc true s,S.evc true x,Fr P t with
   |some sv,some (.str l),some te=>match tz8 P te with
    |true=>match sv with
     | .sl d v sz len=>match get S.objs d with
      |some o=>if o.v=v/\o.sz=sz/\sz=1/\o.es.length=len/\o.ty=te/\len+l.length<=maxLen/\len+l.length<=140737488355328 then
        some ((d,⟨S.nx+i,1,te,o.es++l.map byV⟩)::S.objs,.sl d (S.nx+i) 1 (len+l.length))else none
      |none=>none
     | .nils=>if l.length<=maxLen/\l.length<=140737488355328 then
        some ((kd,⟨S.nx+i,1,te,l.map byV⟩)::S.objs,.sl kd (S.nx+i) 1 l.length)else none
     |_ =>none
    |false=>none
   |_,_,_ =>none)else none
  |_,_,_ =>none
 |_ =>none
def Ae8(P:Program)(i:Nat)(S:AS)(dst:Option Nat)(a:Nat)(c:Op):Option AS:=
 match Xa P i S dst a c with
 |some (O,v)=>AS.putv { S with objs:=O} dst v
 |none=>none
section
variable {D:Nat->Prop}{w0:Bs}{w:World}{N0:Nat->Prop}{μ:Mu}{S:AS}{a:Act}{P:Program}
theorem RelM.putv(h:RelM D w0 N0 μ S a w){S':AS}{dst:Option Nat}{x:Value}{v:V}(hp:S.putv dst v=some S')(c:Enc w (Fb N0 μ S) μ x v):RelM D w0 N0 μ S' (a.put dst x) w:=by
 unfold AS.putv at hp
 split at hp
 ·split at hp
  ·rename_i d;injection hp with hp;subst hp;exact h.put d c
  ·cases hp
 ·injection hp with hp;subst hp;exact h
def A92(P:Program)(o:Oper)(a:Act)(w:World)(x:Value)(w':World):Prop:=
 (execOp a.eval o).run P w=.ok (.value x) w'\/((execOp a.eval o).run P w=.ok .skip w'/\x=undef)
theorem Jw{v:V}(h:L5 v=true):v.fits v.cells.length:=⟨rfl,fun c a=>by simpa using Aw.1 h c a⟩
theorem Y8{t:TypeId}{z:V}(h:D7 P t=some z)(w:World)(N:Nat->Prop):∃x,(zeroValue t).run P w=.ok x w/\Pur w N x z:=by
 unfold D7 at h;obtain⟨d,a,h⟩:=B7.1 h;obtain⟨e,c,h⟩:=B7.1 h;exact⟨e,by simp [zeroValue,typeInfo,a,c],Nk h w N⟩
theorem Acd(h:RelM D w0 N0 μ S a w){i:Nat}(u:¬D i){d m:Nat}{t:TypeId}{x:Value}{z:V}{S':AS}(r:Enc w (Fb N0 μ S) μ x z)(l:L5 z=true)
  (hp:AS.putv { S with objs:=(d,⟨S.nx+i,z.cells.length,t,[z]⟩)::S.objs} (some m) (.bp d (S.nx+i) z.cells.length 0 0)=some S'):
  ∃μ',RelM (fun j=>D j\/j=i) w0 N0 μ' S' (a.put (some m) (.pointer (some ⟨w.heap.size,0,none⟩))) (w.alloc (.cells x.cells t)):=by
 obtain⟨h1,h2⟩:=r.cells_at (Jw l)
 have o:=h.alloc u d x.cells t z.cells.length 1 [z] (by rw [h1,Ud]) sm (by simp [maxLen]) (fun e n=>by simp at n;subst n;exact Jw l) (fun k e j c g hj=>by
  rcases k with _ |k
  ·simp at g;subst g;obtain⟨y,s,f,_⟩:=h2 j c hj;exact⟨y,by rw [O4,Dj];exact s,f⟩
  ·simp at g)
 refine⟨_,o.putv hp ?_⟩;have:=Enc.bp (w:=w.alloc (.cells x.cells t)) (N:=Fb N0 (Jd μ d (S.nx+i) (some (w.heap.size,1))) { S with objs:=(d,⟨S.nx+i,z.cells.length,t,[z]⟩)::S.objs}) d (S.nx+i) z.cells.length 0 0 w.heap.size 1 (Dc μ d (S.nx+i) (some (w.heap.size,1)));simpa using this
theorem RelM.elems(h:RelM D w0 N0 μ S a w){x:Value}{p:V}{sz:Nat}{es:List V}(r:Enc w (Fb N0 μ S) μ x p)(f:S.elems p=some (sz,es)):
  ∃A c,x=.slice A es.length c/\es.length<=c/\(es≠ []->(∀e∈es,e.fits sz)/\∃t vs,A=some t/\vs.length=es.length*sz/\(∀(j:Nat)u,vs[j]? =some u->w.cell? (Addr.add t j)=some u)/\Vp w (Fb N0 μ S) μ vs (flat es)):=by
 have mk:∀(t:Addr)(es:List V)(sz:Nat),(∀e∈es,e.fits sz)->(∀(k:Nat)e(j:Nat)c,es[k]? =some e->e.cells[j]? =some c->∃y,w.cell? (t.add (k*sz+j))=some y/\Enc w (Fb N0 μ S) μ y c)->
   ∃vs:List Value,vs.length=es.length*sz/\(∀(j:Nat)u,vs[j]? =some u->w.cell? (t.add j)=some u)/\Vp w (Fb N0 μ S) μ vs (flat es):=by
  intro t es sz hf hc
  have ae:∀j,j<es.length*sz->∃y c,w.cell? (t.add j)=some y/\(flat es)[j]? =some c/\Enc w (Fb N0 μ S) μ y c:=by
   intro j hj
   have ar:0<sz:=by
    rcases Es sz with h0|h0
    ·subst h0;simp at hj
    ·exact h0
   have hk:j/sz<es.length:=Nat.div_lt_of_lt_mul (by rw [Bj];exact hj);have au:=hf es[j/sz] (Az hk);have aq:j%sz<es[j/sz].cells.length:=by rw [au.1];exact C9 _ ar
   have e1:j/sz*sz+j%sz=j:=by rw [Bj];exact Gq j sz
   obtain⟨y,z,s⟩:=hc (j/sz) _ (j%sz) _ (Al hk) (Al aq);have aj:=Od hf (Al hk) (Al aq);rw [e1]at z aj;exact⟨y,_,z,aj,s⟩
  refine⟨(List.range (es.length*sz)).map fun j=>(w.cell? (t.add j)).getD undef,by simp,fun j u hu=>?_,⟨by simp [Iz hf],fun j y c z ab=>?_⟩⟩
  ·have hj:j<es.length*sz:=by have:=(Ap.1 hu).1;simpa using this
   obtain⟨y,c,h1,h2,h3⟩:=ae j hj;simp only [Bc,Lp hj,H6,Au,h1,En]at hu;rw [h1,hu]
  ·have hj:j<es.length*sz:=by have:=(Ap.1 z).1;simpa using this
   obtain⟨y',c',h1,h2,h3⟩:=ae j hj;simp only [Bc,Lp hj,H6,Au,h1,En]at z;rw [h2]at ab;injection ab with ab;subst z;subst ab;exact h3
 cases p<;>simp only [AS.elems]at f<;>try(cases f;done)
 case ro sz' es'=>
  simp only [Au,B0]at f;obtain⟨rfl,rfl⟩:=f;cases r with
  |pur r=>
  cases r with
  |ro A t n aa _ _ g hn al ak hA hf hc hh=>
  subst hn;refine⟨A,aa,rfl,al,fun m=>⟨hf,?_⟩⟩;obtain⟨av,_,_⟩:=hA (Em.2 m);obtain⟨vs,v1,v2,v3⟩:=mk t es' sz' hf (fun k e j c h1 h2=>⟨_,hc k e j c h1 h2,.pur (hh k e j c h1 h2)⟩);exact⟨t,vs,av,v1,v2,v3⟩
 case nils=>
  simp only [Au,B0]at f;obtain⟨rfl,rfl⟩:=f;cases r with
  |pur r=>
  cases r with
  |nils A=>exact⟨A,0,rfl,A9 _,fun m=>absurd rfl m⟩
 case sl d v sz' len=>
  split at f
  case h_2=>cases f
  rename_i o ho;split at f
  case isFalse=>cases f
  rename_i hb;obtain⟨rfl,rfl,i⟩:=hb;simp only [Au,B0]at f;obtain⟨rfl,rfl⟩:=f;cases r with
  |pur r=>cases r
  |slr _ _ _ _ g aa hm ah ak=>
   refine⟨_,aa,by rw [i],by rw [i];exact ah,fun m=>?_⟩;obtain⟨l,hl,af⟩:=h.objs d o ho;rw [hm]at hl;injection hl with hl;subst hl;obtain⟨_,_,_,h4,ag,h5,h6,h7⟩:=af;refine⟨h4,?_⟩
   obtain⟨vs,v1,v2,v3⟩:=mk ⟨g,0,none⟩ o.es o.sz h4 (fun k e j c h1 h2=>by
    obtain⟨y,z,s⟩:=h7 k e j c h1 h2;exact⟨y,by rw [Addr.add_lit,Dj,cell_of_row w g _ ag o.ty (0,0) h5];exact z,s⟩)
   exact⟨_,vs,rfl,v1,v2,v3⟩
  |slv _ _ _ A hm=>
   have an:o.es= []:=Gf i;exact⟨A,0,by rw [i],by rw [i];exact A9 _,fun m=>absurd an m⟩
 case ss d v sz' off len=>
  split at f
  case h_2=>cases f
  rename_i o ho;split at f
  case isFalse=>cases f
  rename_i hb;obtain⟨rfl,rfl,i⟩:=hb;simp only [Au,B0]at f;obtain⟨rfl,rfl⟩:=f;have ao:((o.es.drop off).take len).length=len:=by simp;omega
  cases r with
  |pur r=>cases r
  |ss _ _ _ _ _ g c aa A ah aw hA=>
   refine⟨A,c,by rw [ao],by rw [ao];exact ah,fun m=>?_⟩
   have am:0<len:=by
    have:=Em.2 m;omega
   obtain⟨hm,rfl⟩:=hA am;obtain⟨l,hl,af⟩:=h.objs d o ho;rw [hm]at hl;injection hl with hl;subst hl;obtain⟨_,_,_,h4,ag,h5,h6,h7⟩:=af;have ai:∀e∈(o.es.drop off).take len,e.fits o.sz:=fun e f=>h4 e (Cx (B8 f))
   refine⟨ai,?_⟩
   obtain⟨vs,v1,v2,v3⟩:=mk ⟨g,off*o.sz,none⟩ ((o.es.drop off).take len) o.sz ai (fun k e j c h1 h2=>by
    have hk:k<len:=by have:=(Ap.1 h1).1;omega
    rw [Cg hk,Cy]at h1;obtain⟨y,z,s⟩:=h7 (off+k) e j c h1 h2;exact⟨y,by rw [Addr.add_lit,cell_of_row w g _ ag o.ty (0,0) h5,show off*o.sz+(k*o.sz+j)=(off+k)*o.sz+j by rw [B9];omega];exact z,s⟩)
   exact⟨_,vs,rfl,v1,v2,v3⟩
end
section
variable {D:Nat->Prop}{w0:Bs}{w:World}{N0:Nat->Prop}{μ:Mu}{S:AS}{a:Act}{P:Program}
theorem Mf{N:Nat->Prop}{a:Array Value}{es:List V}{sz:Nat}(l:∀e∈es,e.fits sz)(h:Vp w N μ (a.toList.take (es.length*sz)) (flat es)):
  ∀(k:Nat)e(j:Nat)c,es[k]? =some e->e.cells[j]? =some c->∃x,a[k*sz+j]? =some x/\Enc w N μ x c:=by
 intro k e j c m n;have g:=Od l m n;have d:k*sz+j<(flat es).length:=(Ap.1 g).1;have f:k*sz+j<(a.toList.take (es.length*sz)).length:=by rw [h.1];exact d
 have i:=Al f;refine⟨_,?_,h.2 _ _ c i g⟩;rw [<- i,Cg (by rw [Iz l]at d;exact d)];simp
theorem Y9{N:Nat->Prop}{d:Array Value}{es:List V}{sz:Nat}(h:∀e∈es,e.fits sz)(aa:es.length*sz<=d.size)
  (z:∀(k:Nat)e(j:Nat)c,es[k]? =some e->e.cells[j]? =some c->∃x,d[k*sz+j]? =some x/\Enc w N μ x c):Vp w N μ (d.toList.take (es.length*sz)) (flat es):=by
 refine⟨by simp [Iz h];omega,fun i x c s a=>?_⟩;have r:i<es.length*sz:=by have:=(Ap.1 a).1;rwa [Iz h]at this
 have hs:0<sz:=by
  rcases Es sz with m|m
  ·subst m;simp at r
  ·exact m
 have o:i/sz<es.length:=Nat.div_lt_of_lt_mul (by rw [Bj];exact r);have l:=h es[i/sz] (Az o);have t:i%sz<es[i/sz].cells.length:=by rw [l.1];exact C9 _ hs
 have u:i/sz*sz+i%sz=i:=by rw [Bj];exact Gq i sz
 obtain⟨y,f,n⟩:=z _ _ _ _ (Al o) (Al t);have g:=Od h (Al o) (Al t);rw [u]at f g;rw [g]at a;injection a with a;subst a;rw [Cg r]at s;have:d[i]? =some x:=by simpa using s
 rw [this]at f;injection f with f;subst f;exact n
theorem Ace{sz:Nat}:∀ {es:List V},(∀e∈es,e.fits sz)->∀ {k:Nat}{e e':V}{off:Nat}{us:List V},es[k]? =some e->off+us.length<=e.cells.length->e'.cells=e.cells.take off++us++e.cells.drop (off+us.length)->
  flat (es.set k e')=(flat es).take (k*sz+off)++us++(flat es).drop (k*sz+off+us.length)
 | [],_,k,e,e',off,us,a,_,_ =>by simp at a
 |x::es,h,k,e,e',off,us,a,c,d=>by
  have h1:=(h x sm).1
  rcases k with _ |k
  ·simp only [Da,Au]at a;subst a;simp only [flat,J3,Kk,d,O4,Dj];rw [List.take_append_of_le_length om,List.drop_append_of_le_length Go.om];simp only [C3]
  ·simp only [Fy]at a;have ih:=Ace (es:=es) (fun y f=>h y (by simp [f])) a c d;unfold flat at ih|-;simp only [List.set_cons_succ,Kk,ih];have i:(k+1)*sz+off=x.cells.length+(k*sz+off):=by rw [h1,B9];omega
   have g:x.cells.length+(k*sz+off)+us.length=x.cells.length+(k*sz+off+us.length):=om;rw [i,List.take_length_add_append,g,List.drop_length_add_append];simp only [C3]
theorem Ae9{e u:V}{off:Nat}(c:off+u.cells.length<=e.cells.length)(f:0<u.cells.length):(e.setPart off u).cells=e.cells.take off++u.cells++e.cells.drop (off+u.cells.length):=by
 unfold V.setPart
 split
 ·rfl
 ·rename_i d;have a:e.cells= [e]:=by cases e<;>first|rfl|(exact absurd rfl (d _))
  rw [a]at c|-;simp at c;have:off=0:=om;subst this;simp;omega
theorem Aak{t ty te:TypeId}{B A:Option Addr}{n a c:Nat}{d:TypeInfo}(f:P.underlying t=some (.slice te))(g:P.info? te=some d)(e:n<=a):
  (Builtin.append_ #[t,t] ty #[.slice B n a,.slice A 0 c]).run P w=.ok (.slice B n a) w:=by
 cases A<;>cases B<;>simp [Builtin.append_,run_underlying f,sizeOf,typeInfo,g,Builtin.lenOf,Builtin.firstCells,e,storeCells,loadCells,loadCellsFrom]
theorem Akv{t ty te:TypeId}{B:Option Addr}{h:Addr}{m c:Nat}{a:TypeInfo}{z:Value}{vs:List Value}(s:P.underlying t=some (.slice te))(x:P.info? te=some a)(r:a.zero=some z)(n:z.cells.size=a.size)
  (i:vs.length=m*a.size)(o:∀(j:Nat)u,vs[j]? =some u->w.cell? (h.add j)=some u)(y:0<m)(f:m<=maxLen)(hb:m*a.bytes<=140737488355328):
  ∃d e,(Builtin.append_ #[t,t] ty #[.slice B 0 0,.slice (some h) m c]).run P w=.ok (.slice (some ⟨w.heap.size,0,none⟩) m d) (w.drew.alloc (.cells e te))/\m<=d/\d<=maxLen/\e.size=d*a.size/\e.toList.take (m*a.size)=vs:=by
 have hm:m<=9223372036854775807:=by simp only [maxLen]at f;omega
 have l:=grownCap_ge w m 0 te;have k:grownCap w m 0 te<=maxLen:=grownCap_le_maxLen w m 0 te f
 have g:(Builtin.append_ #[t,t] ty #[.slice B 0 0,.slice (some h) m c]).run P w=.ok (.slice (some ⟨w.heap.size,0,none⟩) m (grownCap w m 0 te)) (w.drew.alloc (.cells (vs.toArray++Builtin.zeroCells z.cells (grownCap w m 0 te-m)) te)):=by
  cases B with
  |none=>exact run_append_nil (P:=P) w t ty te a z s x r h m c vs i o y om om
  |some b=>
   have:=run_append_grow (P:=P) w t ty te a z s x r b 0 0 [] sm sm h m c vs i o om om (by rw [Dj,nextslicecap_zero y];omega);simpa using this
 refine⟨_,_,g,l,k,?_,?_⟩
 ·simp only [Gz,C4,size_zeroCells,n,i,<- B9]
  congr 1
  omega
 ·simp only [Array.toList_append,<- i];exact List.take_left
theorem Aal(h:RelM D w0 N0 μ S a w){i:Nat}(hi:¬D i){d dd:Nat}{t te:TypeId}{B:Option Addr}{x:Value}{xv:V}{ai n b:Nat}{f:List V}{S':AS}{ty:TypeId}
  (ht:Fr P t=some te)(hn:Ie P te=some n)(hb:Ji P te=some b)(hx:Enc w (Fb N0 μ S) μ x xv)(he:S.elems xv=some (ai,f))
  (hs:f≠ []->ai=n)(av:∃z,D7 P te=some z/\z.cells.length=n/\L5 z=true)(hl:f.length<=maxLen)(aw:f.length*b<=140737488355328)
  (hp:AS.putv { S with objs:=(d,⟨S.nx+i,n,te,f⟩)::S.objs} (some dd) (.sl d (S.nx+i) n f.length)=some S'):
  ∃y w',(Builtin.append_ #[t,t] ty #[.slice B 0 0,x]).run P w=.ok y w'/\Pd (fun j=>D j\/j=i) w0 N0 S' (a.put (some dd) y) w':=by
 have hu:=Dh ht;unfold Ie at hn;obtain⟨r,m,rfl⟩:=A0.1 hn;unfold Ji at hb;obtain⟨ay,l,rfl⟩:=A0.1 hb;rw [m]at l;injection l with l;subst l;obtain⟨A,c,rfl,a0,ab⟩:=h.elems hx he
 by_cases s:f= []
 ·subst s;refine⟨.slice B 0 0,w,Aak hu m (A9 _),?_⟩;have ae:=h.muSet_mono hi d none
  obtain⟨hr,_⟩:=h.update (D':=fun j=>D j\/j=i) (d:=d) (o':=⟨S.nx+i,r.size,te,[]⟩) (l':=none) (w':=w) (μ':=Jd μ d (S.nx+i) none) ae (h.muSet_fresh i d _) (Dc _ _ _ _) h.below (Ef.refl _ _)
   (fun _ _ _ _ _ _ _ =>rfl) (fun g c e=>by cases e) (fun N' hN=>rfl)
  exact⟨_,hr.putv hp (.slv d (S.nx+i) r.size B (Dc _ _ _ _))⟩
 ·obtain⟨hf,ad,vs,rfl,ao,al,u⟩:=ab s;have aq:=hs s;subst aq;obtain⟨z,am,ar,an⟩:=av;have o:=am;unfold D7 at o;obtain⟨az,k,o⟩:=B7.1 o;rw [m]at k;injection k with k;subst k;obtain⟨zv,ax,o⟩:=B7.1 o;have aj:=Nk o w (Fb N0 μ S)
  have au:zv.cells.size=r.size:=by
   have:=(Enc.pur (μ:=μ) aj).cells_at (Jw an);rw [this.1,ar]
  obtain⟨ag,af,ah,h1,h2,h3,h4⟩:=Akv (P:=P) (w:=w) (ty:=ty) (B:=B) (c:=c) hu m ax au ao al (Em.2 s) hl aw;refine⟨_,_,ah,?_⟩;have ak:Ef w (Fb N0 μ S) w.drew:=⟨A9 _,fun _ _ _ =>rfl⟩
  have aa:Vp w.drew (Fb N0 μ S) μ (af.toList.take (f.length*r.size)) (flat f):=by
   rw [h4];exact⟨u.1,fun i x c hx hc=>(u.2 i x c hx hc).keep ak (fun _ _ hb=>hb) (fun _ _ _ hh=>hh)⟩
  have hr:=h.drew.alloc hi d af te r.size ag f h3 h1 h2 hf (Mf hf aa);exact⟨_,hr.putv hp (.slr d (S.nx+i) r.size f.length w.heap.size ag (Dc _ _ _ _) h1 h2)⟩
theorem Aig(w:World)(N:Nat->Prop)(l:List UInt8):Vp w N μ (Lib.strCells ⟨l.toArray⟩) (flat (l.map byV)):=by
 have f:flat (l.map byV)=l.map byV:=by
  unfold flat
  induction l with
  |nil=>rfl
  |cons b l ih=>simp only [Ct,Kk,ih];rfl
 rw [f];refine⟨by simp [Lib.strCells],fun i x c d e=>?_⟩;simp only [Lib.strCells,Bc,A0]at d e;obtain⟨b,g,rfl⟩:=d;obtain⟨b',a,rfl⟩:=e;rw [g]at a;injection a with a;subst a;exact .pur (.int _ _)
theorem Acf(l:List UInt8):∀e∈l.map byV,e.fits 1:=by
 intro e d;simp only [Bm]at d;obtain⟨b,_,rfl⟩:=d;exact⟨rfl,fun c a=>by simp [byV,V.cells]at a;subst a;rfl⟩
theorem Axp{t:TypeId}(h:tz8 P t=true):∃a,P.info? t=some a/\a.zero=some (.int .u8 0)/\a.size=1/\a.bytes=1:=by
 unfold tz8 at h
 split at h
 ·rename_i a c;simp only [Bk,beq_iff_eq]at h;refine⟨a,c,?_,h.1.2,h.2⟩;have h1:=h.1.1
  split at h1
  ·rename_i n d;have:n=0:=by simpa using h1
   rw [d,this]
  ·cases h1
 ·cases h
theorem Xb(h:RelM D w0 N0 μ S a w){i:Nat}(hi:¬D i){d dd:Nat}{t u te:TypeId}{B:Option Addr}{l:List UInt8}{S':AS}{ty:TypeId}
  (ht:Fr P t=some te)(hu:Y3 P u=true)(hz:∃f,P.info? te=some f/\f.zero=some (.int .u8 0)/\f.size=1/\f.bytes=1)
  (hl:l.length<=maxLen)(aq:l.length<=140737488355328)
  (hp:AS.putv { S with objs:=(d,⟨S.nx+i,1,te,l.map byV⟩)::S.objs} (some dd) (.sl d (S.nx+i) 1 l.length)=some S'):
  ∃y w',(Builtin.append_ #[t,u] ty #[.slice B 0 0,.string ⟨l.toArray⟩]).run P w=.ok y w'/\Pd (fun j=>D j\/j=i) w0 N0 S' (a.put (some dd) y) w':=by
 have s:=Dh ht;have ae:=H2 hu;obtain⟨f,m,an,z,ai⟩:=hz;have k:(ByteArray.mk l.toArray).size=l.length:=by simp [ByteArray.size]
 have hf:=Lib.run_firstCells_string (P:=P) w 1 ⟨l.toArray⟩
 rcases l with _ |⟨b0,l0⟩
 ·refine⟨.slice B 0 0,w,?_,?_⟩
  ·rw [k]at hf;simp only [Bx]at hf;cases B<;>simp [Builtin.append_,run_underlying s,run_underlying ae,sizeOf,typeInfo,m,z,Builtin.lenOf,k,hf,storeCells,Lib.strCells]
  ·have o:=h.muSet_mono hi d none
   obtain⟨hr,_⟩:=h.update (D':=fun j=>D j\/j=i) (d:=d) (o':=⟨S.nx+i,1,te,[]⟩) (l':=none) (w':=w) (μ':=Jd μ d (S.nx+i) none) o (h.muSet_fresh i d _) (Dc _ _ _ _) h.below (Ef.refl _ _)
    (fun _ _ _ _ _ _ _ =>rfl) (fun g c e=>by cases e) (fun N' hN=>rfl)
   exact⟨_,hr.putv hp (.slv d (S.nx+i) 1 B (Dc _ _ _ _))⟩
 ·generalize af:b0::l0=l at*;have x:0<l.length:=by rw [<- af];simp
  have ad:=grownCap_ge w l.length 0 te;have r:grownCap w l.length 0 te<=maxLen:=grownCap_le_maxLen w l.length 0 te hl
  have ab:(Builtin.append_ #[t,u] ty #[.slice B 0 0,.string ⟨l.toArray⟩]).run P w=.ok (.slice (some ⟨w.heap.size,0,none⟩) l.length (grownCap w l.length 0 te))
    (w.drew.alloc (.cells ((Lib.strCells ⟨l.toArray⟩).toArray++Builtin.zeroCells (Value.int .u8 0).cells (grownCap w l.length 0 te-l.length)) te)):=by
   have ak:¬(9223372036854775807<(l.length:Int)):=by simp only [maxLen]at hl;omega
   have al:Builtin.nextslicecap l.length 0=l.length:=by simp [Builtin.nextslicecap,x]
   have ag:¬(281474976710656<Builtin.nextslicecap l.length 0*f.bytes):=by rw [ai,al];omega
   have h0:¬(l.length<=0):=om;have am:l≠ []:=by rw [<- af];simp
   have aa:=Lib.run_firstCells_string (P:=P) w.drew 1 ⟨l.toArray⟩;rw [k]at aa
   have aj:(Builtin.firstCells 1 0 (.slice B 0 0)).run P w.drew=.ok #[] w.drew:=by
    cases B<;>simp [Builtin.firstCells,loadCells,loadCellsFrom]
   simp [Builtin.append_,run_underlying s,run_underlying ae,sizeOf,typeInfo,zeroValue,m,an,z,Builtin.lenOf,k,am,ak,ag,Question.forced,aa,aj,newRow,grownCap]
  refine⟨_,_,ab,?_⟩;have ao:Ef w (Fb N0 μ S) w.drew:=⟨A9 _,fun _ _ _ =>rfl⟩;have n:(Lib.strCells ⟨l.toArray⟩).length=l.length:=by rw [Lib.strCells_length,k]
  have ah:(Value.int IntKind.u8 0).cells.size=1:=rfl
  have hr:=h.drew.alloc hi d ((Lib.strCells ⟨l.toArray⟩).toArray++Builtin.zeroCells (Value.int .u8 0).cells (grownCap w l.length 0 te-l.length)) te 1 (grownCap w l.length 0 te) (l.map byV)
   (by simp only [Gz,C4,size_zeroCells,ah,n];omega) (by simpa using ad) r (Acf l) (Mf (Acf l) (by
    simp only [Eg,F0,Array.toList_append];rw [<- n,List.take_left];exact Aig w.drew _ l))
  exact⟨_,hr.putv hp (.slr d (S.nx+i) 1 l.length w.heap.size _ (Dc _ _ _ _) ad r)⟩
theorem Akw(h:RelM D w0 N0 μ S a w){i:Nat}(hi:¬D i){d dd v len:Nat}{t u te:TypeId}{s:Value}{l:List UInt8}{o:Ob}{S':AS}{ty:TypeId}
  (ht:Fr P t=some te)(hu:Y3 P u=true)(hz:∃r,P.info? te=some r/\r.zero=some (.int .u8 0)/\r.size=1/\r.bytes=1)
  (hs:Enc w (Fb N0 μ S) μ s (.sl d v o.sz len))(ho:get S.objs d=some o)(a0:o.v=v)(a1:o.sz=1)(ai:o.es.length=len)(a7:o.ty=te)(hl:len+l.length<=maxLen)(ax:len+l.length<=140737488355328)
  (hp:AS.putv { S with objs:=(d,⟨S.nx+i,1,te,o.es++l.map byV⟩)::S.objs} (some dd) (.sl d (S.nx+i) 1 (len+l.length))=some S'):
  ∃y w',(Builtin.append_ #[t,u] ty #[s,.string ⟨l.toArray⟩]).run P w=.ok y w'/\Pd (fun j=>D j\/j=i) w0 N0 S' (a.put (some dd) y) w':=by
 subst a0;cases hs with
 |pur hs=>cases hs
 |slv _ _ _ B hm=>
  have au:o.es= []:=by
   obtain⟨l,n,ak⟩:=h.objs d o ho;rw [hm]at n;injection n with n;subst n;exact ak
  rw [au]at hp;simp only [Fm,Dj]at hp hl ax;exact Xb h hi ht hu hz hl ax hp
 |slr _ _ _ _ g f hm ba ao=>
  have aq:=Dh ht;have aw:=H2 hu;obtain⟨r,aj,a5,ar,a3⟩:=hz;obtain⟨lo,n,ak⟩:=h.objs d o ho;rw [hm]at n;injection n with n;subst n;obtain⟨o1,o2,o3,o4,m,o5,o6,o7⟩:=ak;rw [a1]at o4 o6 o7;subst a7;have ah:=Y9 (w:=w) (N:=Fb N0 μ S) (μ:=μ) o4 (by rw [o6];exact B3 _ o2) o7;simp only [F0]at ah o6;have ab:(ByteArray.mk l.toArray).size=l.length:=by simp [ByteArray.size]
  have a9:g<w.heap.size:=(B2.1 o5).1
  have ad:∀e∈o.es++l.map byV,e.fits 1:=fun e he=>by
   rcases Cc.1 he with h1|h1
   ·exact o4 e h1
   ·exact Acf l e h1
  have ae:(Lib.strCells ⟨l.toArray⟩).length=l.length:=by rw [Lib.strCells_length,ab]
  by_cases z:len+l.length<=f
  ·have aa:=Lib.run_append_room_string (P:=P) w t u ty o.ty r aq aw aj ar g len f m o5 ⟨l.toArray⟩ (by rw [ab];exact z) (by rw [ab,o6];exact z);rw [ab]at aa;refine⟨_,_,aa,?_⟩;have ag:=h.muSet_mono hi d (some (g,f))
   have af:Ef w (Fb N0 μ S) (w.setRow g (m.toList.take len++Lib.strCells ⟨l.toArray⟩++m.toList.drop (len+l.length)).toArray):=
    ⟨by simp,fun b hb hN=>setRow_other w g b _ (fun e=>hN (by subst e;exact .inr ⟨d,o,f,ho,hm⟩))⟩
   obtain⟨hr,_⟩:=h.update (D':=fun j=>D j\/j=i) (d:=d) (o':=⟨S.nx+i,1,o.ty,o.es++l.map byV⟩) (l':=some (g,f)) (w':=w.setRow g (m.toList.take len++Lib.strCells ⟨l.toArray⟩++m.toList.drop (len+l.length)).toArray) (μ':=Jd μ d (S.nx+i) (some (g,f))) ag (h.muSet_fresh i d _) (Dc _ _ _ _)
    (⟨h.below.os,h.below.tape,h.below.output,by simpa using h.below.size,fun k hk hx=>by
     rw [setRow_other w g k _ (fun e=>by subst e;rcases o1 with h|h;omega;exact hx h)];exact h.below.block k hk hx⟩) af
    (fun d1 a8 g1 c1 ay h1 h2=>setRow_other w g g1 _ (fun e=>ay (by subst e;exact h.inj _ _ _ _ _ _ _ h1 ho h2 hm)))
    (fun g2 c2 e=>by
     simp only [Au,B0]at e;obtain⟨rfl,rfl⟩:=e;exact .inr ⟨o,f,ho,hm⟩)
    (fun N' hN=>by
     refine⟨o1,by simp [ai];exact z,o3,ad,_,setRow_heap w g m _ o.ty (0,0) o5,?_,?_⟩
     ·simp only [C4,Bf,Cs,F7,Ia,ae];omega
     ·refine Mf ad ?_
      have e1:(m.toList.take len++Lib.strCells ⟨l.toArray⟩++m.toList.drop (len+l.length)).toArray.toList.take ((o.es++l.map byV).length*1)=m.toList.take o.es.length++Lib.strCells ⟨l.toArray⟩:=by
       simp only [Bf,Eg,F0,ai];rw [List.take_append_of_le_length (by simp [ae];omega),Bg (by simp [ae];omega)]
      rw [e1,S4];exact Vp.append ⟨ah.1,fun j x c h1 h2=>(ah.2 j x c h1 h2).keep af hN ag⟩ (Aig _ _ l))
   exact⟨_,hr.putv hp (.slr d (S.nx+i) 1 _ g f (Dc _ _ _ _) z ao)⟩
  ·have am:∀j u,(m.toList.take o.es.length)[j]? =some u->w.cell? ((⟨g,0,none⟩:Addr).add j)=some u:=by
    intro j u hj;have a4:j<o.es.length:=by have:=(Ap.1 hj).1;simp at this;omega
    rw [Cg a4]at hj;rw [Addr.add_lit,cell_of_row w g _ m o.ty (0,0) o5,Dj];simpa using hj
   have a6:(m.toList.take o.es.length).length=len*r.size:=by rw [ar];simp;omega
   have al:Builtin.nextslicecap (len+l.length) f*r.bytes<=281474976710656:=by rw [a3];exact growslice_fits om om
   have aa:=Lib.run_append_grow_string (P:=P) w t u ty o.ty r (.int .u8 0) aq aw aj a5 ⟨g,0,none⟩ len f _ a6 am ⟨l.toArray⟩ (by rw [ab];omega) (by rw [ab];simp only [maxLen]at hl;omega) (by rw [ab];exact al);rw [ab]at aa;refine⟨_,_,aa,?_⟩;have av:=grownCap_ge w (len+l.length) f o.ty;have an:grownCap w (len+l.length) f o.ty<=maxLen:=grownCap_le_maxLen w (len+l.length) f o.ty hl;have a2:(Value.int IntKind.u8 0).cells.size=1:=rfl;have az:Ef w (Fb N0 μ S) w.drew:=⟨A9 _,fun _ _ _ =>rfl⟩
   have hr:=h.drew.alloc hi d ((m.toList.take o.es.length).toArray++(Lib.strCells ⟨l.toArray⟩).toArray++Builtin.zeroCells (Value.int .u8 0).cells (grownCap w (len+l.length) f o.ty-(len+l.length))) o.ty 1 (grownCap w (len+l.length) f o.ty) (o.es++l.map byV)
    (by simp only [Gz,C4,size_zeroCells,a2,ae,Cs,Ia];omega) (by simpa [ai]using av) an ad (Mf ad (by
     have e1:((m.toList.take o.es.length).toArray++(Lib.strCells ⟨l.toArray⟩).toArray++Builtin.zeroCells (Value.int .u8 0).cells (grownCap w (len+l.length) f o.ty-(len+l.length))).toList.take ((o.es++l.map byV).length*1)=m.toList.take o.es.length++Lib.strCells ⟨l.toArray⟩:=by
      simp only [Array.toList_append,Bf,Eg,F0];rw [List.take_append_of_le_length (by simp [ae];omega),Bg (by simp [ae];omega)]
     rw [e1,S4];exact Vp.append ⟨ah.1,fun j x c h1 h2=>(ah.2 j x c h1 h2).keep az (fun _ _ hb=>hb) (fun _ _ _ hh=>hh)⟩ (Aig _ _ l)))
   exact⟨_,hr.putv hp (.slr d (S.nx+i) 1 _ w.heap.size _ (Dc _ _ _ _) av an)⟩
theorem Ao2(h:RelM D w0 N0 μ S a w){i:Nat}(hi:¬D i){d dd v len:Nat}{t te:TypeId}{s x:Value}{xv:V}{a7 n b:Nat}{f:List V}{o:Ob}{S':AS}{ty:TypeId}
  (ht:Fr P t=some te)(hn:Ie P te=some n)(hb:Ji P te=some b)(hs:Enc w (Fb N0 μ S) μ s (.sl d v o.sz len))(ho:get S.objs d=some o)(bm:o.v=v)(ai:o.es.length=len)(a6:o.ty=te)(ay:n=o.sz)(bw:0<n)
  (hx:Enc w (Fb N0 μ S) μ x xv)(he:S.elems xv=some (a7,f))(a9:f≠ []->a7=o.sz)(bb:∃z,D7 P te=some z/\z.cells.length=n/\L5 z=true)(hl:len+f.length<=maxLen)(a0:(len+f.length)*b<=140737488355328)
  (hp:AS.putv { S with objs:=(d,⟨S.nx+i,o.sz,te,o.es++f⟩)::S.objs} (some dd) (.sl d (S.nx+i) o.sz (len+f.length))=some S'):
  ∃y w',(Builtin.append_ #[t,t] ty #[s,x]).run P w=.ok y w'/\Pd (fun j=>D j\/j=i) w0 N0 S' (a.put (some dd) y) w':=by
 subst bm;cases hs with
 |pur hs=>cases hs
 |slv _ _ _ B hm=>
  have ar:o.es= []:=by
   obtain⟨l,ae,am⟩:=h.objs d o ho;rw [hm]at ae;injection ae with ae;subst ae;exact am
  rw [ar]at hp;simp only [Fm,Dj]at hp hl a0;subst ay;exact Aal h hi ht hn hb hx he a9 bb hl a0 hp
 |slr _ _ _ _ g r hm a1 ao=>
  have hu:=Dh ht;unfold Ie at hn;obtain⟨a2,aj,rfl⟩:=A0.1 hn;unfold Ji at hb;obtain⟨bx,aa,rfl⟩:=A0.1 hb;rw [aj]at aa;injection aa with aa;subst aa;obtain⟨A,c,rfl,b0,ax⟩:=h.elems hx he;obtain⟨l,ae,am⟩:=h.objs d o ho;rw [hm]at ae;injection ae with ae;subst ae;have a3:=am;obtain⟨o1,o2,o3,o4,a8,o5,o6,o7⟩:=am
  by_cases an:f= []
  ·subst an;refine⟨_,w,Aak hu aj a1,?_⟩;have m:=h.muSet_mono hi d (some (g,r))
   obtain⟨hr,_⟩:=h.update (D':=fun j=>D j\/j=i) (d:=d) (o':=⟨S.nx+i,o.sz,te,o.es++[]⟩) (l':=some (g,r)) (w':=w) (μ':=Jd μ d (S.nx+i) (some (g,r))) m (h.muSet_fresh i d _) (Dc _ _ _ _) h.below (Ef.refl _ _)
    (fun _ _ _ _ _ _ _ =>rfl) (fun g' c' e=>by
     simp only [Au,B0]at e;obtain⟨rfl,rfl⟩:=e;exact .inr ⟨o,r,ho,hm⟩) (fun N' hN=>by
     have:=a3.keep (w':=w) (N':=N') (μ':=Jd μ d (S.nx+i) (some (g,r))) (Ef.refl _ _) hN m (fun _ _ _ =>rfl);rw [Eo,<- a6];exact this)
   exact⟨_,hr.putv hp (.slr d (S.nx+i) o.sz len g r (Dc _ _ _ _) a1 ao)⟩
  ·obtain⟨hf,ad,vs,rfl,bn,bq,ah⟩:=ax an;have bf:=a9 an;subst bf;obtain⟨z,br,bj,bg⟩:=bb;have al:=br;unfold D7 at al;obtain⟨bz,ab,al⟩:=B7.1 al;rw [aj]at ab;injection ab with ab;subst ab;obtain⟨zv,bv,al⟩:=B7.1 al;have bk:=Nk al w (Fb N0 μ S)
   have bu:zv.cells.size=a2.size:=by
    have:=(Enc.pur (μ:=μ) bk).cells_at (Jw bg);rw [this.1,bj]
   subst a6;have az:=Y9 (w:=w) (N:=Fb N0 μ S) (μ:=μ) o4 (by rw [o6];exact B3 _ o2) o7
   have a4:w.ownsRow 0 o.ty o.sz (.slice (some ⟨g,0,none⟩) len r) len (a8.toList.take (o.es.length*o.sz)):=by
    refine⟨by rw [az.1,Iz o4,ai],.inr ⟨g,r,a8,rfl,B4 _,o5,a1,ao,o6,by rw [ai]⟩⟩
   have bc:∀u∈vs,u.oneCell'=true:=by
    intro u bs;obtain⟨j,hj⟩:=Co bs;have bt:j<(flat f).length:=by rw [<- ah.1];exact(Ap.1 hj).1
    have hc:=Al bt;refine(ah.2 j u _ hj hc).cell_oneCell ?_;have aq:=Ay hc;unfold flat at aq;obtain⟨e,bp,bl⟩:=List.mem_flatMap.1 aq;exact(hf e bp).2 _ bl
   obtain⟨y,w',ba,aw,ag,ar,bo⟩:=run_append_own_at (P:=P) w 0 t ty o.ty a2 zv o.sz a2.bytes hu aj bv ay rfl (by rw [bu];exact ay) om (.slice (some ⟨g,0,none⟩) len r) len _ a4
    ad f.length c vs bn bq bc hl a0 (B4 _)
   refine⟨y,w',ba,?_⟩;have be:0<len+f.length:=by have:=Em.2 an;omega
   obtain⟨Dg,Pm|⟨g',ak,bh,rfl,q1,q2,q3,q4,q5,q6⟩⟩:=aw
   ·omega
   ·have bd:g'=g\/g'=w.heap.size:=by
     simpa [Value.ownBlock]using bo
    have au:∀k,k<w.heap.size->k≠g->w'.heap[k]? =w.heap[k]? :=fun k hk bi=>ag.block k hk (by simpa [Value.ownBlock]using bi)
    have b2:g<w.heap.size:=(B2.1 o5).1;have m:=h.muSet_mono hi d (some (g',ak));have af:Ef w (Fb N0 μ S) w':=⟨ag.size,fun k hk hN=>au k hk (fun e=>hN (by subst e;exact .inr ⟨d,o,r,ho,hm⟩))⟩
    have av:∀e∈o.es++f,e.fits o.sz:=fun e he=>by
     rcases Cc.1 he with h1|h1
     ·exact o4 e h1
     ·exact hf e h1
    obtain⟨hr,_⟩:=h.update (D':=fun j=>D j\/j=i) (d:=d) (o':=⟨S.nx+i,o.sz,o.ty,o.es++f⟩) (l':=some (g',ak)) (w':=w') (μ':=Jd μ d (S.nx+i) (some (g',ak))) m (h.muSet_fresh i d _) (Dc _ _ _ _)
     (h.below.grown ag h.below.size (fun k hk=>by simp [Value.ownBlock]at hk;subst hk;exact o1)) af
     (fun d1 b1 g1 c1 a5 h1 h2=>au g1 (h.block_lt h1 h2) (fun e=>a5 (by subst e;exact h.inj _ _ _ _ _ _ _ h1 ho h2 hm)))
     (fun g2 c2 e=>by
      simp only [Au,B0]at e;obtain⟨rfl,rfl⟩:=e
      rcases bd with rfl|rfl
      ·exact .inr ⟨o,r,ho,hm⟩
      ·exact .inl (A9 _))
     (fun N' hN=>by
      refine⟨by rcases bd with rfl|rfl;exact o1;exact .inl h.below.size,by simp [ai];exact q3,q4,av,bh,q2,q5,?_⟩;refine Mf av ?_;have e1:(o.es++f).length*o.sz=(len+f.length)*o.sz:=by simp [ai]
      rw [e1,q6,S4];refine Vp.append ⟨az.1,fun j x c h1 h2=>(az.2 j x c h1 h2).keep af hN m⟩ ⟨ah.1,fun j x c h1 h2=>(ah.2 j x c h1 h2).keep af hN m⟩)
    exact⟨_,hr.putv hp (.slr d (S.nx+i) o.sz _ g' ak (Dc _ _ _ _) q3 q4)⟩
end
theorem Agb{B:Bs}{w:World}(h:B.Below w){g:Nat}(d:B.free g)(a:Array Value):B.Below (w.setRow g a):=
 ⟨h.os,h.tape,h.output,by simpa using h.size,fun k f c=>by
  rw [setRow_other w g k _ (fun e=>by subst e;rcases d with h|h;omega;exact c h)];exact h.block k f c⟩
section
variable {D:Nat->Prop}{w0:Bs}{w:World}{N0:Nat->Prop}{μ:Mu}{S:AS}{a:Act}{P:Program}
theorem Xc{t n:Nat}(h:Sx P t=some n):∃z,D7 P t=some z/\Ie P t=some n/\z.cells.length=n/\L5 z=true/\0<n:=by
 unfold Sx at h;split at h
 case h_2=>cases h
 rename_i z m h1 h2;split at h
 case isFalse=>cases h
 rename_i a;injection h with h;subst h;exact⟨z,h1,h2,a.1,a.2.1,a.2.2⟩
theorem Ats(h:RelM D w0 N0 μ S a w){t d v k off n:Nat}{x y:Value}{u e:V}{o:Ob}(hx:Enc w (Fb N0 μ S) μ x (.bp d v o.sz k off))(hy:Enc w (Fb N0 μ S) μ y u)(hn:Ie P t=some n)(ho:get S.objs d=some o)
  (aw:o.v=v)(hu:u.cells.length=n)(ag:L5 u=true)(aj:0<n)(hk:o.es[k]? =some e)(ao:off+n<=e.cells.length):
  ∃w',(Instr.storeAt t x y).run P w=.ok () w'/\RelM D w0 N0 μ { S with objs:=(d,{ o with es:=o.es.set k (e.setPart off u)})::S.objs} a w':=by
 subst aw;subst hu;cases hx with
 |pur hx=>cases hx
 |bp _ _ _ _ _ g ae hm=>
 obtain⟨l,aa,av⟩:=h.objs d o ho;rw [hm]at aa;injection aa with aa;subst aa;obtain⟨o1,o2,o3,o4,f,o5,o6,o7⟩:=av;have z:=o4 e (Ay hk);have i:=hy.row ag;have r:y.cells.toList.length=u.cells.length:=i.1;have af:=Ae9 (u:=u) ao aj
 have ai:(e.setPart off u).fits o.sz:=by
  refine⟨by rw [af];simp;have:=z.1;omega,fun c s=>?_⟩;rw [af]at s;simp only [Cc]at s
  rcases s with(s|s)|s
  ·exact z.2 c (B8 s)
  ·exact Aw.1 ag c s
  ·exact z.2 c (Cx s)
 have ax:k<o.es.length:=(Ap.1 hk).1
 have au:k*o.sz+off+u.cells.length<=o.es.length*o.sz:=by
  have h1:(k+1)*o.sz<=o.es.length*o.sz:=B3 _ ax;have h2:=z.1;rw [B9]at h1;omega
 have ah:o.es.length*o.sz<=f.size:=by rw [o6];exact B3 _ o2
 have aq:∀v∈y.cells.toList,v.oneCell'=true:=by
  intro v hv;obtain⟨j,hj⟩:=Co hv;have ak:j<u.cells.length:=by rw [<- r];exact(Ap.1 hj).1
  have s:=Al ak;exact(i.2 j v _ hj s).cell_oneCell (Aw.1 ag _ (Az ak))
 have al:=run_storeCells_at (P:=P) g (k*o.sz+off) o.ty y.cells.toList 0 f w o5 (by rw [r];omega) aq;simp only [Dy,r]at al
 refine⟨w.setRow g (f.toList.take (k*o.sz+off)++y.cells.toList++f.toList.drop (k*o.sz+off+u.cells.length)).toArray,?_,?_⟩
 ·have az:y.cells.size=u.cells.length:=by simpa using r
  simp only [Instr.storeAt,Instr.sureAddr,Sem.run_bind,Sem.run_pure,Result.andThen_ok,storeVar,Ms hn,az,ne_eq,not_true_eq_false,if_false,al]
 ·have m:Ef w (Fb N0 μ S) (w.setRow g (f.toList.take (k*o.sz+off)++y.cells.toList++f.toList.drop (k*o.sz+off+u.cells.length)).toArray):=
   ⟨by simp,fun b hb hN=>setRow_other w g b _ (fun e=>hN (by subst e;exact .inr ⟨d,o,ae,ho,hm⟩))⟩
  refine(h.update (D':=D) (d:=d) (o':={ o with es:=o.es.set k (e.setPart off u)}) (l':=some (g,ae)) (μ':=μ) (fun _ _ _ hh=>hh) h.fresh hm (Agb h.below o1 _) m
   (fun d1 a0 g1 c1 ar h1 h2=>setRow_other w g g1 _ (fun e=>ar (by subst e;exact h.inj _ _ _ _ _ _ _ h1 ho h2 hm)))
   (fun g2 c2 e=>by
    simp only [Au,B0]at e;obtain⟨rfl,rfl⟩:=e;exact .inr ⟨o,ae,ho,hm⟩) (fun N' hN=>?_)).1
  have ad:∀e1∈o.es.set k (e.setPart off u),e1.fits o.sz:=fun e1 ay=>by
   rcases Fg ay with h1|h1
   ·exact o4 e1 h1
   ·subst h1;exact ai
  refine⟨o1,by simpa using o2,o3,ad,_,setRow_heap w g f _ o.ty (0,0) o5,?_,?_⟩
  ·simp only [C4,Bf,Cs,F7,Ia,r];rw [<- o6];omega
  ·refine Mf ad ?_;have am:=Y9 (w:=w) (N:=Fb N0 μ S) (μ:=μ) o4 ah o7;have ab:Vp (w.setRow g (f.toList.take (k*o.sz+off)++y.cells.toList++f.toList.drop (k*o.sz+off+u.cells.length)).toArray) N' μ (f.toList.take (o.es.length*o.sz)) (flat o.es):=⟨am.1,fun j x c h1 h2=>(am.2 j x c h1 h2).keep m hN (fun _ _ _ hh=>hh)⟩;have an:Vp (w.setRow g (f.toList.take (k*o.sz+off)++y.cells.toList++f.toList.drop (k*o.sz+off+u.cells.length)).toArray) N' μ y.cells.toList u.cells:=⟨i.1,fun j x c h1 h2=>(i.2 j x c h1 h2).keep m hN (fun _ _ _ hh=>hh)⟩;rw [Ace o4 hk ao af];simp only [Ha]
   have e1:(f.toList.take (k*o.sz+off)++y.cells.toList++f.toList.drop (k*o.sz+off+u.cells.length)).toArray.toList.take (o.es.length*o.sz)=
     (f.toList.take (o.es.length*o.sz)).take (k*o.sz+off)++y.cells.toList++(f.toList.take (o.es.length*o.sz)).drop (k*o.sz+off+u.cells.length):=by
    rw [List.take_take,Hb om,List.drop_take];simp only [C3];rw [List.take_append,List.take_append];have hA:(f.toList.take (k*o.sz+off)).length=k*o.sz+off:=by simp;omega
    rw [hA,r,Bg (by rw [hA];omega),Bg (l:=y.cells.toList) (by rw [r];omega)]
    congr 3
    omega
   rw [e1];exact((ab.take _).append an).append (ab.drop _)
theorem Acg{sz:Nat}:∀ {vs:List (Nat × V)}{es r:List V},(∀e∈es,e.fits sz)->W9 sz es vs=some r->(∀e∈r,e.fits sz)/\r.length=es.length
 | [],es,r,h,a=>by simp only [W9,Au]at a;subst a;exact⟨h,rfl⟩
 |(i,v)::vs,es,r,h,a=>by
  simp only [W9]at a;split at a
  case isFalse=>cases a
  rename_i c
  obtain⟨h1,h2⟩:=Acg (es:=es.set i v) (fun e d=>by
   rcases Fg d with h1|h1
   ·exact h e h1
   ·subst h1;rw [<- c.1];exact Jw c.2.2) a
  exact⟨h1,by simpa using h2⟩
theorem Agc{N:Nat->Prop}{sz:Nat}(y:0<sz):∀(vs:List (Nat × V))(ps:List (Nat × Value))(es:List V)(cells:Array Value)(r:List V),ps.length=vs.length->
  (∀(j:Nat)p q,ps[j]? =some p->vs[j]? =some q->p.1=q.1/\Enc w N μ p.2 q.2)->(∀e∈es,e.fits sz)->Vp w N μ cells.toList (flat es)->W9 sz es vs=some r->
  ∃a,Instr.fill (fun i=>some (i*sz,sz)) cells ps=some a/\Vp w N μ a.toList (flat r)
 | [],[],es,cells,r,_,_,_,m,h=>by
  simp only [W9,Au]at h;subst h;exact⟨cells,rfl,m⟩
 | [],_ ::_,_,_,_,h,_,_,_,_ =>by simp at h
 |_ ::_,[],_,_,_,h,_,_,_,_ =>by simp at h
 |(i,v)::vs,(d,x)::ps,es,cells,r,hl,hp,t,m,h=>by
  obtain⟨e,z⟩:=hp 0 _ _ rfl rfl;simp only at e z;subst e;simp only [W9]at h;split at h
  case isFalse=>cases h
  rename_i hb;obtain⟨g,f,o⟩:=hb;have c:=z.row o;have s:x.cells.size=sz:=by have:=c.1;simp at this;omega
  have aa:cells.size=es.length*sz:=by have:=m.1;rw [Iz t]at this;simpa using this
  have hk:=Al f;have l:=t _ (Az f)
  have u:=Ace t (k:=d) (e:=es[d]) (e':=v) (off:=0) (us:=v.cells) hk (by have:=l.1;omega) (by
   have:=l.1;rw [List.drop_of_length_le Go.om];simp)
  have hm:(d+1)*sz<=es.length*sz:=B3 _ f;rw [B9,Ud]at hm
  have n:Vp w N μ (x.cells.zipIdx.foldl (fun cs p=>cs.setIfInBounds (d*sz+p.2) p.1) cells).toList (flat (es.set d v)):=by
   rw [<- Array.foldl_toList,Array.toList_zipIdx,Y7 (d*sz) x.cells.toList 0 cells so,u];simp only [Dy,Ia,s,g];exact((m.take _).append c).append (m.drop _)
  obtain⟨a,h1,h2⟩:=Agc y vs ps (es.set d v) _ r (by simpa using hl) (fun j p q h1 h2=>hp (j+1) p q (by simpa using h1) (by simpa using h2)) (fun e he=>by
   rcases Fg he with h1|h1
   ·exact t e h1
   ·subst h1;rw [<- g];exact Jw o) n h
  refine⟨a,?_,h2⟩;simp only [Instr.fill,s];rw [if_neg (by simp;omega)];exact h1
theorem Agd{N:Nat->Prop}{g:Array Value}{z:V}{sz n:Nat}(r:Vp w N μ g.toList z.cells)(hs:z.cells.length=sz)(j:0<sz)(hf:z.fits sz):
  Vp w N μ ((Array.range (n*sz)).map (g[·%g.size]!)).toList (flat (List.replicate n z)):=by
 have d:∀e∈List.replicate n z,e.fits sz:=fun e he=>by rw [Jc he];exact hf
 have h:g.size=sz:=by have:=r.1;simp at this;omega
 refine⟨by rw [Iz d];simp,fun i x c l y=>?_⟩;have s:i<n*sz:=by have:=(Ap.1 l).1;simpa using this
 have hk:i/sz<n:=Nat.div_lt_of_lt_mul (by rw [Bj];exact s);have f:i%sz<sz:=C9 _ j;have t:i%sz<z.cells.length:=om;have u:i/sz*sz+i%sz=i:=by rw [Bj];exact Gq i sz
 have a:=Od d (k:=i/sz) (e:=z) (by simp [hk]) (Al t);rw [u,y]at a;injection a with a;subst a;have o:g.toList[i%sz]? =some (g[i%sz]'(by omega)):=by simp [h,f]
 have:=r.2 _ _ _ o (Al t)
 have m:x=g[i%sz]'(by omega):=by
  simp only [Array.toList_map,Array.toList_range,Bc,Lp s,H6,Au,h]at l;rw [<- l];simp [h,f]
 rw [m];exact this
theorem Ach(h:RelM D w0 N0 μ S a w){i kd:Nat}(hi:¬D i){o:Oper}{S':AS}(hv:Ae8 P i S o.dst kd o.op=some S'):
  ∃x w',A92 P o a w x w'/\Pd (fun j=>D j\/j=i) w0 N0 S' (a.put o.dst x) w':=by
 unfold Ae8 at hv;split at hv
 case h_2=>cases hv
 rename_i O val g;unfold A92 execOp;cases hop:o.op<;>rw [hop]at g<;>simp only [Xa]at g<;>(try(cases g;done))<;>dsimp only
 case alloc t=>
  split at g
  case h_2=>cases g
  rename_i d z n hd hz hk;simp only [Au,B0]at g;obtain⟨rfl,rfl⟩:=g;obtain⟨z',ab,h2,h3,h4,h5⟩:=Xc hk;rw [hz]at ab;injection ab with ab;subst ab;subst h3;obtain⟨zv,aa,am⟩:=Y8 hz w (Fb N0 μ S);rw [hd]at hv|-;obtain⟨μ',hr⟩:=Acd h hi (t:=t) (.pur am) h4 hv;refine⟨_,_,.inl ?_,⟨μ',hr⟩⟩;simp only [Sem.run_bind,Instr.alloc,aa,Result.andThen_ok,newVar,newRow,run_newObj,World.alloc_eq,Sem.run_pure]
 case box t x=>
  split at g
  case h_2=>cases g
  rename_i d z hd hz;split at g
  case isFalse=>cases g
  rename_i a8;simp only [Au,B0]at g;obtain⟨rfl,rfl⟩:=g;rw [hd]at hv|-;obtain⟨μ',hr⟩:=Acd h hi (t:=t) (h.evc hz rfl) a8 hv;refine⟨_,_,.inl ?_,⟨μ',hr⟩⟩;simp only [Sem.run_bind,Instr.box,newVar,newRow,run_newObj,World.alloc_eq,Result.andThen_ok,Sem.run_pure]
 case buildSlice t len parts=>
  split at g
  case h_2=>cases g
  rename_i d te vs hd ay bb;split at g
  case h_2=>cases g
  rename_i z n hz hk;split at g
  case isFalse=>cases g
  rename_i a5;split at g
  case h_2=>cases g
  rename_i es a3;simp only [Au,B0]at g;obtain⟨rfl,rfl⟩:=g;obtain⟨z',ab,h2,h3,h4,h5⟩:=Xc hk;rw [hz]at ab;injection ab with ab;subst ab;have hu:=Dh ay;obtain⟨zv,aa,am⟩:=Y8 hz w (Fb N0 μ S);obtain⟨e1,e2⟩:=h.evs rfl bb;have al:z.fits n:=by rw [<- h3];exact Jw h4
  have ak:∀e∈List.replicate len z,e.fits n:=fun e he=>by rw [Jc he];exact al
  have ag:Vp w (Fb N0 μ S) μ zv.cells.toList z.cells:=(Enc.pur (μ:=μ) am).row h4;have ax:=Agd (n:=len) ag h3 h5 al
  obtain⟨a0,f1,f2⟩:=Agc (w:=w) (μ:=μ) (N:=Fb N0 μ S) h5 vs (parts.toList.map fun p=>(p.1,a.eval p.2)) (List.replicate len z) _ es (by simp [e1]) (fun j p q hp hq=>by
   simp only [Bc,A0]at hp;obtain⟨p',be,rfl⟩:=hp;exact e2 j p' q be hq) ak ax a3
  obtain⟨g1,g2⟩:=Acg ak a3;have av:es.length=len:=by simpa using g2
  have a4:a0.size=len*n:=by have:=f2.1;rw [Iz g1,av]at this;simpa using this
  have af:len<=maxLen:=by
   have:len<=len*n:=Nat.le_mul_of_pos_right _ h5;simp only [maxLen];omega
  rw [hd]at hv|-;have hr:=h.alloc hi kd a0 te n len es a4 om af g1 (Mf g1 (by rw [av,Bg (by simp [a4])];exact f2));refine⟨_,_,.inl ?_,⟨_,hr.putv hv (.slr kd (S.nx+i) n len w.heap.size len (Dc _ _ _ _) (A9 _) af)⟩⟩;have aw:¬(len*n>2^24):=om
  by_cases h0:len*n=0
  ·have a9:Instr.fill (fun i=>some (i*n,n)) ((Array.range (len*n)).map fun x=>(#[]:Array Value)[x%(#[]:Array Value).size]!) (parts.toList.map fun p=>(p.1,a.eval p.2))=some a0:=by
    rw [<- f1,h0,Array.range_zero',Array.map_empty,Array.map_empty]
   simp only [Sem.run_bind,Instr.buildSlice,run_underlying hu,Result.andThen_ok,Ms h2,if_neg aw,if_pos h0,Sem.run_pure,Pf,a9,newRow,run_newObj,World.alloc_eq]
  ·simp only [Sem.run_bind,Instr.buildSlice,run_underlying hu,Result.andThen_ok,Ms h2,if_neg aw,if_neg h0,aa,Sem.run_pure,Pf,f1,newRow,run_newObj,World.alloc_eq]
 case makeSlice t l c=>
  split at g
  case h_2=>cases g
  rename_i d te k1 lv k2 cv hd ay hl hc;split at g
  case h_2=>cases g
  rename_i z n b hz hk hb;split at g
  case isFalse=>cases g
  rename_i a1;simp only [Au,B0]at g;obtain⟨rfl,rfl⟩:=g;obtain⟨c1,c2,c3,c4⟩:=a1;obtain⟨z',ab,h2,h3,h4,h5⟩:=Xc hk;rw [hz]at ab;injection ab with ab;subst ab;have hu:=Dh ay;obtain⟨zv,aa,am⟩:=Y8 hz w (Fb N0 μ S);have al:z.fits n:=by rw [<- h3];exact Jw h4
  have ag:Vp w (Fb N0 μ S) μ zv.cells.toList z.cells:=(Enc.pur (μ:=μ) am).row h4;have ax:=Agd (n:=cv.toNat) ag h3 h5 al;have ak:∀m,∀e∈List.replicate m z,e.fits n:=fun m e he=>by rw [Jc he];exact al
  have ao:=h.evc hl rfl;have an:=h.evc hc rfl;generalize a.eval l=lx at ao|-;generalize a.eval c=cx at an|-;cases ao with
  |pur ao=>
  cases ao with
  |int=>
  cases an with
  |pur an=>
  cases an with
  |int=>
  unfold Ji at hb;obtain⟨a6,ah,rfl⟩:=A0.1 hb;have af:cv.toNat<=maxLen:=by simp only [maxLen];omega
  have az:(List.replicate lv.toNat z)=(List.replicate cv.toNat z).take lv.toNat:=by
   rw [List.take_replicate,Hb Go.om]
  rw [hd]at hv|-
  have hr:=h.alloc hi kd ((Array.range (cv.toNat*n)).map (zv.cells[·%zv.cells.size]!)) te n cv.toNat (List.replicate lv.toNat z) sm so af (ak _) (fun k e j c hk hj=>by
   have bf:(List.replicate cv.toNat z)[k]? =some e:=by
    rw [az]at hk;have bh:k<lv.toNat:=by have:=(Ap.1 hk).1;simp at this;omega
    rwa [Cg bh]at hk
   exact Mf (ak _) (by rw [Bg (by simp)];exact ax) k e j c bf hj)
  refine⟨_,_,.inl ?_,⟨_,hr.putv hv (.slr kd (S.nx+i) n lv.toNat w.heap.size cv.toNat (Dc _ _ _ _) om af)⟩⟩
  have bg:=run_make (P:=P) w t te a6 zv hu ah (by
   unfold D7 at hz;obtain⟨bm,ae,hz⟩:=B7.1 hz;rw [ah]at ae;injection ae with ae;subst ae;obtain⟨bp,au,hz⟩:=B7.1 hz;simp only [zeroValue,typeInfo,Sem.run_bind,run_program,ah,Result.andThen_ok,au,Sem.run_pure,Result.ok.injEq]at aa;rw [<- aa.1];exact au) k1 k2 lv cv om om c4 om
  have bj:a6.size=n:=by
   unfold Ie at h2;rw [ah]at h2;simpa using h2
  rw [Sem.run_bind,bg,Result.andThen_ok,bj];rfl
 case store t x y=>
  split at g
  case h_2=>cases g
  rename_i d v sz k off u n hx hy hn;split at g
  case h_2=>cases g
  rename_i ob aj;split at g
  case isFalse=>cases g
  rename_i hb;obtain⟨b1,b2,b3,b4,b5⟩:=hb;split at g
  case h_2=>cases g
  rename_i e he;rw [C0]at he;split at g
  case isFalse=>cases g
  rename_i a5;simp only [Au,B0]at g;obtain⟨rfl,rfl⟩:=g;subst b2;obtain⟨w',aa,hr⟩:=Ats (P:=P) h (h.evc hx rfl) (h.evc hy rfl) hn aj b1 b3 b4 b5 he a5;refine⟨undef,w',.inr ⟨?_,rfl⟩,⟨μ,(hr.putv hv (.whn _ _ _ (fun hf=>(by cases hf)) (fun _ =>rfl))).more (fun j hj=>.inl hj)⟩⟩;simp only [Sem.run_bind,aa,Result.andThen_ok,Sem.run_pure]
 case call cl=>
  obtain⟨aq,args,ai⟩:=cl;cases aq with
  |value f=>cases g
  |invoke r m=>cases g
  |builtin b=>
  cases b<;>simp only at g<;>try(cases g;done)
  split at g
  case h_2=>cases g
  rename_i s x t t' dd ha ht bk;have bi:args= #[s,x]:=by apply Ej;simpa using ha
  have ba:ai= #[t,t']:=by apply Ej;simpa using ht
  subst bi;subst ba;simp only [Sem.run_bind,resolve,Sem.run_pure,Result.andThen_ok,invoke,builtin,N4,Ct,F8];rw [bk]at hv|-
  split at g
  ·rename_i bc;subst bc;split at g
   case h_2=>cases g
   rename_i sv xv te h1 h2 h3;split at g
   case h_2=>cases g
   rename_i bo bl n b h4 h5 h6;obtain⟨z,k1,k2,k3,k4,k5⟩:=Xc h5
   split at g
   ·rename_i d v sz len;split at g
    case h_2=>cases g
    rename_i ob aj;split at g
    case isFalse=>cases g
    rename_i hb;obtain⟨b1,b2,b3,b4,b5,b6,b7,b8⟩:=hb;simp only [Au,B0]at g;obtain⟨rfl,rfl⟩:=g;subst b2;obtain⟨y,w',aa,hr⟩:=Ao2 (P:=P) (ty:=o.type) h hi h3 k2 h6 (h.evc h1 rfl) aj b1 b3 b4 b5 k5 (h.evc h2 rfl) h4 b6 ⟨z,k1,k3,k4⟩ b7 b8 hv;exact⟨y,w',.inl (by rw [aa];rfl),hr⟩
   ·split at g
    case isFalse=>cases g
    rename_i hb;obtain⟨b6,b7,b8⟩:=hb;simp only [Au,B0]at g;obtain⟨rfl,rfl⟩:=g;have ad:=h.evc h1 rfl;generalize a.eval s=sx at ad|-;cases ad with
    |pur ad=>
    cases ad with
    |nils B=>
    obtain⟨y,w',aa,hr⟩:=Aal (P:=P) (ty:=o.type) (B:=B) h hi h3 k2 h6 (h.evc h2 rfl) h4 b6 ⟨z,k1,k3,k4⟩ b7 b8 hv;exact⟨y,w',.inl (by rw [aa];rfl),hr⟩
   ·cases g
  ·split at g
   case isFalse=>cases g
   rename_i a7;obtain⟨a2,bn⟩:=a7;split at g
   case h_2=>cases g
   rename_i sv l te h1 h2 h3;split at g
   case h_2=>cases g
   rename_i h5;have ar:=h.evc h2 rfl
   have bd:a.eval x=.string ⟨l.toArray⟩:=by
    generalize a.eval x=y at ar;cases ar with
    |pur ar=>cases ar;rfl
   rw [bd];have hz:=Axp h5
   split at g
   ·rename_i d v sz len;split at g
    case h_2=>cases g
    rename_i ob aj;split at g
    case isFalse=>cases g
    rename_i hb;obtain⟨b1,b2,b3,b4,b5,b6,b7⟩:=hb;simp only [Au,B0]at g;obtain⟨rfl,rfl⟩:=g;subst b2;obtain⟨y,w',aa,hr⟩:=Akw (P:=P) (ty:=o.type) h hi h3 a2 hz (h.evc h1 rfl) aj b1 b3 b4 b5 b6 b7 hv;exact⟨y,w',.inl (by rw [aa];rfl),hr⟩
   ·split at g
    case isFalse=>cases g
    rename_i hb;obtain⟨b7,b8⟩:=hb;simp only [Au,B0]at g;obtain⟨rfl,rfl⟩:=g;have ad:=h.evc h1 rfl;generalize a.eval s=sx at ad|-;cases ad with
    |pur ad=>
    cases ad with
    |nils B=>
    obtain⟨y,w',aa,hr⟩:=Xb (P:=P) (ty:=o.type) (B:=B) h hi h3 a2 hz b7 b8 hv;exact⟨y,w',.inl (by rw [aa];rfl),hr⟩
   ·cases g
end
def V.pureC:V->Bool
 | .sl .. | .ss .. | .bp .. | .whn .. | .agg _ | .tup _ | .mp .. | .clo .. | .rm .. =>false
 | .ifc _ v=>v.flat2
 | .fc _ us vs=>us.all V.still&&vs.all V.still
 |_ =>true
def V.pureE(v:V):Bool:=v.cells.all V.pureC
theorem Aci{v:V}(h:v.pureC=true):v.isCell=true:=by cases v<;>first|rfl|exact h|simp [V.pureC]at h
section
variable {D:Nat->Prop}{w0:Bs}{w:World}{N0:Nat->Prop}{μ:Mu}{S:AS}{a:Act}{P:Program}
theorem Enc.flat2{N:Nat->Prop}{x:Value}{v:V}(h:Enc w N μ x v)(a:v.isCell=true)(hp:v.flat2=true):Pur w N x v:=by
 cases h with
 |pur h=>exact h
 |agg=>simp [V.isCell]at a
 |_ =>simp [V.flat2,V.flat1]at hp
theorem Enc.flatP{N:Nat->Prop}{x:Value}{v:V}(h:Enc w N μ x v)(hp:v.flat=true):Pur w N x v:=by
 cases h with
 |pur h=>exact h
 |ifc t x v a h=>exact .ifc t x v hp (h.flat2 a hp)
 |_ =>simp [V.flat]at hp
theorem Enc.pureC{N:Nat->Prop}{x:Value}{v:V}(h:Enc w N μ x v)(hp:v.pureC=true):Pur w N x v:=by
 cases h with
 |pur h=>exact h
 |ifc t x v a h=>exact .ifc t x v hp (h.flat2 a hp)
 |_ =>simp [V.pureC]at hp
theorem Enc.pureE{N:Nat->Prop}{x:Value}{v:V}(h:Enc w N μ x v)(hp:v.pureE=true):Pur w N x v:=by
 cases h with
 |pur h=>exact h
 |agg xs cs d a e=>exact .agg xs cs d a (fun i x c h1 h2=>(e i x c h1 h2).pureC (Aw.1 hp c (Ay h2)))
 |ifc t x v a h=>exact(Enc.ifc t x v a h).pureC (by simpa [V.pureE,V.cells]using hp)
 |_ =>simp [V.pureE,V.cells,V.pureC]at hp
def AS.viewC(S:AS)(v:V):Option V:=
 match v with
 | .sl .. | .ss .. =>match S.elems v with
  |some (sz,es)=>if es.all V.pureE=true then some (.ro sz es)else none
  |none=>none
 |_ =>if v.pureC=true then some v else none
def AS.viewL(S:AS):List V->Option (List V)
 | []=>some []
 |v::r=>match S.viewC v,S.viewL r with
  |some u,some us=>some (u::us)
  |_,_ =>none
def AS.view(S:AS)(v:V):Option V:=
 match v with
 | .agg cs=>match S.viewL cs with
  |some us=>some (.agg us)
  |none=>none
 | .tup _ =>none
 |v=>S.viewC v
theorem RelM.viewC(h:RelM D w0 N0 μ S a w){x:Value}{v u:V}(i:Enc w (Fb N0 μ S) μ x v)(m:S.viewC v=some u):Pur w N0 x u/\u.isCell=true:=by
 have aa:∀b,b<w.heap.size->N0 b->Fb N0 μ S b:=fun b _ hb=>.inl hb
 have aj:∀(v u:V),Enc w (Fb N0 μ S) μ x v->(match S.elems v with|some (sz,es)=>if es.all V.pureE=true then some (V.ro sz es)else none|none=>none)=some u->(∀d v' sz len,v=.sl d v' sz len->True)->(∃d v' sz off len,v=.ss d v' sz off len\/v=.sl d v' sz len)->Pur w N0 x u/\u.isCell=true:=by
  intro v u i m _ r;split at m
  case h_2=>cases m
  rename_i sz es f;split at m
  case isFalse=>cases m
  rename_i hp;injection m with m;subst m;refine⟨?_,rfl⟩;obtain⟨A,c,rfl,am,af⟩:=h.elems i f
  by_cases ag:es= []
  ·subst ag
   have hc:c<=maxLen:=by
    obtain⟨d,v',au,off,len,rfl|rfl⟩:=r
    ·cases i with
     |pur i=>cases i
     |ss _ _ _ _ _ g c' ae A' h1 h2 h3=>exact h2
    ·cases i with
     |pur i=>cases i
     |slr _ _ _ _ g ae h1 h2 h3=>exact h3
     |slv=>simp [maxLen]
   exact .ro A ⟨0,0,none⟩ 0 c sz [] (fun _ _ =>undef) rfl am hc (fun h0=>absurd h0 sm) sm sm sm
  ·obtain⟨hf,ad,vs,rfl,av,an,z⟩:=af ag
   have s:ad.block<w.heap.size/\¬N0 ad.block/\c<=maxLen:=by
    have n:=Em.2 ag
    obtain⟨d,v',au,off,len,rfl|rfl⟩:=r
    ·simp only [AS.elems]at f;split at f
     case h_2=>cases f
     rename_i o ho;split at f
     case isFalse=>cases f
     rename_i hb;obtain⟨rfl,rfl,ah⟩:=hb;simp only [Au,B0]at f;obtain⟨rfl,rfl⟩:=f;have aq:((o.es.drop off).take len).length=len:=by simp;omega
     rw [aq]at n i;cases i with
     |pur i=>cases i
     |ss _ _ _ _ _ g c' ae A' h1 h2 h3=>
      obtain⟨hm,hA⟩:=h3 n;injection hA with hA;subst hA;refine⟨h.block_lt ho hm,fun hn=>?_,h2⟩;have:=h.n0.1 _ hn;obtain⟨l,t,ab⟩:=h.objs d o ho;rw [hm]at t;injection t with t;subst t;exact absurd ab.1 (fun hf=>hf.elim (fun h=>by have:=this.1;simp only at*;omega) this.2)
    ·simp only [AS.elems]at f;split at f
     case h_2=>cases f
     rename_i o ho;split at f
     case isFalse=>cases f
     rename_i hb;obtain⟨rfl,rfl,ah⟩:=hb;simp only [Au,B0]at f;obtain⟨rfl,rfl⟩:=f;rw [ah]at n i;cases i with
     |pur i=>cases i
     |slr _ _ _ _ g ae hm h2 h3=>
      refine⟨h.block_lt ho hm,fun hn=>?_,h3⟩;have:=h.n0.1 _ hn;obtain⟨l,t,ab⟩:=h.objs d o ho;rw [hm]at t;injection t with t;subst t;exact absurd ab.1 (fun hf=>hf.elim (fun h=>by have:=this.1;simp only at*;omega) this.2)
     |slv=>exact absurd n sm
   have ak:∀(k:Nat)e(j:Nat)c,es[k]? =some e->e.cells[j]? =some c->∃y,vs[k*sz+j]? =some y/\Enc w (Fb N0 μ S) μ y c:=by
    intro k e j c hk hj;have ai:=Od hf hk hj;have al:k*sz+j<vs.length:=by rw [z.1];exact(Ap.1 ai).1
    exact⟨_,Al al,z.2 _ _ c (Al al) ai⟩
   refine .ro _ ad es.length c sz es (fun k j=>(vs[k*sz+j]?).getD undef) rfl am s.2.2 (fun _ =>⟨rfl,s.1,s.2.1⟩) hf (fun k e j c hk hj=>?_) fun k e j c hk hj=>?_
   ·obtain⟨y,hy,_⟩:=ak k e j c hk hj;simp only [hy,En];exact an _ _ hy
   ·obtain⟨y,hy,ao⟩:=ak k e j c hk hj;simp only [hy,En];have ar:c.pureC=true:=Aw.1 (Aw.1 hp e (Ay hk)) c (Ay hj);exact(ao.pureC ar).keep (Ef.refl _ _) aa
 unfold AS.viewC at m
 split at m
 ·exact aj _ u i m (fun _ _ _ _ _ =>trivial) ⟨_,_,_,0,_,.inr rfl⟩
 ·exact aj _ u i m (fun _ _ _ _ _ =>trivial) ⟨_,_,_,_,_,.inl rfl⟩
 ·split at m
  case isFalse=>cases m
  rename_i hp;injection m with m;subst m;exact⟨(i.pureC hp).keep (Ef.refl _ _) aa,Aci hp⟩
theorem V8:∀ {cs us:List V},S.viewL cs=some us->us.length=cs.length/\∀(i:Nat)c u,cs[i]? =some c->us[i]? =some u->S.viewC c=some u
 | [],us,h=>by simp only [AS.viewL,Au]at h;subst h;simp
 |c::cs,us,h=>by
  simp only [AS.viewL]at h;split at h
  case h_2=>cases h
  rename_i u f h1 h2;injection h with h;subst h;obtain⟨e,g⟩:=V8 h2;refine⟨by simp [e],fun i c' j d a=>?_⟩
  rcases i with _ |i
  ·simp at d a;subst d;subst a;exact h1
  ·simp at d a;exact g i c' j d a
theorem RelM.view(h:RelM D w0 N0 μ S a w){x:Value}{v u:V}(f:Enc w (Fb N0 μ S) μ x v)(d:S.view v=some u):Pur w N0 x u:=by
 have n:∀b,b<w.heap.size->N0 b->Fb N0 μ S b:=fun b _ r=>.inl r
 unfold AS.view at d
 split at d
 ·rename_i cs;split at d
  case h_2=>cases d
  rename_i us l;injection d with d;subst d;obtain⟨h1,h2⟩:=V8 l
  have j:∀xs:List Value,xs.length=cs.length->(∀(i:Nat)x c,xs[i]? =some x->cs[i]? =some c->Enc w (Fb N0 μ S) μ x c)->Pur w N0 (.agg xs.toArray) (.agg us):=by
   intro xs k e
   refine .agg xs us om (fun c g=>?_) fun i x c f g=>?_
   ·obtain⟨i,o⟩:=Co g;have m:i<us.length:=(Ap.1 o).1;exact(h.viewC (e i xs[i] cs[i] (Al om) (Al om)) (h2 i cs[i] c (Al om) o)).2
   ·have m:i<us.length:=(Ap.1 g).1;exact(h.viewC (e i x cs[i] f (Al om)) (h2 i cs[i] c (Al om) g)).1
  cases f with
  |pur f=>
   cases f with
   |agg xs _ k g e=>exact j xs k (fun i x c h1 h2=>.pur (e i x c h1 h2))
  |agg xs _ k g e=>exact j xs k e
 ·cases d
 ·exact(h.viewC f d).1
end
def AC(P:Program)(f:FuncId)(args:List V)(R:V->Prop):Prop:=
 ∀(w:World)(N:Nat->Prop)(xs:List Value),(∀b,N b->b<w.heap.size)->xs.length=args.length->(∀(i:Nat)x v,xs[i]? =some x->args[i]? =some v->Pur w N x v)->
  Calls P f xs.toArray w (fun e w'=>∃x r,e=.returned x/\R r/\Pur w' N x r/\Below w.heap.size w w')
theorem AC.mono{P:Program}{f:FuncId}{args:List V}{R a:V->Prop}(h:AC P f args R)(d:∀r,R r->a r):AC P f args a:=
 fun w N xs h1 h2 c=>(h w N xs h1 h2 c).mono fun _ _⟨x,r,he,hR,hp,hb⟩=>⟨x,r,he,d r hR,hp,hb⟩
def post(w0:Bs)(N0:Nat->Prop)(Q:Exit->AS->Prop)(e:Exit)(a:Act)(w:World):Prop:=∃S,Q e S/\Rel w0 N0 S a w
def AW(P:Program)(w0:Bs)(N0:Nat->Prop)(c:Code)(Q:Exit->AS->Prop)(S:AS):Prop:=∀a w,Rel w0 N0 S a w->c.wp P (post w0 N0 Q) a w
def Jj(P:Program)(w0:Bs)(N0:Nat->Prop)(ops:List Oper)(Q:Exit->AS->Prop)(i:Nat)(l:List Oper)(S:AS):Prop:=
 ∀D a w,(∀j,D j->j<i)->Pd D w0 N0 S a w->wpList P ops.toArray (post w0 N0 Q) l a w
section
variable {P:Program}{w0:Bs}{N0:Nat->Prop}{Q:Exit->AS->Prop}{S:AS}
theorem AW.mono{c:Code}{Q':Exit->AS->Prop}(h:AW P w0 N0 c Q S)(hq:∀e S,Q e S->Q' e S):AW P w0 N0 c Q' S:=
  fun a w hr=>wp_mono (h a w hr) fun _ _ _⟨S',hQ,hR⟩=>⟨S',hq _ _ hQ,hR⟩
theorem S7{c:Code}{S':AS}(d:S.le S')(h:AW P w0 N0 c Q S'):AW P w0 N0 c Q S:=fun a w e=>h a w (d _ _ _ _ e)
@[reducible]def Akx(K:AS->Prop)(Q:Exit->AS->Prop):Exit->AS->Prop
 | .normal,S=>K S
 |e,S=>Q e S
@[reducible]def Mt(id:Nat)(Q:Exit->AS->Prop):Exit->AS->Prop
 | .exit a,S=>if a=id then Q .normal S else Q (.exit a) S
 |e,S=>Q e S
theorem Ae(h:Q .normal S):AW P w0 N0 .skip Q S:=fun _ _ a=>wp_skip ⟨S,h,a⟩
theorem Bb{id:Nat}(h:Q (.exit id) S):AW P w0 N0 (.exit id) Q S:=fun _ _ a=>wp_exit ⟨S,h,a⟩
theorem Aj(h:Q .ret S):AW P w0 N0 .ret Q S:=fun _ _ a=>wp_ret ⟨S,h,a⟩
theorem Ab{x y:Code}(h:AW P w0 N0 x (Akx (AW P w0 N0 y Q) Q) S):AW P w0 N0 (.seq x y) Q S:=by
 intro a w g;refine wp_seq (wp_mono (h a w g) ?_);rintro e f w'⟨S',c,d⟩;cases e with
 |normal=>exact c f w' d
 |_ =>exact⟨S',c,d⟩
theorem Ar{id:Nat}{c:Code}(h:AW P w0 N0 c (Mt id Q) S):AW P w0 N0 (.block id c) Q S:=by
 intro a w i;refine wp_block (wp_mono (h a w i) ?_);rintro e a' w'⟨S',d,g⟩;cases e with
 |exit j=>
  simp only [Mt]at d;simp only [Exit.inBlock]
  split
  ·rename_i f;rw [if_pos f]at d;exact⟨S',d,g⟩
  ·rename_i f;rw [if_neg f]at d;exact⟨S',d,g⟩
 |_ =>exact⟨S',d,g⟩
theorem A7{c:Operand}{x y:Code}{t:Bool}(g:S.evc true c=some (.bool t))(i:t=true->AW P w0 N0 x Q S)(k:t=false->AW P w0 N0 y Q S):AW P w0 N0 (.cond c x y) Q S:=by
 intro a w f;obtain⟨μ,e⟩:=f;have d:=e.evc g rfl
 have j:a.eval c=.bool t:=by
  generalize a.eval c=v at d;cases d with
  |pur d=>cases d with
   |bool=>rfl
 exact wp_cond_split j (fun h=>i h a w ⟨μ,e⟩) fun h=>k h a w ⟨μ,e⟩
theorem Di{α:Type}{c:Code}(t:α->AS)(f:α->Prop)(m:α->Nat)(x0:α)(h0:f x0)(hS:S.le (t x0))
  (g:∀x,f x->AW P w0 N0 c (Akx (fun S'=>∃j,f j/\m j<m x/\S'.le (t j)) Q) (t x)):AW P w0 N0 (.loop c) Q S:=by
 intro a w y
 have ab:∀n x,m x=n->f x->∀a w,Rel w0 N0 (t x) a w->(Code.loop c).wp P (post w0 N0 Q) a w:=by
  intro n x hn hx a w y b k cs
  have u:∀n x,m x=n->f x->∀a w,Rel w0 N0 (t x) a w->∃e z w',post w0 N0 Q e z w'/\Arrives P (lone (b.at a (.code c:: .inLoop c::k)) cs w) b k cs e z w':=by
   intro n
   induction n using Nat.strongRecOn with
   |_ n ih=>
    intro x hn hx a w y;obtain⟨e,i,o,⟨S',r,s⟩,d⟩:=g x hx a w y b (.inLoop c::k) cs;cases e with
    |normal=>
     obtain⟨j,aa,ae,af⟩:=r;obtain⟨e2,a2,w2,ad,h⟩:=ih (m j) (hn▸ae) j rfl aa i o (af _ _ _ _ s);exact⟨e2,a2,w2,ad,.of_steps (Steps.trans d (.one step_inLoop)) h⟩
    |exit id=>exact⟨_,i,o,⟨S',r,s⟩,.pass (x:=.inLoop c) rfl (fun _ _ =>.inl sm) d⟩
    |goto l=>exact⟨_,i,o,⟨S',r,s⟩,.pass (x:=.inLoop c) rfl (fun _ _ =>.inl sm) d⟩
    |ret=>exact⟨_,i,o,⟨S',r,s⟩,.pass (x:=.inLoop c) rfl (fun _ _ =>.inl sm) d⟩
    |panic ch=>exact⟨_,i,o,⟨S',r,s⟩,.pass (x:=.inLoop c) rfl (fun _ _ =>.inl sm) d⟩
    |outgrown=>exact⟨_,i,o,⟨S',r,s⟩,.pass (x:=.inLoop c) rfl (fun _ _ =>.inl sm) d⟩
  obtain⟨e,z,w',hq,d⟩:=u n x hn hx a w y;exact⟨e,z,w',hq,.of_steps (.one step_loop) d⟩
 exact ab _ x0 rfl h0 a w (hS _ _ _ _ y)
def AS.gd(S:AS)(ops:List Oper)(j:Nat)(a:Bool):Option Bool:=
 match ops[j]? with
 |some o=>match o.dst with
  |some d=>match get S.env d with
   |some (.bool g)=>some (g==a)
   |some (.whn b (.bool g))=>some (b&&(g==a))
   |_ =>none
  |none=>none
 |none=>none
def AS.fb(S:AS)(c:Bool):Op->Bool
 | .load _ x=>match S.evc c x with
  |some (.bp ..)=>false
  |some (.rp _)=>false
  |_ =>true
 |_ =>true
def L6(P:Program)(kb:Nat)(ops:List Oper)(i:Nat)(o:Oper)(S:AS):Option AS:=
 match o.guard with
 |none=>match V5 P S true o.op with
  |some v=>S.putv o.dst v
  |none=>Ae8 P i S o.dst (kb+o.dst.getD 0) o.op
 |some (j,a)=>match S.gd ops j a with
  |some c=>match V5 P S c o.op with
   |some v=>S.putv o.dst (.whn c v)
   |none=>if c=false/\S.fb c o.op=true then S.putv o.dst (.whn false (.bool true))else none
  |none=>none
def A93(P:Program)(ops:List Oper)(i:Nat)(o:Oper)(S:AS):Option AS:=L6 P 0 ops i o S
theorem Uj{D:Nat->Prop}{μ:Mu}{a:Act}{w:World}(h:RelM D w0 N0 μ S a w){ops:List Oper}{o:Oper}{j:Nat}{f c:Bool}(z:o.guard=some (j,f))(i:S.gd ops j f=some c):
  Region.wanted o (yielded ops.toArray a.tmps)=c:=by
 unfold AS.gd at i;split at i
 case h_2=>cases i
 rename_i oj r;split at i
 case h_2=>cases i
 rename_i d hd
 have y:∀(x:Value)(t:Bool),a.tmps.getD d undef=x->d<S.nt->(yielded ops.toArray a.tmps j=match x with| .bool b=>some b|_ =>none):=by
  intro x t s l;have n:d<a.tmps.size:=by rw [h.size];exact l
  unfold yielded;simp only [Iv,r,Option.bind_some,hd,Array.getElem?_eq_getElem n];rw [Dm,Array.getElem?_eq_getElem n]at s;simp only [En]at s;rw [s];split<;>simp_all
 unfold Region.wanted;rw [z];simp only
 split at i
 ·rename_i g k;injection i with i;obtain⟨l,e⟩:=h.env d _ k;generalize m:a.tmps.getD d undef=x at e;have h1:=y x true m l;cases e with
  |pur e=>
  cases e with
  |bool=>
  rw [h1,<- i];cases g<;>cases f<;>rfl
 ·rename_i b g k;injection i with i;obtain⟨l,e⟩:=h.env d _ k;generalize m:a.tmps.getD d undef=x at e;have h1:=y x true m l;cases e with
  |pur e=>cases e
  |whn _ _ _ hh hu=>
  cases b with
  |false=>
   rw [h1,hu rfl,<- i];cases f<;>rfl
  |true=>
   have u:=hh rfl;cases u with
   |pur u=>
   cases u with
   |bool=>
   rw [h1,<- i];cases g<;>cases f<;>rfl
 ·cases i
theorem Arm{ops:List Oper}{i:Nat}(h:Q .normal { S with nx:=S.nx+i}):Jj P w0 N0 ops Q i [] S:=by
 rintro D a w f⟨μ,c⟩;refine wpList_nil ⟨_,h,μ,⟨c.defers,c.size,c.below,c.n0,fun d v g=>?_,c.objs,c.inj,c.env⟩⟩
 rcases c.fresh d v g with h1|⟨j,k,e⟩
 ·exact .inl sy
 ·have:=f j k;exact .inl sy
theorem Za{kb:Nat}{ops:List Oper}{i:Nat}{o:Oper}{g:List Oper}{S':AS}(hs:L6 P kb ops i o S=some S')(h:Jj P w0 N0 ops Q (i+1) g S'):Jj P w0 N0 ops Q i (o::g) S:=by
 rintro D a w hD⟨μ,f⟩;have hi:¬D i:=fun hd=>absurd (hD i hd) om
 have m:∀j,(D j\/j=i)->j<i+1:=fun j r=>by
  rcases r with r|r
  ·have:=hD j r;omega
  ·omega
 have d:∀j,D j->j<i+1:=fun j r=>m j (.inl r)
 refine wpList_step fun K n=>?_
 unfold L6 at hs
 split at hs
 ·rename_i t;have hw:Region.wanted o (yielded ops.toArray a.tmps)=true:=by simp [Region.wanted,t]
  rw [if_pos hw]
  split at hs
  ·rename_i v hv;obtain⟨x,l,k⟩:=W8 f rfl hv;unfold Oper.wp;rw [l];exact n _ _ (h D _ w d ⟨μ,f.putv hs k⟩)
  ·obtain⟨x,w',u,e⟩:=Ach f hi hs;unfold Oper.wp
   rcases u with l|⟨l,rfl⟩
   ·rw [l];exact n _ _ (h _ _ w' m e)
   ·rw [l];exact n _ _ (h _ _ w' m e)
 ·rename_i j aa t;split at hs
  case h_2=>cases hs
  rename_i c hc;have y:=Uj f t hc;rw [y]
  split at hs
  ·rename_i v hv;cases c with
   |true=>
    rw [if_pos rfl];obtain⟨x,l,k⟩:=W8 f rfl hv;unfold Oper.wp;rw [l];exact n _ _ (h D _ w d ⟨μ,f.putv hs (.whn _ _ _ (fun _ =>k) (fun s=>(by cases s)))⟩)
   |false=>
    rw [if_neg (by simp)];exact n _ _ (h D _ w d ⟨μ,f.putv hs (.whn _ _ _ (fun s=>(by cases s)) (fun _ =>rfl))⟩)
  ·split at hs
   case isFalse=>cases hs
   rename_i z;obtain⟨rfl,_⟩:=z;rw [if_neg (by simp)];exact n _ _ (h D _ w d ⟨μ,f.putv hs (.whn _ _ _ (fun s=>(by cases s)) (fun _ =>rfl))⟩)
def Jz(P:Program)(kb:Nat)(ops:List Oper):Nat->List Oper->AS->Option AS
 |_,[],S=>some S
 |i,o::a,S=>match L6 P kb ops i o S with
  |some S'=>Jz P kb ops (i+1) a S'
  |none=>none
def V9(P:Program)(ops:List Oper)(i:Nat)(l:List Oper)(S:AS):Option AS:=Jz P 0 ops i l S
theorem Aky{kb:Nat}{ops:List Oper}:∀ {l:List Oper}{i:Nat}{S S':AS},Jz P kb ops i l S=some S'->Q .normal { S' with nx:=S'.nx+(i+l.length)}->Jj P w0 N0 ops Q i l S
 | [],i,S,S',hs,h=>by
  simp only [Jz,Au]at hs;subst hs;exact Arm h
 |o::a,i,S,S',hs,h=>by
  simp only [Jz]at hs;split at hs
  case h_2=>cases hs
  rename_i S1 h1;refine Za h1 (Aky hs ?_);rw [show i+1+a.length=i+(o::a).length by simp;omega];exact h
theorem Ad{id:Nat}{l:List Oper}(h:Jj P w0 N0 l Q 0 l S):AW P w0 N0 (.region id l.toArray false) Q S:=
 fun a w d=>wp_region_lit (h (fun _ =>False) a w (fun _ c=>c.elim) d)
end
section
variable {P:Program}{w0:Bs}{N0:Nat->Prop}{Q:Exit->AS->Prop}{S:AS}
def V.pureV:V->Bool
 | .tup _ =>false
 | .mp .. | .rm .. | .fc .. =>true
 |v=>v.pureE
theorem Enc.pureV{w:World}{N:Nat->Prop}{μ:Mu}{x:Value}{v:V}(h:Enc w N μ x v)(hp:v.pureV=true):Pur w N x v:=by
 cases v with
 |tup vs=>simp [V.pureV]at hp
 |mp|rm|fc=>cases h with
  |pur h=>exact h
 |_ =>exact h.pureE hp
theorem RelM.own_lt{D:Nat->Prop}{μ:Mu}{a:Act}{w:World}(h:RelM D w0 N0 μ S a w)(b:Nat)(e:Fb N0 μ S b):b<w.heap.size:=by
 rcases e with e|⟨d,o,c,h1,h2⟩
 ·exact B6 (h.n0.1 b e).1 h.below.size
 ·exact h.block_lt h1 h2
theorem RelM.later{D:Nat->Prop}{μ:Mu}{a:Act}{w w':World}(h:RelM D w0 N0 μ S a w)(j:Below w.heap.size w w'):RelM D w0 N0 μ S a w':=by
 have m:Ef w (Fb N0 μ S) w':=Ef.of_below j _;refine⟨h.defers,h.size,h.below.trans (j.mono h.below.size),h.n0,h.fresh,fun d o r=>?_,h.inj,fun t u k=>⟨(h.env t u k).1,(h.env t u k).2.keep m (fun _ _ f=>f) (fun _ _ _ f=>f)⟩⟩;obtain⟨l,n,i⟩:=h.objs d o r;exact⟨l,n,i.keep m (fun _ _ f=>f) (fun _ _ _ f=>f) (fun g c e=>j.block g (h.block_lt r (by rw [n,e])))⟩
theorem Hq{ρ:Operand->Value}{o:Oper}{f:Operand}{a:FuncId}{fn:Func}{args:Array Operand}{e:Array TypeId}{w:World}(j:o.op=.call { callee:=.value f,args:=args,argTypes:=e})(k:ρ f=.func (.func a) #[] #[])
  (g:P.funcs[a]? =some fn)(l:fn.body.isSome=true)(h:(fn.name== "runtime.NumGoroutine")=false):(execOp ρ o).run P w=.ok (.enter a (args.map ρ)) w:=by
 unfold execOp;rw [j];obtain⟨c,i⟩:=Cm.1 l;have d:¬fn.name= "runtime.NumGoroutine" :=by simpa using h
 simp [resolve,k,Deferred.ofValue,invoke,callFunc,g,d,i]
theorem Akz{ops:List Oper}{i:Nat}{o:Oper}{k:List Oper}{f:Operand}{g:FuncId}{fn:Func}{args:Array Operand}{aa:Array TypeId}{vs:List V}{R:V->Prop}
  (hg:o.guard=none)(ho:o.op=.call { callee:=.value f,args:=args,argTypes:=aa})(hf:S.evc true f=some (.fn g))(s:P.funcs[g]? =some fn)(hb:fn.body.isSome=true)(hn:(fn.name== "runtime.NumGoroutine")=false)
  (ha:S.args true args.toList=some vs)(hp:vs.all V.pureV=true)(hc:AC P g vs R)(h:∀r,R r->∃S',S.putv o.dst r=some S'/\Jj P w0 N0 ops Q (i+1) k S'):Jj P w0 N0 ops Q i (o::k) S:=by
 rintro D a w hD⟨μ,n⟩;refine wpList_plain hg fun K hK=>?_
 have d:=n.evc hf rfl
 have t:a.eval f=.func (.func g) #[] #[]:=by
  generalize a.eval f=y at d;cases d with
  |pur d=>cases d with
   |fn=>rfl
 obtain⟨h1,h2⟩:=Fx n rfl ha;unfold Oper.wp;rw [Hq ho t s hb hn]
 have c:=hc w (Fb N0 μ S) (args.toList.map a.eval) n.own_lt (by simp [h1]) (fun j x v hx hv=>by
  simp only [Bc,A0]at hx;obtain⟨y,hy,rfl⟩:=hx;exact(h2 j y v hy hv).pureV (Aw.1 hp v (Ay hv)))
 have m:(args.toList.map a.eval).toArray=args.map a.eval:=by apply Ej;simp
 rw [m]at c;refine c.mono ?_;rintro e w'⟨x,r,rfl,hR,z,u⟩;obtain⟨S',hs,l⟩:=h r hR;exact hK _ _ (l D _ w' (fun j hj=>Eh (hD j hj)) ⟨μ,(n.later u).putv hs (.pur z)⟩)
def V.light:V->Bool
 | .agg cs=>cs.all V.flat
 | .tup vs=>vs.all fun v=>match v with| .agg cs=>cs.all V.flat|v=>v.flat
 |v=>v.flat
theorem Pur.of_light{w w':World}{N N':Nat->Prop}{x:Value}{v:V}(h:Pur w N x v)(j:v.light=true):Pur w' N' x v:=by
 have m:∀(xs:List Value)(cs:List V),cs.all V.flat=true->xs.length=cs.length->(∀c∈cs,c.isCell=true)->(∀(i:Nat)x c,xs[i]? =some x->cs[i]? =some c->Pur w N x c)->Pur w' N' (.agg xs.toArray) (.agg cs):=
  fun xs cs h1 h2 e r=>.agg xs cs h2 e (fun i x c g a=>(r i x c g a).of_flat (Aw.1 h1 c (Ay a)))
 cases h with
 |agg xs cs h1 h2 e=>exact m xs cs j h1 h2 e
 |tup xs cs h1 h2=>
  refine .tup xs cs h1 fun i x c g a=>?_;have d:=Aw.1 j c (Ay a);have hp:=h2 i x c g a;cases hp with
  |agg u o s z y=>exact m u o d s z y
  |bool b=>exact .bool b
  |int k n=>exact .int k n
  |str l=>exact .str l
  |nils A=>exact .nils A
  |fn f=>exact .fn f
  |nilp=>exact .nilp
  |nili=>exact .nili
  |nilf=>exact .nilf
  |ifc t x v h1 h2=>exact .ifc t x v h1 (h2.of_flat2 h1)
  |tup|ro|rp|mp|fc|dm|rm=>simp [V.flat]at d
 |bool b=>exact .bool b
 |int k n=>exact .int k n
 |str l=>exact .str l
 |nils A=>exact .nils A
 |fn f=>exact .fn f
 |nilp=>exact .nilp
 |nili=>exact .nili
 |nilf=>exact .nilf
 |ifc t x v h1 h2=>exact .ifc t x v h1 (h2.of_flat2 h1)
 |ro|rp|mp|fc|dm|rm=>simp [V.light,V.flat]at j
def AS.views(S:AS):List V->Option (List V)
 | []=>some []
 |v::r=>match S.view v,S.views r with
  |some u,some us=>some (u::us)
  |_,_ =>none
theorem Nn:∀ {vs us:List V},S.views vs=some us->us.length=vs.length/\∀(i:Nat)v u,vs[i]? =some v->us[i]? =some u->S.view v=some u
 | [],us,h=>by simp only [AS.views,Au]at h;subst h;simp
 |c::cs,us,h=>by
  simp only [AS.views]at h;split at h
  case h_2=>cases h
  rename_i u f h1 h2;injection h with h;subst h;obtain⟨e,g⟩:=Nn h2;refine⟨by simp [e],fun i c' j d a=>?_⟩
  rcases i with _ |i
  ·simp at d a;subst d;subst a;exact h1
  ·simp at d a;exact g i c' j d a
theorem Afa{ops:List Oper}{i:Nat}{o:Oper}{k:List Oper}{f:Operand}{g:FuncId}{fn:Func}{args:Array Operand}{ad:Array TypeId}{vs us:List V}{R:V->Prop}
  (hg:o.guard=none)(ho:o.op=.call { callee:=.value f,args:=args,argTypes:=ad})(hf:S.evc true f=some (.fn g))(t:P.funcs[g]? =some fn)(hb:fn.body.isSome=true)(hn:(fn.name== "runtime.NumGoroutine")=false)
  (ha:S.args true args.toList=some vs)(hp:S.views vs=some us)(hc:AC P g us R)(h:∀r,R r->r.light=true/\∃S',S.putv o.dst r=some S'/\Jj P w0 N0 ops Q (i+1) k S'):Jj P w0 N0 ops Q i (o::k) S:=by
 rintro D a w hD⟨μ,m⟩;refine wpList_plain hg fun K hK=>?_
 have d:=m.evc hf rfl
 have u:a.eval f=.func (.func g) #[] #[]:=by
  generalize a.eval f=y at d;cases d with
  |pur d=>cases d with
   |fn=>rfl
 obtain⟨h1,h2⟩:=Fx m rfl ha;obtain⟨h3,h4⟩:=Nn hp;unfold Oper.wp;rw [Hq ho u t hb hn]
 have c:=hc w N0 (args.toList.map a.eval) (fun b hb=>B6 (m.n0.1 b hb).1 m.below.size) (by simp [h1,h3]) (fun j x v hx hv=>by
  simp only [Bc,A0]at hx;obtain⟨y,hy,rfl⟩:=hx;have s:j<vs.length:=by rw [<- h3];exact(Ap.1 hv).1
  exact m.view (h2 j y vs[j] hy (Al s)) (h4 j vs[j] v (Al s) hv))
 have n:(args.toList.map a.eval).toArray=args.map a.eval:=by apply Ej;simp
 rw [n]at c;refine c.mono ?_;rintro e w'⟨x,r,rfl,hR,aa,z⟩;obtain⟨ab,S',hs,l⟩:=h r hR;exact hK _ _ (l D _ w' (fun j s=>Eh (hD j s)) ⟨μ,(m.later z).putv hs (.pur (aa.of_light ab))⟩)
def Uk(P:Program)(S:AS):ResultVar->Option V
 | .tmp t=>S.evc true (.tmp t)
 | .cell t ty=>match S.evc true (.tmp t)with
  |some p=>match S.place p,Ie P ty,Ex P ty with
   |some (e,off),some n,some g=>e.part off n g
   |_,_,_ =>none
  |none=>none
def O6(P:Program)(S:AS):List ResultVar->Option (List V)
 | []=>some []
 |r::rs=>match Uk P S r,O6 P S rs with
  |some v,some vs=>match S.view v with
   |some u=>some (u::vs)
   |none=>none
  |_,_ =>none
def Pg(P:Program)(S:AS)(rs:List ResultVar):Option V:=
 match O6 P S rs with
 |some [v]=>some v
 |some vs=>some (.tup vs)
 |none=>none
def Att(P:Program)(fn:Func)(R:V->Prop)(e:Exit)(S:AS):Prop:=
 match e with
 | .ret| .normal=>match Pg P S fn.results.toList with|some r=>R r|none=>False
 |_ =>False
def Ro(a:Array Value):ResultVar->Sem Value
 | .tmp t=>pure (a.getD t undef)
 | .cell b t=>do loadVar t (<- asAddr (a.getD b undef))
theorem Rp(fn:Func)(a:Array Value):results fn a=(do let vs <- fn.results.mapM (Ro a);pure (if h:vs.size=1 then vs[0]else .tuple vs)):=rfl
theorem S8{D:Nat->Prop}{μ:Mu}{a:Act}{w:World}(h:RelM D w0 N0 μ S a w){r:ResultVar}{v:V}(c:Uk P S r=some v):
  ∃x,(Ro a.tmps r).run P w=.ok x w/\Enc w (Fb N0 μ S) μ x v:=by
 cases r with
 |tmp t=>exact⟨_,rfl,h.evc c rfl⟩
 |cell t ty=>
  simp only [Uk]at c;split at c
  case h_2=>cases c
  rename_i p hp;split at c
  case h_2=>cases c
  rename_i e off n g h1 h2 i;obtain⟨m,sz,j,o,k⟩:=h.place h1 (h.evc hp rfl);obtain⟨y,l,d⟩:=Aah (P:=P) h2 i o k c;have f:a.tmps.getD t undef=.pointer (some (m.add off)):=j;exact⟨y,by simp only [Ro,f,Sem.run_bind,asAddr,Sem.run_pure,Result.andThen_ok,l],d⟩
theorem Xd{D:Nat->Prop}{μ:Mu}{a:Act}{w:World}(h:RelM D w0 N0 μ S a w){fn:Func}{r:V}(d:Pg P S fn.results.toList=some r):∃x,(results fn a.tmps).run P w=.ok x w/\Pur w N0 x r:=by
 have g:∀(l:List ResultVar)(vs:List V),O6 P S l=some vs->∃xs:List Value,(l.mapM (Ro a.tmps)).run P w=.ok xs w/\
   xs.length=vs.length/\∀(i:Nat)x v,xs[i]? =some x->vs[i]? =some v->Pur w N0 x v:=by
  intro l
  induction l with
  |nil=>intro vs c;simp only [O6,Au]at c;subst c;exact⟨[],rfl,rfl,by simp⟩
  |cons q l ih=>
   intro vs c;simp only [O6]at c;split at c
   case h_2=>cases c
   rename_i v n h1 h2;split at c
   case h_2=>cases c
   rename_i u t;injection c with c;subst c;obtain⟨x,hx,m⟩:=S8 h h1;obtain⟨xs,f,s,hh⟩:=ih n h2
   refine⟨x::xs,?_,by simp [s],fun i y v j d=>?_⟩
   ·rw [M7,Sem.run_bind,hx,Result.andThen_ok,Sem.run_bind,f,Result.andThen_ok];rfl
   ·rcases i with _ |i
    ·simp at j d;subst j;subst d;exact h.view m t
    ·simp at j d;exact hh i y v j d
 unfold Pg at d
 have e:∀xs:List Value,(fn.results.toList.mapM (Ro a.tmps)).run P w=.ok xs w->
   (results fn a.tmps).run P w=.ok (if h:xs.toArray.size=1 then xs.toArray[0]else .tuple xs.toArray) w:=by
  intro xs f;rw [Rp,Sem.run_bind,Hf,Sem.run_map,f];rfl
 split at d
 ·rename_i v c;injection d with d;subst d;obtain⟨xs,h1,h2,k⟩:=g _ _ c
  match xs,h2 with
  | [x],_ =>exact⟨x,e [x] h1,k 0 x _ rfl rfl⟩
 ·rename_i vs o c;injection d with d;subst d;obtain⟨xs,h1,h2,k⟩:=g _ _ c;refine⟨.tuple xs.toArray,?_,.tup xs vs h2 k⟩;rw [e xs h1]
  have:¬xs.toArray.size=1:=by
   intro z;have s:vs.length=1:=by simp at z;omega
   match vs,s with
   | [v],_ =>exact o v rfl
  rw [dif_neg this]
 ·cases d
def P4:Nat->List V->List (Nat × V)
 |_,[]=>[]
 |i,v::vs=>(i,v)::P4 (i+1) vs
theorem Q0:∀ {vs:List V}{i t:Nat}{v:V},get (P4 i vs) t=some v->i<=t/\vs[t-i]? =some v
 | [],i,t,v,h=>by simp [P4,get]at h
 |u::vs,i,t,v,h=>by
  simp only [P4,C7]at h
  split at h
  ·rename_i a;injection h with h;subst h;subst a;exact⟨A9 _,by simp⟩
  ·rename_i a;obtain⟨h1,h2⟩:=Q0 h;refine⟨by omega,?_⟩;rw [show t-i=(t-(i+1))+1 by omega];simpa using h2
theorem Ak0{f:FuncId}{fn:Func}{c:Code}{args:List V}{R:V->Prop}(hf:P.funcs[f]? =some fn)(l:fn.body=some c)(hl:args.length<=fn.ntmps)
  (h:∀w0 N0,AW P w0 N0 c (Att P fn R) ⟨P4 0 args,[],0,fn.ntmps⟩):AC P f args R:=by
 intro w N xs hN z hp
 refine calls_of_wp hf l (wp_mono (h ⟨w,fun _ =>False,fun _ _ =>none,[]⟩ N _ w ⟨fun _ _ =>none,⟨rfl,?_,Bs.Below.refl _,⟨fun b l=>⟨hN b l,fun h=>h⟩,fun _ _ _ h=>by cases h⟩,fun d v m=>absurd rfl m,fun d o u=>?_,fun d o _ _ _ _ _ u=>?_,fun t v m=>?_⟩⟩) ?_)
 ·simp only [Gz,C4,I1];omega
 ·simp [get]at u
 ·simp [get]at u
 ·obtain⟨_,h2⟩:=Q0 m;simp only [J4]at h2;have ht:t<args.length:=(Ap.1 h2).1;refine⟨by simp only;omega,.pur ?_⟩;have k:xs[t]? =some xs[t]:=Al om;have:=hp t xs[t] v k h2
  have a:(xs.toArray++Array.replicate (fn.ntmps-xs.toArray.size) undef).getD t undef=xs[t]:=by
   rw [Dm,G5 (by simp;omega)];simp [k]
  rw [a]
  exact this.keep (Ef.refl _ _) (fun b l ho=>by
   rcases ho with h0|⟨d,o,c,h1,_⟩
   ·exact h0
   ·simp [get]at h1)
 ·rintro e a' w'⟨S',n,⟨μ,j⟩⟩
  have g:(match Pg P S' fn.results.toList with|some r=>R r|none=>False)->∃v,(results fn a'.tmps).run P w'=.ok v w'/\∃x r,Ending.returned v=.returned x/\R r/\Pur w' N x r/\Below w.heap.size w w':=by
   intro s
   split at s
   ·rename_i r i;obtain⟨x,k,y⟩:=Xd j i;exact⟨x,k,x,r,rfl,s,y,j.below.plain⟩
   ·exact s.elim
  cases e with
  |ret=>exact⟨j.defers,g n⟩
  |normal=>exact⟨j.defers,g n⟩
  |_ =>exact n.elim
def Aam{α:Type}(l:List (Nat × α)):List Nat->List (Nat × α)
 | []=>[]
 |t::r=>match get l t with
  |some v=>(t,v)::Aam l r
  |none=>Aam l r
theorem Ul{α:Type}{l:List (Nat × α)}:∀ {L:List Nat}{t:Nat}{v:α},get (Aam l L) t=some v->get l t=some v
 | [],t,v,h=>by simp [Aam,get]at h
 |k::L,t,v,h=>by
  simp only [Aam]at h
  split at h
  ·rename_i u a;rw [C7]at h
   split at h
   ·rename_i e;subst e;rw [a];exact h
   ·exact Ul h
  ·exact Ul h
def AS.keep(S:AS)(L M:List Nat):AS:={ S with env:=Aam S.env L,objs:=Aam S.objs M}
theorem Um{S S':AS}(h:S'.nt=S.nt)(s:S.nx<=S'.nx)(y:∀t v,get S'.env t=some v->get S.env t=some v)(i:∀d o,get S'.objs d=some o->get S.objs d=some o):S.le S':=by
 rintro w0 N0 a w⟨μ,e⟩
 have f:∀b,b<w.heap.size->Fb N0 μ S' b->Fb N0 μ S b:=by
  rintro b _(h0|⟨d,o,c,h1,h2⟩)
  ·exact .inl h0
  ·exact .inr ⟨d,o,c,i d o h1,h2⟩
 have r:=Ef.refl w (Fb N0 μ S)
 refine⟨μ,⟨e.defers,by rw [h];exact e.size,e.below,e.n0,fun d v k=>?_,fun d o z=>?_,fun d o d' o' g c c' h1 h2=>e.inj d o d' o' g c c' (i _ _ h1) (i _ _ h2),fun t v k=>?_⟩⟩
 ·rcases e.fresh d v k with h1|⟨j,x,_⟩
  ·exact .inl om
  ·exact x.elim
 ·obtain⟨l,u,m⟩:=e.objs d o (i _ _ z);exact⟨l,u,m.keep r f (fun _ _ _ n=>n) (fun _ _ _ =>rfl)⟩
 ·obtain⟨h1,h2⟩:=e.env t v (y _ _ k);exact⟨by rw [h];exact h1,h2.keep r f (fun _ _ _ n=>n)⟩
theorem L1(S:AS)(L M:List Nat):S.le (S.keep L M):=Um rfl (A9 _) (fun _ _ h=>Ul h) (fun _ _ h=>Ul h)
theorem AS.le_refl(S:AS):S.le S:=fun _ _ _ _ h=>h
theorem AS.le_trans{S c a:AS}(h:S.le c)(k:c.le a):S.le a:=fun _ _ _ _ d=>k _ _ _ _ (h _ _ _ _ d)
end
end Go.Eng
namespace Go.Eng
attribute [simp] Rn Abg V.flat1 V.flat2 Jz L6 eqC eqL AS.fb G8 V9 A93 V5 Ae8 Xa AS.evc AS.ev get Sy AS.place V.part V.cells AS.putv A3b A29 Abf Aif A3a aun AS.gd AS.evs AS.evo K3 Ab6 Y5 L5 W9 AS.elems V.setPart
attribute [simp] V.still V.pl V.plA V.pcell Y6 dmV AS.viewC AS.viewL AS.view AS.views AS.args V.pureV V.pureE V.pureC V.isCell Aam AS.keep Uk O6 Pg P4 V.light V.flat
def AS.bump(S:AS)(n:Nat):AS:={ S with nx:=S.nx+n}
attribute [simp] AS.bump
def Ak1(P:Program)(kb:Nat)(l:List Oper)(L M:List Nat)(S:AS):Option AS:=
 match Jz P kb l 0 l S with
 |some S'=>some ((S'.bump l.length).keep L M)
 |none=>none
def A7j(P:Program)(l:List Oper)(L M:List Nat)(S:AS):Option AS:=Ak1 P 0 l L M S
attribute [simp] A7j Ak1
section
variable {P:Program}{w0:Bs}{N0:Nat->Prop}{Q:Exit->AS->Prop}{S:AS}
theorem Arn{id:Nat}{l:List Oper}{S':AS}(kb:Nat)(L M:List Nat)(hs:Ak1 P kb l L M S=some S')(h:Q .normal S'):AW P w0 N0 (.region id l.toArray false) Q S:=by
 unfold Ak1 at hs;split at hs
 case h_2=>cases hs
 rename_i c h1;injection hs with hs;subst hs;intro a w d;refine wp_mono (Ad (Q:=fun e T=>e=.normal/\T=c.bump l.length) (id:=id) (Aky h1 ⟨rfl,by simp [AS.bump]⟩) a w d) ?_;rintro e a' w'⟨T,⟨rfl,rfl⟩,f⟩;exact⟨_,h,L1 _ L M _ _ _ _ f⟩
theorem A3{id:Nat}{l:List Oper}{S':AS}(L M:List Nat)(hs:A7j P l L M S=some S')(h:Q .normal S'):AW P w0 N0 (.region id l.toArray false) Q S:=Arn 0 L M hs h
theorem Axq{id:Nat}{l:List Oper}{a:Code}{S':AS}(kb:Nat)(L M:List Nat)(hs:Ak1 P kb l L M S=some S')(h:AW P w0 N0 a Q S'):AW P w0 N0 (.seq (.region id l.toArray false) a) Q S:=
 Ab (Arn kb L M hs h)
theorem Aa{id:Nat}{l:List Oper}{a:Code}{S':AS}(L M:List Nat)(hs:A7j P l L M S=some S')(h:AW P w0 N0 a Q S'):AW P w0 N0 (.seq (.region id l.toArray false) a) Q S:=
 Ab (A3 L M hs h)
theorem Aro{c:Code}(L M:List Nat){S':AS}(a:S.keep L M=S')(h:AW P w0 N0 c Q S'):AW P w0 N0 c Q S:=by
 subst a;exact S7 (L1 S L M) h
theorem Ac{fn:Func}{R:V->Prop}{r:V}(a:Pg P S fn.results.toList=some r)(h:R r):Att P fn R .ret S:=by
 unfold Att;simp only [a];exact h
theorem Ao3{ops:List Oper}{i:Nat}{S':AS}(c:(S.bump i).le S')(h:Q .normal S'):Jj P w0 N0 ops Q i [] S:=by
 intro D a w d g;obtain⟨T,⟨_,rfl⟩,f⟩:=Arm (P:=P) (w0:=w0) (N0:=N0) (ops:=ops) (i:=i) (S:=S) (Q:=fun e T=>e=.normal/\T=S.bump i) ⟨rfl,rfl⟩ D a w d g;exact wpList_nil ⟨S',h,c _ _ _ _ f⟩
theorem Acj{kb:Nat}{ops:List Oper}:∀ {l:List Oper}{i:Nat}{S d S':AS},Jz P kb ops i l S=some d->(d.bump (i+l.length)).le S'->Q .normal S'->Jj P w0 N0 ops Q i l S
 | [],i,S,d,S',hs,c,h=>by
  simp only [Jz,Au]at hs;subst hs;exact Ao3 c h
 |o::a,i,S,d,S',hs,c,h=>by
  simp only [Jz]at hs;split at hs
  case h_2=>cases hs
  rename_i S2 h1;refine Za h1 (Acj hs ?_ h);rw [show i+1+a.length=i+(o::a).length by simp;omega];exact c
theorem Axr{ops l:List Oper}{i:Nat}{S':AS}(kb:Nat)(L M:List Nat)(hs:(match Jz P kb ops i l S with|some a=>some ((a.bump (i+l.length)).keep L M)|none=>none)=some S')(h:Q .normal S'):Jj P w0 N0 ops Q i l S:=by
 split at hs
 case h_2=>cases hs
 rename_i a h1;injection hs with hs;subst hs;exact Acj h1 (L1 _ L M) h
theorem Af{ops l:List Oper}{i:Nat}{S':AS}(L M:List Nat)(hs:(match V9 P ops i l S with|some S1=>some ((S1.bump (i+l.length)).keep L M)|none=>none)=some S')(h:Q .normal S'):Jj P w0 N0 ops Q i l S:=Axr 0 L M hs h
theorem Arp{kb:Nat}{ops:List Oper}:∀ {d l2:List Oper}{i:Nat}{S c:AS},Jz P kb ops i d S=some c->Jj P w0 N0 ops Q (i+d.length) l2 c->Jj P w0 N0 ops Q i (d++l2) S
 | [],l2,i,S,c,hs,h=>by
  simp only [Jz,Au]at hs;subst hs;exact h
 |o::a,l2,i,S,c,hs,h=>by
  simp only [Jz]at hs;split at hs
  case h_2=>cases hs
  rename_i S2 h1;refine Za h1 (Arp hs ?_);rw [show i+1+a.length=i+(o::a).length by simp;omega];exact h
theorem A3e{ops l:List Oper}{i:Nat}{a:AS}(kb n:Nat)(hs:Jz P kb ops i (l.take n) S=some a)(h:Jj P w0 N0 ops Q (i+(l.take n).length) (l.drop n) a):Jj P w0 N0 ops Q i l S:=by
 have:=Arp (l2:=l.drop n) hs h
 rwa [Gi]at this
theorem Am{ops l:List Oper}{i:Nat}{a:AS}(n:Nat)(hs:V9 P ops i (l.take n) S=some a)(h:Jj P w0 N0 ops Q (i+(l.take n).length) (l.drop n) a):Jj P w0 N0 ops Q i l S:=A3e 0 n hs h
theorem Mg{ops:List Oper}{i:Nat}{o:Oper}{a:List Oper}{f:Operand}{c:FuncId}{fn:Func}{args:Array Operand}{e:Array TypeId}{vs:List V}{d:V}{S':AS}
  (m:AC P c vs (fun r=>r=d))(g:P.funcs[c]? =some fn)(u:fn.body.isSome=true)(k:(fn.name== "runtime.NumGoroutine")=false)
  (j:o.guard=none)(n:o.op=.call { callee:=.value f,args:=args,argTypes:=e})(t:S.evc true f=some (.fn c))
  (s:S.args true args.toList=some vs)(hp:vs.all V.pureV=true)(hs:S.putv o.dst d=some S')(h:Jj P w0 N0 ops Q (i+1) a S'):Jj P w0 N0 ops Q i (o::a) S:=
 Akz j n t g u k s hp m (fun r l=>by subst l;exact⟨S',hs,h⟩)
theorem Ack{ops:List Oper}{i:Nat}{o:Oper}{a:List Oper}{f:Operand}{c:FuncId}{fn:Func}{args:Array Operand}{e:Array TypeId}{vs us:List V}{d:V}{S':AS}
  (m:AC P c us (fun r=>r=d))(g:P.funcs[c]? =some fn)(w:fn.body.isSome=true)(k:(fn.name== "runtime.NumGoroutine")=false)
  (j:o.guard=none)(n:o.op=.call { callee:=.value f,args:=args,argTypes:=e})(u:S.evc true f=some (.fn c))
  (s:S.args true args.toList=some vs)(hp:S.views vs=some us)(t:d.light=true)(hs:S.putv o.dst d=some S')(h:Jj P w0 N0 ops Q (i+1) a S'):Jj P w0 N0 ops Q i (o::a) S:=
 Afa j n u g w k s hp m (fun r l=>by subst l;exact⟨t,S',hs,h⟩)
end
end Go.Eng
namespace Go.Eng
open Go.RowKit
def Ov:Op->Bool
 | .alloc _ | .box .. | .buildSlice .. | .makeSlice .. | .store .. | .mapUpdate .. =>true
 | .call { callee:=.builtin .append,.. }=>true
 |_ =>false
def Mv:Op->Bool
 | .alloc _ | .box .. | .buildSlice .. | .makeSlice .. =>true
 |_ =>false
def Q1:Op->Bool
 | .mapUpdate .. =>true
 |_ =>false
def Nh:Op->Bool
 | .load .. =>true
 |_ =>false
def AS.gv(S:AS)(ops:List Oper)(o:Oper):Option Bool:=match o.guard with|none=>some true|some (j,want)=>S.gd ops j want
def Fs(o:Oper)(c:Bool)(v:V):V:=match o.guard with|none=>v|some _ =>.whn c v
def ACB(w0:Bs)(P:Program)(f:FuncId)(args:List V)(R:V->Prop):Prop:=
 ∀(w:World)(N:Nat->Prop)(xs:List Value),w0.Below w->(∀b,N b->b<w.heap.size)->xs.length=args.length->(∀(i:Nat)x v,xs[i]? =some x->args[i]? =some v->Pur w N x v)->
  Calls P f xs.toArray w (fun e w'=>∃x r,e=.returned x/\R r/\Pur w' N x r/\Below w.heap.size w w')
theorem AC.b{w0:Bs}{P:Program}{f:FuncId}{args:List V}{R:V->Prop}(h:AC P f args R):ACB w0 P f args R:=fun w N xs _ h1 h2 a=>h w N xs h1 h2 a
def Axs(P:Program)(w0:Bs)(ops:List Oper)(o:Oper)(S S':AS):Prop:=
 ∃c f args e a fn vs d,S.gv ops o=some c/\o.op=.call { callee:=.value f,args:=args,argTypes:=e}/\S.evc c f=some (.fn a)/\P.funcs[a]? =some fn/\fn.body.isSome=true/\(fn.name== "runtime.NumGoroutine")=false/\
  S.args c args.toList=some vs/\vs.all V.pureV=true/\(c=true->ACB w0 P a vs (fun r=>r=d))/\S.putv o.dst (Fs o c d)=some S'
def Ql{α β:Type}(f:α->β):List (Nat × α)->List (Nat × β)
 | []=>[]
 |(k,x)::r=>(k,f x)::Ql f r
theorem Q2{α β:Type}(f:α->β)(t:Nat):∀(l:List (Nat × α)),get (Ql f l) t=(get l t).map f
 | []=>rfl
 |(k,x)::r=>by
  unfold Ql;rw [C7,C7,Q2 f t r];split<;>rfl
def V.mset(b:Nat)(k:IntKind)(m:List (Int × V)):V->V
 | .mp b' c a=>if b'=b then .mp b' k m else .mp b' c a
 | .rm b' c a=>if b'=b then .rm b' k m else .rm b' c a
 |u=>u
def V.okM1:V->Bool
 | .mp .. | .tup _ | .whn _ _ | .rm .. =>false
 | .fc _ us vs=>us.all V.still&&vs.all V.still
 |_ =>true
def V.okM:V->Bool
 | .tup vs=>vs.all V.okM1
 | .whn _ (.tup vs)=>vs.all V.okM1
 | .whn _ v=>v.okM1
 | .mp .. | .rm .. =>true
 |v=>v.okM1
def Aih:List (Nat × V)->Bool
 | []=>true
 |(_,v)::r=>v.okM&&Aih r
def A3f(P:Program)(w0:Bs)(o:Oper)(S S':AS):Prop:=
 ∃t m x v b k es a u e,o.guard=none/\o.dst=none/\o.op=.mapUpdate t m x v/\S.evc true m=some (.mp b k es)/\S.evc true x=some (.int k a)/\S.evc true v=some u/\u.flat0=true/\Wz P t=some (k,e)/\w0.free b/\
  (∀t v,get S.env t=some v->v.okM=true)/\S'= { S with env:=Ql (V.mset b k ((a,u)::es)) S.env}
def Rq(P:Program)(kb:Nat)(w0:Bs)(ops:List Oper)(i:Nat)(o:Oper)(S S':AS):Prop:=L6 P kb ops i o S=some S'\/Axs P w0 ops o S S'\/A3f P w0 o S S'
section
variable {P:Program}{kb:Nat}{w0:Bs}{N0:Nat->Prop}{Q:Exit->AS->Prop}
theorem J9{v:V}(h:v.isCell=true):v.okM1=true:=by cases v<;>first|rfl|exact h|simp [V.isCell]at h
theorem Acl{v:V}(h:v.still=true):v.okM1=true:=by cases v<;>first|rfl|simp [V.still]at h
structure MapTurn(w w':World)(b:Nat):Prop where
 was:∃es clock,w.heap[b]? =some (.map es clock)
 size:w'.heap.size=w.heap.size
 other:∀k,k≠b->w'.heap[k]? =w.heap[k]?
theorem MapTurn.cell{w w':World}{b:Nat}(h:MapTurn w w' b){c:Addr}{x:Value}(e:w.cell? c=some x):w'.cell? c=some x/\c.block≠b:=by
 have a:c.block≠b:=by
  rintro rfl;obtain⟨es,d,f⟩:=h.was;simp [World.cell?,f]at e
 exact⟨by rw [World.cell?_of_block (w:=w) (h.other _ a)];exact e,a⟩
theorem Pur.mapTurn{w w':World}{b:Nat}(h:MapTurn w w' b){N:Nat->Prop}{x:Value}{v:V}(hx:Pur w N x v):v.okM1=true->Pur w' N x v:=by
 induction hx with
 |bool b=>intro _;exact .bool b
 |int k n=>intro _;exact .int k n
 |str l=>intro _;exact .str l
 |agg xs cs y a _ ih=>intro _;exact .agg xs cs y a (fun i x c h1 h2=>ih i x c h1 h2 (J9 (a c (Ay h2))))
 |tup=>intro o;simp [V.okM1]at o
 |ro A ad n aa sz es g hn s r hA m a _ ih=>
  intro _;refine .ro A ad n aa sz es g hn s r (fun h0=>?_) m (fun k e j c z d=>(h.cell (a k e j c z d)).1) (fun k e j c z d=>ih k e j c z d (J9 ((m e (Ay z)).2 c (Ay d))));obtain⟨h1,h2,h3⟩:=hA h0;exact⟨h1,by rw [h.size];exact h2,h3⟩
 |nils A=>intro _;exact .nils A
 |rp ad sz e g hb ab m a _ ih=>
  intro _;exact .rp ad sz e g (by rw [h.size];exact hb) ab m (fun j c d=>(h.cell (a j c d)).1) (fun j c d=>ih j c d (J9 (m.2 c (Ay d))))
 |fn f=>intro _;exact .fn f
 |nilp=>intro _;exact .nilp
 |nili=>intro _;exact .nili
 |nilf=>intro _;exact .nilf
 |ifc t x v m hx _ =>intro _;exact .ifc t x v m (hx.of_flat2 m)
 |mp=>intro o;simp [V.okM1]at o
 |fc f xs ys us vs y hm _ _ ih ik=>
  intro o;have u:=Bool.and_eq_true_iff.1 o;exact .fc f xs ys us vs y hm (fun i x c h1 h2=>ih i x c h1 h2 (Acl (Aw.1 u.1 c (Ay h2)))) (fun i x c h1 h2=>ik i x c h1 h2 (Acl (Aw.1 u.2 c (Ay h2))))
 |dm t xs cs y a _ ih=>intro _;exact .dm t xs cs y a (fun i x c h1 h2=>ih i x c h1 h2 (J9 (a c (Ay h2))))
 |rm=>intro o;simp [V.okM1]at o
theorem Enc.mapTurn{w w':World}{b:Nat}(h:MapTurn w w' b){N:Nat->Prop}{μ:Mu}{x:Value}{v:V}(o:Enc w N μ x v):v.okM1=true->Enc w' N μ x v:=by
 induction o with
 |pur hp=>intro j;exact .pur (hp.mapTurn h j)
 |slr d v sz len g a h1 h2 l=>intro _;exact .slr d v sz len g a h1 h2 l
 |slv d v sz A h1=>intro _;exact .slv d v sz A h1
 |ss d v sz off len g c a A h2 l r=>intro _;exact .ss d v sz off len g c a A h2 l r
 |bp d v sz k off g a h1=>intro _;exact .bp d v sz k off g a h1
 |agg xs cs m e _ ih=>intro _;exact .agg xs cs m e (fun i x c h1 h2=>ih i x c h1 h2 (J9 (e c (Ay h2))))
 |tup=>intro j;simp [V.okM1]at j
 |ifc t x v e _ ih=>intro _;exact .ifc t x v e (ih (J9 e))
 |clo f xs s cs n m u e _ _ ih y=>intro _;exact .clo f xs s cs n m u e (fun i x c h1 h2=>ih i x c h1 h2 (J9 (e c (.inl (Ay h2))))) (fun i x c h1 h2=>y i x c h1 h2 (J9 (e c (.inr (Ay h2)))))
 |whn=>intro j;simp [V.okM1]at j
theorem Xe{a c:Int}{u:Value}{k:IntKind}:∀ {es:List MapEntry}{n:Nat}{p:Nat × Value},Jy a es n=some p->Hi c (es.modify (p.1-n) (fun e=>{ e with key:=.int k a,val:=u}))=if c=a then some u else Hi c es
 | [],n,p,h=>by simp [Jy]at h
 |e::r,n,p,h=>by
  unfold Jy at h
  split at h
  ·rename_i f;injection h with h;subst h;simp only [Fv,List.modify_zero_cons,Hi];have:Nd { e with key:=.int k a,val:=u}=a:=rfl;rw [this]
   by_cases d:c=a
   ·subst d;simp
   ·rw [if_neg (fun h=>d h.symm),if_neg d,f,if_neg (fun h=>d h.symm)]
  ·rename_i f;have g:=(Me h).2.1;have ih:=Xe (c:=c) (u:=u) (k:=k) h;rw [show p.1-n=(p.1-(n+1))+1 by omega];simp only [List.modify_succ_cons,Hi];rw [ih]
   by_cases d:c=a
   ·subst d;simp [f]
   ·simp [d]
theorem Acm{a c:Int}{e:MapEntry}(f:Nd e=a):∀ {es:List MapEntry},Hi a es=none->Hi c (es++[e])=if c=a then some e.val else Hi c es
 | [],_ =>by
  simp only [Fm,Hi,f]
  by_cases d:c=a
  ·subst d;simp
  ·rw [if_neg (fun h=>d h.symm),if_neg d]
 |x::r,h=>by
  unfold Hi at h
  split at h
  ·cases h
  ·rename_i g;have ih:=Acm (c:=c) f h;simp only [Ch,Hi,ih]
   by_cases d:c=a
   ·subst d;simp [g]
   ·simp [d]
theorem S9{a:Int}:∀ {es:List MapEntry},Hi a es=none->∀e∈es,Nd e≠a
 | [],_,e,c=>by cases c
 |x::r,h,e,c=>by
  unfold Hi at h
  split at h
  ·cases h
  ·rename_i d
   rcases Cj.1 c with rfl|c
   ·exact d
   ·exact S9 h e c
theorem Aii(k:IntKind)(a:Int)(n:Nat):Instr.sameBits n (.int k a) (.int k a)=true:=by
 cases n<;>simp [Instr.sameBits]
theorem Afb{P:Program}{w:World}{N:Nat->Prop}{μ:Mu}{t e b:Nat}{k:IntKind}{m:List (Int × V)}{a:Int}{x y:Value}{uv:Value}{u:V}(hx:Enc w N μ x (.mp b k m))(hy:Enc w N μ y (.int k a))(hu:Enc w N μ uv u)(hf:u.flat0=true)(ht:Wz P t=some (k,e)):
  ∃w',(Instr.mapUpdate t x y uv).run P w=.ok () w'/\MapTurn w w' b/\x=.map (some b)/\(∀N',¬N' b->Pur w' N' x (.mp b k ((a,u)::m)))/\w'.os=w.os/\w'.tape=w.tape/\w'.output=w.output:=by
 obtain⟨kt,ah,hk⟩:=Ui ht
 have al:∀w2 N2,Pur w2 N2 uv u:=by
  intro w2 N2;cases hu with
  |pur hu=>exact hu.of_flat0 hf
  |_ =>simp [V.flat0]at hf
 cases hy with
 |pur hy=>
 cases hy with
 |int=>
 cases hx with
 |pur hx=>
 cases hx with
 |mp _ _ _ es l g hN hb ab hs hn hw hh=>
 have aa:=P7 (q:=k) (a:=a) es.toList 0 ab
 have turn:∀f d,MapTurn w { w with heap:=w.heap.setIfInBounds b (.map f d)} b:=fun f d=>
  ⟨⟨es,l,hb⟩,by simp,fun j z=>by simp [J7];intro h;exact absurd h.symm z⟩
 have ak:∀f d,({ w with heap:=w.heap.setIfInBounds b (.map f d)}:World).heap[b]? =some (.map f d):=fun f d=>by
  have ax:=(B2.1 hb).1;simp [ax]
 have pur:∀(f:Array MapEntry)d N',¬N' b->(∀e∈f.toList,∃a,e.key=.int k a)->(∀c,Hi c f.toList=if c=a then some uv else Hi c es.toList)->((f.toList.map (·.born)).Nodup/\(∀e∈f.toList,e.born<d)/\(f.toList.map Nd).Nodup)->
   Pur { w with heap:=w.heap.setIfInBounds b (.map f d)} N' (.map (some b)) (.mp b k ((a,u)::m)):=by
  intro f d N' r ay ai an
  refine .mp b k _ f d (fun c=>if c=a then uv else g c) r (ak f d) ay (fun c v o=>?_) (fun c o=>?_) an fun c v o=>?_
  ·unfold Gd at o;rw [ai]
   by_cases e:a=c
   ·subst e;simp only [if_true,Au]at o;subst o;simp [hf]
   ·rw [if_neg e]at o;have:=hs c v o;simp only [show¬c=a from fun h=>e h.symm,if_false];exact this
  ·unfold Gd at o;rw [ai]
   by_cases e:a=c
   ·subst e;simp at o
   ·rw [if_neg e]at o;rw [if_neg (fun h=>e h.symm)];exact hn c o
  ·unfold Gd at o
   by_cases e:a=c
   ·subst e;simp only [if_true,Au]at o;subst o;simp only [if_true];exact al _ _
   ·rw [if_neg e]at o;simp only [show¬c=a from fun h=>e h.symm,if_false];exact(hh c v o).of_flat0 (hs c v o).2
 cases hp:Jy a es.toList 0 with
 |none=>
  rw [hp]at aa;have ae:=MapKept.run_findKey (w:=w) hk aa;have hA:=P8.1 hp
  refine⟨_,?_,turn (es.push { key:=.int k a,val:=uv,born:=l}) (l+1),rfl,fun N' r=>pur _ _ N' r ?_ ?_ ?_,rfl,rfl,rfl⟩
  ·unfold Instr.mapUpdate;simp only [Sem.run_bind,run_underlying ah,Result.andThen_ok,MapKept.run_getObj_map hb,MapKept.run_checkKey hk (k:=.int k a) (by simp [MapKept.IsKey]),ae];exact MapKept.run_setObj_map _ hb
  ·intro e n;simp only [Array.toList_push,Cc,Bz]at n
   rcases n with n|rfl
   ·exact ab e n
   ·exact⟨a,rfl⟩
  ·intro c;rw [Array.toList_push];exact Acm rfl hA
  ·rw [Array.toList_push]
   refine⟨?_,fun e n=>?_,?_⟩
   ·rw [Cr,Kl];refine⟨hw.1,by simp,fun x hx y hy=>?_⟩;simp only [Ct,F8,Bz]at hy;obtain⟨e,n,rfl⟩:=Bm.1 hx;have:=hw.2.1 e n;omega
   ·simp only [Cc,Bz]at n
    rcases n with n|rfl
    ·exact Eh (hw.2.1 e n)
    ·exact Nat.lt_succ_self _
   ·rw [Cr,Kl];refine⟨hw.2.2,by simp,fun x hx y hy=>?_⟩;simp only [Ct,F8,Bz]at hy;obtain⟨e,n,rfl⟩:=Bm.1 hx;intro av;exact S9 hA e n (av.trans hy)
 |some p=>
  rw [hp]at aa;have ae:=MapKept.run_findKey (w:=w) hk aa;obtain⟨hA,_,e0,ad,az,am⟩:=Me hp;simp only [J4]at ad;obtain⟨s,af⟩:=ab e0 (Ay ad);have ha:s=a:=by simpa [Nd,af]using am
  subst ha
  have aw:(es[p.1]?.map (·.key)).getD (.int k s)=.int k s:=by
   have:es[p.1]? =some e0:=by simpa using ad
   simp [this,af]
  have ag:(Instr.keyThatStays (.int k s) (.int k s)).run P w=.ok (.int k s) w:=by
   unfold Instr.keyThatStays;rw [Aii];rfl
  refine⟨_,?_,turn (es.modify p.1 fun e=>{ e with key:=.int k s,val:=uv}) l,rfl,fun N' r=>pur _ _ N' r ?_ ?_ ?_,rfl,rfl,rfl⟩
  ·unfold Instr.mapUpdate;simp only [Sem.run_bind,run_underlying ah,Result.andThen_ok,MapKept.run_getObj_map hb,MapKept.run_checkKey hk (k:=.int k s) (by simp [MapKept.IsKey]),ae,aw,ag];exact MapKept.run_setObj_map _ hb
  ·intro e n;rw [Array.toList_modify]at n;obtain⟨j,z⟩:=Co n;rw [List.getElem?_modify]at z;cases hgj:es.toList[j]? with
   |none=>rw [hgj]at z;simp at z
   |some e1=>
    rw [hgj]at z;simp only [Option.map_eq_map,H6,Au]at z
    split at z
    ·subst z;exact⟨s,rfl⟩
    ·subst z;exact ab _ (Ay hgj)
  ·intro c;rw [Array.toList_modify];have:=Xe (c:=c) (u:=uv) (k:=k) hp;simpa using this
  ·rw [Array.toList_modify]
   have hm:(es.toList.modify p.1 fun e=>{ e with key:=Value.int k s,val:=uv}).map (·.born)=es.toList.map (·.born):=by
    apply Km;intro i;rw [Bc,Bc,List.getElem?_modify];cases es.toList[i]? with
    |none=>rfl
    |some e=>simp only [Option.map_eq_map,H6];split<;>rfl
   have au:(es.toList.modify p.1 fun e=>{ e with key:=Value.int k s,val:=uv}).map Nd=es.toList.map Nd:=by
    have aj:es.toList[p.1]? =some e0:=by simpa using ad
    apply Km;intro i;rw [Bc,Bc,List.getElem?_modify];cases hei:es.toList[i]? with
    |none=>rfl
    |some e=>
     simp only [Option.map_eq_map,H6]
     split
     ·rename_i ao;subst ao;rw [aj]at hei;injection hei with hei;subst hei;simp [Nd,af]
     ·rfl
   refine⟨by rw [hm];exact hw.1,fun e n=>?_,by rw [au];exact hw.2.2⟩;have h1:e.born∈es.toList.map (·.born):=by rw [<- hm];exact Bm.2 ⟨e,n,rfl⟩
   obtain⟨e',aq,ar⟩:=Bm.1 h1;rw [<- ar];exact hw.2.1 e' aq
theorem Wa{S S':AS}{D:Nat->Prop}{a:Act}{w:World}{ops:List Oper}{i:Nat}{o:Oper}(s:Pd D w0 N0 S a w)(hi:¬D i)(hs:Rq P kb w0 ops i o S S'){K:Act->World->Prop}{Q':Exit->Act->World->Prop}
  (hK:∀a' w',Pd (fun j=>D j\/j=i) w0 N0 S' a' w'->K a' w'):
  if Region.wanted o (yielded ops.toArray a.tmps)=true then o.wp P a w K Q' else K (a.put o.dst undef) w:=by
 obtain⟨μ,s⟩:=s;have z:∀ {a' w'},RelM D w0 N0 μ S' a' w'->Pd (fun j=>D j\/j=i) w0 N0 S' a' w':=fun h=>⟨μ,h.more (fun j hj=>.inl hj)⟩
 rcases hs with hs|⟨c,f,args,bs,bf,fn,vs,br,ab,ho,hf,bc,hb,hn,ha,hp,hc,hs⟩|⟨t,m,x,v,b,k,es,q,u,e,hg,hd,ho,hm,hx,hv,hu,ht,bm,ba,rfl⟩
 ·unfold L6 at hs
  split at hs
  ·rename_i hg;have hw:Region.wanted o (yielded ops.toArray a.tmps)=true:=by simp [Region.wanted,hg]
   rw [if_pos hw]
   split at hs
   ·rename_i v hv;obtain⟨x,hx,ai⟩:=W8 s rfl hv;unfold Oper.wp;rw [hx];exact hK _ _ (z (s.putv hs ai))
   ·obtain⟨x,w',bd,al⟩:=Ach s hi hs;unfold Oper.wp
    rcases bd with hx|⟨hx,rfl⟩
    ·rw [hx];exact hK _ _ al
    ·rw [hx];exact hK _ _ al
  ·rename_i j a1 hg;split at hs
   case h_2=>cases hs
   rename_i c hc;have ax:=Uj s hg hc;rw [ax]
   split at hs
   ·rename_i v hv;cases c with
    |true=>
     rw [if_pos rfl];obtain⟨x,hx,ai⟩:=W8 s rfl hv;unfold Oper.wp;rw [hx];exact hK _ _ (z (s.putv hs (.whn _ _ _ (fun _ =>ai) (fun hf=>(by cases hf)))))
    |false=>
     rw [if_neg (by simp)];exact hK _ _ (z (s.putv hs (.whn _ _ _ (fun hf=>(by cases hf)) (fun _ =>rfl))))
   ·split at hs
    case isFalse=>cases hs
    rename_i be;obtain⟨rfl,_⟩:=be;rw [if_neg (by simp)];exact hK _ _ (z (s.putv hs (.whn _ _ _ (fun hf=>(by cases hf)) (fun _ =>rfl))))
 ·have ax:Region.wanted o (yielded ops.toArray a.tmps)=c:=by
   unfold AS.gv at ab
   split at ab
   ·rename_i hg;injection ab with ab;subst ab;simp [Region.wanted,hg]
   ·rename_i j a1 hg;exact Uj s hg ab
  rw [ax];cases c with
  |false=>
   rw [if_neg (by simp)];refine hK _ _ (z (s.putv hs ?_));unfold Fs
   split
   ·rename_i hg;simp [AS.gv,hg]at ab
   ·exact .whn _ _ _ (fun hf=>(by cases hf)) fun _ =>rfl
  |true=>
   rw [if_pos rfl];have aj:=s.evc hf rfl
   have bl:a.eval f=.func (.func bf) #[] #[]:=by
    generalize a.eval f=y at aj;cases aj with
    |pur aj=>cases aj with
     |fn=>rfl
   obtain⟨h1,h2⟩:=Fx s rfl ha;unfold Oper.wp;rw [Hq ho bl bc hb hn]
   have ah:=hc rfl w (Fb N0 μ S) (args.toList.map a.eval) s.below s.own_lt (by simp [h1]) (fun j x v hx hv=>by
    simp only [Bc,A0]at hx;obtain⟨y,hy,rfl⟩:=hx;exact(h2 j y v hy hv).pureV (Aw.1 hp v (Ay hv)))
   have a0:(args.toList.map a.eval).toArray=args.map a.eval:=by apply Ej;simp
   rw [a0]at ah;refine ah.mono ?_;rintro e w'⟨x,r,rfl,rfl,a7,bp⟩;refine hK _ _ (z ((s.later bp).putv hs ?_));unfold Fs
   split
   ·exact .pur a7
   ·exact .whn _ _ _ (fun _ =>.pur a7) (fun hf=>(by cases hf))
 ·have hw:Region.wanted o (yielded ops.toArray a.tmps)=true:=by simp [Region.wanted,hg]
  rw [if_pos hw];obtain⟨w',a5,n,ar,am,bn,bh,a9⟩:=Afb (s.evc hm rfl) (s.evc hx rfl) (s.evc hv rfl) hu ht
  have a6:¬Fb N0 μ S b:=by
   have:=s.evc hm rfl;rw [ar]at this;cases this with
   |pur hp=>cases hp with
    |mp _ _ _ _ _ _ hN=>exact hN
  unfold Oper.wp
  have ai:(execOp a.eval o).run P w=.ok .skip w':=by
   unfold execOp;rw [ho];simp only [Sem.run_bind,a5,Result.andThen_ok,Sem.run_pure]
  rw [ai];refine hK _ _ ⟨μ,?_⟩;have a8:a.put o.dst undef=a:=by rw [hd];rfl
  rw [a8];have bq:∀g,Fb N0 μ { S with env:=Ql (V.mset b k ((q,u)::es)) S.env} g↔Fb N0 μ S g:=fun g=>Iff.rfl
  refine⟨s.defers,s.size,⟨bn.trans s.below.os,bh.trans s.below.tape,a9.trans s.below.output,by rw [n.size];exact s.below.size,fun j hj hx=>(n.other j (fun e=>by subst e;rcases bm with h|h;omega;exact hx h)).trans (s.below.block j hj hx)⟩,s.n0,fun d v hv=>(s.fresh d v hv).imp id (fun⟨j,hj,e⟩=>⟨j,.inl hj,e⟩),fun d1 o1 h1=>?_,s.inj,fun t1 v1 h1=>?_⟩
  ·obtain⟨l,hl,ak⟩:=s.objs d1 o1 h1;refine⟨l,hl,?_⟩;cases l with
   |none=>exact ak
   |some gc=>
    obtain⟨b1,b2,b3,b4,bj,b5,b6,b7⟩:=ak
    have bg:gc.1≠b:=by
     rintro rfl;obtain⟨bt,c1,a4⟩:=n.was;rw [b5]at a4;cases a4
    refine⟨b1,b2,b3,b4,bj,(n.other _ bg).trans b5,b6,fun k e j c he hj=>?_⟩;obtain⟨y,hy,bo⟩:=b7 k e j c he hj;exact⟨y,hy,bo.mapTurn n (J9 ((b4 e (Ay he)).2 c (Ay hj)))⟩
  ·simp only [Q2,A0]at h1;obtain⟨v0,h1,rfl⟩:=h1;obtain⟨h2,h3⟩:=s.env t1 v0 h1;refine⟨h2,?_⟩;have ae:v0.okM=true:=ba t1 v0 h1;generalize a.tmps.getD t1 undef=tv at h3;cases v0 with
   |mp b' k' m'=>
    simp only [V.mset];cases h3 with
    |pur h3=>
     cases h3 with
     |mp _ _ _ aw au g2 av ao aq af ay Pm an=>
      by_cases aa:b'=b
      ·subst aa;simp only [if_true];rw [<- ar];exact .pur (am _ a6)
      ·simp only [aa,if_false];exact .pur (.mp b' k' m' aw au g2 av ((n.other _ aa).trans ao) aq af ay Pm (fun c v hc=>(an c v hc).of_flat0 (af c v hc).2))
   |rm b' k' m'=>
    simp only [V.mset];cases h3 with
    |pur h3=>
     cases h3 with
     |rm ad _ _ _ a3 az bi h4=>
     obtain⟨a2,_⟩:=n.cell bi;cases h4 with
     |mp _ _ _ aw au g2 av ao aq af ay Pm an=>
      by_cases aa:b'=b
      ·subst aa;simp only [if_true];refine .pur (.rm ad b' k _ (by rw [n.size];exact a3) az a2 ?_);have h5:=am _ a6;rw [ar]at h5;exact h5
      ·simp only [aa,if_false];exact .pur (.rm ad b' k' m' (by rw [n.size];exact a3) az a2 (.mp b' k' m' aw au g2 av ((n.other _ aa).trans ao) aq af ay Pm (fun c v hc=>(an c v hc).of_flat0 (af c v hc).2)))
   |tup vs=>
    simp only [V.mset]
    have ag:∀xs:List Value,xs.length=vs.length->(∀(i:Nat)x c,xs[i]? =some x->vs[i]? =some c->Enc w (Fb N0 μ S) μ x c)->Enc w' (Fb N0 μ S) μ (.tuple xs.toArray) (.tup vs):=fun xs hl hh=>
     .tup xs vs hl (fun i x c h1 h2=>(hh i x c h1 h2).mapTurn n (Aw.1 ae c (Ay h2)))
    cases h3 with
    |pur h3=>cases h3 with
     |tup xs _ hl hh=>exact ag xs hl (fun i x c a b=>.pur (hh i x c a b))
    |tup xs _ hl hh=>exact ag xs hl hh
   |whn c0 v1=>
    simp only [V.mset];cases h3 with
    |pur h3=>cases h3
    |whn _ _ _ hh bk=>
     refine .whn _ _ _ (fun bb=>?_) bk;have h4:=hh bb;cases v1 with
     |tup vs=>
      have ag:∀xs:List Value,xs.length=vs.length->(∀(i:Nat)x c,xs[i]? =some x->vs[i]? =some c->Enc w (Fb N0 μ S) μ x c)->Enc w' (Fb N0 μ S) μ (.tuple xs.toArray) (.tup vs):=fun xs hl hh=>
       .tup xs vs hl (fun i x c h1 h2=>(hh i x c h1 h2).mapTurn n (Aw.1 ae c (Ay h2)))
      cases h4 with
      |pur h4=>cases h4 with
       |tup xs _ hl hh=>exact ag xs hl (fun i x c a b=>.pur (hh i x c a b))
      |tup xs _ hl hh=>exact ag xs hl hh
     |_ =>exact h4.mapTurn n (by first|rfl|exact ae)
   |_ =>exact h3.mapTurn n (by first|rfl|exact ae)
theorem Ao4{S S':AS}{ops:List Oper}{i:Nat}{o:Oper}{c:List Oper}(hs:Rq P kb w0 ops i o S S')(h:Jj P w0 N0 ops Q (i+1) c S'):Jj P w0 N0 ops Q i (o::c) S:=by
 intro D a w f k;have l:¬D i:=fun m=>absurd (f i m) om
 refine wpList_step fun K g=>Wa k l hs (fun n w' e=>g _ _ (h _ n w' (fun j d=>?_) e))
 rcases d with d|d
 ·have:=f j d;omega
 ·omega
def AS.ap(S:AS)(dst:Option Nat)(u:V)(O:List (Nat × Ob)):AS:={ S with env:=(match dst with|some d=>(d,u)::S.env|none=>S.env),objs:=O++S.objs}
theorem J0{S S':AS}{dst:Option Nat}{u:V}(h:S.putv dst u=some S'):S'=S.ap dst u []/\∀d,dst=some d->d<S.nt:=by
 unfold AS.putv at h
 split at h
 ·split at h
  ·rename_i c;injection h with h;subst h;exact⟨rfl,fun d' a=>by injection a with a;subst a;exact c⟩
  ·cases h
 ·injection h with h;subst h;exact⟨rfl,fun d c=>by cases c⟩
theorem K4{S:AS}{dst:Option Nat}(u:V)(h:∀d,dst=some d->d<S.nt):S.putv dst u=some (S.ap dst u []):=by
 unfold AS.putv;cases dst with
 |none=>rfl
 |some d=>simp only [h d rfl,if_true];rfl
def Mw(ops:List Oper)(o:Oper)(S T:AS):Prop:=(∀t∈o.looksAt ops.toArray,get S.env t=get T.env t)/\S.nt=T.nt/\S.nx=T.nx
theorem Mw.ev{ops:List Oper}{o:Oper}{S T:AS}(h:Mw ops o S T){x:Operand}(a:x∈o.op.operands):S.ev x=T.ev x:=by
 cases x with
 |tmp t=>
  refine h.1 t ?_;unfold Oper.looksAt;refine I2 _ (List.mem_filterMap.2 ⟨.tmp t,by simpa using a,rfl⟩)
 |_ =>rfl
theorem Mw.evc{ops:List Oper}{o:Oper}{S T:AS}(h:Mw ops o S T){x:Operand}(a:x∈o.op.operands)(c:Bool):S.evc c x=T.evc c x:=by
 unfold AS.evc;rw [h.ev a]
theorem Mw.gv{ops:List Oper}{o:Oper}{S T:AS}(h:Mw ops o S T):S.gv ops o=T.gv ops o:=by
 unfold AS.gv
 split
 ·rfl
 ·rename_i j a c;unfold AS.gd;cases ho:ops[j]? with
  |none=>rfl
  |some e=>
   simp only;cases hd:e.dst with
   |none=>rfl
   |some d=>
    simp only
    have:=h.1 d (by
     unfold Oper.looksAt;refine List.mem_append_right _ ?_;rw [c];simp [ho,hd])
    rw [this]
theorem Zb{S T:AS}{c:Bool}:∀ {l:List (Nat × Operand)},(∀p∈l,S.evc c p.2=T.evc c p.2)->S.evs c l=T.evs c l
 | [],_ =>rfl
 |(i,x)::r,h=>by
  simp only [AS.evs];rw [h (i,x) sm,Zb (fun p hp=>h p (by simp [hp]))]
theorem I6{S T:AS}{c:Bool}:∀ {l:List Operand},(∀x∈l,S.evc c x=T.evc c x)->S.args c l=T.args c l
 | [],_ =>rfl
 |x::r,h=>by
  simp only [AS.args];rw [h x sm,I6 (fun p hp=>h p (by simp [hp]))]
theorem Age{S T:AS}{c:Bool}{x:Option Operand}(h:∀y,x=some y->S.evc c y=T.evc c y):S.evo c x=T.evo c x:=by
 cases x with
 |none=>rfl
 |some y=>simp only [AS.evo];rw [h y rfl]
theorem Wb{ops:List Oper}{o:Oper}{S T:AS}(h:Mw ops o S T){c:Bool}{v:V}(aa:Nh o.op=true->∀p r,S.place p=some r->T.place p=some r)(a:V5 P S c o.op=some v):V5 P T c o.op=some v:=by
 have d:=fun x(u:x∈o.op.operands)(c:Bool)=>h.evc u c
 clear h;generalize o.op=op at*;cases op<;>simp only [V5]at a|-<;>(try(cases a;done))
 case move x=>rw [<- d x (by simp [Op.operands])];exact a
 case assign x=>rw [<- d x (by simp [Op.operands])];exact a
 case pick x y z=>simp only [<- d x (by simp [Op.operands]),<- d y (by simp [Op.operands]),<- d z (by simp [Op.operands])];exact a
 case load t x=>
  rw [<- d x (by simp [Op.operands])]
  split at a
  ·exact a
  ·rename_i p ab hp;split at a
   case h_2=>cases a
   rename_i e off n g h1 h2 h3;simp only [aa rfl _ _ h1,h2,h3];exact a
  ·cases a
 case nilCheck x=>rw [<- d x (by simp [Op.operands])];exact a
 case binOp op t x y yt=>rw [<- d x (by simp [Op.operands]),<- d y (by simp [Op.operands])];exact a
 case unOp op t x=>rw [<- d x (by simp [Op.operands])];exact a
 case convert src dst x=>rw [<- d x (by simp [Op.operands])];exact a
 case fieldAddr t x f=>rw [<- d x (by simp [Op.operands])];exact a
 case field t x f=>rw [<- d x (by simp [Op.operands])];exact a
 case indexAddr t x i=>rw [<- d x (by simp [Op.operands]),<- d i (by simp [Op.operands])];exact a
 case index t x i=>rw [<- d x (by simp [Op.operands]),<- d i (by simp [Op.operands])];exact a
 case extract x i=>rw [<- d x (by simp [Op.operands])];exact a
 case makeInterface t x=>rw [<- d x (by simp [Op.operands])];exact a
 case typeAssert x xt at_ ok=>rw [<- d x (by simp [Op.operands])];exact a
 case makeFunc fv first caps=>
  cases fv with
  |func f=>
   simp only at a|-;rw [<- I6 (S:=S) (T:=T) (c:=c) (l:=first.toList) (fun x u=>d x (by simp [Op.operands];left;simpa using u) c),<- I6 (S:=S) (T:=T) (c:=c) (l:=caps.toList) (fun x u=>d x (by simp [Op.operands];right;simpa using u) c)];exact a
  |_ =>simp only at a;cases a
 case lookup t x i ok=>rw [<- d x (by simp [Op.operands]),<- d i (by simp [Op.operands])];exact a
 case slice t x lo hi mx=>
  cases mx with
  |some m=>simp only at a;cases a
  |none=>
   simp only at a|-;rw [<- d x (by simp [Op.operands]),<- Age (S:=S) (T:=T) (c:=c) (x:=lo) (fun y w=>d y (by simp [Op.operands,w]) c),<- Age (S:=S) (T:=T) (c:=c) (x:=hi) (fun y w=>d y (by simp [Op.operands,w]) c)];exact a
 case build t parts=>
  rw [<- Zb (S:=S) (T:=T) (c:=c) (l:=parts.toList) (fun p hp=>d p.2 (by simp [Op.operands];exact⟨p.1,by simpa using hp⟩) c)];exact a
 case call cl=>
  obtain⟨j,args,s⟩:=cl;cases j with
  |value f=>cases a
  |invoke r m=>cases a
  |builtin b=>
  cases b<;>simp only at a|-<;>try(cases a;done)
  case min=>
   split at a
   case h_2=>cases a
   rename_i x y k;rw [<- d x (by simp [Op.operands,Call.operands];rw [<- Gw,k];simp),<- d y (by simp [Op.operands,Call.operands];rw [<- Gw,k];simp)];exact a
  case max=>
   split at a
   case h_2=>cases a
   rename_i x y k;rw [<- d x (by simp [Op.operands,Call.operands];rw [<- Gw,k];simp),<- d y (by simp [Op.operands,Call.operands];rw [<- Gw,k];simp)];exact a
  split at a
  case h_2=>cases a
  rename_i x t k ht;rw [<- d x (by simp [Op.operands,Call.operands];rw [<- Gw,k];simp)];exact a
theorem Mw.symm{ops:List Oper}{o:Oper}{S T:AS}(h:Mw ops o S T):Mw ops o T S:=⟨fun t a=>(h.1 t a).symm,h.2.1.symm,h.2.2.symm⟩
theorem Atu{ops:List Oper}{o:Oper}{S T:AS}(h:Mw ops o S T){c:Bool}(a:S.fb c o.op=true)(d:V5 P S c o.op=none):V5 P T c o.op=none/\T.fb c o.op=true:=by
 cases hl:Nh o.op with
 |false=>
  refine⟨?_,?_⟩
  ·cases hT:V5 P T c o.op with
   |none=>rfl
   |some v=>
    have:=Wb h.symm (fun g=>by rw [hl]at g;cases g) hT;rw [d]at this;cases this
  ·generalize o.op=op at*;cases op<;>first|rfl|simp [Nh]at hl
 |true=>
  have i:=fun x(e:x∈o.op.operands)(c:Bool)=>h.evc e c
  generalize o.op=op at*;cases op<;>first|(simp [Nh]at hl;done)|skip
  case load t x=>
  have e:=i x (by simp [Op.operands]) c;simp only [AS.fb]at a|-;simp only [V5];rw [<- e];refine⟨?_,a⟩
  split
  ·rename_i b k m hp;simp only [V5,hp]at d;exact d
  ·rename_i p f hp;rw [hp]at a;cases p<;>first|(simp at a;done)|rfl|exact absurd rfl (f _ _ _)
  ·rfl
theorem Ta{S T:AS}(h:∀d,get S.objs d=get T.objs d)(p:V):S.elems p=T.elems p:=by
 cases p<;>simp only [AS.elems]<;>rw [h]
theorem Ko{S T:AS}(h:∀d,get S.objs d=get T.objs d)(p:V):S.place p=T.place p:=by
 cases p<;>simp only [AS.place]<;>rw [h]
theorem P9{ops:List Oper}{o:Oper}{S T:AS}(h:Mw ops o S T)(ab:∀d,get S.objs d=get T.objs d){i kd:Nat}{O:List (Nat × Ob)}{v:V}(a:Xa P i S o.dst kd o.op=some (O,v)):
  ∃d ob,O=(d,ob)::S.objs/\Xa P i T o.dst kd o.op=some ((d,ob)::T.objs,v)/\(Mv o.op=true->o.dst.isSome=true/\d=kd):=by
 have he:=fun x(hx:x∈o.op.operands)(c:Bool)=>h.evc hx c
 have j:=h.2.2;clear h;generalize o.op=op,o.dst=dst at*;cases op<;>simp only [Xa]at a|-<;>(try(cases a;done))
 case alloc t=>
  split at a
  case h_2=>cases a
  rename_i d z n h1 h2;simp only [Au,B0]at a;obtain⟨rfl,rfl⟩:=a;exact⟨kd,_,rfl,by simp only [j],fun _ =>⟨rfl,rfl⟩⟩
 case box t x=>
  split at a
  case h_2=>cases a
  rename_i d z h2;split at a
  case isFalse=>cases a
  rename_i ai;simp only [Au,B0]at a;obtain⟨rfl,rfl⟩:=a;rw [he x (by simp [Op.operands])]at h2;exact⟨kd,_,rfl,by simp only [h2,ai,if_true,j],fun _ =>⟨rfl,rfl⟩⟩
 case buildSlice t len parts=>
  split at a
  case h_2=>cases a
  rename_i d te vs h2 w;split at a
  case h_2=>cases a
  rename_i z n h4 h5;split at a
  case isFalse=>cases a
  rename_i h6;split at a
  case h_2=>cases a
  rename_i es h7;simp only [Au,B0]at a;obtain⟨rfl,rfl⟩:=a;rw [Zb (S:=S) (T:=T) (c:=true) (l:=parts.toList) (fun p hp=>he p.2 (by simp [Op.operands];exact⟨p.1,by simpa using hp⟩) true)]at w;exact⟨kd,_,rfl,by simp only [h2,w,h4,h5,if_pos h6,h7,j],fun _ =>⟨rfl,rfl⟩⟩
 case makeSlice t l c=>
  split at a
  case h_2=>cases a
  rename_i d te k1 lv k2 cv h2 w h4;split at a
  case h_2=>cases a
  rename_i z n b h5 h6 h7;split at a
  case isFalse=>cases a
  rename_i h8;simp only [Au,B0]at a;obtain⟨rfl,rfl⟩:=a;rw [he l (by simp [Op.operands])]at w;rw [he c (by simp [Op.operands])]at h4;exact⟨kd,_,rfl,by simp only [h2,w,h4,h5,h6,h7,if_pos h8,j],fun _ =>⟨rfl,rfl⟩⟩
 case store t x y=>
  split at a
  case h_2=>cases a
  rename_i d v' sz k off u n h1 h2 w;split at a
  case h_2=>cases a
  rename_i ob g;split at a
  case isFalse=>cases a
  rename_i h4;split at a
  case h_2=>cases a
  rename_i e h5;split at a
  case isFalse=>cases a
  rename_i h6;simp only [Au,B0]at a;obtain⟨rfl,rfl⟩:=a;rw [he x (by simp [Op.operands])]at h1;rw [he y (by simp [Op.operands])]at h2;rw [ab]at g;exact⟨d,_,rfl,by simp only [h1,h2,w,g,if_pos h4,h5,if_pos h6],fun hm=>by simp [Mv]at hm⟩
 case call cl=>
  obtain⟨ad,args,ae⟩:=cl;cases ad with
  |value f=>cases a
  |invoke r m=>cases a
  |builtin b=>
  cases b<;>simp only at a|-<;>try(cases a;done)
  split at a
  case h_2=>cases a
  rename_i s x t t' dd ha ht;have ag:=he s (by simp [Op.operands,Call.operands];rw [<- Gw,ha];simp) true;have af:=he x (by simp [Op.operands,Call.operands];rw [<- Gw,ha];simp) true
  split at a
  ·rename_i aa;split at a
   case h_2=>cases a
   rename_i sv xv te h1 h2 w;split at a
   case h_2=>cases a
   rename_i ak aj n b h4 h5 h6;rw [ag]at h1;rw [af]at h2;rw [Ta ab]at h4
   split at a
   ·rename_i d v' sz len;split at a
    case h_2=>cases a
    rename_i ob g;split at a
    case isFalse=>cases a
    rename_i hb;simp only [Au,B0]at a;obtain⟨rfl,rfl⟩:=a;rw [ab]at g;exact⟨d,_,rfl,by simp only [if_pos aa,h1,h2,w,h4,h5,h6,g,if_pos hb,j],fun hm=>by simp [Mv]at hm⟩
   ·split at a
    case isFalse=>cases a
    rename_i hb;simp only [Au,B0]at a;obtain⟨rfl,rfl⟩:=a;exact⟨kd,_,rfl,by simp only [if_pos aa,h1,h2,w,h4,h5,h6,if_pos hb,j],fun hm=>by simp [Mv]at hm⟩
   ·cases a
  ·rename_i aa;split at a
   case isFalse=>cases a
   rename_i ah;split at a
   case h_2=>cases a
   rename_i sv l te h1 h2 w;split at a
   case h_2=>cases a
   rename_i h5;rw [ag]at h1;rw [af]at h2
   split at a
   ·rename_i d v' sz len;split at a
    case h_2=>cases a
    rename_i ob g;split at a
    case isFalse=>cases a
    rename_i hb;simp only [Au,B0]at a;obtain⟨rfl,rfl⟩:=a;rw [ab]at g;exact⟨d,_,rfl,by simp only [if_neg aa,if_pos ah,h1,h2,w,h5,g,if_pos hb,j],fun hm=>by simp [Mv]at hm⟩
   ·split at a
    case isFalse=>cases a
    rename_i hb;simp only [Au,B0]at a;obtain⟨rfl,rfl⟩:=a;exact⟨kd,_,rfl,by simp only [if_neg aa,if_pos ah,h1,h2,w,h5,if_pos hb,j],fun hm=>by simp [Mv]at hm⟩
   ·cases a
theorem Agf{d:Op}(h:Ov d=false)(i:Nat)(S:AS)(dst:Option Nat)(e:Nat):Xa P i S dst e d=none:=by
 cases d<;>first|rfl|(simp [Ov]at h;done)|skip
 case call cl=>
  obtain⟨a,args,c⟩:=cl;cases a with
  |value f=>rfl
  |invoke r m=>rfl
  |builtin b=>cases b<;>first|rfl|simp [Ov]at h
theorem Axt{e:Op}(h:Ov e=true)(S:AS)(c:Bool):V5 P S c e=none:=by
 cases e<;>first|rfl|(simp [Ov]at h;done)|skip
 case call cl=>
  obtain⟨a,args,d⟩:=cl;cases a with
  |value f=>rfl
  |invoke r m=>rfl
  |builtin b=>cases b<;>first|rfl|simp [Ov]at h
theorem Un{ops:List Oper}{i:Nat}{o:Oper}{S S':AS}(hs:Rq P kb w0 ops i o S S')(g:Q1 o.op=false\/o.guard≠none):
  ∃u O,S'=S.ap o.dst u O/\(Ov o.op=false->O= [])/\(Mv o.op=true->∀d ob,(d,ob)∈O->∃e,o.dst=some e/\d=kb+e)/\
   ∀T,Mw ops o S T->(Ov o.op=true->∀d,get S.objs d=get T.objs d)->(Nh o.op=true->∀p r,S.place p=some r->T.place p=some r)->Rq P kb w0 ops i o T (T.ap o.dst u O):=by
 rcases hs with hs|⟨c,f,args,av,ar,fn,vs,ae,aw,ho,hf,ak,hb,hn,ha,hp,hc,hs⟩|⟨t,m,x,v,b,k,es,q,u,e,n,y,ho,_⟩
 ·have ax:=hs;unfold L6 at hs
  split at hs
  ·rename_i n
   split at hs
   ·rename_i v hv;obtain⟨h1,h2⟩:=J0 hs;refine⟨v,[],h1,fun _ =>rfl,fun _ d ob s=>(by simp at s),fun T a _ w=>.inl ?_⟩;unfold L6;rw [n];simp only [Wb a w hv];exact K4 v (fun d y=>by rw [<- a.2.1];exact h2 d y)
   ·rename_i hv
    have l:Ov o.op=true:=by
     cases h0:Ov o.op with
     |true=>rfl
     |false=>
      unfold Ae8 at hs;rw [Agf h0]at hs;cases hs
    unfold Ae8 at hs;split at hs
    case h_2=>cases hs
    rename_i O v h;obtain⟨h1,h2⟩:=J0 hs;obtain⟨d,ob,rfl,_,aj⟩:=P9 (ops:=ops) (T:=S) ⟨fun _ _ =>rfl,rfl,rfl⟩ (fun _ =>rfl) h
    refine⟨v,[(d,ob)],by rw [h1];rfl,fun h0=>(by rw [l]at h0;cases h0),fun s d' ag z=>?_,fun T a ah _ =>.inl ?_⟩
    ·simp at z;obtain⟨m1,m2⟩:=aj s;obtain⟨e,he⟩:=Cm.1 m1;exact⟨e,he,by rw [z.1,m2,he];rfl⟩
    ·unfold L6;rw [n];simp only [Axt l];obtain⟨d',ag,he,am,_⟩:=P9 a (ah l) h;injection he with he _;injection he with he1 he2;subst he1;subst he2;unfold Ae8;simp only [am]
     have an:∀d1,o.dst=some d1->d1<({ T with objs:=(d,ob)::T.objs}:AS).nt:=fun d1 al=>by
      have:=h2 d1 al;simp only at this|-;rw [<- a.2.1];exact this
     have:=K4 (S:={ T with objs:=(d,ob)::T.objs}) v an;rw [this];rfl
  ·rename_i j ab n;split at hs
   case h_2=>cases hs
   rename_i c hc;have aa:S.gv ops o=some c:=by simp only [AS.gv,n];exact hc
   split at hs
   ·rename_i v hv;obtain⟨h1,h2⟩:=J0 hs;refine⟨.whn c v,[],h1,fun _ =>rfl,fun _ d ob s=>(by simp at s),fun T a _ w=>.inl ?_⟩;have ad:T.gd ops j ab=some c:=by have:=a.gv;rw [aa]at this;simp only [AS.gv,n]at this;exact this.symm
    unfold L6;rw [n];simp only [ad,Wb a w hv];exact K4 _ (fun d y=>by rw [<- a.2.1];exact h2 d y)
   ·rename_i hv;split at hs
    case isFalse=>cases hs
    rename_i ao;obtain⟨rfl,aq⟩:=ao;obtain⟨h1,h2⟩:=J0 hs;refine⟨.whn false (.bool true),[],h1,fun _ =>rfl,fun _ d ob s=>(by simp at s),fun T a _ w=>?_⟩;have ad:T.gd ops j ab=some false:=by have:=a.gv;rw [aa]at this;simp only [AS.gv,n]at this;exact this.symm
    obtain⟨au,ai⟩:=Atu a aq hv;refine .inl ?_;unfold L6;rw [n];simp only [ad,au,ai,and_self,if_true];exact K4 _ (fun d y=>by rw [<- a.2.1];exact h2 d y)
 ·obtain⟨h1,h2⟩:=J0 hs;refine⟨Fs o c ae,[],h1,fun _ =>rfl,fun _ d ob s=>(by simp at s),fun T a _ _ =>.inr (.inl ?_)⟩
  have af:∀x∈args.toList,x∈o.op.operands:=fun x hx=>by
   rw [ho];simp [Op.operands,Call.operands]
   right;simpa using hx
  refine⟨c,f,args,av,ar,fn,vs,ae,by rw [<- a.gv];exact aw,ho,?_,ak,hb,hn,?_,hp,hc,K4 _ (fun d y=>by rw [<- a.2.1];exact h2 d y)⟩
  ·rw [<- a.evc (by rw [ho];simp [Op.operands,Call.operands])];exact hf
  ·rw [<- I6 (S:=S) (T:=T) (fun x hx=>a.evc (af x hx) c)];exact ha
 ·rcases g with g|g
  ·rw [ho]at g;cases g
  ·exact absurd n g
end
def AS.eqv(S T:AS):Prop:=(∀t,get S.env t=get T.env t)/\(∀d,get S.objs d=get T.objs d)/\S.nx=T.nx/\S.nt=T.nt
theorem AS.eqv.le{S T:AS}(h:S.eqv T):S.le T:=Um h.2.2.2.symm (by rw [h.2.2.1];exact A9 _) (fun t v a=>by rw [h.1];exact a) (fun d o c=>by rw [h.2.1];exact c)
theorem Acn{α:Type}{l r:List (Nat × α)}(h:∀t,get l t=get r t):∀(O:List (Nat × α))(t:Nat),get (O++l) t=get (O++r) t
 | [],t=>h t
 |(k,x)::O,t=>by
  simp only [Ch,C7];rw [Acn h O t]
theorem Ao5{S T:AS}(h:S.eqv T)(dst:Option Nat)(u:V)(O:List (Nat × Ob)):(S.ap dst u O).eqv (T.ap dst u O):=by
 refine⟨fun t=>?_,fun d=>Acn h.2.1 O d,h.2.2.1,h.2.2.2⟩;cases dst with
 |none=>exact h.1 t
 |some d=>simp only [AS.ap,C7];rw [h.1 t]
section
variable {P:Program}{kb:Nat}{w0:Bs}{N0:Nat->Prop}{Q:Exit->AS->Prop}
theorem Ao6{a:Op}(h:Ov a=false):Q1 a=false:=by cases a<;>first|rfl|simp [Ov]at h
theorem Ak2:∀ {l:List (Nat × V)},Aih l=true->∀t v,get l t=some v->v.okM=true
 | [],_,t,v,h=>by simp [get]at h
 |(k,x)::l,c,t,v,a=>by
  simp only [Aih,Bk]at c;rw [C7]at a
  split at a
  ·injection a with a;subst a;exact c.1
  ·exact Ak2 c.2 t v a
theorem Ak3{ops:List Oper}{i:Nat}{o:Oper}{S S' T:AS}(hs:Rq P kb w0 ops i o S S')(h:S.eqv T):∃T',Rq P kb w0 ops i o T T'/\S'.eqv T':=by
 by_cases j:Q1 o.op=false\/o.guard≠none
 ·obtain⟨u,O,rfl,_,_,d⟩:=Un hs j;exact⟨_,d T ⟨fun t _ =>h.1 t,h.2.2.2,h.2.2.1⟩ (fun _ =>h.2.1) (fun _ p r hp=>by rw [<- Ko (S:=S) (T:=T) h.2.1];exact hp),Ao5 h _ _ _⟩
 ·have a:∀x,S.evc true x=T.evc true x:=fun x=>by
   have:S.ev x=T.ev x:=by
    cases x with
    |tmp t=>exact h.1 t
    |_ =>rfl
   unfold AS.evc;rw [this]
  rcases hs with hs|⟨c,f,args,ab,_,_,_,_,_,y,_⟩|⟨t,m,x,v,b,k,es,q,u,e,l,hd,y,z,hx,w,hu,ht,n,aa,rfl⟩
  ·exfalso
   have s:o.guard=none:=by
    cases l:o.guard with
    |none=>rfl
    |some p=>exact absurd (.inr (by rw [l];simp)) j
   have g:¬Q1 o.op=false:=fun h=>j (.inl h)
   cases hop:o.op<;>rw [hop]at g<;>first|(exact g rfl)|skip
   unfold L6 at hs;rw [s]at hs;simp only [hop,V5,Ae8,Xa]at hs;cases hs
  ·exact absurd (.inl (by rw [y];rfl)) j
  ·refine⟨{ T with env:=Ql (V.mset b k ((q,u)::es)) T.env},.inr (.inr ⟨t,m,x,v,b,k,es,q,u,e,l,hd,y,by rw [<- a];exact z,by rw [<- a];exact hx,by rw [<- a];exact w,hu,ht,n,fun t v w=>aa t v (by rw [h.1];exact w),rfl⟩),fun t=>?_,h.2.1,h.2.2.1,h.2.2.2⟩;rw [Q2,Q2,h.1]
def Si(P:Program)(kb:Nat)(w0:Bs)(ops:List Oper)(K:AS->Prop):Nat->Array Bool->AS->Prop
 |0,a,S=>Region.ready .any ops.toArray a= []/\K S
 |n+1,a,S=>(Region.ready .any ops.toArray a= []->K S)/\∀i∈Region.ready .any ops.toArray a,∃o S',ops[i]? =some o/\Rq P kb w0 ops i o S S'/\Si P kb w0 ops K n (a.setIfInBounds i true) S'
theorem Arq{ops:List Oper}{K:AS->Prop}(e:∀S T,S.eqv T->K S->K T):∀(n:Nat)(a:Array Bool)(S T:AS),S.eqv T->Si P kb w0 ops K n a S->Si P kb w0 ops K n a T
 |0,_,_,_,h,d=>⟨d.1,e _ _ h d.2⟩
 |n+1,a,S,T,h,d=>⟨fun l=>e _ _ h (d.1 l),fun i j=>by
  obtain⟨o,S',g,hs,c⟩:=d.2 i j;obtain⟨f,m,k⟩:=Ak3 hs h;exact⟨o,f,g,m,Arq e n _ S' f k c⟩⟩
theorem Zc{ops:List Oper}{K:AS->Prop}(t:∀S a w,K S->Pd (fun j=>j<ops.length) w0 N0 S a w->post w0 N0 Q .normal a w):∀(n:Nat)(c:Array Bool)(S:AS)(a:Act)(w:World),c.size=ops.length->
  Pd (fun j=>c.getD j false=true) w0 N0 S a w->Si P kb w0 ops K n c S->wpAny P .any ops.toArray (post w0 N0 Q) n c a w
 |0,c,S,a,w,r,e,m=>by
  obtain⟨μ,e⟩:=e;refine⟨m.1,t S a w m.2 ⟨μ,e.more (fun j d=>?_)⟩⟩
  rcases De j c.size with h|h
  ·omega
  ·simp [Cu h]at d
 |n+1,c,S,a,w,r,e,m=>by
  refine⟨fun h0=>?_,fun i z=>?_⟩
  ·obtain⟨μ,e⟩:=e;refine t S a w (m.1 h0) ⟨μ,e.more (fun j d=>?_)⟩
   rcases De j c.size with h|h
   ·omega
   ·simp [Cu h]at d
  ·obtain⟨o,S',ho,hs,k⟩:=m.2 i z;have l:=(mem_ready.1 z).1
   have g:i<c.size:=by
    rcases De i c.size with h|h
    ·exact h
    ·simp [Cu h]at l
   have u:¬(c.getD i false=true):=by
    intro h1;simp [g]at l h1;rw [l]at h1;cases h1
   unfold wpOp;have x:ops.toArray[i]? =some o:=by simpa using ho
   simp only [x]
   have:=Wa (P:=P) e u hs (K:=wpAny P .any ops.toArray (post w0 N0 Q) n (c.setIfInBounds i true)) (Q':=post w0 N0 Q) (fun a' w' f=>by
    obtain⟨μ',f⟩:=f;refine Zc t n _ S' a' w' (by simpa using r) ⟨μ',f.more (fun j d=>?_)⟩ k
    rcases d with d|d
    ·by_cases s:i=j
     ·subst s;simp [g]
     ·rw [getD_set_ne false s];exact d
    ·subst d;simp [g])
   split
   ·rename_i y;rw [if_pos y]at this;exact .inl this
   ·rename_i y;rw [if_neg y]at this;exact this
def blk(ops:List Oper)(a:Array Bool)(i:Nat):List Nat:=
 (List.range ops.length).foldl (fun B j=>if a.getD j true then B else(match ops[j]? with
  |some c=>if c.after.any (fun e=>Region.binds .any e&&(e.on==i||B.contains e.on))then j::B else B
  |none=>B)) []
def Axu(ops:List Oper)(a:Array Bool)(i:Nat)(B:List Nat):Bool:=
 B.all fun j=> !a.getD j true&&(match ops[j]? with
  |some c=>c.after.any (fun e=>Region.binds .any e&&(e.on==i||B.contains e.on))
  |none=>false)
def Aij(ops:List Oper)(a:Array Bool)(i:Nat)(d:Oper):Bool:=
 Axu ops a i (blk ops a i)&&(List.range ops.length).all fun j=>j==i||a.getD j true||(match ops[j]? with
  |some c=>(blk ops a i).contains j||(d.apart ops.toArray c&& !Q1 c.op&&(!Nh d.op|| !Ov c.op||Mv c.op))
  |none=>true)
def Ak4(ops:List Oper)(a:Array Bool)(i:Nat)(B:List Nat):Prop:=
 ∀j∈B,a.getD j true=false/\∃c,ops[j]? =some c/\∃e∈c.after,Region.binds .any e=true/\(e.on=i\/e.on∈B)
theorem Aco{ops:List Oper}{a:Array Bool}{i:Nat}{B:List Nat}(h:Axu ops a i B=true):Ak4 ops a i B:=by
 intro j g;have h1:=Aw.1 h j g;simp only [Bk,I3]at h1;refine⟨h1.1,?_⟩;have h2:=h1.2
 split at h2
 ·rename_i f c;obtain⟨e,k,d⟩:=Array.any_eq_true'.1 h2;simp only [Bk,Hc,beq_iff_eq]at d;exact⟨f,c,e,k,d.1,d.2.imp id (fun h=>by simpa using h)⟩
 ·cases h2
def Zd(ops:List Oper):Bool:=(List.range ops.length).all fun j=>(List.range ops.length).all fun k=>j==k||(match ops[j]?,ops[k]? with
 |some a,some ok=> !Mv a.op|| !Mv ok.op||a.dst != ok.dst
 |_,_ =>true)
theorem Agh{ops:List Oper}(h:Zd ops=true){j k:Nat}{a ok:Oper}(e:ops[j]? =some a)(d:ops[k]? =some ok)(f:Mv a.op=true)(c:Mv ok.op=true)(g:a.dst=ok.dst):j=k:=by
 have h1:=Aw.1 (Aw.1 h j (Hv.2 (Ap.1 e).1)) k (Hv.2 (Ap.1 d).1);simp only [e,d,f,c,g,Qx,bne_self_eq_false,Bool.or_false,beq_iff_eq]at h1;exact h1
theorem Xf{ops:List Oper}{a:Array Bool}{i:Nat}{e:Oper}(h:Aij ops a i e=true):∃B,Ak4 ops a i B/\∀j c,ops[j]? =some c->j≠i->a.getD j true=false->j∉B->
  e.apart ops.toArray c=true/\(Nh e.op=true->Ov c.op=true->Mv c.op=true)/\Q1 c.op=false:=by
 unfold Aij at h;rw [Bk]at h;refine⟨blk ops a i,Aco h.1,?_⟩;intro j c l f g d;have k:j<ops.length:=(Ap.1 l).1;have h1:=Aw.1 h.2 j (Hv.2 k);simp only [l,g,Bool.or_false,Hc,beq_iff_eq,Bk]at h1
 rcases h1 with h1|h1|h1
 ·exact absurd h1 f
 ·exact absurd (by simpa using h1) d
 ·refine⟨h1.1.1,fun n m=>?_,by simpa using h1.1.2⟩
  rcases h1.2 with(h2|h2)|h2
  ·simp [n]at h2
  ·simp [m]at h2
  ·exact h2
theorem Agi{ops:List Oper}{K:AS->Prop}(hK:∀S T,S.eqv T->K S->K T){i:Nat}{m:Oper}(hi:ops[i]? =some m)(hq:Ov m.op=false)(a7:Zd ops=true)(B:List Nat):
  ∀(n:Nat)(a:Array Bool)(S S1:AS),Ak4 ops a i B->
   (∀j oj,ops[j]? =some oj->j≠i->a.getD j true=false->j∉B->m.apart ops.toArray oj=true/\(Nh m.op=true->Ov oj.op=true->Mv oj.op=true)/\Q1 oj.op=false)->
   (Nh m.op=true->∀j oj d,ops[j]? =some oj->a.getD j true=false->Mv oj.op=true->oj.dst=some d->get S.objs (kb+d)=none)->
   i∈Region.ready .any ops.toArray a->Rq P kb w0 ops i m S S1->
   Si P kb w0 ops K n (a.setIfInBounds i true) S1->Si P kb w0 ops K (n+1) a S:=by
 intro n
 induction n with
 |zero=>
  intro a S S1 _ _ _ hr hs H;refine⟨fun h=>(by rw [h]at hr;cases hr),fun j hj=>?_⟩
  by_cases l:j=i
  ·subst l;exact⟨m,S1,hi,hs,H⟩
  ·have:=ready_mono hj l;rw [H.1]at this;cases this
 |succ n ih=>
  intro a S S1 hB ae au hr hs H;refine⟨fun h=>(by rw [h]at hr;cases hr),fun j hj=>?_⟩
  by_cases l:j=i
  ·subst l;exact⟨m,S1,hi,hs,H⟩
  ·obtain⟨oj,T',ab,am,w⟩:=H.2 j (ready_mono hj l);obtain⟨aa,c,a4,ax⟩:=mem_ready.1 hj
   have:c=oj:=by
    have h1:ops[j]? =some c:=by simpa using a4
    rw [ab]at h1;exact(Ix h1).symm
   subst this;have a0:=(mem_ready.1 hr).1
   have aj:∀k,a.getD k true=false->∀e∈c.after,Region.binds .any e=true->e.on≠k:=fun k hk e he hb ai=>by
    have h1:=ax e he hb;rw [ai]at h1
    rcases De k a.size with h'|h'
    ·simp [h']at hk h1;rw [hk]at h1;cases h1
    ·simp [Cu h']at h1
   have ak:j∉B:=fun a8=>by
    obtain⟨_,oq,av,e,he,hb,af⟩:=hB j a8;have:oq=c:=by rw [ab]at av;exact(Ix av).symm
    subst this
    rcases af with af|af
    ·exact aj i a0 e he hb af
    ·exact aj e.on (hB e.on af).1 e he hb rfl
   obtain⟨a9,ag,ay⟩:=ae j c ab l aa ak;obtain⟨a1,a2,a3⟩:=Oper.apart_spec a9;obtain⟨u,O,rfl,hO,_,ao⟩:=Un hs (.inl (Ao6 hq));have bd:=hO hq;subst bd;obtain⟨u2,s,rfl,ah,z,o⟩:=Un am (.inl ay)
   have aq:Rq P kb w0 ops j c S (S.ap c.dst u2 s):=by
    refine o S ⟨fun t ht=>?_,rfl,rfl⟩ (fun _ d=>rfl) (fun _ p r hp=>by rw [<- Ko (S:=S.ap c.dst u2 [] |>.ap none u2 []) (T:=S) (fun d=>rfl)];rw [Ko (S:=S.ap m.dst u []) (T:=S.ap c.dst u2 [] |>.ap none u2 []) (fun d=>rfl)]at hp;exact hp);cases hd:m.dst with
    |none=>rfl
    |some d=>
     simp only [AS.ap,C7];rw [if_neg (fun e=>a1 d hd (by rw [e];exact ht))]
   have y:Nh m.op=true->∀p r,S.place p=some r->(S.ap c.dst u2 s).place p=some r:=by
    intro hl p r hp;cases hact:Ov c.op with
    |false=>
     rw [ah hact];rw [<- Ko (S:=S) (T:=S.ap c.dst u2 []) (fun d=>rfl)];exact hp
    |true=>
     have hm:=ag hl hact
     have hk:∀d,get S.objs d≠none->get (S.ap c.dst u2 s).objs d=get S.objs d:=by
      intro d hd
      have f:∀ob,(d,ob)∉s:=fun ob g=>by
       obtain⟨e,he,an⟩:=z hm d ob g;exact hd (by rw [an];exact au hl j c e ab aa hm he)
      show get (s++S.objs) d=get S.objs d
      clear z o am w aq ah
      induction s with
      |nil=>rfl
      |cons q s ar=>
       obtain⟨k,ob⟩:=q;simp only [Ch,C7];rw [if_neg (fun e=>f ob (by rw [e];simp))];exact ar (fun al g=>f al (by simp [g]))
     cases p<;>simp only [AS.place]at hp|-<;>try(first|exact hp|(cases hp;done))
     rename_i d v sz k off;cases hg:get S.objs d with
     |none=>rw [hg]at hp;cases hp
     |some ob=>
      rw [hk d (by rw [hg];simp)];exact hp
   have az:Rq P kb w0 ops i m (S.ap c.dst u2 s) ((S.ap c.dst u2 s).ap m.dst u []):=by
    refine ao _ ⟨fun t ht=>?_,rfl,rfl⟩ (fun h0=>by rw [hq]at h0;cases h0) y;cases hd:c.dst with
    |none=>rfl
    |some d=>
     simp only [AS.ap,C7];rw [if_neg (fun e=>a3 d hd (by rw [e];exact ht))]
   have ai:((S.ap m.dst u []).ap c.dst u2 s).eqv ((S.ap c.dst u2 s).ap m.dst u []):=by
    refine⟨fun t=>?_,fun d=>rfl,rfl,rfl⟩;cases hd1:m.dst with
    |none=>rfl
    |some d1=>
     cases hd2:c.dst with
     |none=>rfl
     |some d2=>
      have bf:d2≠d1:=fun e=>a2 d1 hd1 (by rw [hd2,e])
      simp only [AS.ap,C7];by_cases h1:d1=t<;>by_cases h2:d2=t<;>simp [h1,h2];exact absurd (h2.trans h1.symm) bf
   refine⟨c,_,ab,aq,ih (a.setIfInBounds j true) _ _ (fun k hk=>by
    have x:j≠k:=by rintro rfl;exact ak hk
    exact⟨by rw [getD_set_ne true x];exact(hB k hk).1,(hB k hk).2⟩) (fun k ok hk be ad bc=>ae k ok hk be ?_ bc) (fun hl k ok d hk ad hm hd=>?_) (ready_mono hr (Y2 l)) az ?_⟩
   ·by_cases x:j=k
    ·subst x;exact aa
    ·rw [getD_set_ne true x]at ad;exact ad
   ·have x:j≠k:=by
     rintro rfl
     have bb:j<a.size:=by
      rcases De j a.size with h|h
      ·exact h
      ·simp [Cu h]at aa
     simp [bb]at ad
    have a5:a.getD k true=false:=by rwa [getD_set_ne true x]at ad
    have h0:=au hl k ok d hk a5 hm hd;show get (s++S.objs) (kb+d)=none
    cases hact:Ov c.op with
    |false=>rw [ah hact];exact h0
    |true=>
     have aw:=ag hl hact
     have f:∀ob,(kb+d,ob)∉s:=fun ob g=>by
      obtain⟨e,a6,an⟩:=z aw _ ob g;have ba:d=e:=Nat.add_left_cancel an;exact x (Agh a7 ab hk aw hm (by rw [a6,hd,ba]))
     clear z o am w aq ah y az ai
     induction s with
     |nil=>exact h0
     |cons q s ar=>
      obtain⟨k',ob⟩:=q;simp only [Ch,C7];rw [if_neg (fun e=>f ob (by rw [e];simp))];exact ar (fun al g=>f al (by simp [g]))
   ·rw [Array.setIfInBounds_comm _ _ l];exact Arq hK n _ _ _ ai w
theorem Ak5{ops:List Oper}{K:AS->Prop}{n i:Nat}{o:Oper}{a:Array Bool}{S S':AS}(f:ops[i]? =some o)(c:Region.ready .any ops.toArray a= [i])(hs:Rq P kb w0 ops i o S S')(h:Si P kb w0 ops K n (a.setIfInBounds i true) S'):Si P kb w0 ops K (n+1) a S:=by
 refine⟨fun e=>(by rw [c]at e;cases e),fun j d=>?_⟩;rw [c]at d;have:j=i:=by simpa using d
 subst this;exact⟨o,S',f,hs,h⟩
def Abh(ops:List Oper)(a:Array Bool)(i:Nat)(ks:List Nat):Bool:=
 match ops[i]? with
 |some o=>(!Ov o.op&&(Region.ready .any ops.toArray a).contains i&&Aij ops a i o&&(!Nh o.op||(List.range ops.length).all fun j=>a.getD j true||(match ops[j]? with
   |some c=> !Mv c.op||(match c.dst with|some d=>ks.contains d|none=>true)
   |none=>true)))||(Region.ready .any ops.toArray a== [i])
 |none=>false
def K5(ops:List Oper):Array Bool->List (Nat × List Nat)->Bool
 |a,[]=>(Region.ready .any ops.toArray a).isEmpty
 |a,(i,ks)::l=>Abh ops a i ks&&K5 ops (a.setIfInBounds i true) l
def AWO(P:Program)(kb:Nat)(w0:Bs)(ops:List Oper)(Q:Exit->AS->Prop):List (Nat × List Nat)->AS->Prop
 | [],S=>∃S',({ S with nx:=S.nx+ops.length}:AS).le S'/\Q .normal S'
 |(i,ks)::l,S=>∃o S',ops[i]? =some o/\(ks.all fun d=>(get S.objs (kb+d)).isNone)=true/\Rq P kb w0 ops i o S S'/\AWO P kb w0 ops Q l S'
theorem Arr{ops:List Oper}(z:Zd ops=true):∀(l:List (Nat × List Nat))(a:Array Bool)(S:AS),K5 ops a l=true->AWO P kb w0 ops Q l S->
  Si P kb w0 ops (fun S=>∃S',({ S with nx:=S.nx+ops.length}:AS).le S'/\Q .normal S') l.length a S
 | [],a,S,f,h=>⟨by simpa [K5]using f,h⟩
 |(i,ks)::l,a,S,f,h=>by
  simp only [K5,Bk]at f;obtain⟨o,S',u,y,hs,c⟩:=h;have ih:=Arr z l _ S' f.2 c;have k:=f.1;unfold Abh at k;simp only [u,Hc,Bk,beq_iff_eq]at k
  rcases k with⟨⟨⟨h1,h2⟩,h3⟩,g⟩|k
  ·obtain⟨B,hB,e⟩:=Xf h3
   refine Agi ?_ u (by simpa using h1) z B l.length a S S' hB e (fun hl j oj d hj s r hd=>?_) (by simpa using h2) hs ih
   ·rintro S T n⟨S2,m,x⟩;have w:({ T with nx:=T.nx+ops.length}:AS).eqv { S with nx:=S.nx+ops.length}:=⟨fun t=>(n.1 t).symm,fun d=>(n.2.1 d).symm,by simp only;rw [n.2.2.1],n.2.2.2.symm⟩;exact⟨S2,AS.le_trans w.le m,x⟩
   ·rcases g with g|g
    ·simp [hl]at g
    ·have m:=Aw.1 g j (Hv.2 (Ap.1 hj).1);simp only [s,hj,r,hd,Qx,Oa]at m;have x:=Aw.1 y d (by simpa using m);simpa using x
  ·exact Ak5 u k hs ih
theorem Ak6{id:Nat}{l:List Oper}{S:AS}(kb:Nat)(f:List (Nat × List Nat))(s:P.follows .mixedOrders=true)(i:(K5 l (Array.replicate l.length false) f&&(Zd l&&f.length==l.length))=true)(h:AWO P kb w0 l Q f S):AW P w0 N0 (.region id l.toArray true) Q S:=by
 simp only [Bk,beq_iff_eq]at i;obtain⟨i,o,r⟩:=i;rintro a w⟨μ,c⟩;refine wp_region_any s ?_;have k:l.toArray.size=l.length:=sm;rw [k];have g:=Arr o f _ S i h;rw [r]at g
 refine Zc (K:=fun S=>∃S',({ S with nx:=S.nx+l.length}:AS).le S'/\Q .normal S') ?_ l.length _ S a _ sm ⟨μ,?_⟩ g
 ·rintro S a w⟨S',h1,h2⟩⟨μ,c⟩;refine⟨S',h2,h1 _ _ _ _ ⟨μ,⟨c.defers,c.size,c.below,c.n0,fun d v n=>?_,c.objs,c.inj,c.env⟩⟩⟩
  rcases c.fresh d v n with h3|⟨j,m,e⟩
  ·exact .inl sy
  ·exact .inl sy
 ·have:=c.drew;exact this.more fun j m=>m.elim
theorem C5{id:Nat}{l:List Oper}{S:AS}(a:List (Nat × List Nat))(d:P.follows .mixedOrders=true)(c:(K5 l (Array.replicate l.length false) a&&(Zd l&&a.length==l.length))=true)(h:AWO P 0 w0 l Q a S):AW P w0 N0 (.region id l.toArray true) Q S:=Ak6 0 a d c h
def Ni(P:Program)(kb:Nat)(ops:List Oper):List (Nat × List Nat)->AS->Option AS
 | [],S=>some S
 |(i,ks)::l,S=>match G8 ops i with
  |some o=>if(ks.all fun d=>(get S.objs (kb+d)).isNone)=true then(match L6 P kb ops i o S with
   |some S'=>Ni P kb ops l S'
   |none=>none)else none
  |none=>none
theorem Aik{ops:List Oper}:∀ {l:List (Nat × List Nat)}{S c S':AS},Ni P kb ops l S=some c->({ c with nx:=c.nx+ops.length}:AS).le S'->Q .normal S'->AWO P kb w0 ops Q l S
 | [],S,c,S',hs,a,h=>by
  simp only [Ni,Au]at hs;subst hs;exact⟨S',a,h⟩
 |(i,ks)::l,S,c,S',hs,a,h=>by
  simp only [Ni]at hs;split at hs
  case h_2=>cases hs
  rename_i o e;split at hs
  case isFalse=>cases hs
  rename_i d;split at hs
  case h_2=>cases hs
  rename_i f h2;rw [C0]at e;exact⟨o,f,e,d,.inl h2,Aik hs a h⟩
end
end Go.Eng
set_option linter.unusedSimpArgs false
namespace Go.Eng
def A94(P:Program)(ops:List Oper)(l:List (Nat × List Nat))(S:AS):Option AS:=Ni P 0 ops l S
attribute [simp] A94 Ni AS.gv Fs
def Ak7(P:Program)(kb:Nat)(l:List Oper)(a:List (Nat × List Nat))(L M:List Nat)(S:AS):Option AS:=
 match Ni P kb l a S with
 |some S'=>some ((S'.bump l.length).keep L M)
 |none=>none
def Axv(P:Program)(l:List Oper)(a:List (Nat × List Nat))(L M:List Nat)(S:AS):Option AS:=Ak7 P 0 l a L M S
attribute [simp] Axv Ak7
section
variable {P:Program}{kb:Nat}{w0:Bs}{N0:Nat->Prop}{Q:Exit->AS->Prop}{S:AS}
theorem Axw{id:Nat}{l:List Oper}{S':AS}(kb:Nat)(a:List (Nat × List Nat))(L M:List Nat)(d:P.follows .mixedOrders=true)(c:(K5 l (Array.replicate l.length false) a&&(Zd l&&a.length==l.length))=true)(hs:Ak7 P kb l a L M S=some S')(h:Q .normal S'):
  AW P w0 N0 (.region id l.toArray true) Q S:=by
 unfold Ak7 at hs;split at hs
 case h_2=>cases hs
 rename_i S1 h1;injection hs with hs;subst hs;exact Ak6 kb a d c (Aik h1 (L1 _ L M) h)
theorem Rr{id:Nat}{l:List Oper}{S':AS}(a:List (Nat × List Nat))(L M:List Nat)(d:P.follows .mixedOrders=true)(c:(K5 l (Array.replicate l.length false) a&&(Zd l&&a.length==l.length))=true)(hs:Axv P l a L M S=some S')(h:Q .normal S'):
  AW P w0 N0 (.region id l.toArray true) Q S:=Axw 0 a L M d c hs h
theorem Dq{id:Nat}{l:List Oper}{c:Code}{S':AS}(a:List (Nat × List Nat))(L M:List Nat)(e:P.follows .mixedOrders=true)(d:(K5 l (Array.replicate l.length false) a&&(Zd l&&a.length==l.length))=true)(hs:Axv P l a L M S=some S')(h:AW P w0 N0 c Q S'):
  AW P w0 N0 (.seq (.region id l.toArray true) c) Q S:=Ab (Rr a L M e d hs h)
theorem Ars{ops:List Oper}:∀ {e l2:List (Nat × List Nat)}{S a:AS},Ni P kb ops e S=some a->AWO P kb w0 ops Q l2 a->AWO P kb w0 ops Q (e++l2) S
 | [],l2,S,a,hs,h=>by
  simp only [Ni,Au]at hs;subst hs;exact h
 |(i,ks)::l,l2,S,a,hs,h=>by
  simp only [Ni]at hs;split at hs
  case h_2=>cases hs
  rename_i o d;split at hs
  case isFalse=>cases hs
  rename_i c;split at hs
  case h_2=>cases hs
  rename_i f h2;rw [C0]at d;exact⟨o,f,d,c,.inl h2,Ars hs h⟩
theorem Cf{ops:List Oper}{l:List (Nat × List Nat)}{a:AS}(n:Nat)(hs:A94 P ops (l.take n) S=some a)(h:AWO P 0 w0 ops Q (l.drop n) a):AWO P 0 w0 ops Q l S:=by
 have:=Ars (kb:=0) (l2:=l.drop n) hs h
 rwa [Gi]at this
theorem C6{ops:List Oper}{l:List (Nat × List Nat)}{S':AS}(L M:List Nat)(hs:Axv P ops l L M S=some S')(h:Q .normal S'):AWO P 0 w0 ops Q l S:=by
 unfold Axv Ak7 at hs;split at hs
 case h_2=>cases hs
 rename_i S1 h1;injection hs with hs;subst hs;exact Aik h1 (L1 _ L M) h
theorem Bu{ops:List Oper}{i:Nat}{ks:List Nat}{l:List (Nat × List Nat)}{o:Oper}{c:Bool}{f:Operand}{a:FuncId}{fn:Func}{args:Array Operand}{g:Array TypeId}{vs:List V}{e:V}{S':AS}
  (t:c=true->AC P a vs (fun r=>r=e))(k:P.funcs[a]? =some fn)(y:fn.body.isSome=true)(s:(fn.name== "runtime.NumGoroutine")=false)(m:G8 ops i=some o)(j:(ks.all fun d=>(get S.objs (0+d)).isNone)=true)
  (n:S.gv ops o=some c)(u:o.op=.call { callee:=.value f,args:=args,argTypes:=g})(x:S.evc c f=some (.fn a))(w:S.args c args.toList=some vs)(hp:vs.all V.pureV=true)(hs:S.putv o.dst (Fs o c e)=some S')(h:AWO P 0 w0 ops Q l S'):AWO P 0 w0 ops Q ((i,ks)::l) S:=by
 rw [C0]at m;exact⟨o,S',m,j,.inr (.inl ⟨c,f,args,g,a,fn,vs,e,n,u,x,k,y,s,w,hp,fun h=>(t h).b,hs⟩),h⟩
theorem Db{ops:List Oper}{i:Nat}{o:Oper}{d:List Oper}{c:Bool}{f:Operand}{a:FuncId}{fn:Func}{args:Array Operand}{g:Array TypeId}{vs:List V}{e:V}{S':AS}
  (m:c=true->AC P a vs (fun r=>r=e))(j:P.funcs[a]? =some fn)(u:fn.body.isSome=true)(l:(fn.name== "runtime.NumGoroutine")=false)
  (k:S.gv ops o=some c)(n:o.op=.call { callee:=.value f,args:=args,argTypes:=g})(t:S.evc c f=some (.fn a))(s:S.args c args.toList=some vs)(hp:vs.all V.pureV=true)(hs:S.putv o.dst (Fs o c e)=some S')(h:Jj P w0 N0 ops Q (i+1) d S'):Jj P w0 N0 ops Q i (o::d) S:=
 Ao4 (kb:=0) (.inr (.inl ⟨c,f,args,g,a,fn,vs,e,k,n,t,j,u,l,s,hp,fun h=>(m h).b,hs⟩)) h
theorem Br{c:Code}(h:Nat->Nat->AS)(a:Nat->Prop)(n:Nat)(g:Nat)(o:a 0)(l:S.le (h 0 g))
  (f:∀k nx,k<=n->a k->AW P w0 N0 c (Akx (fun S'=>k<n/\a (k+1)/\∃d,S'.le (h (k+1) d)) Q) (h k nx)):AW P w0 N0 (.loop c) Q S:=by
 refine Di (fun x:Nat × Nat=>h x.1 x.2) (fun x=>x.1<=n/\a x.1) (fun x=>n-x.1) (0,g) ⟨B4 _,o⟩ l ?_;rintro⟨k,nx⟩⟨m,r⟩;refine(f k nx m r).mono ?_;intro e T i;cases e with
 |normal=>
  obtain⟨h1,h2,d,j⟩:=i;exact⟨(k+1,d),⟨h1,h2⟩,by simp only;omega,j⟩
 |_ =>exact i
end
end Go.Eng
set_option linter.unusedSimpArgs false
namespace Go.Eng
open Go.RowKit
def AS.adoptS(S:AS)(t d sz:Nat)(ty:TypeId):AS:={ S with env:=(t,.sl d S.nx sz 0)::S.env,objs:=(d,⟨S.nx,sz,ty,[]⟩)::S.objs,nx:=S.nx+1}
def AS.adoptC(S:AS)(k i d sz:Nat)(ty:TypeId):Option AS:=
 match get S.objs k with
 |some o=>match o.es with
  | [.agg cs]=>match G8 cs i with
   |some .nils=>if k=d then none else some { S with objs:=(k,{ o with es:=[.agg (cs.set i (.sl d S.nx sz 0))]})::(d,⟨S.nx,sz,ty,[]⟩)::S.objs,nx:=S.nx+1}
   |_ =>none
  |_ =>none
 |none=>none
section
variable {P:Program}{w0:Bs}{N0:Nat->Prop}{Q:Exit->AS->Prop}{S:AS}{μ:Mu}{a:Act}{w:World}
theorem RelM.addRow(h:RelM (fun _ =>False) w0 N0 μ S a w)(d sz:Nat)(ty:TypeId):
  RelM (fun _ =>False) w0 N0 (Jd μ d S.nx none) { S with objs:=(d,⟨S.nx,sz,ty,[]⟩)::S.objs,nx:=S.nx+1} a w:=by
 have f:=h.muSet_mono (i:=0) (fun o=>o) d none;have l:=h.muSet_fresh 0 d none;simp only [Dy]at f l
 obtain⟨k,_⟩:=h.update (D':=fun j=>False\/j=0) (d:=d) (o':=⟨S.nx,sz,ty,[]⟩) (l':=none) (w':=w) (μ':=Jd μ d S.nx none) f l (Dc _ _ _ _) h.below (Ef.refl _ _)
  (fun _ _ _ _ _ _ _ =>rfl) (fun g c e=>by cases e) (fun N' hN=>rfl)
 refine⟨k.defers,k.size,k.below,k.n0,fun d v n=>?_,k.objs,k.inj,k.env⟩
 rcases k.fresh d v n with h1|⟨j,m,e⟩
 ·exact .inl (by simp only at h1|-;omega)
 ·rcases m with m|m
  ·exact m.elim
  ·subst m;exact .inl (by simp only at e|-;omega)
theorem Atv{t d sz:Nat}{ty:TypeId}(g:get S.env t=some .nils):S.le (S.adoptS t d sz ty):=by
 rintro w0 N0 a w⟨μ,h⟩;have c:=h.addRow d sz ty;refine⟨_,⟨c.defers,c.size,c.below,c.n0,c.fresh,c.objs,c.inj,fun i v f=>?_⟩⟩;simp only [AS.adoptS,C7]at f
 split at f
 ·rename_i e;subst e;injection f with f;subst f;obtain⟨h1,h2⟩:=c.env t .nils g;refine⟨h1,?_⟩;generalize a.tmps.getD t undef=x at h2;cases h2 with
  |pur h2=>cases h2 with
   |nils A=>exact .slv d S.nx sz A (Dc _ _ _ _)
 ·exact c.env i v f
theorem Atw{k i d sz:Nat}{ty:TypeId}{S':AS}(hs:S.adoptC k i d sz ty=some S'):S.le S':=by
 unfold AS.adoptC at hs;split at hs
 case h_2=>cases hs
 rename_i o ho;split at hs
 case h_2=>cases hs
 rename_i cs s;split at hs
 case h_2=>cases hs
 rename_i hc;rw [C0]at hc;split at hs
 case isTrue=>cases hs
 rename_i aj;injection hs with hs;subst hs;rintro w0 N0 a w⟨μ,h⟩;have u:=h.addRow d sz ty;have z:get ((d,(⟨S.nx,sz,ty,[]⟩:Ob))::S.objs) k=some o:=by rw [C7,if_neg (fun e=>aj e.symm)];exact ho
 obtain⟨l,hl,ab⟩:=u.objs k o z;cases l with
 |none=>
  have:o.es= []:=ab;rw [s]at this;cases this
 |some gc=>
  obtain⟨g,ak⟩:=gc;obtain⟨o1,o2,o3,o4,ai,o5,o6,o7⟩:=ab
  have n:∀b,b<w.heap.size->Fb N0 (Jd μ d S.nx none) { S with objs:=(k,{ o with es:=[.agg (cs.set i (.sl d S.nx sz 0))]})::(d,⟨S.nx,sz,ty,[]⟩)::S.objs,nx:=S.nx+1} b->Fb N0 (Jd μ d S.nx none) { S with objs:=(d,⟨S.nx,sz,ty,[]⟩)::S.objs,nx:=S.nx+1} b:=by
   rintro b _(h0|⟨r,q,c,h1,h2⟩)
   ·exact .inl h0
   ·simp only [C7 k]at h1
    split at h1
    ·rename_i e;subst e;injection h1 with h1;subst h1;exact .inr ⟨k,o,c,z,h2⟩
    ·exact .inr ⟨r,q,c,h1,h2⟩
  have hk:=Ef.refl w (Fb N0 (Jd μ d S.nx none) { S with objs:=(d,⟨S.nx,sz,ty,[]⟩)::S.objs,nx:=S.nx+1});have ag:=o4 (.agg cs) (by rw [s];simp)
  refine⟨Jd μ d S.nx none,⟨u.defers,u.size,u.below,u.n0,u.fresh,fun r q f=>?_,fun r q d2 q2 g1 c1 c2 h1 h2 h3 h4=>?_,fun t v hv=>⟨(u.env t v hv).1,(u.env t v hv).2.keep hk n (fun _ _ _ hh=>hh)⟩⟩⟩
  ·simp only [C7 k]at f
   split at f
   ·rename_i e;subst e;injection f with f;subst f
    have ah:(V.agg (cs.set i (.sl d S.nx sz 0))).fits o.sz:=by
     refine⟨by have:=ag.1;simpa [V.cells]using this,fun c al=>?_⟩
     rcases Fg al with h1|h1
     ·exact ag.2 c h1
     ·subst h1;rfl
    refine⟨some (g,ak),hl,o1,by rw [s]at o2;exact o2,o3,fun e he=>by simp at he;subst he;exact ah,ai,o5,o6,fun k' e j c aa y=>?_⟩
    rcases k' with _ |k'
    ·simp at aa;subst aa;simp only [V.cells]at y
     by_cases ad:i=j
     ·subst ad;have am:i<cs.length:=(Ap.1 hc).1;rw [List.getElem?_set_self am]at y;injection y with y;subst y;obtain⟨x,hx,m⟩:=o7 0 (.agg cs) i .nils (by rw [s];rfl) hc;refine⟨x,hx,?_⟩;cases m with
      |pur m=>cases m with
       |nils A=>exact .slv d S.nx sz A (Dc _ _ _ _)
     ·rw [Hw ad]at y;obtain⟨x,hx,m⟩:=o7 0 (.agg cs) j c (by rw [s];rfl) y;exact⟨x,hx,m.keep hk n (fun _ _ _ hh=>hh)⟩
    ·simp at aa
   ·obtain⟨l1,an,ae⟩:=u.objs r q f;exact⟨l1,an,ae.keep hk n (fun _ _ _ hh=>hh) (fun _ _ _ =>rfl)⟩
  ·have af:∀r q c1,get ((k,({ o with es:=[.agg (cs.set i (.sl d S.nx sz 0))]}:Ob))::(d,(⟨S.nx,sz,ty,[]⟩:Ob))::S.objs) r=some q->Jd μ d S.nx none r q.v=some (some (g1,c1))->
     ∃q',get ((d,(⟨S.nx,sz,ty,[]⟩:Ob))::S.objs) r=some q'/\Jd μ d S.nx none r q'.v=some (some (g1,c1)):=by
    intro r q c1 f hm;rw [C7 k]at f
    split at f
    ·rename_i e;subst e;injection f with f;subst f;exact⟨o,z,hm⟩
    ·exact⟨q,f,hm⟩
   obtain⟨q1,a1,a2⟩:=af r q c1 h1 h3;obtain⟨q3,b1,b2⟩:=af d2 q2 c2 h2 h4;exact u.inj _ _ _ _ _ _ _ a1 b1 a2 b2
theorem Fp{c:Code}{S':AS}(t d sz:Nat)(ty:TypeId)(L M:List Nat)(e:get S.env t=some .nils)(a:(S.adoptS t d sz ty).keep L M=S')(h:AW P w0 N0 c Q S'):AW P w0 N0 c Q S:=by
 subst a;exact S7 (AS.le_trans (Atv e) (L1 _ L M)) h
def AS.adoptCK(S:AS)(k i d sz:Nat)(ty:TypeId)(L M:List Nat):Option AS:=
 match S.adoptC k i d sz ty with
 |some S'=>some (S'.keep L M)
 |none=>none
theorem Uo{c:Code}{S':AS}(k i d sz:Nat)(ty:TypeId)(L M:List Nat)(a:S.adoptCK k i d sz ty L M=some S')(h:AW P w0 N0 c Q S'):AW P w0 N0 c Q S:=by
 unfold AS.adoptCK at a;split at a
 case h_2=>cases a
 rename_i S1 h1;injection a with a;subst a;exact S7 (AS.le_trans (Atw h1) (L1 _ L M)) h
end
attribute [simp] AS.adoptS AS.adoptC AS.adoptCK
end Go.Eng
set_option linter.unusedSimpArgs false
namespace Go.Eng
open Go.RowKit Go.ChangeShapes Go.WideShapes
def Ze(P:Program):List Field->Nat->Nat->Bool
 | [],off,a=>off==a
 |f::r,off,a=>(f.offset==off)&&Ze P r (off+P.cellsOf f.type) a
def okT(P:Program):Nat->TypeId->Bool
 |0,_ =>false
 |n+1,t=>match P.underlying t with
  |some .bool|some (.int _)|some .string=>P.cellsOf t==1
  |some (.slice e)=>(P.cellsOf t==1)&&decide (0<P.cellsOf e)&&okT P n e
  |some (.struct a)=>Ze P a.toList 0 (P.cellsOf t)&&a.toList.all fun f=>okT P n f.type
  |_ =>false
def mkV(b:Option Bool)(cs:List V):V:=if b=some true then .agg cs else cs.headD .nils
def RdF(P:Program)(r:TypeId->List V->Prop):List Field->List V->Prop
 | [],vs=>vs= []
 |f::c,vs=>∃us a,vs=us++a/\r f.type us/\RdF P r c a
def Rd(P:Program):Nat->TypeId->List V->Prop
 |0,_,_ =>False
 |n+1,t,vs=>match P.underlying t with
  |some .bool=>∃b,vs= [.bool b]
  |some (.int k)=>∃i,vs= [.int k i]/\(Lit.int k i).wf=true
  |some .string=>∃l,vs= [.str l]/\l.length<=maxLen
  |some (.slice e)=>∃es:List (List V),vs= [.ro (P.cellsOf e) (es.map (mkV (Ex P e)))]/\es.length<=maxLen/\∀x∈es,Rd P n e x
  |some (.struct a)=>RdF P (Rd P n) a.toList vs
  |_ =>False
def Sp(w:World)(N:Nat->Prop)(cs:List Value)(vs:List V):Prop:=
 cs.length=vs.length/\∀(i:Nat)x v,cs[i]? =some x->vs[i]? =some v->Pur w N x v
theorem Sp.append{w:World}{N:Nat->Prop}{a b:List Value}{u v:List V}(h:Sp w N a u)(k:Sp w N b v):Sp w N (a++b) (u++v):=by
 refine⟨by simp [h.1,k.1],fun i x y c d=>?_⟩
 by_cases e:i<a.length
 ·rw [Bn e]at c;rw [Bn (by rw [<- h.1];exact e)]at d;exact h.2 i x y c d
 ·rw [Be Go.om]at c;rw [Be (by rw [<- h.1];omega),<- h.1]at d;exact k.2 _ x y c d
theorem Sp.one{w:World}{N:Nat->Prop}{x:Value}{v:V}(h:Pur w N x v):Sp w N [x] [v]:=by
 refine⟨rfl,fun i y u a c=>?_⟩
 rcases i with _ |i
 ·simp at a c;subst a;subst c;exact h
 ·simp at a
theorem Ail{α:Type}{p:Nat->α->Prop}:∀ {n:Nat},(∀i,i<n->∃y,p i y)->∃l:List α,l.length=n/\∀i y,l[i]? =some y->p i y
 |0,_ =>⟨[],rfl,by simp⟩
 |n+1,h=>by
  obtain⟨l,d,hp⟩:=Ail (n:=n) (fun i c=>h i om);obtain⟨y,e⟩:=h n om;refine⟨l++[y],by simp [d],fun i z a=>?_⟩
  by_cases c:i<l.length
  ·rw [Bn c]at a;exact hp i z a
  ·rw [Be Go.om]at a
   have:i-l.length=0:=by
    rcases h0:i-l.length with _ |k
    ·rfl
    ·rw [h0]at a;simp at a
   rw [this]at a;simp at a;subst a;have:i=n:=om;subst this;exact e
theorem Ao7{α β:Type}{f:α->β}:∀ {l:List β},(∀x∈l,∃y,x=f y)->∃l':List α,l=l'.map f
 | [],_ =>⟨[],rfl⟩
 |x::r,h=>by
  obtain⟨y,c⟩:=h x sm;obtain⟨l',a⟩:=Ao7 (fun x d=>h x (by simp [d]):∀x∈r,∃y,x=f y);exact⟨y::l',by simp [c,a]⟩
section
variable {H:Type}{enc:TypeId × Value->H}{P:Program}{w:World}{base:Nat}{spare:Nat->Bool}{held:Bool}
end
theorem Vq{H:Type}{a:TypeId × Value->H}{P:Program}{W g:World}(i:laidOutB P=true)(j:Below W.heap.size W g):∀ {ts:List TypeId}{vs:List Value}{c:List (DataW H)}{ps:List MemPlace},
  (∀t∈ts,P.readableRec t=true/\t<P.types.size)->DataW.TrodAll a P W 0 (fun _ =>true) true ts vs c ps->DataW.TrodAll a P g 0 (fun b=>decide (b<W.heap.size)) true ts vs c ps
 | [],vs,c,ps,_,h=>by
  obtain⟨rfl,rfl,rfl⟩:=trodAll_nil h;exact trodAll_mk0
 |t::ts,vs,c,ps,e,h=>by
  obtain⟨v,k,d,r,p,q,rfl,rfl,rfl,h1,h2⟩:=trodAll_cons h;have l:=h1;have f:∀x∈p,x.block<W.heap.size:=by obtain⟨m,o⟩:=l;exact DataW.trod_lt m _ _ _ o
  exact trodAll_cons_mk (Below.trod i (e t sm).1 (e t sm).2 h1 j f) (Vq i j (fun t n=>e t (by simp [n])) h2)
section
variable {P:Program}{n:Nat}{t e:TypeId}{k:IntKind}{vs:List V}{fs:Array Field}
theorem A3g(a:P.underlying t=some .bool)(h:Rd P n t vs):∃b,vs= [.bool b]:=by
 cases n with
 |zero=>exact h.elim
 |succ n=>unfold Rd at h;rw [a]at h;exact h
theorem Ao8(a:P.underlying t=some (.int k))(h:Rd P n t vs):∃i,vs= [.int k i]/\(Lit.int k i).wf=true:=by
 cases n with
 |zero=>exact h.elim
 |succ n=>unfold Rd at h;rw [a]at h;exact h
theorem A7k(a:P.underlying t=some .string)(h:Rd P n t vs):∃l,vs= [.str l]/\l.length<=maxLen:=by
 cases n with
 |zero=>exact h.elim
 |succ n=>unfold Rd at h;rw [a]at h;exact h
theorem Lt(a:P.underlying t=some (.slice e))(h:Rd P n t vs):∃es:List (List V),vs= [.ro (P.cellsOf e) (es.map (mkV (Ex P e)))]/\es.length<=maxLen/\∀x∈es,Rd P (n-1) e x:=by
 cases n with
 |zero=>exact h.elim
 |succ n=>unfold Rd at h;rw [a]at h;exact h
theorem G7(a:P.underlying t=some (.struct fs))(h:Rd P n t vs):RdF P (Rd P (n-1)) fs.toList vs:=by
 cases n with
 |zero=>exact h.elim
 |succ n=>unfold Rd at h;rw [a]at h;exact h
end
end Go.Eng
set_option linter.unusedSimpArgs false
namespace Go.Eng
open Go.RowKit
def ACO(P:Program)(f:FuncId)(args:List V)(sz:Nat)(ty:TypeId)(R:(Nat->Nat->V)->List V->Prop):Prop:=
 ∀(w:World)(N:Nat->Prop)(xs:List Value),(∀b,N b->b<w.heap.size)->xs.length=args.length->(∀(i:Nat)x v,xs[i]? =some x->args[i]? =some v->Pur w N x v)->
  Calls P f xs.toArray w (fun e w'=>∃x F es l,e=.returned x/\R F es/\Below w.heap.size w w'/\
   ∀d v μ N',μ d v=some l->Enc w' N' μ x (F d v)/\Wx w' N' μ ⟨w,fun _ =>False,fun _ _ =>none,[]⟩ ⟨v,sz,ty,es⟩ l)
def Lu(e:V):Bool:=e.cells.all V.flat
def V.reC(q vq d v:Nat):V->V
 | .sl c a sz len=>if c=q/\a=vq then .sl d v sz len else .sl c a sz len
 |u=>u
def V.re(q vq d v:Nat):V->V
 | .agg cs=>.agg (cs.map (V.reC q vq d v))
 |u=>u.reC q vq d v
def V.liteC(q vq:Nat):V->Bool
 | .sl c a _ _ =>(c==q)&&(a==vq)
 |u=>u.flat
def V.liteE(q vq:Nat):V->Bool
 | .agg cs=>cs.all (V.liteC q vq)
 |u=>u.liteC q vq
section
variable {P:Program}{w0:Bs}{N0:Nat->Prop}{Q:Exit->AS->Prop}{S:AS}
theorem Enc.reC{w:World}{N N':Nat->Prop}{μ μ':Mu}{q vq d v:Nat}{x:Value}{u:V}(h:Enc w N μ x u)(a:u.liteC q vq=true)(e:∀l,μ q vq=some l->μ' d v=some l):Enc w N' μ' x (u.reC q vq d v)/\(u.reC q vq d v).isCell=true:=by
 cases h with
 |pur h=>
  cases h with
  |bool b=>exact⟨.pur (.bool b),rfl⟩
  |int k n=>exact⟨.pur (.int k n),rfl⟩
  |str l=>exact⟨.pur (.str l),rfl⟩
  |nils A=>exact⟨.pur (.nils A),rfl⟩
  |fn f=>exact⟨.pur (.fn f),rfl⟩
  |nilp=>exact⟨.pur .nilp,rfl⟩
  |nili=>exact⟨.pur .nili,rfl⟩
  |nilf=>exact⟨.pur .nilf,rfl⟩
  |ifc t x v h1 h2=>exact⟨.pur (.ifc t x v h1 (h2.of_flat2 h1)),rfl⟩
  |agg|tup|ro|rp|mp|fc|dm|rm=>simp [V.liteC,V.flat]at a
 |slr o m sz len g c h1 h2 i=>
  simp only [V.liteC,Bk,beq_iff_eq]at a;obtain⟨rfl,rfl⟩:=a;simp only [V.reC,and_self,if_true];exact⟨.slr d v sz len g c (e _ h1) h2 i,rfl⟩
 |slv o m sz A h1=>
  simp only [V.liteC,Bk,beq_iff_eq]at a;obtain⟨rfl,rfl⟩:=a;simp only [V.reC,and_self,if_true];exact⟨.slv d v sz A (e _ h1),rfl⟩
 |ifc t x v j h=>exact⟨.pur ((Pur.ifc t x v a (h.flat2 j a)).of_flat a),rfl⟩
 |ss|bp|agg|tup|whn|clo=>simp [V.liteC,V.flat]at a
theorem Enc.re{w:World}{N N':Nat->Prop}{μ μ':Mu}{q vq d v:Nat}{x:Value}{u:V}(h:Enc w N μ x u)(m:u.liteE q vq=true)(n:∀l,μ q vq=some l->μ' d v=some l):Enc w N' μ' x (u.re q vq d v):=by
 have k:∀(xs:List Value)(cs:List V),xs.length=cs.length->(∀(i:Nat)x c,xs[i]? =some x->cs[i]? =some c->Enc w N μ x c)->cs.all (V.liteC q vq)=true->Enc w N' μ' (.agg xs.toArray) (.agg (cs.map (V.reC q vq d v))):=by
  intro xs cs h1 h2 f
  refine .agg xs _ (by simp [h1]) (fun c g=>?_) fun i x c s g=>?_
  ·simp only [Bm]at g;obtain⟨j,e,rfl⟩:=g;obtain⟨i,r⟩:=Co e;have o:i<xs.length:=by rw [h1];exact(Ap.1 r).1
   exact((h2 i xs[i] j (Al o) r).reC (N':=N') (Aw.1 f j e) n).2
  ·simp only [Bc,A0]at g;obtain⟨j,e,rfl⟩:=g;exact((h2 i x j s e).reC (Aw.1 f j (Ay e)) n).1
 cases u with
 |agg cs=>
  cases h with
  |pur h=>cases h with
   |agg xs _ h1 h2 f=>exact k xs cs h1 (fun i x c a b=>.pur (f i x c a b)) m
  |agg xs _ h1 h2 f=>exact k xs cs h1 f m
 |_ =>exact(h.reC m n).1
theorem Atx{ops:List Oper}{i:Nat}{o:Oper}{s:List Oper}{f:Operand}{r:FuncId}{fn:Func}{args:Array Operand}{ah:Array TypeId}{vs us:List V}{sz:Nat}{ty:TypeId}{R:(Nat->Nat->V)->List V->Prop}(d:Nat)
  (hg:o.guard=none)(ho:o.op=.call { callee:=.value f,args:=args,argTypes:=ah})(hf:S.evc true f=some (.fn r))(af:P.funcs[r]? =some fn)(hb:fn.body.isSome=true)(hn:(fn.name== "runtime.NumGoroutine")=false)
  (ha:S.args true args.toList=some vs)(hp:S.views vs=some us)(hc:ACO P r us sz ty R)
  (h:∀F es,R F es->∃S',({ S with objs:=(d,⟨S.nx+i,sz,ty,es⟩)::S.objs}:AS).putv o.dst (F d (S.nx+i))=some S'/\Jj P w0 N0 ops Q (i+1) s S'):Jj P w0 N0 ops Q i (o::s) S:=by
 rintro D a w hD⟨μ,k⟩;refine wpList_plain hg fun K hK=>?_
 have n:=k.evc hf rfl
 have ag:a.eval f=.func (.func r) #[] #[]:=by
  generalize a.eval f=y at n;cases n with
  |pur n=>cases n with
   |fn=>rfl
 obtain⟨h1,h2⟩:=Fx k rfl ha;obtain⟨h3,h4⟩:=Nn hp;unfold Oper.wp;rw [Hq ho ag af hb hn]
 have m:=hc w N0 (args.toList.map a.eval) (fun b hb=>B6 (k.n0.1 b hb).1 k.below.size) (by simp [h1,h3]) (fun j x v hx hv=>by
  simp only [Bc,A0]at hx;obtain⟨y,hy,rfl⟩:=hx;have z:j<vs.length:=by rw [<- h3];exact(Ap.1 hv).1
  exact k.view (h2 j y vs[j] hy (Al z)) (h4 j vs[j] v (Al z) hv))
 have ae:(args.toList.map a.eval).toArray=args.map a.eval:=by apply Ej;simp
 rw [ae]at m;refine m.mono ?_;rintro e w'⟨x,F,es,l,rfl,hR,aa,ab⟩;obtain⟨S',hs,t⟩:=h F es hR;have hi:¬D i:=fun hd=>absurd (hD i hd) om
 have u:=k.muSet_mono hi d l
 obtain⟨ad,_⟩:=k.update (D':=fun j=>D j\/j=i) (d:=d) (o':=⟨S.nx+i,sz,ty,es⟩) (l':=l) (w':=w') (μ':=Jd μ d (S.nx+i) l) u (k.muSet_fresh i d _) (Dc _ _ _ _)
  (k.below.trans (aa.mono k.below.size)) (Ef.of_below aa _) (fun d1 o1 g c _ h1 h2=>aa.block g (k.block_lt h1 h2))
  (fun g c e=>by
   have:=(ab d (S.nx+i) (Jd μ d (S.nx+i) l) (fun _ =>False) (Dc _ _ _ _)).2;rw [e]at this;exact .inl (this.1.elim id (fun h=>h.elim)))
  (fun N' _ =>by
   have:=(ab d (S.nx+i) (Jd μ d (S.nx+i) l) N' (Dc _ _ _ _)).2;cases l with
   |none=>exact this
   |some gc=>exact⟨.inl (Ai k.below.size (this.1.elim id (fun h=>h.elim))),this.2⟩)
 refine hK _ _ (t (fun j=>D j\/j=i) _ w' (fun j z=>?_) ⟨_,ad.putv hs (ab d (S.nx+i) _ _ (Dc _ _ _ _)).1⟩)
 rcases z with z|z
 ·have:=hD j z;omega
 ·omega
theorem L7{ops:List Oper}{i:Nat}{o:Oper}{a:List Oper}{f:Operand}{c:FuncId}{fn:Func}{args:Array Operand}{g:Array TypeId}{vs us:List V}{sz:Nat}{ty:TypeId}{F:Nat->Nat->V}{es:List V}{S':AS}(d:Nat)
  (m:ACO P c us sz ty (fun s e=>s=F/\e=es))(j:P.funcs[c]? =some fn)(u:fn.body.isSome=true)(l:(fn.name== "runtime.NumGoroutine")=false)
  (k:o.guard=none)(n:o.op=.call { callee:=.value f,args:=args,argTypes:=g})(t:S.evc true f=some (.fn c))
  (r:S.args true args.toList=some vs)(hp:S.views vs=some us)(hs:({ S with objs:=(d,⟨S.nx+i,sz,ty,es⟩)::S.objs}:AS).putv o.dst (F d (S.nx+i))=some S')
  (h:Jj P w0 N0 ops Q (i+1) a S'):Jj P w0 N0 ops Q i (o::a) S:=
 Atx d k n t j u l r hp m (fun _ _⟨h1,h2⟩=>by subst h1;subst h2;exact⟨S',hs,h⟩)
def Agj(P:Program)(S:AS):List ResultVar->Option (List V)
 | []=>some []
 |r::rs=>match Uk P S r,Agj P S rs with
  |some v,some vs=>some (v::vs)
  |_,_ =>none
def Agk(P:Program)(S:AS)(q vq:Nat)(rs:List ResultVar):Option (Nat->Nat->V):=
 match Agj P S rs with
 |some [v]=>if v.liteE q vq=true then some (fun d w=>v.re q vq d w)else none
 |some vs=>if vs.all (V.liteE q vq)=true then some (fun d w=>.tup (vs.map (V.re q vq d w)))else none
 |none=>none
def Axx(P:Program)(fn:Func)(sz:Nat)(ty:TypeId)(R:(Nat->Nat->V)->List V->Prop)(e:Exit)(S:AS):Prop:=
 (e=.ret\/e=.normal)/\((∃q o F,get S.objs q=some o/\o.sz=sz/\o.ty=ty/\o.es.all Lu=true/\Agk P S q o.v fn.results.toList=some F/\R F o.es)\/
  ∃F,Agk P S 0 (S.nx+1) fn.results.toList=some F/\R F [])
theorem Agl{D:Nat->Prop}{μ:Mu}{a:Act}{w:World}(h:RelM D w0 N0 μ S a w){fn:Func}{q vq:Nat}{F:Nat->Nat->V}(f:Agk P S q vq fn.results.toList=some F):
  ∃x,(results fn a.tmps).run P w=.ok x w/\∀d v(μ':Mu)N',(∀l,μ q vq=some l->μ' d v=some l)->Enc w N' μ' x (F d v):=by
 have n:∀(l:List ResultVar)(vs:List V),Agj P S l=some vs->∃xs:List Value,(l.mapM (Ro a.tmps)).run P w=.ok xs w/\
   xs.length=vs.length/\∀(i:Nat)x v,xs[i]? =some x->vs[i]? =some v->Enc w (Fb N0 μ S) μ x v:=by
  intro l
  induction l with
  |nil=>intro vs e;simp only [Agj,Au]at e;subst e;exact⟨[],rfl,rfl,by simp⟩
  |cons q l ih=>
   intro vs e;simp only [Agj]at e;split at e
   case h_2=>cases e
   rename_i v s h1 h2;injection e with e;subst e;obtain⟨x,z,r⟩:=S8 h h1;obtain⟨xs,j,k,hh⟩:=ih s h2
   refine⟨x::xs,?_,by simp [k],fun i y v o f=>?_⟩
   ·rw [M7,Sem.run_bind,z,Result.andThen_ok,Sem.run_bind,j,Result.andThen_ok];rfl
   ·rcases i with _ |i
    ·simp at o f;subst o;subst f;exact r
    ·simp at o f;exact hh i y v o f
 have g:∀xs:List Value,(fn.results.toList.mapM (Ro a.tmps)).run P w=.ok xs w->
   (results fn a.tmps).run P w=.ok (if h:xs.toArray.size=1 then xs.toArray[0]else .tuple xs.toArray) w:=by
  intro xs j;rw [Rp,Sem.run_bind,Hf,Sem.run_map,j];rfl
 unfold Agk at f
 split at f
 ·rename_i v e;split at f
  case isFalse=>cases f
  rename_i k;injection f with f;subst f;obtain⟨xs,h1,h2,u⟩:=n _ _ e
  match xs,h2 with
  | [x],_ =>exact⟨x,g [x] h1,fun d v' μ' N' t=>(u 0 x _ rfl rfl).re k t⟩
 ·rename_i vs aa e;split at f
  case isFalse=>cases f
  rename_i k;injection f with f;subst f;obtain⟨xs,h1,h2,u⟩:=n _ _ e
  refine⟨.tuple xs.toArray,?_,fun d v' μ' N' t=>.tup xs _ (by simp [h2]) (fun i x c z hc=>?_)⟩
  ·rw [g xs h1]
   have:¬xs.toArray.size=1:=by
    intro h0;have k:vs.length=1:=by simp at h0;omega
    match vs,k with
    | [v],_ =>exact aa v rfl
   rw [dif_neg this]
  ·simp only [Bc,A0]at hc;obtain⟨c0,m,rfl⟩:=hc;exact(u i x c0 z m).re (Aw.1 k c0 (Ay m)) t
 ·cases f
theorem Aty{f:FuncId}{fn:Func}{c:Code}{args:List V}{sz:Nat}{ty:TypeId}{R:(Nat->Nat->V)->List V->Prop}(hf:P.funcs[f]? =some fn)(hb:fn.body=some c)(hl:args.length<=fn.ntmps)
  (h:∀w0 N0,AW P w0 N0 c (Axx P fn sz ty R) ⟨P4 0 args,[],0,fn.ntmps⟩):ACO P f args sz ty R:=by
 intro w N xs hN ah hp
 refine calls_of_wp hf hb (wp_mono (h ⟨w,fun _ =>False,fun _ _ =>none,[]⟩ N _ w ⟨fun _ _ =>none,⟨rfl,?_,Bs.Below.refl _,⟨fun b hb=>⟨hN b hb,fun h=>h⟩,fun _ _ _ h=>by cases h⟩,fun d v hv=>absurd rfl hv,fun d o hd=>?_,fun d o _ _ _ _ _ hd=>?_,fun t v hv=>?_⟩⟩) ?_)
 ·simp only [Gz,C4,I1];omega
 ·simp [get]at hd
 ·simp [get]at hd
 ·obtain⟨_,h2⟩:=Q0 hv;simp only [J4]at h2;have ht:t<args.length:=(Ap.1 h2).1;refine⟨by simp only;omega,.pur ?_⟩;have n:xs[t]? =some xs[t]:=Al om;have:=hp t xs[t] v n h2
  have s:(xs.toArray++Array.replicate (fn.ntmps-xs.toArray.size) undef).getD t undef=xs[t]:=by
   rw [Dm,G5 (by simp;omega)];simp [n]
  rw [s]
  exact this.keep (Ef.refl _ _) (fun b hb ho=>by
   rcases ho with h0|⟨d,o,c,h1,_⟩
   ·exact h0
   ·simp [get]at h1)
 ·rintro e a' w'⟨S',⟨he,hE⟩,⟨μ,i⟩⟩
  have z:∃v,(results fn a'.tmps).run P w'=.ok v w'/\∃x F es l,Ending.returned v=.returned x/\R F es/\Below w.heap.size w w'/\
    ∀d v μ N',μ d v=some l->Enc w' N' μ x (F d v)/\Wx w' N' μ ⟨w,fun _ =>False,fun _ _ =>none,[]⟩ ⟨v,sz,ty,es⟩ l:=by
   rcases hE with⟨q,o,F,hq,ae,ag,ad,g,hR⟩|⟨F,g,hR⟩
   ·obtain⟨x,n,m⟩:=Agl i g;obtain⟨l,hl,r⟩:=i.objs q o hq
    refine⟨x,n,x,F,o.es,l,rfl,hR,i.below.plain,fun d v μ' N' hμ=>⟨m d v μ' N' (fun l' a=>?_),?_⟩⟩
    ·rw [hl]at a;injection a with a;subst a;exact hμ
    ·subst ae;subst ag;cases l with
     |none=>exact r
     |some gc=>
      obtain⟨h1,h2,h3,h4,ab,h5,h6,h7⟩:=r;refine⟨h1,h2,h3,h4,ab,h5,h6,fun k e j c u hj=>?_⟩;obtain⟨y,hy,af⟩:=h7 k e j c u hj;have aa:c.flat=true:=Aw.1 (Aw.1 ad e (Ay u)) c (Ay hj);refine⟨y,hy,?_⟩;exact .pur ((af.flatP aa).of_flat aa)
   ·obtain⟨x,n,m⟩:=Agl i g;refine⟨x,n,x,F,[],none,rfl,hR,i.below.plain,fun d v μ' N' hμ=>⟨m d v μ' N' (fun l' a=>?_),rfl⟩⟩
    exfalso
    rcases i.fresh 0 (S'.nx+1) (by rw [a];simp)with h1|⟨j,hj,_⟩
    ·omega
    ·exact hj
  rcases he with rfl|rfl
  ·exact⟨i.defers,z⟩
  ·exact⟨i.defers,z⟩
theorem Ii{fn:Func}{sz:Nat}{ty:TypeId}{R:(Nat->Nat->V)->List V->Prop}{F:Nat->Nat->V}(q:Nat){o:Ob}(f:get S.objs q=some o)(c:o.sz=sz)(d:o.ty=ty)(a:o.es.all Lu=true)(e:Agk P S q o.v fn.results.toList=some F)(h:R F o.es):Axx P fn sz ty R .ret S:=
 ⟨.inl rfl,.inl ⟨q,o,F,f,c,d,a,e,h⟩⟩
attribute [simp] Agk Agj V.liteE V.liteC V.re V.reC Lu
end
def V.slen:V->Option Nat
 | .ro _ es=>some es.length
 | .nils=>some 0
 | .sl _ _ _ n=>some n
 | .ss _ _ _ _ n=>some n
 |_ =>none
attribute [simp] V.slen
def Axy(P:Program)(t:TypeId):Bool:=match P.underlying t with|some (.slice _)=>true|_ =>false
section
variable {P:Program}{w0:Bs}{N0:Nat->Prop}{Q:Exit->AS->Prop}{S:AS}
theorem Enc.slen{w:World}{N:Nat->Prop}{μ:Mu}{x:Value}{v:V}{n:Nat}(h:Enc w N μ x v)(a:v.slen=some n):∃A l c,x=.slice A l c/\(A=none->n=0):=by
 cases h with
 |pur h=>
  cases h with
  |ro A ad m e sz es g h1 h2 j k=>
   simp only [V.slen,Au]at a;refine⟨A,m,e,rfl,fun f=>?_⟩
   rcases Es m with i|i
   ·omega
   ·have:=(k i).1;rw [f]at this;cases this
  |nils A=>simp only [V.slen,Au]at a;exact⟨A,0,0,rfl,fun _ =>a.symm⟩
  |_ =>simp [V.slen]at a
 |slr d v sz len g e h1 h2 j=>exact⟨_,_,_,rfl,fun f=>by cases f⟩
 |slv d v sz A h1=>simp only [V.slen,Au]at a;exact⟨A,0,0,rfl,fun _ =>a.symm⟩
 |ss d v sz off len g c e A h1 h2 j=>
  simp only [V.slen,Au]at a;refine⟨A,len,c,rfl,fun f=>?_⟩
  rcases Es len with i|i
  ·omega
  ·have:=(j i).2;rw [f]at this;cases this
 |_ =>simp [V.slen]at a
theorem Afc{t e:TypeId}{w:World}(a:P.underlying t=some (.slice e))(A:Option Addr)(m c l c':Nat):∀d,(Op.equalIn (d+1) t (.slice A m c) (.slice none l c')).run P w=.ok A.isNone w:=by
 intro d;have f:=run_underlying (w:=w) a;cases A with
 |none=>simp [Op.equalIn,f]
 |some ad=>simp [Op.equalIn,f]
theorem No{ops:List Oper}{i:Nat}{o:Oper}{d:List Oper}{x:Operand}{t t':TypeId}{v:V}{n l c:Nat}(hg:o.guard=none)(ho:o.op=.binOp .eql t x (.const (.slice none l c)) t')(hx:S.evc true x=some v)(hn:v.slen=some n)(u:Axy P t=true)
  (h:∀b:Bool,(b=true->n=0)->∃S',S.putv o.dst (.bool b)=some S'/\Jj P w0 N0 ops Q (i+1) d S'):Jj P w0 N0 ops Q i (o::d) S:=by
 rintro D a w hD⟨μ,hr⟩;refine wpList_plain hg fun K hK=>?_
 obtain⟨A,m,r,he,hA⟩:=(hr.evc hx rfl).slen hn;obtain⟨S',hs,f⟩:=h A.isNone (fun z=>hA (by simpa using z))
 have g:∃e,P.underlying t=some (.slice e):=by
  unfold Axy at u
  split at u
  ·exact⟨_,by assumption⟩
  ·cases u
 obtain⟨e,g⟩:=g;unfold Oper.wp
 have k:(execOp a.eval o).run P w=.ok (.value (.bool A.isNone)) w:=by
  unfold execOp;rw [ho];have hq:=Afc (w:=w) g A m r l c 9999;have z:(binOp .eql t (.slice A m r) (.slice none l c):Sem Value)=(do pure (.bool (<- Op.equalIn (9999+1) t (.slice A m r) (.slice none l c)))):=rfl;have s:a.eval (.const (.slice none l c))=.slice none l c:=rfl;have y:(eqGuard .eql t x (.const (.slice none l c)) (.slice A m r) (.slice none l c):Sem Unit)=pure ():=rfl;simp only [he,s,y,z,Sem.run_bind,Sem.run_pure,Result.andThen_ok,hq]
 rw [k];exact hK _ _ (f D _ w (fun j hj=>Eh (hD j hj)) ⟨μ,hr.putv hs (.pur (.bool _))⟩)
end
section
variable {P:Program}{w0:Bs}{N0:Nat->Prop}{Q:Exit->AS->Prop}{S:AS}
end
def Aan(w:World)(g:Nat)(ty:TypeId)(sz d:Nat)(es:List V):Prop:=
 es.length<=d/\(∀e∈es,e.fits sz)/\∃a,w.heap[g]? =some (.cells a ty (0,0))/\a.size=d*sz/\
  ∀(k:Nat)e(j:Nat)c,es[k]? =some e->e.cells[j]? =some c->∃x,a[k*sz+j]? =some x/\Pur w (fun _ =>False) x c
def ACI(P:Program)(f:FuncId)(sz:Nat)(ty:TypeId)(es c:List V)(F:Nat->Nat->V):Prop:=
 (∀(w:World)(g a:Nat),a<=maxLen->Aan w g ty sz a es->Calls P f #[.slice (some ⟨g,0,none⟩) es.length a] w (fun e w'=>∃x,e=.returned x/\w.grownBy w' (some g)/\Aan w' g ty sz a c/\
   ∀d v μ N',μ d v=some (some (g,a))->Enc w' N' μ x (F d v)))/\
 (es= []->c= []/\∀(w:World)A,Calls P f #[.slice A 0 0] w (fun e w'=>∃x,e=.returned x/\w.grownBy w' none/\∀d v μ N',μ d v=some none->Enc w' N' μ x (F d v)))
section
variable {P:Program}{w0:Bs}{N0:Nat->Prop}{Q:Exit->AS->Prop}{S:AS}
theorem Ef.of_grown{w w':World}{row:Option Nat}{N:Nat->Prop}(h:w.grownBy w' row)(c:∀g,row=some g->N g):Ef w N w':=
 ⟨h.size,fun b d a=>h.block b d (fun e=>a (c b e.symm))⟩
theorem Up{ops:List Oper}{i:Nat}{o:Oper}{ag:List Oper}{f x:Operand}{aa:FuncId}{fn:Func}{a2:Array TypeId}{d v sz:Nat}{ty:TypeId}{es z:List V}{F:Nat->Nat->V}{S':AS}
  (hc:ACI P aa sz ty es z F)(av:es.all Lu=true)(ao:z.all Lu=true)(aw:P.funcs[aa]? =some fn)(hb:fn.body.isSome=true)(hn:(fn.name== "runtime.NumGoroutine")=false)
  (hg:o.guard=none)(a0:o.op=.call { callee:=.value f,args:= #[x],argTypes:=a2})(hf:S.evc true f=some (.fn aa))
  (hx:S.evc true x=some (.sl d v sz es.length))(ho:get S.objs d=some ⟨v,sz,ty,es⟩)(hs:({ S with objs:=(d,⟨v,sz,ty,z⟩)::S.objs}:AS).putv o.dst (F d v)=some S')
  (h:Jj P w0 N0 ops Q (i+1) ag S'):Jj P w0 N0 ops Q i (o::ag) S:=by
 rintro D a w hD⟨μ,hr⟩;refine wpList_plain hg fun K hK=>?_
 have af:=hr.evc hf rfl
 have ax:a.eval f=.func (.func aa) #[] #[]:=by
  generalize a.eval f=y at af;cases af with
  |pur af=>cases af with
   |fn=>rfl
 have ab:=hr.evc hx rfl;obtain⟨l,hl,ad⟩:=hr.objs d _ ho;unfold Oper.wp;rw [Hq a0 ax aw hb hn];have am: #[x].map a.eval= #[a.eval x]:=sm;rw [am]
 have s:∀(e:Ending)(w':World)(xv:Value)(row:Option Nat),e=.returned xv->w.grownBy w' row->(∀g,row=some g->∃c,l=some (g,c))->(∀N',Wx w' N' μ w0 ⟨v,sz,ty,z⟩ l)->(∀N',Enc w' N' μ xv (F d v))->
   ∃r,e=.returned r/\K (a.put o.dst r) w':=by
  rintro e w' xv row rfl n u al m;refine⟨xv,rfl,?_⟩
  have ar:w0.Below w':=hr.below.grown n hr.below.size (fun k hk=>by
   obtain⟨c,e⟩:=u k hk;rw [e]at ad;exact ad.1)
  obtain⟨ak,_⟩:=hr.update (D':=D) (d:=d) (o':=⟨v,sz,ty,z⟩) (l':=l) (w':=w') (μ':=μ) (fun _ _ _ hh=>hh) hr.fresh hl ar
   (Ef.of_grown n (fun g hg=>by obtain⟨c,e⟩:=u g hg;exact .inr ⟨d,_,c,ho,by rw [hl,e]⟩))
   (fun d1 o1 g c a1 h1 h2=>n.block g (hr.block_lt h1 h2) (fun e=>by
    obtain⟨c',e'⟩:=u g e.symm;exact a1 (hr.inj _ _ _ _ _ _ _ h1 ho h2 (by rw [hl,e']))))
   (fun g c e=>.inr ⟨_,c,ho,by rw [hl,e]⟩) (fun N' _ =>al N')
  exact hK _ _ (h D _ w' (fun j hj=>Eh (hD j hj)) ⟨μ,ak.putv hs (m _)⟩)
 have t:∀ {w1 w2:World}{N1:Nat->Prop}{μ1:Mu}{y:Value}{c:V},c.flat=true->Enc w1 N1 μ1 y c->Pur w2 (fun _ =>False) y c:=by
  intro w1 w2 N1 μ1 y c aq hy;exact(hy.flatP aq).of_flat aq
 generalize a4:a.eval x=xv at ab
 have ah:Calls P aa #[xv] w (fun e w'=>∃r,e=.returned r/\K (a.put o.dst r) w'):=by
  generalize ae:V.sl d v sz es.length=sv at ab;cases ab with
  |pur ab=>cases ab<;>cases ae
  |slr d' v' a3 len g aj h1 h2 h3=>
   cases ae
   rw [hl]at h1;injection h1 with h1;subst h1;obtain⟨b1,b2,b3,b4,au,b5,b6,b7⟩:=ad
   refine(hc.1 w g aj h3 ⟨b2,b4,au,b5,b6,fun k e j c he hj=>?_⟩).mono ?_
   ·obtain⟨y,hy,ai⟩:=b7 k e j c he hj;exact⟨y,hy,t (Aw.1 (Aw.1 av e (Ay he)) c (Ay hj)) ai⟩
   ·rintro e w'⟨r,he,n,⟨c1,c2,an,c3,c4,c5⟩,m⟩;refine s e w' r (some g) he n (fun g' ay=>by cases ay;exact⟨aj,rfl⟩) (fun N'=>⟨b1,c1,h3,c2,an,c3,c4,fun k e j c he hj=>?_⟩) fun N'=>m d v μ N' hl;obtain⟨y,hy,ai⟩:=c5 k e j c he hj;exact⟨y,hy,.pur (ai.of_flat (Aw.1 (Aw.1 ao e (Ay he)) c (Ay hj)))⟩
  |slv d' v' a3 A h1=>
   injection ae with e1 e2 e3 e4;subst e1;subst e2;subst e3;rw [hl]at h1;injection h1 with h1;subst h1;have az:es= []:=ad;obtain⟨h2,h3⟩:=hc.2 az;refine(h3 w A).mono ?_;rintro e w'⟨r,he,n,m⟩;exact s e w' r none he n (fun g hg=>by cases hg) (fun N'=>h2) fun N'=>m d v μ N' hl
  |_ =>cases ae
 refine ah.mono ?_;rintro e w'⟨r,rfl,hk⟩;exact hk
end
def AS.viewT(S:AS):V->Option V
 | .tup vs=>match S.views vs with
  |some us=>some (.tup us)
  |none=>none
 |v=>S.view v
theorem ACO.ac{P:Program}{f:FuncId}{args:List V}{sz:Nat}{ty:TypeId}{R:(Nat->Nat->V)->List V->Prop}{R':V->Prop}(h:ACO P f args sz ty R)
  (hv:∀F es,R F es->∃u,AS.viewT ⟨[],[(0,⟨0,sz,ty,es⟩)],1,0⟩ (F 0 0)=some u/\R' u):AC P f args R':=by
 intro w N xs h1 h2 h3;refine(h w N xs h1 h2 h3).mono ?_;rintro e w'⟨x,F,es,l,rfl,hR,s,n⟩;obtain⟨u,j,ae⟩:=hv F es hR;refine⟨x,u,rfl,ae,?_,s⟩;generalize hS:(⟨[],[(0,⟨0,sz,ty,es⟩)],1,0⟩:AS)=S at j
 let μ:Mu:=fun d v=>if d=0/\v=0 then some l else none
 have hμ:μ 0 0=some l:=by simp [μ]
 have hr:RelM (fun _ =>False) ⟨w,fun _ =>False,fun _ _ =>none,[]⟩ N μ S ⟨#[],[]⟩ w':=by
  subst hS
  refine⟨rfl,rfl,⟨s.os,s.tape,s.output,s.size,fun k hk _ =>s.block k hk⟩,⟨fun b s=>⟨h1 b s,fun h=>h⟩,fun _ _ _ h=>by cases h⟩,fun d v ad=>?_,fun d o z=>?_,fun d o d' o' g c c' g1 g2 _ _ =>?_,fun t v ht=>by simp [get]at ht⟩
  ·left
   by_cases e:d=0/\v=0
   ·simp only;omega
   ·simp [μ,e]at ad
  ·simp only [C7]at z
   split at z
   ·rename_i e0;subst e0;injection z with z;subst z;exact⟨l,hμ,(n 0 0 μ _ hμ).2⟩
   ·simp [get]at z
  ·simp only [C7]at g1 g2
   split at g1
   ·split at g2
    ·omega
    ·simp [get]at g2
   ·simp [get]at g1
 have hx:=(n 0 0 μ (Fb N μ S) hμ).1;generalize F 0 0=r at hx j;unfold AS.viewT at j
 split at j
 ·rename_i vs;split at j
  case h_2=>cases j
  rename_i us ab;injection j with j;subst j;obtain⟨h4,h5⟩:=Nn ab
  have aa:∀m:List Value,m.length=vs.length->(∀(i:Nat)y c,m[i]? =some y->vs[i]? =some c->Enc w' (Fb N μ S) μ y c)->Pur w' N (.tuple m.toArray) (.tup us):=by
   intro m hl hh;refine .tup m us (by rw [hl,h4]) fun i y c hy hc=>?_;have hi:i<vs.length:=by rw [<- h4];exact(Ap.1 hc).1
   exact hr.view (hh i y vs[i] hy (Al hi)) (h5 i vs[i] c (Al hi) hc)
  cases hx with
  |pur hx=>cases hx with
   |tup m _ hl hh=>exact aa m hl (fun i y c a b=>.pur (hh i y c a b))
  |tup m _ hl hh=>exact aa m hl hh
 ·exact hr.view hx j
attribute [simp] AS.viewT
theorem Ph{P:Program}{w0:Bs}{N0:Nat->Prop}{Q:Exit->AS->Prop}{S:AS}{x y:Code}(a:AS)(h1:AW P w0 N0 x (fun e T=>e=.normal/\T.le a) S)(h2:AW P w0 N0 y Q a):AW P w0 N0 (.seq x y) Q S:=
 Ab (h1.mono fun e T⟨he,hT⟩=>by subst he;exact S7 hT h2)
theorem Oo{S S':AS}(L M:List Nat)(f:(S.keep L M).env=S'.env)(c:(S.keep L M).objs=S'.objs)(e:S'.nt=S.nt)(a:S.nx<=S'.nx):S.le S':=
 AS.le_trans (L1 S L M) (Um e a (fun t v h=>by rw [f];exact h) (fun d o h=>by rw [c];exact h))
theorem Agm{S S':AS}(f:S.env=S'.env)(c:S.objs=S'.objs)(e:S'.nt=S.nt)(a:S.nx<=S'.nx):S.le S':=
 Um e a (fun t v h=>by rw [f];exact h) (fun d o h=>by rw [c];exact h)
end Go.Eng
set_option linter.unusedSimpArgs false
namespace Go.Eng
open Go.RowKit Go.ChangeShapes Go.WideShapes Go.ChangeAt
def Axz(P:Program)(L:List TypeId)(t:TypeId):Bool:=match P.underlying t with
 |some .bool|some (.int _)|some .string=>P.cellsOf t==1
 |some (.slice e)=>(P.cellsOf t==1)&&decide (0<P.cellsOf e)&&L.contains e
 |some (.struct a)=>Ze P a.toList 0 (P.cellsOf t)&&a.toList.all fun f=>L.contains f.type
 |_ =>false
def okL(P:Program)(L:List TypeId):Bool:=L.all (Axz P L)
section
variable {H:Type}{enc:TypeId × Value->H}{P:Program}{w:World}{base:Nat}{spare:Nat->Bool}{held:Bool}
def RdW(P:Program)(t:TypeId)(v:V):Prop:=∃n vs,Rd P n t vs/\v=mkV (Ex P t) vs
end
end Go.Eng
