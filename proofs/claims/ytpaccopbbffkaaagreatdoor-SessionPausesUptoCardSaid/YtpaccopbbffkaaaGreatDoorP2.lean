/- Sessions: part 2 of the proof. No condition. -/
import Derived.Test.YtpaccopbbffkaaaGreatDoorP1
import Derived.SizedLaws
import Derived.ChangeArms
import Derived.Recover
import Derived.Laws.IdiomCopy
import Derived.Maps.RangeRun
set_option maxHeartbeats 8000000
set_option linter.all false
set_option linter.unusedSimpArgs false
namespace Go.Eng
open Go.RowKit
def Bi(v a:V):Prop:=(∀(w:World)(N:Nat->Prop)(x:Value),Pur w N x v->Pur w N x a)/\(v.isCell=true->a.isCell=true)
inductive RelaxL:List V->List V->Prop
 |nil:RelaxL [] []
 |cons {v v':V} {l l':List V} (h:Bi v v') (t:RelaxL l l'):RelaxL (v::l) (v'::l')
theorem Bi.refl(v:V):Bi v v:=⟨fun _ _ _ h=>h,id⟩
theorem Pur.nils_ro{w:World}{N:Nat->Prop}{x:Value}(sz:Nat)(h:Pur w N x .nils):Pur w N x (.ro sz []):=by
 cases h with
 |nils A=>exact .ro A ⟨0,0,none⟩ 0 0 sz [] (fun _ _ =>undef) rfl (A9 _) (B4 _) (fun h0=>by omega) sm sm sm
theorem Bi.nils(sz:Nat):Bi .nils (.ro sz []):=⟨fun _ _ _ h=>h.nils_ro sz,fun _ =>rfl⟩
theorem RelaxL.length{l l':List V}(h:RelaxL l l'):l.length=l'.length:=by induction h<;>simp_all
theorem RelaxL.get{l l':List V}(h:RelaxL l l'):∀(i:Nat)a,l'[i]? =some a->∃v,l[i]? =some v/\Bi v a:=by
 induction h with
 |nil=>intro i a h;simp at h
 |cons h _ ih=>
  intro i a c
  rcases i with _ |i
  ·simp at c;subst c;exact⟨_,rfl,h⟩
  ·simp at c;obtain⟨v,h1,h2⟩:=ih i a c;exact⟨v,by simpa using h1,h2⟩
theorem RelaxL.refl:∀l:List V,RelaxL l l
 | []=>.nil
 |v::l=>.cons (Bi.refl v) (RelaxL.refl l)
theorem Bi.agg{cs d:List V}(h:RelaxL cs d):Bi (.agg cs) (.agg d):=by
 refine⟨fun w N x g=>?_,fun h=>by simp [V.isCell]at h⟩;cases g with
 |agg xs _ l j f=>
  refine .agg xs d (by rw [l,h.length]) (fun c a=>?_) fun i x c e a=>?_
  ·obtain⟨i,k⟩:=Co a;obtain⟨v,h1,h2⟩:=h.get i c k;exact h2.2 (j v (Ay h1))
  ·obtain⟨v,h1,h2⟩:=h.get i c a;exact h2.1 _ _ _ (f i x v e h1)
theorem Bi.tup{cs a:List V}(h:RelaxL cs a):Bi (.tup cs) (.tup a):=by
 refine⟨fun w N x g=>?_,fun h=>by simp [V.isCell]at h⟩;cases g with
 |tup xs _ j f=>
  refine .tup xs a (by rw [j,h.length]) fun i x c d e=>?_;obtain⟨v,h1,h2⟩:=h.get i c e;exact h2.1 _ _ _ (f i x v d h1)
theorem Bi.ro{sz:Nat}{es o:List V}(h:RelaxL es o)(hf:∀(k:Nat)e f,es[k]? =some e->o[k]? =some f->e.cells.length=f.cells.length/\(∀(j:Nat)c d,e.cells[j]? =some c->f.cells[j]? =some d->Bi c d)):Bi (.ro sz es) (.ro sz o):=by
 refine⟨fun w N x hx=>?_,fun _ =>rfl⟩;cases hx with
 |ro A ad n z _ _ g hn t r hA u hc hh=>
  have hl:=h.length
  have l:∀(k:Nat)f,o[k]? =some f->∃e,es[k]? =some e/\e.cells.length=f.cells.length/\(∀(j:Nat)c d,e.cells[j]? =some c->f.cells[j]? =some d->Bi c d):=by
   intro k f i;obtain⟨e,h1,_⟩:=h.get k f i;exact⟨e,h1,hf k e f h1 i⟩
  refine .ro A ad n z sz o g (by rw [<- hl];exact hn) t r hA (fun f aa=>?_) (fun k f j d i m=>?_) fun k f j d i m=>?_
  ·obtain⟨k,i⟩:=Co aa;obtain⟨e,h1,h2,y⟩:=l k f i;have s:=u e (Ay h1);refine⟨by rw [<- h2];exact s.1,fun d hd=>?_⟩;obtain⟨j,m⟩:=Co hd;have a:j<e.cells.length:=by rw [h2];exact(Ap.1 m).1
   exact(y j _ d (Al a) m).2 (s.2 _ (Az a))
  ·obtain⟨e,h1,h2,y⟩:=l k f i;have a:j<e.cells.length:=by rw [h2];exact(Ap.1 m).1
   exact hc k e j _ h1 (Al a)
  ·obtain⟨e,h1,h2,y⟩:=l k f i;have a:j<e.cells.length:=by rw [h2];exact(Ap.1 m).1
   exact(y j _ d (Al a) m).1 _ _ _ (hh k e j _ h1 (Al a))
theorem AC.relax{P:Program}{f:FuncId}{args:List V}{v a:V}(h:AC P f args (fun r=>r=v))(d:Bi v a):AC P f args (fun r=>r=a):=
 fun w N xs h1 h2 c=>(h w N xs h1 h2 c).mono fun _ _⟨x,_,he,hR,hp,hb⟩=>⟨x,a,he,rfl,d.1 _ _ _ (hR▸hp),hb⟩
theorem AC.argsR{P:Program}{f:FuncId}{args a:List V}{R:V->Prop}(h:AC P f a R)(c:RelaxL args a):AC P f args R:=
 fun w N xs h1 h2 d=>h w N xs h1 (by rw [h2,c.length]) (fun i x v g e=>by
  obtain⟨u,j,k⟩:=c.get i v e;exact k.1 _ _ _ (d i x u g j))
theorem Enc.relax{w:World}{N:Nat->Prop}{μ:Mu}{x:Value}{v a:V}(h:Enc w N μ x v)(hp:v.pureV=true)(c:Bi v a):Enc w N μ x a:=.pur (c.1 _ _ _ (h.pureV hp))
theorem Ax0{S:AS}{t:Nat}{v f:V}(d:get S.env t=some v)(hp:v.pureV=true)(g:Bi v f):S.le { S with env:=(t,f)::S.env}:=by
 rintro w0 N0 a w⟨μ,h⟩;refine⟨μ,h.defers,h.size,h.below,h.n0,h.fresh,h.objs,h.inj,fun u x c=>?_⟩;rw [C7]at c
 by_cases e:t=u
 ·subst e;simp only [if_true,Au]at c;subst c;exact⟨(h.env t v d).1,(h.env t v d).2.relax hp g⟩
 ·simp only [e,if_false]at c;exact h.env u x c
theorem Ak8{P:Program}{w0:Bs}{N0:Nat->Prop}{Q:Exit->AS->Prop}{S S':AS}{c:Code}(t:Nat){v:V}(a:V)(L M:List Nat)(d:get S.env t=some v)(hp:v.pureV=true)(f:Bi v a)(e:AS.keep { S with env:=(t,a)::S.env} L M=S')(h:AW P w0 N0 c Q S'):AW P w0 N0 c Q S:=
 S7 (Ax0 d hp f) (Aro L M e h)
theorem Pur.ro_len{w:World}{N:Nat->Prop}{x:Value}{sz:Nat}{es:List V}(h:Pur w N x (.ro sz es)):es.length<=maxLen:=by
 cases h with
 |ro A ad n d _ _ g hn a c _ _ _ _ =>omega
theorem Rs{P:Program}{f:FuncId}{args:List V}{R:V->Prop}(i:Nat){sz:Nat}{es:List V}(h:args[i]? =some (.ro sz es))(k:es.length<=maxLen->AC P f args R):AC P f args R:=by
 intro w N xs h1 h2 a;have c:i<xs.length:=by rw [h2];exact(Ap.1 h).1
 exact k (a i xs[i] _ (Al c) h).ro_len w N xs h1 h2 a
def Fk(l:List V)(z:V)(k:Nat):List V:=l.take k++List.replicate (l.length-k) z
theorem Ik(l:List V)(z:V):Fk l z 0=List.replicate l.length z:=by simp [Fk]
theorem Ka(l:List V)(z:V)(k:Nat)(h:l.length<=k):Fk l z k=l:=by
 rw [Fk,Bg h,show l.length-k=0 by omega];simp
theorem Jk(l:List V)(z:V)(k:Nat)(h:k<=l.length):(Fk l z k).length=l.length:=by simp [Fk];omega
theorem Jl(l:List V)(z:V)(k:Nat)(h:k<l.length):G8 (Fk l z k) k=some z:=by
 rw [C0,Fk,Be (by simp;omega)];rw [H1,Cs,Hb (Ho h),if_pos Go.om]
theorem Jm(l:List V)(z:V)(k:Nat)(h:k<l.length){x:V}(c:l[k]? =some x):(Fk l z k).set k x=Fk l z (k+1):=by
 have a:l[k]=x:=by rw [Al h]at c;injection c
 unfold Fk;rw [E0 _ _ so,A1 h,a];simp only [Cs,Hb (Ho h),Fv];rw [show l.length-k=(l.length-(k+1))+1 by omega,Gc,J3];simp
theorem Acp{l:List V}{x:V}:G8 (l++[x]) l.length=some x:=by rw [C0];simp
def V.frzC(d v sz:Nat)(es:List V):V->V
 | .sl f c a len=>if f=d/\c=v/\a=sz/\es.length=len then .ro sz es else .sl f c a len
 | .ss f c a off len=>if f=d/\c=v/\a=sz/\off+len<=es.length then .ro sz ((es.drop off).take len)else .ss f c a off len
 | .bp f c a k off=>if f=d/\c=v/\a=sz/\off=0 then(match G8 es k with|some e=>.rp e|none=>.bp f c a k off)else .bp f c a k off
 |u=>u
def V.frz(d v sz:Nat)(es:List V):V->V
 | .agg cs=>.agg (cs.map (V.frzC d v sz es))
 |u=>u.frzC d v sz es
def Tb{α:Type}(d:Nat):List (Nat × α)->List (Nat × α)
 | []=>[]
 |(k,x)::r=>if k=d then Tb d r else(k,x)::Tb d r
theorem Wc{α:Type}(d t:Nat):∀(l:List (Nat × α))(x:α),get (Tb d l) t=some x->t≠d/\get l t=some x
 | [],x,h=>by simp [Tb,get]at h
 |(k,y)::r,x,h=>by
  unfold Tb at h
  split at h
  ·rename_i e;obtain⟨h1,h2⟩:=Wc d t r x h;refine⟨h1,?_⟩;rw [C7,if_neg Go.om];exact h2
  ·rename_i e;rw [C7]at h|-
   split at h
   ·rename_i a;exact⟨by omega,by rw [if_pos a];exact h⟩
   ·rename_i a;obtain⟨h1,h2⟩:=Wc d t r x h;exact⟨h1,by rw [if_neg a];exact h2⟩
theorem Acq{α β:Type}(f:α->β)(t:Nat):∀(l:List (Nat × α))(y:β),get (Ql f l) t=some y->∃x,get l t=some x/\f x=y
 | [],y,h=>by simp [Ql,get]at h
 |(k,x)::r,y,h=>by
  unfold Ql at h;rw [C7]at h;rw [C7]
  split at h
  ·rename_i e;rw [if_pos e];injection h with h;exact⟨x,rfl,h⟩
  ·rename_i e;rw [if_neg e];exact Acq f t r y h
def AS.freeze(S:AS)(d:Nat):Option AS:=
 match get S.objs d with
 |some o=>if o.es.all V.pureE=true then some { S with env:=Ql (V.frz d o.v o.sz o.es) S.env,objs:=Ql (fun q=>{ q with es:=q.es.map (V.frz d o.v o.sz o.es)}) (Tb d S.objs)}else none
 |none=>none
def AS.freezeK(S:AS)(d:Nat)(L M:List Nat):Option AS:=
 match S.freeze d with
 |some S'=>some (S'.keep L M)
 |none=>none
attribute [simp] V.frzC V.frz Tb Ql AS.freeze AS.freezeK
section
variable {P:Program}{D:Nat->Prop}{w0:Bs}{w:World}{N0:Nat->Prop}{μ:Mu}{S:AS}{a:Act}{Q:Exit->AS->Prop}
theorem RelM.frzC(h:RelM D w0 N0 μ S a w){d:Nat}{o:Ob}(ho:get S.objs d=some o)(hp:o.es.all V.pureE=true){N':Nat->Prop}(t:∀b,b<w.heap.size->N' b->Fb N0 μ S b)
  (hd:∀g c,μ d o.v=some (some (g,c))->¬N' g){x:Value}{v:V}(m:Enc w (Fb N0 μ S) μ x v):Enc w N' μ x (v.frzC d o.v o.sz o.es):=by
 have i:Enc w N' μ x v:=m.keep (Ef.refl _ _) t (fun _ _ _ hh=>hh)
 have ak:∀(v:V)(es:List V),Enc w (Fb N0 μ S) μ x v->S.elems v=some (o.sz,es)->es.all V.pureE=true->(∃off len,v=.ss d o.v o.sz off len\/v=.sl d o.v o.sz len)->Enc w N' μ x (.ro o.sz es):=by
  intro v es m f hp s;refine .pur ?_;obtain⟨A,c,rfl,an,ab⟩:=h.elems m f
  by_cases ag:es= []
  ·subst ag
   have hc:c<=maxLen:=by
    obtain⟨off,len,rfl|rfl⟩:=s
    ·cases m with
     |pur m=>cases m
     |ss _ _ _ _ _ g c' z A' h1 h2 h3=>exact h2
    ·cases m with
     |pur m=>cases m
     |slr _ _ _ _ g z h1 h2 h3=>exact h3
     |slv=>simp [maxLen]
   exact .ro A ⟨0,0,none⟩ 0 c _ [] (fun _ _ =>undef) rfl an hc (fun h0=>absurd h0 sm) sm sm sm
  ·obtain⟨hf,ad,vs,rfl,ax,ar,aa⟩:=ab ag
   have u:ad.block<w.heap.size/\¬N' ad.block/\c<=maxLen:=by
    have n:=Em.2 ag
    obtain⟨off,len,rfl|rfl⟩:=s
    ·simp only [AS.elems,ho]at f;split at f
     case isFalse=>cases f
     rename_i hb;obtain⟨_,_,ah⟩:=hb;simp only [Au,B0,true_and]at f;subst f;have av:((o.es.drop off).take len).length=len:=by simp;omega
     rw [av]at n m;cases m with
     |pur m=>cases m
     |ss _ _ _ _ _ g c' z A' h1 h2 h3=>
      obtain⟨hm,hA⟩:=h3 n;injection hA with hA;subst hA;exact⟨h.block_lt ho hm,hd _ _ hm,h2⟩
    ·simp only [AS.elems,ho]at f;split at f
     case isFalse=>cases f
     rename_i hb;obtain⟨_,_,ah⟩:=hb;simp only [Au,B0,true_and]at f;subst f;rw [ah]at n m;cases m with
     |pur m=>cases m
     |slr _ _ _ _ g z hm h2 h3=>exact⟨h.block_lt ho hm,hd _ _ hm,h3⟩
     |slv=>exact absurd n sm
   have al:∀(k:Nat)e(j:Nat)c,es[k]? =some e->e.cells[j]? =some c->∃y,vs[k*o.sz+j]? =some y/\Enc w (Fb N0 μ S) μ y c:=by
    intro k e j c hk r;have aj:=Od hf hk r;have am:k*o.sz+j<vs.length:=by rw [aa.1];exact(Ap.1 aj).1
    exact⟨_,Al am,aa.2 _ _ c (Al am) aj⟩
   refine .ro _ ad es.length c o.sz es (fun k j=>(vs[k*o.sz+j]?).getD undef) rfl an u.2.2 (fun _ =>⟨rfl,u.1,u.2.1⟩) hf (fun k e j c hk r=>?_) fun k e j c hk r=>?_
   ·obtain⟨y,hy,_⟩:=al k e j c hk r;simp only [hy,En];exact ar _ _ hy
   ·obtain⟨y,hy,ae⟩:=al k e j c hk r;simp only [hy,En];have aw:c.pureC=true:=Aw.1 (Aw.1 hp e (Ay hk)) c (Ay r);exact(ae.pureC aw).keep (Ef.refl _ _) t
 unfold V.frzC
 split
 ·split
  ·rename_i d' v' ao len hc;obtain⟨rfl,rfl,rfl,hl⟩:=hc;exact ak _ o.es m (by simp [AS.elems,ho,hl]) hp ⟨0,len,.inr rfl⟩
  ·exact i
 ·split
  ·rename_i d' v' ao off len hc;obtain⟨rfl,rfl,rfl,hl⟩:=hc;refine ak _ _ m (by simp [AS.elems,ho,hl]) ?_ ⟨off,len,.inl rfl⟩;rw [Aw]at hp|-;exact fun e he=>hp e (Cx (B8 he))
  ·exact i
 ·split
  ·rename_i d' v' ao k off hc;obtain⟨rfl,rfl,rfl,rfl⟩:=hc
   split
   ·rename_i e he;rw [C0]at he;cases m with
    |pur m=>cases m
    |bp _ _ _ _ _ g z hm=>
     obtain⟨l,hl,aq⟩:=h.objs d' o ho;rw [hm]at hl;injection hl with hl;subst hl;obtain⟨b1,b2,b3,b4,ai,b5,b6,b7⟩:=aq;have au:=Aw.1 hp e (Ay he)
     have af:∀j,w.cell? ((⟨g,k*o.sz+0,none⟩:Addr).add j)=ai[k*o.sz+j]? :=by
      intro j;rw [Addr.add_lit,Dy];simp [World.cell?,b5]
     refine .pur (.rp ⟨g,k*o.sz+0,none⟩ o.sz e (fun j=>(ai[k*o.sz+j]?).getD undef) (h.block_lt ho hm) (hd _ _ hm) (b4 e (Ay he)) (fun j c r=>?_) (fun j c r=>?_))
     ·obtain⟨y,hy,_⟩:=b7 k e j c he r;rw [af,hy];rfl
     ·obtain⟨y,hy,ae⟩:=b7 k e j c he r;simp only [hy,En];exact(ae.pureC (Aw.1 au c (Ay r))).keep (Ef.refl _ _) t
   ·exact i
  ·exact i
 ·exact i
theorem Agn(d v sz:Nat)(es:List V){c:V}(h:c.isCell=true):(c.frzC d v sz es).isCell=true:=by
 unfold V.frzC
 split
 ·split<;>first|rfl|exact h
 ·split<;>first|rfl|exact h
 ·split
  ·split<;>rfl
  ·exact h
 ·exact h
theorem Zf(d v sz:Nat)(es:List V)(e:V):(e.frz d v sz es).cells=e.cells.map (V.frzC d v sz es):=by
 cases e with
 |agg cs=>rfl
 |sl g f a len=>simp only [V.frz,V.frzC,V.cells,Ct,F8];by_cases c:g=d/\f=v/\a=sz/\es.length=len<;>simp [c]
 |ss g f a off len=>simp only [V.frz,V.frzC,V.cells,Ct,F8];by_cases c:g=d/\f=v/\a=sz/\off+len<=es.length<;>simp [c]
 |bp g f a k off=>
  simp only [V.frz,V.frzC,V.cells,Ct,F8]
  by_cases c:g=d/\f=v/\a=sz/\off=0
  ·simp only [if_pos c];cases G8 es k<;>rfl
  ·simp only [if_neg c]
 |_ =>rfl
theorem RelM.frz(h:RelM D w0 N0 μ S a w){d:Nat}{o:Ob}(u:get S.objs d=some o)(hp:o.es.all V.pureE=true){N':Nat->Prop}(f:∀b,b<w.heap.size->N' b->Fb N0 μ S b)
  (y:∀g c,μ d o.v=some (some (g,c))->¬N' g){x:Value}{v:V}(r:Enc w (Fb N0 μ S) μ x v):Enc w N' μ x (v.frz d o.v o.sz o.es):=by
 cases v with
 |agg cs=>
  have n:∀xs:List Value,xs.length=cs.length->(∀c∈cs,c.isCell=true)->(∀(i:Nat)x c,xs[i]? =some x->cs[i]? =some c->Enc w (Fb N0 μ S) μ x c)->Enc w N' μ (.agg xs.toArray) (.agg (cs.map (V.frzC d o.v o.sz o.es))):=by
   intro xs m l k
   refine .agg xs _ (by simp [m]) (fun c e=>?_) fun i x c s e=>?_
   ·simp only [Bm]at e;obtain⟨t,j,rfl⟩:=e;exact Agn _ _ _ _ (l t j)
   ·simp only [Bc,A0]at e;obtain⟨t,j,rfl⟩:=e;exact h.frzC u hp f y (k i x t s j)
  cases r with
  |pur r=>cases r with
   |agg xs _ m l k=>exact n xs m l (fun i x c a b=>.pur (k i x c a b))
  |agg xs _ m l k=>exact n xs m l k
 |_ =>exact h.frzC u hp f y r
theorem Ago{d:Nat}{S':AS}(hs:S.freeze d=some S'):S.le S':=by
 rintro w0 N0 a w⟨μ,h⟩;unfold AS.freeze at hs;split at hs
 case h_2=>cases hs
 rename_i o ho;split at hs
 case isFalse=>cases hs
 rename_i hp;injection hs with hs;subst hs;generalize r:({ S with env:=Ql (V.frz d o.v o.sz o.es) S.env,objs:=Ql (fun q=>{ q with es:=q.es.map (V.frz d o.v o.sz o.es)}) (Tb d S.objs)}:AS)=S'
 have m:∀i s,get S'.objs i=some s->i≠d/\∃q,get S.objs i=some q/\s= { q with es:=q.es.map (V.frz d o.v o.sz o.es)}:=by
  subst r;intro i s h1;obtain⟨q,h2,n⟩:=Acq _ _ _ _ h1;obtain⟨h4,h5⟩:=Wc _ _ _ _ h2;exact⟨h4,q,h5,n.symm⟩
 have y:∀b,b<w.heap.size->Fb N0 μ S' b->Fb N0 μ S b:=by
  rintro b hb(h0|⟨i,s,c,h1,h2⟩)
  ·exact .inl h0
  ·obtain⟨_,q,n,rfl⟩:=m i s h1;exact .inr ⟨i,q,c,n,h2⟩
 have hd:∀g c,μ d o.v=some (some (g,c))->¬Fb N0 μ S' g:=by
  rintro g c hm(h0|⟨i,s,c1,h1,h2⟩)
  ·have:=h.n0.1 g h0;obtain⟨l,hl,f⟩:=h.objs d o ho;rw [hm]at hl;injection hl with hl;subst hl;exact f.1.elim (fun h=>by have:=this.1;omega) this.2
  ·obtain⟨af,q,n,rfl⟩:=m i s h1;exact af (h.inj _ _ _ _ _ _ _ n ho h2 hm)
 refine⟨μ,h.defers,by subst r;exact h.size,h.below,h.n0,by subst r;exact h.fresh,fun i s h1=>?_,fun i s d2 o2 g c c' h1 h2 n h4=>?_,fun t v hv=>?_⟩
 ·obtain⟨_,q,n,rfl⟩:=m i s h1;obtain⟨l,hl,f⟩:=h.objs i q n;refine⟨l,hl,?_⟩;cases l with
  |none=>
   have:q.es= []:=f;show q.es.map _ = []
   rw [this];rfl
  |some gc=>
   obtain⟨b1,b2,b3,b4,ad,b5,b6,b7⟩:=f
   refine⟨b1,by simpa using b2,b3,fun e he=>?_,ad,b5,b6,fun k e j c he hj=>?_⟩
   ·simp only [Bm]at he;obtain⟨e0,aa,rfl⟩:=he;have hf:=b4 e0 aa;refine⟨by rw [Zf,Eg];exact hf.1,fun c hc=>?_⟩;rw [Zf]at hc;simp only [Bm]at hc;obtain⟨c0,z,rfl⟩:=hc;exact Agn _ _ _ _ (hf.2 c0 z)
   ·simp only [Bc,A0]at he;obtain⟨e0,aa,rfl⟩:=he;rw [Zf,Bc,A0]at hj;obtain⟨c0,z,rfl⟩:=hj;obtain⟨x,hx,ab⟩:=b7 k e0 j c0 aa z;exact⟨x,hx,h.frzC ho hp y hd ab⟩
 ·obtain⟨_,q1,h5,rfl⟩:=m i s h1;obtain⟨_,q2,h6,rfl⟩:=m d2 o2 h2;exact h.inj _ _ _ _ _ _ _ h5 h6 n h4
 ·have ae:get (Ql (V.frz d o.v o.sz o.es) S.env) t=some v:=by subst r;exact hv
  obtain⟨u,h1,rfl⟩:=Acq _ _ _ _ ae;obtain⟨h2,n⟩:=h.env t u h1;exact⟨by subst r;exact h2,h.frz ho hp y hd n⟩
theorem Bp{c:Code}{S':AS}(d:Nat)(L M:List Nat)(a:S.freezeK d L M=some S')(h:AW P w0 N0 c Q S'):AW P w0 N0 c Q S:=by
 unfold AS.freezeK at a;split at a
 case h_2=>cases a
 rename_i S1 h1;injection a with a;exact S7 (Ago h1) (Aro L M a h)
end
section
variable {P:Program}{w0:Bs}{N0:Nat->Prop}{Q:Exit->AS->Prop}{S:AS}
theorem Ax1{ops:List Oper}{i:Nat}{o:Oper}{c:List Oper}{S':AS}(d:S.gv ops o=some false)(hs:S.putv o.dst (.whn false (.bool true))=some S')(h:Jj P w0 N0 ops Q (i+1) c S'):Jj P w0 N0 ops Q i (o::c) S:=by
 rintro D a w l⟨μ,f⟩;refine wpList_step fun K k=>?_
 have m:Region.wanted o (yielded ops.toArray a.tmps)=false:=by
  unfold AS.gv at d
  split at d
  ·cases d
  ·rename_i j g e;exact Uj f e d
 rw [m,if_neg (by simp)];exact k _ _ (h D _ w (fun j n=>Eh (l j n)) ⟨μ,f.putv hs (.whn _ _ _ (fun r=>by cases r) (fun _ =>rfl))⟩)
def Uq(ops:List Oper):List Oper->AS->Option AS
 | [],S=>some S
 |o::r,S=>match S.gv ops o with
  |some false=>(match S.putv o.dst (.whn false (.bool true))with
   |some S'=>Uq ops r S'
   |none=>none)
  |_ =>none
attribute [simp] Uq
theorem Agp{ops:List Oper}:∀ {c l2:List Oper}{i:Nat}{S a:AS},Uq ops c S=some a->Jj P w0 N0 ops Q (i+c.length) l2 a->Jj P w0 N0 ops Q i (c++l2) S
 | [],l2,i,S,a,hs,h=>by
  simp only [Uq,Au]at hs;subst hs;exact h
 |o::r,l2,i,S,a,hs,h=>by
  simp only [Uq]at hs;split at hs
  case h_2=>cases hs
  rename_i d;split at hs
  case h_2=>cases hs
  rename_i S' hp;refine Ax1 d hp (Agp hs ?_);rw [show i+1+r.length=i+(o::r).length by simp;omega];exact h
theorem Mh{ops l:List Oper}{i:Nat}{a:AS}(n:Nat)(hs:Uq ops (l.take n) S=some a)(h:Jj P w0 N0 ops Q (i+(l.take n).length) (l.drop n) a):Jj P w0 N0 ops Q i l S:=by
 have:=Agp (Q:=Q) (P:=P) (w0:=w0) (N0:=N0) hs h
 rwa [Gi]at this
end
theorem Xg{P:Program}{w0:Bs}{N0:Nat->Prop}{Q:Exit->AS->Prop}{S:AS}{x y:Code}{α:Type}(d:α->AS)(I:α->Prop)(h1:AW P w0 N0 x (Akx (fun T=>∃a,I a/\T.le (d a)) Q) S)(h2:∀a,I a->AW P w0 N0 y Q (d a)):AW P w0 N0 (.seq x y) Q S:=
 Ab (h1.mono fun e T f=>by
  cases e with
  |normal=>
   obtain⟨a,g,c⟩:=f;exact S7 c (h2 a g)
  |_ =>exact f)
attribute [simp] Gd Mr V.mset Aih V.okM V.okM1 V.flat0 Ql
section
variable {P:Program}{w0:Bs}{N0:Nat->Prop}{Q:Exit->AS->Prop}{S:AS}
theorem Qa{ops:List Oper}{i:Nat}{o:Oper}{c:List Oper}{t:TypeId}(k:IntKind)(s:o.guard=none)(z:o.op=.makeMap t none)
  (h:∀b,w0.free b->(∀f b' r n,get S.env f=some (.mp b' r n)->b'≠b)->∃S',S.putv o.dst (.mp b k [])=some S'/\Jj P w0 N0 ops Q (i+1) c S'):Jj P w0 N0 ops Q i (o::c) S:=by
 rintro D a w hD⟨μ,l⟩;refine wpList_plain s fun K u=>?_
 obtain⟨S',hs,d⟩:=h w.heap.size (.inl l.below.size) (fun f b' r n hm=>by
  have:=(l.env f _ hm).2;generalize a.tmps.getD f undef=y at this;cases this with
  |pur hp=>cases hp with
   |mp _ _ _ es cl g hN m=>have:=(B2.1 m).1;omega)
 have m:Below w.heap.size w (w.alloc (.map #[] 0)):=(Below.refl _ _).alloc (A9 _) _;unfold Oper.wp
 have e:(execOp a.eval o).run P w=.ok (.value (.map (some w.heap.size))) (w.alloc (.map #[] 0)):=by
  unfold execOp;rw [z];rfl
 rw [e];refine u _ _ (d D _ _ (fun j hj=>Eh (hD j hj)) ⟨μ,(l.later m).putv hs (.pur ?_)⟩);exact .mp _ k [] #[] 0 (fun _ =>undef) (fun x=>by have:=l.own_lt _ x;omega) (heap_alloc_new w _) sm (by simp [Gd]) (by simp [Hi]) sm (by simp [Gd])
theorem Ak9:∀ {l:List (Nat × V)},Aih l=true->∀t v,get l t=some v->v.okM=true:=fun h t v=>Ak2 h t v
theorem Art{ops:List Oper}{i:Nat}{o:Oper}{S':AS}{t e:TypeId}{m x v:Operand}{b:Nat}{k:IntKind}{es:List (Int × V)}{a:Int}{u:V}(w:w0.free b)(d:o.guard=none)(r:o.dst=none)(h:o.op=.mapUpdate t m x v)
  (l:S.evc true m=some (.mp b k es))(g:S.evc true x=some (.int k a))(f:S.evc true v=some u)(n:u.flat0=true)(j:Wz P t=some (k,e))(c:Aih S.env=true)(s:({ S with env:=Ql (V.mset b k ((a,u)::es)) S.env}:AS)=S'):Rq P 0 w0 ops i o S S':=
 .inr (.inr ⟨t,m,x,v,b,k,es,a,u,e,d,r,h,l,g,f,n,j,w,Ak9 c,s.symm⟩)
theorem Qm{ops:List Oper}{i:Nat}{o:Oper}{c:List Oper}{S':AS}{t e:TypeId}{m x v:Operand}{b:Nat}{k:IntKind}{es:List (Int × V)}{a:Int}{u:V}(z:w0.free b)(f:o.guard=none)(w:o.dst=none)(l:o.op=.mapUpdate t m x v)
  (r:S.evc true m=some (.mp b k es))(j:S.evc true x=some (.int k a))(g:S.evc true v=some u)(s:u.flat0=true)(n:Wz P t=some (k,e))(d:Aih S.env=true)(y:({ S with env:=Ql (V.mset b k ((a,u)::es)) S.env}:AS)=S')
  (h:Jj P w0 N0 ops Q (i+1) c S'):Jj P w0 N0 ops Q i (o::c) S:=Ao4 (Art z f w l r j g s n d y) h
theorem Vr{ops:List Oper}{i:Nat}{ks:List Nat}{l:List (Nat × List Nat)}{o:Oper}{S':AS}{t e:TypeId}{m x v:Operand}{b:Nat}{k:IntKind}{es:List (Int × V)}{a:Int}{u:V}(hb:w0.free b)(w:ops[i]? =some o)(c:(ks.all fun d=>(get S.objs (0+d)).isNone)=true)(g:o.guard=none)(z:o.dst=none)(r:o.op=.mapUpdate t m x v)
  (y:S.evc true m=some (.mp b k es))(n:S.evc true x=some (.int k a))(j:S.evc true v=some u)(hf:u.flat0=true)(s:Wz P t=some (k,e))(f:Aih S.env=true)(hS:({ S with env:=Ql (V.mset b k ((a,u)::es)) S.env}:AS)=S')
  (h:AWO P 0 w0 ops Q l S'):AWO P 0 w0 ops Q ((i,ks)::l) S:=⟨o,S',w,c,Art hb g z r y n j hf s f hS,h⟩
end
def Xh(P:Program)(kb:Nat)(ops:List Oper)(i:Nat)(o:Oper)(S S':AS):Prop:=
 ∃j a O v,o.guard=some (j,a)/\S.gd ops j a=some true/\Xa P i S o.dst (kb+o.dst.getD 0) o.op=some (O,v)/\({ S with objs:=O}:AS).putv o.dst (.whn true v)=some S'
def Abi(P:Program)(w0:Bs)(ops:List Oper)(i:Nat)(o:Oper)(S S':AS):Prop:=
 ∀(N0:Nat->Prop)(D:Nat->Prop)(a:Act)(w:World),Pd D w0 N0 S a w->¬D i->(∀j,D j->j<ops.length)->∀(K:Act->World->Prop)(Q':Exit->Act->World->Prop),(∀c w',Pd (fun j=>D j\/j=i) w0 N0 S' c w'->K c w')->
  if Region.wanted o (yielded ops.toArray a.tmps)=true then o.wp P a w K Q' else K (a.put o.dst undef) w
def Qb(P:Program)(w0:Bs)(ops:List Oper)(i:Nat)(o:Oper)(S S':AS):Prop:=
 ∃u O,S'=S.ap o.dst u O/\∀T,Mw ops o S T->(∀d,get S.objs d=get T.objs d)->Abi P w0 ops i o T (T.ap o.dst u O)
def Aim(P:Program)(w0:Bs)(ops:List Oper)(i:Nat)(o:Oper)(Q:Exit->AS->Prop)(S:AS):Prop:=
 ∀T,Mw ops o S T->(∀d,get S.objs d=get T.objs d)->∀(N0:Nat->Prop)(D:Nat->Prop)(a:Act)(w:World),Pd D w0 N0 T a w->¬D i->(∀j,D j->j<ops.length)->
  Region.wanted o (yielded ops.toArray a.tmps)=true/\∀(K:Act->World->Prop),o.wp P a w K (post w0 N0 Q)
def Lv(P:Program)(kb:Nat)(w0:Bs)(X:List Nat)(ops:List Oper)(i:Nat)(o:Oper)(S S':AS):Prop:=Rq P kb w0 ops i o S S'\/Xh P kb ops i o S S'\/(i∈X/\Qb P w0 ops i o S S')
def Wd(X:List Nat)(j:Nat)(o:Oper):Bool:=Ov o.op||X.contains j
def Acr(X:List Nat)(j:Nat)(o:Oper):Bool:=Mv o.op&& !X.contains j
section
variable {P:Program}{kb:Nat}{w0:Bs}{N0:Nat->Prop}{Q:Exit->AS->Prop}
theorem RelM.whn{D:Nat->Prop}{μ:Mu}{S f S':AS}{a:Act}{w:World}{dst:Option Nat}{v:V}(h1:S.putv dst v=some f)(h2:S.putv dst (.whn true v)=some S')(h:RelM D w0 N0 μ f a w):RelM D w0 N0 μ S' a w:=by
 obtain⟨rfl,_⟩:=J0 h1;obtain⟨rfl,_⟩:=J0 h2;refine⟨h.defers,h.size,h.below,h.n0,h.fresh,h.objs,h.inj,fun t u c=>?_⟩;cases dst with
 |none=>exact h.env t u c
 |some d=>
  simp only [AS.ap,C7]at c
  by_cases e:d=t
  ·rw [if_pos e]at c;injection c with c;subst c;have:=h.env t v (by simp only [AS.ap,C7];rw [if_pos e]);exact⟨this.1,.whn _ _ _ (fun _ =>this.2) (fun g=>by cases g)⟩
  ·rw [if_neg e]at c;exact h.env t u (by simp only [AS.ap,C7];rw [if_neg e];exact c)
theorem Apa{S S':AS}{ops:List Oper}{i:Nat}{o:Oper}(hs:Xh P kb ops i o S S'):Abi P w0 ops i o S S':=by
 intro N0 D a w g t _ K Q' m;obtain⟨j,n,O,v,r,s,h,d⟩:=hs;obtain⟨μ,g⟩:=g;rw [Uj g r s,if_pos rfl];obtain⟨h1,h2⟩:=J0 d
 have e:Ae8 P i S o.dst (kb+o.dst.getD 0) o.op=some (({ S with objs:=O}:AS).ap o.dst v []):=by
  unfold Ae8;simp only [h];exact K4 v h2
 obtain⟨x,w',l,μ',f⟩:=Ach g t e;have c:Pd (fun j=>D j\/j=i) w0 N0 S' (a.put o.dst x) w':=⟨μ',f.whn (K4 v h2) d⟩;unfold Oper.wp
 rcases l with k|⟨k,rfl⟩
 ·rw [k];exact m _ _ c
 ·rw [k];exact m _ _ c
theorem Aao{X:List Nat}{S S':AS}{D:Nat->Prop}{a:Act}{w:World}{ops:List Oper}{i:Nat}{o:Oper}(f:Pd D w0 N0 S a w)(g:¬D i)(d:∀j,D j->j<ops.length)(hs:Lv P kb w0 X ops i o S S'){K:Act->World->Prop}{Q':Exit->Act->World->Prop}
  (e:∀h w',Pd (fun j=>D j\/j=i) w0 N0 S' h w'->K h w'):
  if Region.wanted o (yielded ops.toArray a.tmps)=true then o.wp P a w K Q' else K (a.put o.dst undef) w:=by
 rcases hs with hs|hs|⟨_,hs⟩
 ·exact Wa f g hs e
 ·exact Apa hs N0 D a w f g d K Q' e
 ·obtain⟨u,O,rfl,c⟩:=hs;exact c S ⟨fun _ _ =>rfl,rfl,rfl⟩ (fun _ =>rfl) N0 D a w f g d K Q' e
theorem Acs{ops:List Oper}{i:Nat}{o:Oper}{S S':AS}(hs:Xh P kb ops i o S S'):∃d ob v,S'=S.ap o.dst (.whn true v) [(d,ob)]/\Ov o.op=true/\(Mv o.op=true->∃e,o.dst=some e/\d=kb+e)/\
  ∀T,Mw ops o S T->(∀d,get S.objs d=get T.objs d)->Xh P kb ops i o T (T.ap o.dst (.whn true v) [(d,ob)]):=by
 obtain⟨j,c,O,v,k,x,a,g⟩:=hs;obtain⟨h1,h2⟩:=J0 g;obtain⟨d,ob,rfl,_,r⟩:=P9 (ops:=ops) (T:=S) ⟨fun _ _ =>rfl,rfl,rfl⟩ (fun _ =>rfl) a
 refine⟨d,ob,v,by rw [h1];rfl,?_,fun z=>by
  obtain⟨w,y⟩:=r z;obtain⟨e,f⟩:=Cm.1 w;exact⟨e,f,by rw [y,f];rfl⟩,fun T m l=>?_⟩
 ·cases h0:Ov o.op with
  |true=>rfl
  |false=>rw [Agf h0]at a;cases a
 ·obtain⟨d',u,f,s,_⟩:=P9 m l a;injection f with f _;injection f with he1 he2;subst he1;subst he2;have h:S.gv ops o=some true:=by simp only [AS.gv,k];exact x
  have n:T.gd ops j c=some true:=by have:=m.gv;rw [h]at this;simp only [AS.gv,k]at this;exact this.symm
  refine⟨j,c,_,v,k,n,s,?_⟩;have:=K4 (S:={ T with objs:=(d,ob)::T.objs}) (dst:=o.dst) (.whn true v) (fun d1 t=>by have:=h2 d1 t;simp only at this|-;rw [<- m.2.1];exact this);rw [this];rfl
theorem Atz{X:List Nat}{ops:List Oper}{i:Nat}{o:Oper}{S S' T:AS}(hs:Lv P kb w0 X ops i o S S')(h:S.eqv T):∃c,Lv P kb w0 X ops i o T c/\S'.eqv c:=by
 rcases hs with hs|hs|⟨j,hs⟩
 ·obtain⟨c,h1,h2⟩:=Ak3 hs h;exact⟨c,.inl h1,h2⟩
 ·obtain⟨d,ob,v,rfl,_,_,a⟩:=Acs hs;exact⟨_,.inr (.inl (a T ⟨fun t _ =>h.1 t,h.2.2.2,h.2.2.1⟩ h.2.1)),Ao5 h _ _ _⟩
 ·obtain⟨u,O,rfl,a⟩:=hs;refine⟨T.ap o.dst u O,.inr (.inr ⟨j,u,O,rfl,fun c f e=>a c ⟨fun t g=>(h.1 t).trans (f.1 t g),h.2.2.2.trans f.2.1,h.2.2.1.trans f.2.2⟩ (fun d=>(h.2.1 d).trans (e d))⟩),Ao5 h _ _ _⟩
theorem Acu{X:List Nat}{ops:List Oper}{i:Nat}{o:Oper}{S S':AS}(hs:Lv P kb w0 X ops i o S S')(y:Q1 o.op=false):
  ∃u O,S'=S.ap o.dst u O/\(Wd X i o=false->O= [])/\(Acr X i o=true->∀d ob,(d,ob)∈O->∃e,o.dst=some e/\d=kb+e)/\
   ∀T,Mw ops o S T->(Wd X i o=true->∀d,get S.objs d=get T.objs d)->(Nh o.op=true->∀p r,S.place p=some r->T.place p=some r)->Lv P kb w0 X ops i o T (T.ap o.dst u O):=by
 have k:Wd X i o=false->Ov o.op=false:=fun h=>by simp only [Wd,F3]at h;exact h.1
 have f:Ov o.op=true->Wd X i o=true:=fun h=>by simp [Wd,h]
 have g:Acr X i o=true->Mv o.op=true:=fun h=>by simp only [Acr,Bk]at h;exact h.1
 rcases hs with hs|hs|⟨hX,u,O,h1,l⟩
 ·obtain⟨u,O,h1,h2,w,x⟩:=Un hs (.inl y);exact⟨u,O,h1,fun h=>h2 (k h),fun h=>w (g h),fun T a b c=>.inl (x T a (fun h=>b (f h)) c)⟩
 ·obtain⟨d,ob,v,h1,h2,w,x⟩:=Acs hs;refine⟨_,_,h1,fun n=>(by rw [f h2]at n;cases n),fun z d' aa j=>?_,fun T a b c=>.inr (.inl (x T a (b (f h2))))⟩;simp at j;rw [j.1];exact w (g z)
 ·have m:Wd X i o=true:=by simp [Wd,hX]
  refine⟨u,O,h1,fun n=>(by rw [m]at n;cases n),fun z=>?_,fun T a b c=>.inr (.inr ⟨hX,u,O,rfl,fun T' hT s=>l T' ⟨fun t ht=>(a.1 t ht).trans (hT.1 t ht),a.2.1.trans hT.2.1,a.2.2.trans hT.2.2⟩ (fun d=>(b m d).trans (s d))⟩)⟩;simp [Acr,hX]at z
theorem Vs{ops:List Oper}{i:Nat}{o:Oper}{S T:AS}(h:Aim P w0 ops i o Q S)(f:Mw ops o S T)(e:∀d,get S.objs d=get T.objs d):Aim P w0 ops i o Q T:=
 fun j a c=>h j ⟨fun t g=>(f.1 t g).trans (a.1 t g),f.2.1.trans a.2.1,f.2.2.trans a.2.2⟩ (fun d=>(e d).trans (c d))
def Apb(P:Program)(kb:Nat)(w0:Bs)(X:List Nat)(ops:List Oper)(Q:Exit->AS->Prop)(K:AS->Prop):Nat->Array Bool->AS->Prop
 |0,a,S=>Region.ready .any ops.toArray a= []/\K S
 |n+1,a,S=>(Region.ready .any ops.toArray a= []->K S)/\∀i∈Region.ready .any ops.toArray a,(∃o S',ops[i]? =some o/\Lv P kb w0 X ops i o S S'/\Apb P kb w0 X ops Q K n (a.setIfInBounds i true) S')\/∃o,ops[i]? =some o/\Aim P w0 ops i o Q S
theorem Ala{X:List Nat}{ops:List Oper}{K:AS->Prop}(e:∀S T,S.eqv T->K S->K T):∀(n:Nat)(a:Array Bool)(S T:AS),S.eqv T->Apb P kb w0 X ops Q K n a S->Apb P kb w0 X ops Q K n a T
 |0,_,_,_,h,d=>⟨d.1,e _ _ h d.2⟩
 |n+1,a,S,T,h,d=>⟨fun l=>e _ _ h (d.1 l),fun i j=>by
  rcases d.2 i j with⟨o,S',f,hs,c⟩|⟨o,f,hp⟩
  ·obtain⟨g,m,k⟩:=Atz hs h;exact .inl ⟨o,g,f,m,Ala e n _ S' g k c⟩
  ·exact .inr ⟨o,f,Vs hp ⟨fun t _ =>h.1 t,h.2.2.2,h.2.2.1⟩ h.2.1⟩⟩
theorem Acv{X:List Nat}{ops:List Oper}{K:AS->Prop}(z:∀S a w,K S->Pd (fun j=>j<ops.length) w0 N0 S a w->post w0 N0 Q .normal a w):∀(n:Nat)(c:Array Bool)(S:AS)(a:Act)(w:World),c.size=ops.length->
  Pd (fun j=>c.getD j false=true) w0 N0 S a w->Apb P kb w0 X ops Q K n c S->wpAny P .any ops.toArray (post w0 N0 Q) n c a w
 |0,c,S,a,w,s,e,r=>by
  obtain⟨μ,e⟩:=e;refine⟨r.1,z S a w r.2 ⟨μ,e.more (fun j d=>?_)⟩⟩
  rcases De j c.size with h|h
  ·omega
  ·simp [Cu h]at d
 |n+1,c,S,a,w,s,e,r=>by
  refine⟨fun h0=>?_,fun i hi=>?_⟩
  ·obtain⟨μ,e⟩:=e;refine z S a w (r.1 h0) ⟨μ,e.more (fun j d=>?_)⟩
   rcases De j c.size with h|h
   ·omega
   ·simp [Cu h]at d
  ·have g:=(mem_ready.1 hi).1
   have l:i<c.size:=by
    rcases De i c.size with h|h
    ·exact h
    ·simp [Cu h]at g
   have u:¬(c.getD i false=true):=by
    intro h1;simp [l]at g h1;rw [g]at h1;cases h1
   have x:∀j,c.getD j false=true->j<ops.length:=fun j d=>by
    rcases De j c.size with h|h
    ·omega
    ·simp [Cu h]at d
   rcases r.2 i hi with⟨o,S',ho,hs,f⟩|⟨o,ho,hp⟩
   case inr=>
    unfold wpOp;have m:ops.toArray[i]? =some o:=by simpa using ho
    simp only [m];obtain⟨y,aa⟩:=hp S ⟨fun _ _ =>rfl,rfl,rfl⟩ (fun _ =>rfl) N0 _ a w e u x;rw [if_pos y];exact .inl (aa _)
   unfold wpOp;have m:ops.toArray[i]? =some o:=by simpa using ho
   simp only [m]
   have:=Aao (P:=P) e u x hs (K:=wpAny P .any ops.toArray (post w0 N0 Q) n (c.setIfInBounds i true)) (Q':=post w0 N0 Q) (fun a' w' k=>by
    obtain⟨μ',k⟩:=k;refine Acv z n _ S' a' w' (by simpa using s) ⟨μ',k.more (fun j d=>?_)⟩ f
    rcases d with d|d
    ·by_cases t:i=j
     ·subst t;simp [l]
     ·rw [getD_set_ne false t];exact d
    ·subst d;simp [l])
   split
   ·rename_i y;rw [if_pos y]at this;exact .inl this
   ·rename_i y;rw [if_neg y]at this;exact this
theorem Apc{X:List Nat}{ops:List Oper}{K:AS->Prop}(hK:∀S T,S.eqv T->K S->K T){i:Nat}{l:Oper}(hi:ops[i]? =some l)(hq:Wd X i l=false)(be:Q1 l.op=false)(a9:Zd ops=true)(B:List Nat):
  ∀(n:Nat)(a:Array Bool)(S S1:AS),Ak4 ops a i B->
   (∀j oj,ops[j]? =some oj->j≠i->a.getD j true=false->j∉B->l.apart ops.toArray oj=true/\(Nh l.op=true->Wd X j oj=true->Acr X j oj=true)/\Q1 oj.op=false)->
   (Nh l.op=true->∀j oj d,ops[j]? =some oj->a.getD j true=false->Acr X j oj=true->oj.dst=some d->get S.objs (kb+d)=none)->
   i∈Region.ready .any ops.toArray a->Lv P kb w0 X ops i l S S1->
   Apb P kb w0 X ops Q K n (a.setIfInBounds i true) S1->Apb P kb w0 X ops Q K (n+1) a S:=by
 intro n
 induction n with
 |zero=>
  intro a S S1 _ _ _ hr hs H;refine⟨fun h=>(by rw [h]at hr;cases hr),fun j hj=>?_⟩
  by_cases s:j=i
  ·subst s;exact .inl ⟨l,S1,hi,hs,H⟩
  ·have:=ready_mono hj s;rw [H.1]at this;cases this
 |succ n ih=>
  intro a S S1 hB af aw hr hs H;refine⟨fun h=>(by rw [h]at hr;cases hr),fun j hj=>?_⟩
  by_cases s:j=i
  ·subst s;exact .inl ⟨l,S1,hi,hs,H⟩
  ·obtain⟨ad,c,a5,ay⟩:=mem_ready.1 hj;have m:ops[j]? =some c:=by simpa using a5
   have a4:=(mem_ready.1 hr).1
   have ak:∀k,a.getD k true=false->∀e∈c.after,Region.binds .any e=true->e.on≠k:=fun k hk e he hb aj=>by
    have h1:=ay e he hb;rw [aj]at h1
    rcases De k a.size with h'|h'
    ·simp [h']at hk h1;rw [hk]at h1;cases h1
    ·simp [Cu h']at h1
   have al:j∉B:=fun ba=>by
    obtain⟨_,oq,ax,e,he,hb,ag⟩:=hB j ba;have:oq=c:=by rw [m]at ax;exact(Ix ax).symm
    subst this
    rcases ag with ag|ag
    ·exact ak i a4 e he hb ag
    ·exact ak e.on (hB e.on ag).1 e he hb rfl
   obtain⟨bb,ah,az⟩:=af j c m s ad al;obtain⟨a1,a2,a3⟩:=Oper.apart_spec bb;obtain⟨u,O,rfl,hO,_,aq⟩:=Acu hs be;have bg:=hO hq;subst bg;rcases H.2 j (ready_mono hj s)with⟨oj,T',o,an,y⟩|⟨oj,o,a8⟩
   case inr=>
    rw [m]at o;have:=Ix o;subst this;refine .inr ⟨c,m,Vs a8 ⟨fun t ht=>?_,rfl,rfl⟩ (fun _ =>rfl)⟩;cases hd:l.dst with
    |none=>rfl
    |some d=>
     simp only [AS.ap,C7];rw [if_neg (fun e=>a1 d hd (by rw [e];exact ht))]
   rw [m]at o;have:=Ix o;subst this;obtain⟨u2,x,rfl,ai,ab,w⟩:=Acu an az
   have au:Lv P kb w0 X ops j c S (S.ap c.dst u2 x):=by
    refine w S ⟨fun t ht=>?_,rfl,rfl⟩ (fun _ d=>rfl) (fun _ p r hp=>by rw [<- Ko (S:=S.ap c.dst u2 [] |>.ap none u2 []) (T:=S) (fun d=>rfl)];rw [Ko (S:=S.ap l.dst u []) (T:=S.ap c.dst u2 [] |>.ap none u2 []) (fun d=>rfl)]at hp;exact hp);cases hd:l.dst with
    |none=>rfl
    |some d=>
     simp only [AS.ap,C7];rw [if_neg (fun e=>a1 d hd (by rw [e];exact ht))]
   have aa:Nh l.op=true->∀p r,S.place p=some r->(S.ap c.dst u2 x).place p=some r:=by
    intro hl p r hp;cases hact:Wd X j c with
    |false=>
     rw [ai hact];rw [<- Ko (S:=S) (T:=S.ap c.dst u2 []) (fun d=>rfl)];exact hp
    |true=>
     have hm:=ah hl hact
     have hk:∀d,get S.objs d≠none->get (S.ap c.dst u2 x).objs d=get S.objs d:=by
      intro d hd
      have f:∀ob,(d,ob)∉x:=fun ob g=>by
       obtain⟨e,he,ao⟩:=ab hm d ob g;exact hd (by rw [ao];exact aw hl j c e m ad hm he)
      show get (x++S.objs) d=get S.objs d
      clear ab w an y au ai
      induction x with
      |nil=>rfl
      |cons q x av=>
       obtain⟨k,ob⟩:=q;simp only [Ch,C7];rw [if_neg (fun e=>f ob (by rw [e];simp))];exact av (fun am g=>f am (by simp [g]))
     cases p<;>simp only [AS.place]at hp|-<;>try(first|exact hp|(cases hp;done))
     rename_i d v sz k off;cases hg:get S.objs d with
     |none=>rw [hg]at hp;cases hp
     |some ob=>
      rw [hk d (by rw [hg];simp)];exact hp
   have a0:Lv P kb w0 X ops i l (S.ap c.dst u2 x) ((S.ap c.dst u2 x).ap l.dst u []):=by
    refine aq _ ⟨fun t ht=>?_,rfl,rfl⟩ (fun h0=>by rw [hq]at h0;cases h0) aa;cases hd:c.dst with
    |none=>rfl
    |some d=>
     simp only [AS.ap,C7];rw [if_neg (fun e=>a3 d hd (by rw [e];exact ht))]
   have aj:((S.ap l.dst u []).ap c.dst u2 x).eqv ((S.ap c.dst u2 x).ap l.dst u []):=by
    refine⟨fun t=>?_,fun d=>rfl,rfl,rfl⟩;cases hd1:l.dst with
    |none=>rfl
    |some d1=>
     cases hd2:c.dst with
     |none=>rfl
     |some d2=>
      have bi:d2≠d1:=fun e=>a2 d1 hd1 (by rw [hd2,e])
      simp only [AS.ap,C7];by_cases h1:d1=t<;>by_cases h2:d2=t<;>simp [h1,h2];exact absurd (h2.trans h1.symm) bi
   refine .inl ⟨c,_,m,au,ih (a.setIfInBounds j true) _ _ (fun k hk=>by
    have z:j≠k:=by rintro rfl;exact al hk
    exact⟨by rw [getD_set_ne true z];exact(hB k hk).1,(hB k hk).2⟩) (fun k ok hk bh ae bf=>af k ok hk bh ?_ bf) (fun hl k ok d hk ae hm hd=>?_) (ready_mono hr (Y2 s)) a0 ?_⟩
   ·by_cases z:j=k
    ·subst z;exact ad
    ·rw [getD_set_ne true z]at ae;exact ae
   ·have z:j≠k:=by
     rintro rfl
     have bd:j<a.size:=by
      rcases De j a.size with h|h
      ·exact h
      ·simp [Cu h]at ad
     simp [bd]at ae
    have a6:a.getD k true=false:=by rwa [getD_set_ne true z]at ae
    have h0:=aw hl k ok d hk a6 hm hd;show get (x++S.objs) (kb+d)=none
    cases hact:Wd X j c with
    |false=>rw [ai hact];exact h0
    |true=>
     have ar:=ah hl hact
     have f:∀ob,(kb+d,ob)∉x:=fun ob g=>by
      obtain⟨e,a7,ao⟩:=ab ar _ ob g;have bc:d=e:=Nat.add_left_cancel ao;exact z (Agh a9 m hk (by simp only [Acr,Bk]at ar;exact ar.1) (by simp only [Acr,Bk]at hm;exact hm.1) (by rw [a7,hd,bc]))
     clear ab w an y au ai aa a0 aj
     induction x with
     |nil=>exact h0
     |cons q x av=>
      obtain⟨k',ob⟩:=q;simp only [Ch,C7];rw [if_neg (fun e=>f ob (by rw [e];simp))];exact av (fun am g=>f am (by simp [g]))
   ·rw [Array.setIfInBounds_comm _ _ s];exact Ala hK n _ _ _ aj y
def Acw(X:List Nat)(ops:List Oper)(a:Array Bool)(i:Nat)(d:Oper):Bool:=
 Axu ops a i (blk ops a i)&&(List.range ops.length).all fun j=>j==i||a.getD j true||(match ops[j]? with
  |some c=>(blk ops a i).contains j||(d.apart ops.toArray c&& !Q1 c.op&&(!Nh d.op|| !Wd X j c||Acr X j c))
  |none=>true)
theorem Afd{X:List Nat}{ops:List Oper}{a:Array Bool}{i:Nat}{e:Oper}(h:Acw X ops a i e=true):∃B,Ak4 ops a i B/\∀j c,ops[j]? =some c->j≠i->a.getD j true=false->j∉B->
  e.apart ops.toArray c=true/\(Nh e.op=true->Wd X j c=true->Acr X j c=true)/\Q1 c.op=false:=by
 unfold Acw at h;rw [Bk]at h;refine⟨blk ops a i,Aco h.1,?_⟩;intro j c l f g d;have k:j<ops.length:=(Ap.1 l).1;have h1:=Aw.1 h.2 j (Hv.2 k);simp only [l,g,Bool.or_false,Hc,beq_iff_eq,Bk]at h1
 rcases h1 with h1|h1|h1
 ·exact absurd h1 f
 ·exact absurd (by simpa using h1) d
 ·refine⟨h1.1.1,fun n m=>?_,by simpa using h1.1.2⟩
  rcases h1.2 with(h2|h2)|h2
  ·simp [n]at h2
  ·simp [m]at h2
  ·exact h2
def Acx(X:List Nat)(ops:List Oper)(a:Array Bool)(i:Nat)(ks:List Nat):Bool:=
 match ops[i]? with
 |some o=>(!Wd X i o&& !Q1 o.op&&(Region.ready .any ops.toArray a).contains i&&Acw X ops a i o&&(!Nh o.op||(List.range ops.length).all fun j=>a.getD j true||(match ops[j]? with
   |some c=> !Acr X j c||(match c.dst with|some d=>ks.contains d|none=>true)
   |none=>true)))||(Region.ready .any ops.toArray a== [i])
 |none=>false
def lst(ops:List Oper):List Nat->Array Bool
 | []=>Array.replicate ops.length false
 |i::l=>(lst ops l).setIfInBounds i true
def AT(P:Program)(kb:Nat)(w0:Bs)(X:List Nat)(ops:List Oper)(Q:Exit->AS->Prop)(done:List Nat)(S:AS):Prop:=
 Apb P kb w0 X ops Q (fun S=>∃S',({ S with nx:=S.nx+ops.length}:AS).le S'/\Q .normal S') (ops.length-done.length) (lst ops done) S
theorem A96{ops:List Oper}{S T:AS}(a:S.eqv T)(h:∃S',({ S with nx:=S.nx+ops.length}:AS).le S'/\Q .normal S'):∃S',({ T with nx:=T.nx+ops.length}:AS).le S'/\Q .normal S':=by
 obtain⟨e,g,f⟩:=h;have c:({ T with nx:=T.nx+ops.length}:AS).eqv { S with nx:=S.nx+ops.length}:=⟨fun t=>(a.1 t).symm,fun d=>(a.2.1 d).symm,by simp only;rw [a.2.2.1],a.2.2.2.symm⟩;exact⟨e,AS.le_trans c.le g,f⟩
variable {X:List Nat}{ops:List Oper}{done:List Nat}{S S':AS}
theorem A7l(e:(Region.ready .any ops.toArray (lst ops done)).isEmpty=true)(a:({ S with nx:=S.nx+ops.length}:AS).le S')(h:Q .normal S'):AT P kb w0 X ops Q done S:=by
 have c:Region.ready .any ops.toArray (lst ops done)= []:=by simpa using e
 unfold AT;cases ops.length-done.length with
 |zero=>exact⟨c,S',a,h⟩
 |succ n=>exact⟨fun _ =>⟨S',a,h⟩,fun i d=>by rw [c]at d;cases d⟩
theorem I0{i:Nat}{ks:List Nat}{o:Oper}(r:(Nat.blt done.length ops.length&&Zd ops&&Acx X ops (lst ops done) i ks)=true)(m:ops[i]? =some o)(n:(ks.all fun d=>(get S.objs (kb+d)).isNone)=true)(hs:Lv P kb w0 X ops i o S S')(h:AT P kb w0 X ops Q (i::done) S'):AT P kb w0 X ops Q done S:=by
 simp only [Bk,Nat.blt_eq]at r;obtain⟨⟨aa,w⟩,c⟩:=r;unfold AT at h|-;rw [show ops.length-done.length=(ops.length-(i::done).length)+1 by simp only [Ba];omega];unfold Acx at c;simp only [m,Hc,Bk,beq_iff_eq]at c
 rcases c with⟨⟨⟨⟨h1,l⟩,h2⟩,z⟩,e⟩|c
 ·obtain⟨B,y,a⟩:=Afd z;refine Apc (fun S T he u=>A96 (Q:=Q) (ops:=ops) he u) m (by simpa using h1) (by simpa using l) w B _ _ S S' y a (fun hl j oj d f k g x=>?_) (by simpa using h2) hs h
  rcases e with e|e
  ·simp [hl]at e
  ·have s:=Aw.1 e j (Hv.2 (Ap.1 f).1);simp only [k,f,g,x,Qx,Oa]at s;have h6:=Aw.1 n d (by simpa using s);simpa using h6
 ·refine⟨fun t=>(by rw [c]at t;cases t),fun j f=>?_⟩;rw [c]at f;have:j=i:=by simpa using f
  subst this;exact .inl ⟨o,S',m,hs,h⟩
theorem Ur(l:List Nat)(c:(Nat.blt done.length ops.length&&Region.ready .any ops.toArray (lst ops done)==l&& !l.isEmpty)=true)(h:∀i∈l,∃o S',ops[i]? =some o/\Lv P kb w0 X ops i o S S'/\AT P kb w0 X ops Q (i::done) S'):AT P kb w0 X ops Q done S:=by
 simp only [Bk,Nat.blt_eq,beq_iff_eq]at c;obtain⟨⟨j,e⟩,a⟩:=c;unfold AT;rw [show ops.length-done.length=(ops.length-(done.length+1))+1 by omega]
 refine⟨fun f=>?_,fun i d=>?_⟩
 ·rw [e]at f;subst f;simp at a
 ·rw [e]at d;obtain⟨o,S',h1,h2,g⟩:=h i d;exact .inl ⟨o,S',h1,h2,g⟩
def Ax2(X:List Nat)(ops:List Oper):List Nat->List (Nat × List Nat)->Bool
 |_,[]=>true
 |done,(i,ks)::l=>Nat.blt done.length ops.length&&Zd ops&&Acx X ops (lst ops done) i ks&&Ax2 X ops (i::done) l
def Ax3:List Nat->List (Nat × List Nat)->List Nat
 |done,[]=>done
 |done,(i,_)::l=>Ax3 (i::done) l
theorem Ih:∀(l:List (Nat × List Nat)){done:List Nat}{S a:AS},Ax2 X ops done l=true->Ni P kb ops l S=some a->AT P kb w0 X ops Q (Ax3 done l) a->AT P kb w0 X ops Q done S
 | [],done,S,a,_,hs,h=>by
  simp only [Ni,Au]at hs;subst hs;exact h
 |(i,ks)::l,done,S,a,c,hs,h=>by
  simp only [Ax2,Bk]at c;simp only [Ni]at hs;split at hs
  case h_2=>cases hs
  rename_i o e;split at hs
  case isFalse=>cases hs
  rename_i d;split at hs
  case h_2=>cases hs
  rename_i S2 h2;rw [C0]at e;exact I0 (by simp only [Bk];exact c.1) e d (.inl (.inl h2)) (Ih l c.2 hs h)
theorem At0{id:Nat}{l:List Oper}{S:AS}(kb:Nat)(X:List Nat)(k:P.follows .mixedOrders=true)(h:AT P kb w0 X l Q [] S):AW P w0 N0 (.region id l.toArray true) Q S:=by
 rintro a w⟨μ,c⟩;refine wp_region_any k ?_;have f:l.toArray.size=l.length:=sm;rw [f]
 refine Acv (K:=fun S=>∃S',({ S with nx:=S.nx+l.length}:AS).le S'/\Q .normal S') ?_ l.length _ S a _ sm ⟨μ,?_⟩ h
 ·rintro S a w⟨S',h1,h2⟩⟨μ,c⟩;refine⟨S',h2,h1 _ _ _ _ ⟨μ,⟨c.defers,c.size,c.below,c.n0,fun d v i=>?_,c.objs,c.inj,c.env⟩⟩⟩
  rcases c.fresh d v i with h3|⟨j,g,e⟩
  ·exact .inl sy
  ·exact .inl sy
 ·have:=c.drew;exact this.more fun j g=>g.elim
theorem Lw{id:Nat}{l:List Oper}{S:AS}(X:List Nat)(a:P.follows .mixedOrders=true)(h:AT P 0 w0 X l Q [] S):AW P w0 N0 (.region id l.toArray true) Q S:=At0 0 X a h
theorem Q3{i:Nat}{o:Oper}(h:L6 P kb ops i o S=some S'):Lv P kb w0 X ops i o S S':=.inl (.inl h)
theorem Aap{S T:AS}(h:∀d,get S.objs d=get T.objs d):∀(vs:List V),S.views vs=T.views vs:=by
 have a:∀v,S.viewC v=T.viewC v:=by
  intro v;cases v<;>simp only [AS.viewC]<;>rw [Ta h]
 have e:∀l,S.viewL l=T.viewL l:=by
  intro l
  induction l with
  |nil=>rfl
  |cons v l ih=>simp only [AS.viewL,a,ih]
 have c:∀v,S.view v=T.view v:=by
  intro v;cases v<;>simp only [AS.view,a,e]
 intro vs
 induction vs with
 |nil=>rfl
 |cons v l ih=>simp only [AS.views,c,ih]
theorem K6{D:Nat->Prop}{μ:Mu}{a:Act}{w:World}{o:Oper}(f:RelM D w0 N0 μ S a w)(d:S.gv ops o=some true):Region.wanted o (yielded ops.toArray a.tmps)=true:=by
 unfold AS.gv at d
 split at d
 ·rename_i c;simp [Region.wanted,c]
 ·rename_i j e c;exact Uj f c d
theorem Il{i:Nat}{o:Oper}{f:Operand}{h:FuncId}{fn:Func}{args:Array Operand}{ah:Array TypeId}{vs us:List V}{g:V}
  (hX:i∈X)(hc:AC P h us (fun r=>r=g))(ad:P.funcs[h]? =some fn)(hb:fn.body.isSome=true)(hn:(fn.name== "runtime.NumGoroutine")=false)
  (hg:S.gv ops o=some true)(ho:o.op=.call { callee:=.value f,args:=args,argTypes:=ah})(s:S.evc true f=some (.fn h))
  (ha:S.args true args.toList=some vs)(hp:S.views vs=some us)(hl:g.light=true)(hs:S.putv o.dst (Fs o true g)=some S'):Lv P kb w0 X ops i o S S':=by
 obtain⟨af,ab⟩:=J0 hs;refine .inr (.inr ⟨hX,Fs o true g,[],af,fun T t aa N0 D a w k hi ai K Q' hK=>?_⟩);replace hg:T.gv ops o=some true:=by rw [<- t.gv];exact hg
 replace s:T.evc true f=some (.fn h):=by rw [<- t.evc (by rw [ho];simp [Op.operands,Call.operands])];exact s
 replace ha:T.args true args.toList=some vs:=by rw [<- I6 (S:=S) (T:=T) (fun x z=>t.evc (by rw [ho];simp [Op.operands,Call.operands];right;simpa using z) true)];exact ha
 replace hp:T.views vs=some us:=by rw [<- Aap aa];exact hp
 have hs:=K4 (S:=T) (Fs o true g) (fun d hd=>by rw [<- t.2.1];exact ab d hd);obtain⟨μ,k⟩:=k;rw [K6 k hg,if_pos rfl];have l:=k.evc s rfl
 have ae:a.eval f=.func (.func h) #[] #[]:=by
  generalize a.eval f=y at l;cases l with
  |pur l=>cases l with
   |fn=>rfl
 obtain⟨h1,h2⟩:=Fx k rfl ha;obtain⟨h3,h4⟩:=Nn hp;unfold Oper.wp;rw [Hq ho ae ad hb hn]
 have c:=hc w N0 (args.toList.map a.eval) (fun b hb=>B6 (k.n0.1 b hb).1 k.below.size) (by simp [h1,h3]) (fun j x v z hv=>by
  simp only [Bc,A0]at z;obtain⟨y,hy,rfl⟩:=z;have u:j<vs.length:=by rw [<- h3];exact(Ap.1 hv).1
  exact k.view (h2 j y vs[j] hy (Al u)) (h4 j vs[j] v (Al u) hv))
 have n:(args.toList.map a.eval).toArray=args.map a.eval:=by apply Ej;simp
 rw [n]at c;refine c.mono ?_;rintro e w'⟨x,r,rfl,rfl,m,ag⟩;refine hK _ _ ⟨μ,((k.later ag).putv hs ?_).more (fun j u=>.inl u)⟩;unfold Fs
 split
 ·exact .pur (m.of_light hl)
 ·exact .whn _ _ _ (fun _ =>.pur (m.of_light hl)) (fun s=>by cases s)
theorem Alb{i:Nat}{o:Oper}{f:Operand}{n:FuncId}{fn:Func}{args:Array Operand}{aj:Array TypeId}{vs us:List V}{sz:Nat}{ty:TypeId}{F:Nat->Nat->V}{es:List V}(d:Nat)
  (hX:i∈X)(hc:ACO P n us sz ty (fun F' z=>F'=F/\z=es))(af:P.funcs[n]? =some fn)(hb:fn.body.isSome=true)(hn:(fn.name== "runtime.NumGoroutine")=false)
  (hg:S.gv ops o=some true)(ho:o.op=.call { callee:=.value f,args:=args,argTypes:=aj})(hf:S.evc true f=some (.fn n))
  (ha:S.args true args.toList=some vs)(hp:S.views vs=some us)(hs:({ S with objs:=(d,⟨S.nx+i,sz,ty,es⟩)::S.objs}:AS).putv o.dst (Fs o true (F d (S.nx+i)))=some S'):Lv P kb w0 X ops i o S S':=by
 obtain⟨ah,ae⟩:=J0 hs;refine .inr (.inr ⟨hX,Fs o true (F d (S.nx+i)),[(d,⟨S.nx+i,sz,ty,es⟩)],ah,fun T hT ad N0 D a w k hi ak K Q' hK=>?_⟩);replace hg:T.gv ops o=some true:=by rw [<- hT.gv];exact hg
 replace hf:T.evc true f=some (.fn n):=by rw [<- hT.evc (by rw [ho];simp [Op.operands,Call.operands])];exact hf
 replace ha:T.args true args.toList=some vs:=by rw [<- I6 (S:=S) (T:=T) (fun x hx=>hT.evc (by rw [ho];simp [Op.operands,Call.operands];right;simpa using hx) true)];exact ha
 replace hp:T.views vs=some us:=by rw [<- Aap ad];exact hp
 have ai:S.nx=T.nx:=hT.2.2;have hs:=K4 (S:={ T with objs:=(d,⟨T.nx+i,sz,ty,es⟩)::T.objs}) (dst:=o.dst) (Fs o true (F d (T.nx+i))) (fun d hd=>by have:=ae d hd;simp only at this|-;rw [<- hT.2.1];exact this);rw [ai]at hK;obtain⟨μ,k⟩:=k;rw [K6 k hg,if_pos rfl];have s:=k.evc hf rfl
 have ag:a.eval f=.func (.func n) #[] #[]:=by
  generalize a.eval f=y at s;cases s with
  |pur s=>cases s with
   |fn=>rfl
 obtain⟨h1,h2⟩:=Fx k rfl ha;obtain⟨h3,h4⟩:=Nn hp;unfold Oper.wp;rw [Hq ho ag af hb hn]
 have m:=hc w N0 (args.toList.map a.eval) (fun b hb=>B6 (k.n0.1 b hb).1 k.below.size) (by simp [h1,h3]) (fun j x v hx hv=>by
  simp only [Bc,A0]at hx;obtain⟨y,hy,rfl⟩:=hx;have hj:j<vs.length:=by rw [<- h3];exact(Ap.1 hv).1
  exact k.view (h2 j y vs[j] hy (Al hj)) (h4 j vs[j] v (Al hj) hv))
 have ab:(args.toList.map a.eval).toArray=args.map a.eval:=by apply Ej;simp
 rw [ab]at m;refine m.mono ?_;rintro e w'⟨x,F',z,l,rfl,⟨rfl,rfl⟩,u,r⟩;have t:=k.muSet_mono hi d l
 obtain⟨aa,_⟩:=k.update (D':=fun j=>D j\/j=i) (d:=d) (o':=⟨T.nx+i,sz,ty,z⟩) (l':=l) (w':=w') (μ':=Jd μ d (T.nx+i) l) t (k.muSet_fresh i d _) (Dc _ _ _ _)
  (k.below.trans (u.mono k.below.size)) (Ef.of_below u _) (fun d1 o1 g c _ h1 h2=>u.block g (k.block_lt h1 h2))
  (fun g c e=>by
   have:=(r d (T.nx+i) (Jd μ d (T.nx+i) l) (fun _ =>False) (Dc _ _ _ _)).2;rw [e]at this;exact .inl (this.1.elim id (fun h=>h.elim)))
  (fun N' _ =>by
   have:=(r d (T.nx+i) (Jd μ d (T.nx+i) l) N' (Dc _ _ _ _)).2;cases l with
   |none=>exact this
   |some gc=>exact⟨.inl (Ai k.below.size (this.1.elim id (fun h=>h.elim))),this.2⟩)
 refine hK _ _ ⟨_,aa.putv hs ?_⟩;unfold Fs
 split
 ·exact(r d (T.nx+i) _ _ (Dc _ _ _ _)).1
 ·exact .whn _ _ _ (fun _ =>(r d (T.nx+i) _ _ (Dc _ _ _ _)).1) (fun hf=>by cases hf)
def fin(l:List Oper)(L M:List Nat)(S:AS):AS:=(S.bump l.length).keep L M
theorem Kp(L M:List Nat)(a:(Region.ready .any ops.toArray (lst ops done)).isEmpty=true)(hs:fin ops L M S=S')(h:Q .normal S'):AT P kb w0 X ops Q done S:=by
 subst hs;exact A7l a (L1 _ L M) h
attribute [simp] fin Ax3
end
def Agq(P:Program)(S:AS):List ResultVar->Option (List V)
 | []=>some []
 |r::rs=>match Uk P S r,Agq P S rs with
  |some v,some vs=>some (v::vs)
  |_,_ =>none
def Xi(P:Program)(S:AS)(rs:List ResultVar):Option V:=
 match Agq P S rs with
 |some [v]=>some v
 |some vs=>some (.tup vs)
 |none=>none
attribute [simp] Agq Xi
def ACS(P:Program)(f:FuncId)(args:List V)(ins:List (Nat × Ob))(R:V->List (Nat × Ob)->Prop)(E:List PanicEntry->Prop):Prop:=
 ∀(B:Bs)(N:Nat->Prop)(μ:Mu)(nx:Nat)(xs:List Value),xs.length=args.length->B.df= []->
  RelM (fun _ =>False) B N μ ⟨P4 0 args,ins,nx,args.length⟩ ⟨xs.toArray,[]⟩ B.w->
  Calls P f xs.toArray B.w (fun e w'=>(∃x r a c μ',e=.returned x/\R r a/\nx<=c/\RelM (fun _ =>False) B N μ' ⟨[(0,r)],a,c,1⟩ ⟨#[x],[]⟩ w')\/(∃d,e=.panicked d/\E d/\B.Below w'))
def Acy(P:Program)(fn:Func)(R:V->List (Nat × Ob)->Prop)(E:List PanicEntry->Prop)(nx:Nat):Exit->AS->Prop
 | .ret,S| .normal,S=>nx<=S.nx/\∃r a,Xi P S fn.results.toList=some r/\(∀k o,get a k=some o->get S.objs k=some o)/\R r a
 | .panic c,_ =>E c
 |_,_ =>False
section
variable {P:Program}{w0:Bs}{N0:Nat->Prop}{Q:Exit->AS->Prop}{S:AS}
theorem Agr{D:Nat->Prop}{μ:Mu}{a:Act}{w:World}(h:RelM D w0 N0 μ S a w){fn:Func}{r:V}(d:Xi P S fn.results.toList=some r):∃x,(results fn a.tmps).run P w=.ok x w/\Enc w (Fb N0 μ S) μ x r:=by
 have g:∀(l:List ResultVar)(vs:List V),Agq P S l=some vs->∃xs:List Value,(l.mapM (Ro a.tmps)).run P w=.ok xs w/\
   xs.length=vs.length/\∀(i:Nat)x v,xs[i]? =some x->vs[i]? =some v->Enc w (Fb N0 μ S) μ x v:=by
  intro l
  induction l with
  |nil=>intro vs c;simp only [Agq,Au]at c;subst c;exact⟨[],rfl,rfl,by simp⟩
  |cons q l ih=>
   intro vs c;simp only [Agq]at c;split at c
   case h_2=>cases c
   rename_i v n h1 h2;injection c with c;subst c;obtain⟨x,z,m⟩:=S8 h h1;obtain⟨xs,f,s,u⟩:=ih n h2
   refine⟨x::xs,?_,by simp [s],fun i y v j d=>?_⟩
   ·rw [M7,Sem.run_bind,z,Result.andThen_ok,Sem.run_bind,f,Result.andThen_ok];rfl
   ·rcases i with _ |i
    ·simp at j d;subst j;subst d;exact m
    ·simp at j d;exact u i y v j d
 unfold Xi at d
 have e:∀xs:List Value,(fn.results.toList.mapM (Ro a.tmps)).run P w=.ok xs w->
   (results fn a.tmps).run P w=.ok (if h:xs.toArray.size=1 then xs.toArray[0]else .tuple xs.toArray) w:=by
  intro xs f;rw [Rp,Sem.run_bind,Hf,Sem.run_map,f];rfl
 split at d
 ·rename_i v c;injection d with d;subst d;obtain⟨xs,h1,h2,k⟩:=g _ _ c
  match xs,h2 with
  | [x],_ =>exact⟨x,e [x] h1,k 0 x _ rfl rfl⟩
 ·rename_i vs o c;injection d with d;subst d;obtain⟨xs,h1,h2,k⟩:=g _ _ c;refine⟨.tuple xs.toArray,?_,.tup xs vs h2 k⟩;rw [e xs h1]
  have:¬xs.toArray.size=1:=by
   intro t;have s:vs.length=1:=by simp at t;omega
   match vs,s with
   | [v],_ =>exact o v rfl
  rw [dif_neg this]
 ·cases d
theorem RelM.enter{μ:Mu}{args:List V}{objs:List (Nat × Ob)}{nx c:Nat}{xs:List Value}{w:World}(d:xs.length=args.length)(hl:args.length<=c)(f:w0.df= [])
  (h:RelM (fun _ =>False) w0 N0 μ ⟨P4 0 args,objs,nx,args.length⟩ ⟨xs.toArray,[]⟩ w):
  RelM (fun _ =>False) w0 N0 μ ⟨P4 0 args,objs,nx,c⟩ { tmps:=xs.toArray++Array.replicate (c-xs.toArray.size) undef,defers:=[]} w:=by
 refine⟨f.symm,?_,h.below,h.n0,h.fresh,h.objs,h.inj,fun t v e=>?_⟩
 ·simp only [Gz,C4,I1];omega
 ·obtain⟨h1,h2⟩:=h.env t v e;refine⟨by simp only at h1|-;omega,?_⟩
  have a:(xs.toArray++Array.replicate (c-xs.toArray.size) undef).getD t undef=xs.toArray.getD t undef:=by
   simp only at h1;simp only [Dm];rw [G5 (by simp;omega)]
  rw [a];exact h2
theorem RelM.leave{μ:Mu}{a:Act}{w:World}(h:RelM (fun _ =>False) w0 N0 μ S a w)(u:w0.df= []){x:Value}{r:V}{f:List (Nat × Ob)}(z:Enc w (Fb N0 μ S) μ x r)(m:∀k o,get f k=some o->get S.objs k=some o):
  RelM (fun _ =>False) w0 N0 μ ⟨[(0,r)],f,S.nx,1⟩ ⟨#[x],[]⟩ w:=by
 have i:∀b,b<w.heap.size->Fb N0 μ ⟨[(0,r)],f,S.nx,1⟩ b->Fb N0 μ S b:=by
  rintro b _(h0|⟨d,o,c,h1,h2⟩)
  ·exact .inl h0
  ·exact .inr ⟨d,o,c,m d o h1,h2⟩
 have y:=Ef.refl w (Fb N0 μ S)
 refine⟨u.symm,rfl,h.below,h.n0,h.fresh,fun d o u=>?_,fun d o d' o' g c c' h1 h2=>h.inj d o d' o' g c c' (m _ _ h1) (m _ _ h2),fun t v j=>?_⟩
 ·obtain⟨l,hl,n⟩:=h.objs d o (m _ _ u);exact⟨l,hl,n.keep y i (fun _ _ _ s=>s) (fun _ _ _ =>rfl)⟩
 ·simp only [get]at j
  split at j
  ·rename_i e;subst e;injection j with j;subst j;exact⟨Nat.one_pos,by simpa using z.keep y i (fun _ _ _ s=>s)⟩
  ·cases j
theorem At1{f:FuncId}{fn:Func}{c:Code}{args:List V}{ins:List (Nat × Ob)}{R:V->List (Nat × Ob)->Prop}{E:List PanicEntry->Prop}(hf:P.funcs[f]? =some fn)(hb:fn.body=some c)(hl:args.length<=fn.ntmps)
  (h:∀w0 N0 nx,AW P w0 N0 c (Acy P fn R E nx) ⟨P4 0 args,ins,nx,fn.ntmps⟩):ACS P f args ins R E:=by
 intro B N μ nx xs n y hr;refine calls_of_wp hf hb (wp_mono (h B N nx _ B.w ⟨μ,hr.enter n hl y⟩) ?_);rintro e z w'⟨S',i,⟨μ',d⟩⟩;have g:z.defers= []:=by rw [d.defers,y]
 have m:nx<=S'.nx/\(∃r a,Xi P S' fn.results.toList=some r/\(∀k o,get a k=some o->get S'.objs k=some o)/\R r a)->∃v,(results fn z.tmps).run P w'=.ok v w'/\
   ((∃x r a j μ',Ending.returned v=.returned x/\R r a/\nx<=j/\RelM (fun _ =>False) B N μ' ⟨[(0,r)],a,j,1⟩ ⟨#[x],[]⟩ w')\/(∃s,Ending.returned v=.panicked s/\E s/\B.Below w')):=by
  rintro⟨u,r,a,h1,h2,h3⟩;obtain⟨x,hx,t⟩:=Agr d h1;exact⟨x,hx,.inl ⟨x,r,a,S'.nx,μ',rfl,h3,u,d.leave y t h2⟩⟩
 cases e with
 |ret=>exact⟨g,m i⟩
 |normal=>exact⟨g,m i⟩
 |panic s=>exact⟨g,.inr ⟨s,rfl,i,d.below⟩⟩
 |exit id=>exact i.elim
 |goto l=>exact i.elim
 |outgrown=>exact i.elim
theorem Ain{α:Type}(r:List (Nat × α))(t:Nat):∀(l:List (Nat × α)),get (l++r) t=match get l t with|some x=>some x|none=>get r t
 | []=>rfl
 |(k,x)::l=>by
  simp only [Ch,C7]
  split
  ·rfl
  ·exact Ain r t l
def Mx(μ:Mu)(a:List (Nat × Ob))(b:Nat):Prop:=∃d o c,get a d=some o/\μ d o.v=some (some (b,c))
theorem RelM.hand{D:Nat->Prop}{μ:Mu}{a:Act}{w:World}(h:RelM D w0 N0 μ S a w){nx:Nat}(u:∀d v,μ d v≠none->v<nx){vs:List V}{xs:List Value}{ins:List (Nat × Ob)}(n:xs.length=vs.length)
  (e:∀k o,get ins k=some o->get S.objs k=some o)(hx:∀(i:Nat)x v,xs[i]? =some x->vs[i]? =some v->Enc w (Fb N0 μ S) μ x v):
  RelM (fun _ =>False) ⟨w,Mx μ ins,μ,[]⟩ (fun b=>Fb N0 μ S b/\¬Mx μ ins b) μ ⟨P4 0 vs,ins,nx,vs.length⟩ ⟨xs.toArray,[]⟩ w:=by
 have y:=Ef.refl w (Fb N0 μ S)
 have f:∀b,b<w.heap.size->Fb (fun b=>Fb N0 μ S b/\¬Mx μ ins b) μ ⟨P4 0 vs,ins,nx,vs.length⟩ b->Fb N0 μ S b:=by
  rintro b _(h0|⟨d,o,c,h1,h2⟩)
  ·exact h0.1
  ·exact .inr ⟨d,o,c,e _ _ h1,h2⟩
 refine⟨rfl,by simp [n],Bs.Below.refl _,⟨fun b hb=>⟨?_,hb.2⟩,fun _ _ _ j=>j⟩,fun d v r=>.inl (u d v r),fun d o hd=>?_,fun d o d' o' g c c' h1 h2=>h.inj d o d' o' g c c' (e _ _ h1) (e _ _ h2),fun t v r=>?_⟩
 ·exact h.own_lt b hb.1
 ·obtain⟨l,z,s⟩:=h.objs d o (e d o hd);refine⟨l,z,?_⟩;have:=s.keep y f (fun _ _ _ j=>j) (fun _ _ _ =>rfl);cases l with
  |none=>exact this
  |some gc=>exact⟨.inr ⟨d,o,gc.2,hd,z⟩,this.2⟩
 ·obtain⟨_,h2⟩:=Q0 r;simp only [J4]at h2;have ht:t<vs.length:=(Ap.1 h2).1;refine⟨ht,?_⟩;have m:xs[t]? =some xs[t]:=Al om;have:xs.toArray.getD t undef=xs[t]:=by simp [m]
  rw [this];exact(hx t xs[t] v m h2).keep y f (fun _ _ _ j=>j)
theorem RelM.back{D:Nat->Prop}{μ μ':Mu}{a:Act}{w w':World}(h:RelM D w0 N0 μ S a w){ins f:List (Nat × Ob)}{ae:Nat}{r:V}{x:Value}(z:∀k o,get ins k=some o->get S.objs k=some o)
  (ag:∀k,get f k=none->get ins k=none)
  (hr:RelM (fun _ =>False) ⟨w,Mx μ ins,μ,[]⟩ (fun b=>Fb N0 μ S b/\¬Mx μ ins b) μ' ⟨[(0,r)],f,ae,1⟩ ⟨#[x],[]⟩ w'):
  RelM (fun _ =>False) w0 N0 μ' { S with objs:=f++S.objs,nx:=ae} a w'/\Enc w' (Fb N0 μ' { S with objs:=f++S.objs,nx:=ae}) μ' x r:=by
 have hμ:∀d v l,μ d v=some l->μ' d v=some l:=hr.n0.2
 have aa:∀d o,get (f++S.objs) d=some o->get f d=some o\/(get f d=none/\get S.objs d=some o):=by
  intro d o hd;rw [Ain]at hd;cases ho:get f d with
  |none=>rw [ho]at hd;exact .inr ⟨rfl,hd⟩
  |some q=>rw [ho]at hd;exact .inl hd
 have ab:∀d o g c,get S.objs d=some o->get ins d=none->μ d o.v=some (some (g,c))->¬Mx μ ins g:=by
  rintro d o g c h1 h2 h3⟨y,o',c',u,h5⟩;have:=h.inj d o y o' g c c' h1 (z _ _ u) h3 h5;subst this;rw [h2]at u;cases u
 have af:Ef w (Fb N0 μ S) w':=⟨hr.below.size,fun b hb hn=>hr.below.block b hb (fun⟨d,o,c,h1,h2⟩=>hn (.inr ⟨d,o,c,z _ _ h1,h2⟩))⟩
 have ad:∀g,(⟨w,Mx μ ins,μ,[]⟩:Bs).free g->w0.free g:=by
  rintro g(hg|⟨d,o,c,h1,h2⟩)
  ·exact .inl (Ai h.below.size hg)
  ·obtain⟨l,m,s⟩:=h.objs d o (z _ _ h1);rw [h2]at m;injection m with m;subst m;exact s.1
 have n:∀d o g c,get f d=some o->μ' d o.v=some (some (g,c))->(⟨w,Mx μ ins,μ,[]⟩:Bs).free g:=by
  intro d o g c h1 h2;obtain⟨l,m,s⟩:=hr.objs d o h1;rw [h2]at m;injection m with m;subst m;exact s.1
 have i:∀d o,get S.objs d=some o->∀l,μ' d o.v=some l->μ d o.v=some l:=by
  intro d o h1 l h2;obtain⟨l',ak,_⟩:=h.objs d o h1;have:=hμ _ _ _ ak;rw [h2]at this;injection this with this;rw [ak,this]
 have aj:∀b,b<w.heap.size->Fb N0 μ' { S with objs:=f++S.objs,nx:=ae} b->Fb N0 μ S b:=by
  rintro b hb(h0|⟨d,o,c,h1,h2⟩)
  ·exact .inl h0
  ·rcases aa d o h1 with h3|⟨_,u⟩
   ·rcases n d o b c h3 h2 with h5|⟨y,o',c',h6,h7⟩
    ·exact absurd hb (Sa.2 h5)
    ·exact .inr ⟨y,o',c',z _ _ h6,h7⟩
   ·exact .inr ⟨d,o,c,u,i d o u _ h2⟩
 have ai:∀b,b<w'.heap.size->Fb N0 μ' { S with objs:=f++S.objs,nx:=ae} b->Fb (fun b=>Fb N0 μ S b/\¬Mx μ ins b) μ' ⟨[(0,r)],f,ae,1⟩ b:=by
  rintro b hb(h0|⟨d,o,c,h1,h2⟩)
  ·by_cases hB:Mx μ ins b
   ·obtain⟨d,o,c,h1,h2⟩:=hB;obtain⟨l,m,s⟩:=h.objs d o (z _ _ h1);rw [h2]at m;injection m with m;subst m;exact absurd s.1 (fun hf=>hf.elim (fun h=>by have:=(‹RelM D w0 N0 μ S a w›.n0.1 b h0).1;omega) (‹RelM D w0 N0 μ S a w›.n0.1 b h0).2)
   ·exact .inl ⟨.inl h0,hB⟩
  ·rcases aa d o h1 with h3|⟨h3,u⟩
   ·exact .inr ⟨d,o,c,h3,h2⟩
   ·have h5:=i d o u _ h2;exact .inl ⟨.inr ⟨d,o,c,u,h5⟩,ab d o b c u (ag d h3) h5⟩
 refine⟨⟨h.defers,h.size,?_,⟨h.n0.1,fun d v l m=>hμ _ _ _ (h.n0.2 d v l m)⟩,fun d v hv=>?_,fun d o hd=>?_,fun d o y o' g c c' h1 h2 h3 u=>?_,fun t v hv=>⟨(h.env t v hv).1,(h.env t v hv).2.keep af aj hμ⟩⟩,?_⟩
 ·refine⟨hr.below.os.trans h.below.os,hr.below.tape.trans h.below.tape,hr.below.output.trans h.below.output,Ai h.below.size hr.below.size,fun k hk hX=>?_⟩;refine(hr.below.block k (B6 hk h.below.size) (fun hB=>?_)).trans (h.below.block k hk hX)
  rcases ad k (.inr hB)with h1|h1
  ·omega
  ·exact hX h1
 ·rcases hr.fresh d v hv with h1|⟨j,hj,_⟩
  ·exact .inl h1
  ·exact hj.elim
 ·rcases aa d o hd with h1|⟨h1,h2⟩
  ·obtain⟨l,m,s⟩:=hr.objs d o h1;refine⟨l,m,?_⟩;have:=s.keep (Ef.refl w' _) ai (fun _ _ _ hh=>hh) (fun _ _ _ =>rfl);cases l with
   |none=>exact this
   |some gc=>exact⟨ad _ this.1,this.2⟩
  ·obtain⟨l,m,s⟩:=h.objs d o h2;refine⟨l,hμ _ _ _ m,s.keep af aj hμ (fun g c e=>?_)⟩;subst e;exact hr.below.block g (h.block_lt h2 m) (ab d o g c h2 (ag d h1) m)
 ·have ah:∀d o y o' g c c',get f d=some o->μ' d o.v=some (some (g,c))->get f y=none->get S.objs y=some o'->μ' y o'.v=some (some (g,c'))->False:=by
   intro d o y o' g c c' h1 h2 h3 u h5;have h6:=i y o' u _ h5
   rcases n d o g c h1 h2 with h7|h7
   ·exact absurd (h.block_lt u h6) (Sa.2 h7)
   ·exact ab y o' g c' u (ag y h3) h6 h7
  rcases aa d o h1 with a1|⟨a1,a2⟩<;>rcases aa y o' h2 with b1|⟨b1,b2⟩
  ·exact hr.inj d o y o' g c c' a1 b1 h3 u
  ·exact(ah d o y o' g c c' a1 h3 b1 b2 u).elim
  ·exact(ah y o' d o g c' c b1 u a1 a2 h3).elim
  ·exact h.inj d o y o' g c c' a2 b2 (i d o a2 _ h3) (i y o' b2 _ u)
 ·have:=(hr.env 0 r (by simp [get])).2;simp only [Dm]at this;exact Enc.keep (Ef.refl w' _) ai (fun _ _ _ hh=>hh) (by simpa using this)
theorem RelM.lost{D:Nat->Prop}{μ:Mu}{a:Act}{w w':World}(h:RelM D w0 N0 μ S a w){nx:Nat}(ab:∀d v,μ d v≠none->v<nx){ins:List (Nat × Ob)}{objs:List (Nat × Ob)}(j:∀k o,get ins k=some o->get S.objs k=some o)
  (f:∀k o,get objs k=some o->get S.objs k=some o/\get ins k=none)(m:(⟨w,Mx μ ins,μ,[]⟩:Bs).Below w'):RelM (fun _ =>False) w0 N0 μ { S with objs:=objs,nx:=nx} a w':=by
 have i:Ef w (Fb N0 μ S) w':=⟨m.size,fun b aa hn=>m.block b aa (fun⟨d,o,c,h1,h2⟩=>hn (.inr ⟨d,o,c,j _ _ h1,h2⟩))⟩
 have n:∀b,b<w.heap.size->Fb N0 μ { S with objs:=objs,nx:=nx} b->Fb N0 μ S b:=by
  rintro b _(h0|⟨d,o,c,h1,h2⟩)
  ·exact .inl h0
  ·exact .inr ⟨d,o,c,(f _ _ h1).1,h2⟩
 have u:∀d o g c,get S.objs d=some o->get ins d=none->μ d o.v=some (some (g,c))->¬Mx μ ins g:=by
  rintro d o g c h1 h2 x⟨d',o',c',h4,h5⟩;have:=h.inj d o d' o' g c c' h1 (j _ _ h4) x h5;subst this;rw [h2]at h4;cases h4
 refine⟨h.defers,h.size,?_,h.n0,fun d v y=>.inl (ab d v y),fun d o hd=>?_,fun d o d' o' g c c' h1 h2=>h.inj d o d' o' g c c' (f _ _ h1).1 (f _ _ h2).1,fun t v y=>⟨(h.env t v y).1,(h.env t v y).2.keep i n (fun _ _ _ z=>z)⟩⟩
 ·refine⟨m.os.trans h.below.os,m.tape.trans h.below.tape,m.output.trans h.below.output,Ai h.below.size m.size,fun k hk hX=>?_⟩;refine(m.block k (B6 hk h.below.size) (fun⟨d,o,c,h1,h2⟩=>?_)).trans (h.below.block k hk hX);obtain⟨l,r,s⟩:=h.objs d o (j _ _ h1);rw [h2]at r;injection r with r;subst r
  rcases s.1 with x|x
  ·omega
  ·exact hX x
 ·obtain⟨h1,h2⟩:=f d o hd;obtain⟨l,r,s⟩:=h.objs d o h1;refine⟨l,r,s.keep i n (fun _ _ _ z=>z) (fun g c e=>?_)⟩;subst e;exact m.block g (h.block_lt h1 r) (u d o g c h1 h2 r)
theorem RelM.fresh_lt{D:Nat->Prop}{μ:Mu}{a:Act}{w:World}(h:RelM D w0 N0 μ S a w){i:Nat}(c:∀j,D j->j<i):∀d v,μ d v≠none->v<S.nx+i+1:=by
 intro d v f
 rcases h.fresh d v f with h1|⟨j,g,e⟩
 ·omega
 ·have:=c j g;omega
theorem Us{D:Nat->Prop}{μ:Mu}{a:Act}{w:World}(h:RelM D w0 N0 μ S a w){f:Operand}{d:FuncId}(e:S.evc true f=some (.fn d)):a.eval f=.func (.func d) #[] #[]:=by
 have c:=h.evc e rfl;generalize a.eval f=y at c;cases c with
 |pur c=>cases c with
  |fn=>rfl
def Jn{α:Type}(L:List Nat):List (Nat × α)->List (Nat × α)
 | []=>[]
 |(k,x)::r=>if L.contains k then Jn L r else(k,x)::Jn L r
theorem Q4{α:Type}{L:List Nat}:∀ {l:List (Nat × α)}{k:Nat}{x:α},get (Jn L l) k=some x->get l k=some x/\k∉L
 | [],k,x,h=>by simp [Jn,get]at h
 |(q,y)::r,k,x,h=>by
  simp only [Jn]at h
  split at h
  ·rename_i a;obtain⟨h1,h2⟩:=Q4 h;refine⟨?_,h2⟩;rw [C7,if_neg (fun e=>h2 (by rw [<- e];simpa using a))];exact h1
  ·rename_i a;rw [C7]at h|-
   split
   ·rename_i e;rw [if_pos e]at h;exact⟨h,by rw [<- e];simpa using a⟩
   ·rename_i e;rw [if_neg e]at h;exact Q4 h
theorem Aio{α:Type}:∀ {l:List (Nat × α)}{k:Nat}{x:α},get l k=some x->k∈l.map (·.1)
 | [],k,x,h=>by simp [get]at h
 |(q,y)::r,k,x,h=>by
  rw [C7]at h
  split at h
  ·rename_i e;simp [e]
  ·exact Dv _ (Aio h)
theorem Xj{o:Oper}{a:Act}{w:World}{f:Operand}{c:FuncId}{fn:Func}{args:Array Operand}{i:Array TypeId}(n:o.op=.call { callee:=.value f,args:=args,argTypes:=i})(r:a.eval f=.func (.func c) #[] #[])
  (j:P.funcs[c]? =some fn)(s:fn.body.isSome=true)(m:(fn.name== "runtime.NumGoroutine")=false){K:Act->World->Prop}{Q':Exit->Act->World->Prop}{R:Ending->World->Prop}
  (k:Calls P c (args.toList.map a.eval).toArray w R)(h1:∀x w',R (.returned x) w'->K (a.put o.dst x) w')(h2:∀g w',R (.panicked g) w'->Q' (.panic g) a w')(l:∀w',¬R .outgrown w'):o.wp P a w K Q':=by
 unfold Oper.wp;rw [Hq n r j s m];have d:(args.toList.map a.eval).toArray=args.map a.eval:=by apply Ej;simp
 rw [d]at k;refine k.mono ?_;intro e w' h;cases e with
 |returned x=>exact h1 x w' h
 |panicked g=>exact h2 g w' h
 |outgrown=>exact(l w' h).elim
theorem El{ops:List Oper}{i:Nat}{o:Oper}{g:List Oper}{f:Operand}{t:FuncId}{fn:Func}{args:Array Operand}{ad:Array TypeId}{vs:List V}{ins:List (Nat × Ob)}{R:V->List (Nat × Ob)->Prop}{E:List PanicEntry->Prop}
  (hc:ACS P t vs ins R E)(aa:P.funcs[t]? =some fn)(hb:fn.body.isSome=true)(hn:(fn.name== "runtime.NumGoroutine")=false)
  (hg:S.gv ops o=some true)(ho:o.op=.call { callee:=.value f,args:=args,argTypes:=ad})(hf:S.evc true f=some (.fn t))
  (ha:S.args true args.toList=some vs)(e:∀k q,get ins k=some q->get S.objs k=some q)
  (h:∀r c nx,R r c->S.nx+i+1<=nx->(∀k,get c k=none->get ins k=none)/\∃S',({ S with objs:=c++S.objs,nx:=nx}:AS).putv o.dst (Fs o true r)=some S'/\Jj P w0 N0 ops Q (i+1) g S')
  (hE:∀ch,E ch->Q (.panic ch) { S with objs:=Jn (ins.map (·.1)) S.objs,nx:=S.nx+i+1}):Jj P w0 N0 ops Q i (o::g) S:=by
 rintro D a w hD⟨μ,s⟩;refine wpList_step fun K hK=>?_
 rw [K6 s hg,if_pos rfl];have d:=s.fresh_lt hD;obtain⟨h1,h2⟩:=Fx s rfl ha
 have m:=s.hand (nx:=S.nx+i+1) d (vs:=vs) (xs:=args.toList.map a.eval) (ins:=ins) (by simp [h1]) e (fun j x v hx hv=>by
  simp only [Bc,A0]at hx;obtain⟨y,hy,rfl⟩:=hx;exact h2 j y v hy hv)
 have l:=hc ⟨w,Mx μ ins,μ,[]⟩ _ μ (S.nx+i+1) (args.toList.map a.eval) (by simp [h1]) rfl m
 refine Xj ho (Us s hf) aa hb hn l ?_ ?_ ?_
 ·rintro x w'(⟨x',r,c,nx',μ',he,hR,hnx,hrel⟩|⟨ch,he,_⟩)
  ·injection he with he;subst he;obtain⟨u,S',hs,n⟩:=h r c nx' hR hnx;obtain⟨ab,z⟩:=s.back e u hrel;refine hK _ _ (n (fun _ =>False) _ w' (fun j hj=>hj.elim) ⟨μ',ab.putv hs ?_⟩);unfold Fs
   split
   ·exact z
   ·exact .whn _ _ _ (fun _ =>z) (fun hf=>by cases hf)
  ·cases he
 ·rintro ch w'(⟨x',r,c,nx',μ',he,_⟩|⟨ch',he,hEc,hbw⟩)
  ·cases he
  ·injection he with he;subst he;refine⟨_,hE ch hEc,μ,s.lost d e (fun k q hq=>?_) hbw⟩;obtain⟨h3,h4⟩:=Q4 hq;refine⟨h3,?_⟩;cases hk:get ins k with
   |none=>rfl
   |some q'=>exact absurd (Aio hk) h4
 ·rintro w'(⟨x',r,c,nx',μ',he,_⟩|⟨ch',he,_⟩)<;>cases he
end
section
variable {P:Program}{w0:Bs}{N0:Nat->Prop}{Q:Exit->AS->Prop}{S:AS}
end
@[simp]theorem Bbn(d k:Nat):(d<d+1+k)=True:=by simp;omega
section
variable {P:Program}{kb:Nat}{w0:Bs}{N0:Nat->Prop}{Q:Exit->AS->Prop}{S S':AS}
theorem Aip{ops:List Oper}{i:Nat}{o:Oper}{c:List Oper}(g:i<ops.length)(hs:Abi P w0 ops i o S S')(h:Jj P w0 N0 ops Q (i+1) c S'):Jj P w0 N0 ops Q i (o::c) S:=by
 intro D a w f l;have m:¬D i:=fun n=>absurd (f i n) om
 refine wpList_step fun K k=>hs N0 D a w l m (fun j d=>Sb (f j d) g) _ _ (fun r w' e=>k _ _ (h _ r w' (fun j d=>?_) e))
 rcases d with d|d
 ·have:=f j d;omega
 ·omega
end
section
variable {P:Program}{kb:Nat}{w0:Bs}{N0:Nat->Prop}{Q:Exit->AS->Prop}{X:List Nat}{ops:List Oper}{done:List Nat}{S S':AS}
theorem A97{fn:Func}{nx:Nat}{d:V}{outs0:List (Nat × Ob)}{E:List PanicEntry->Prop}(c:nx<=S.nx)(e:Xi P S fn.results.toList=some d)(f:∀k o,get outs0 k=some o->get S.objs k=some o):
  Acy P fn (fun r a=>r=d/\a=outs0) E nx .ret S:=⟨c,d,outs0,e,f,rfl,rfl⟩
theorem Dk{d k:Nat}{o q:Ob}{l:List (Nat × Ob)}(h:get l d=some q)(a:get [(d,q)] k=some o):get l k=some o:=by
 simp only [get]at a
 split at a
 ·rename_i e;subst e;injection a with a;subst a;exact h
 ·cases a
end
section
variable {P:Program}{w0:Bs}{N0:Nat->Prop}{Q:Exit->AS->Prop}{S S':AS}{b:Nat}{y:Value}
end
structure Gp where
 P:World->Prop
 bl:Nat->Prop
 stable:∀w w',P w->(∀b,bl b->w'.heap[b]? =w.heap[b]?)->P w'
 low:∀w,P w->∀b,bl b->b<w.heap.size
structure Gon(G:Gp)(B:Bs):Prop where
 here:G.P B.w
 notX:∀b,G.bl b->¬B.X b
theorem Gon.at{G:Gp}{B:Bs}{w:World}(h:Gon G B)(c:B.Below w):G.P w:=
 G.stable _ _ h.here (fun b a=>c.block b (G.low _ h.here b a) (h.notX b a))
def Hp(G:Gp)(P:Program)(f:FuncId)(args:List V)(R:V->Prop):Prop:=
 ∀(w:World)(N:Nat->Prop)(xs:List Value),G.P w->(∀b,N b->b<w.heap.size)->xs.length=args.length->(∀(i:Nat)x v,xs[i]? =some x->args[i]? =some v->Pur w N x v)->
  Calls P f xs.toArray w (fun e w'=>∃x r,e=.returned x/\R r/\Pur w' N x r/\Below w.heap.size w w')
theorem AC.q{P:Program}{f:FuncId}{args:List V}{R:V->Prop}(h:AC P f args R)(G:Gp):Hp G P f args R:=fun w N xs _ h1 h2 a=>h w N xs h1 h2 a
theorem Hp.mono{G:Gp}{P:Program}{f:FuncId}{args:List V}{R a:V->Prop}(h:Hp G P f args R)(e:∀r,R r->a r):Hp G P f args a:=
 fun w N xs d h1 h2 c=>(h w N xs d h1 h2 c).mono fun _ _⟨x,r,he,hR,hp,hb⟩=>⟨x,r,he,e r hR,hp,hb⟩
theorem Hp.relaxP{G:Gp}{P:Program}{f:FuncId}{args:List V}{a:V}(h:Hp G P f args (fun r=>Bi r a)):Hp G P f args (fun r=>r=a):=
 fun w N xs d h1 h2 c=>(h w N xs d h1 h2 c).mono fun _ _⟨x,_,he,hR,hp,hb⟩=>⟨x,a,he,rfl,hR.1 _ _ _ hp,hb⟩
theorem Hp.argsR{G:Gp}{P:Program}{f:FuncId}{args a:List V}{R:V->Prop}(h:Hp G P f a R)(c:RelaxL args a):Hp G P f args R:=
 fun w N xs k h1 h2 d=>h w N xs k h1 (by rw [h2,c.length]) (fun i x v g e=>by
  obtain⟨u,j,l⟩:=c.get i v e;exact l.1 _ _ _ (d i x u g j))
theorem Tc{G:Gp}{P:Program}{f:FuncId}{args:List V}{R:V->Prop}(i:Nat){sz:Nat}{es:List V}(h:args[i]? =some (.ro sz es))(k:es.length<=maxLen->Hp G P f args R):Hp G P f args R:=by
 intro w N xs e c d hp;have hi:i<args.length:=(Ap.1 h).1;have a:xs[i]? =some xs[i]:=Al om;exact k (hp i _ _ a h).ro_len w N xs e c d hp
section
variable {P:Program}{kb:Nat}{w0:Bs}{N0:Nat->Prop}{Q:Exit->AS->Prop}{S S':AS}{G:Gp}
theorem Ags{f:FuncId}{fn:Func}{c:Code}{args:List V}{R:V->Prop}(hf:P.funcs[f]? =some fn)(l:fn.body=some c)(hl:args.length<=fn.ntmps)
  (h:∀w0 N0,Gon G w0->AW P w0 N0 c (Att P fn R) ⟨P4 0 args,[],0,fn.ntmps⟩):Hp G P f args R:=by
 intro w N xs hG hN z hp
 refine calls_of_wp hf l (wp_mono (h ⟨w,fun _ =>False,fun _ _ =>none,[]⟩ N ⟨hG,fun _ _ h=>h⟩ _ w ⟨fun _ _ =>none,⟨rfl,?_,Bs.Below.refl _,⟨fun b l=>⟨hN b l,fun h=>h⟩,fun _ _ _ h=>by cases h⟩,fun d v m=>absurd rfl m,fun d o u=>?_,fun d o _ _ _ _ _ u=>?_,fun t v m=>?_⟩⟩) ?_)
 ·simp only [Gz,C4,I1];omega
 ·simp [get]at u
 ·simp [get]at u
 ·obtain⟨_,h2⟩:=Q0 m;simp only [J4]at h2;have ht:t<args.length:=(Ap.1 h2).1;refine⟨by simp only;omega,.pur ?_⟩;have k:xs[t]? =some xs[t]:=Al om;have:=hp t xs[t] v k h2
  have a:(xs.toArray++Array.replicate (fn.ntmps-xs.toArray.size) undef).getD t undef=xs[t]:=by
   rw [Dm,G5 (by simp;omega)];simp [k]
  rw [a]
  exact this.keep (Ef.refl _ _) (fun b l ho=>by
   rcases ho with h0|⟨d,o,c,h1,_⟩
   ·exact h0
   ·simp [get]at h1)
 ·rintro e a' w'⟨S',n,⟨μ,j⟩⟩
  have g:(match Pg P S' fn.results.toList with|some r=>R r|none=>False)->∃v,(results fn a'.tmps).run P w'=.ok v w'/\∃x r,Ending.returned v=.returned x/\R r/\Pur w' N x r/\Below w.heap.size w w':=by
   intro s
   split at s
   ·rename_i r i;obtain⟨x,k,y⟩:=Xd j i;exact⟨x,k,x,r,rfl,s,y,j.below.plain⟩
   ·exact s.elim
  cases e with
  |ret=>exact⟨j.defers,g n⟩
  |normal=>exact⟨j.defers,g n⟩
  |_ =>exact n.elim
theorem At2{ops:List Oper}{i:Nat}{o:Oper}{f:Operand}{h:FuncId}{fn:Func}{args:Array Operand}{ae:Array TypeId}{vs:List V}{g:V}
  (hG:Gon G w0)(hc:Hp G P h vs (fun r=>r=g))(aa:P.funcs[h]? =some fn)(hb:fn.body.isSome=true)(hn:(fn.name== "runtime.NumGoroutine")=false)
  (u:S.gv ops o=some true)(ho:o.op=.call { callee:=.value f,args:=args,argTypes:=ae})(n:S.evc true f=some (.fn h))
  (ha:S.args true args.toList=some vs)(hp:vs.all V.pureV=true)(hs:S.putv o.dst (Fs o true g)=some S'):Qb P w0 ops i o S S':=by
 obtain⟨ab,z⟩:=J0 hs;refine⟨Fs o true g,[],ab,fun T s af N0 D a w k hi ag K Q' hK=>?_⟩;replace u:T.gv ops o=some true:=by rw [<- s.gv];exact u
 replace n:T.evc true f=some (.fn h):=by rw [<- s.evc (by rw [ho];simp [Op.operands,Call.operands])];exact n
 replace ha:T.args true args.toList=some vs:=by rw [<- I6 (S:=S) (T:=T) (fun x t=>s.evc (by rw [ho];simp [Op.operands,Call.operands];right;simpa using t) true)];exact ha
 have hs:=K4 (S:=T) (Fs o true g) (fun d hd=>by rw [<- s.2.1];exact z d hd);obtain⟨μ,k⟩:=k;rw [K6 k u,if_pos rfl];obtain⟨h1,h2⟩:=Fx k rfl ha;unfold Oper.wp;rw [Hq ho (Us k n) aa hb hn]
 have c:=hc w (Fb N0 μ T) (args.toList.map a.eval) (hG.at k.below) k.own_lt (by simp [h1]) (fun j x v t hv=>by
  simp only [Bc,A0]at t;obtain⟨y,hy,rfl⟩:=t;exact(h2 j y v hy hv).pureV (Aw.1 hp v (Ay hv)))
 have m:(args.toList.map a.eval).toArray=args.map a.eval:=by apply Ej;simp
 rw [m]at c;refine c.mono ?_;rintro e w'⟨x,r,rfl,rfl,l,ad⟩;refine hK _ _ ⟨μ,((k.later ad).putv hs ?_).more (fun j hj=>.inl hj)⟩;unfold Fs
 split
 ·exact .pur l
 ·exact .whn _ _ _ (fun _ =>.pur l) (fun n=>by cases n)
theorem Qb.gen{ops:List Oper}{i:Nat}{o:Oper}(h:Qb P w0 ops i o S S'):Abi P w0 ops i o S S':=by
 obtain⟨u,O,rfl,h⟩:=h;exact h S ⟨fun _ _ =>rfl,rfl,rfl⟩ fun _ =>rfl
theorem Gt{ops:List Oper}{i:Nat}{o:Oper}{a:List Oper}{f:Operand}{c:FuncId}{fn:Func}{args:Array Operand}{e:Array TypeId}{vs:List V}{d:V}
  (t:Gon G w0)(m:Hp G P c vs (fun r=>r=d))(g:P.funcs[c]? =some fn)(u:fn.body.isSome=true)(l:(fn.name== "runtime.NumGoroutine")=false)
  (j:i<ops.length)(k:S.gv ops o=some true)(n:o.op=.call { callee:=.value f,args:=args,argTypes:=e})(w:S.evc true f=some (.fn c))
  (s:S.args true args.toList=some vs)(hp:vs.all V.pureV=true)(hs:S.putv o.dst (Fs o true d)=some S')(h:Jj P w0 N0 ops Q (i+1) a S'):Jj P w0 N0 ops Q i (o::a) S:=
 Aip j (At2 t m g u l k n w s hp hs).gen h
def U9(G:Gp)(P:Program)(f:FuncId)(args:List V)(ins:List (Nat × Ob))(R:V->List (Nat × Ob)->Prop):Prop:=
 ∀(B:Bs)(N:Nat->Prop)(μ:Mu)(nx:Nat)(xs:List Value),Gon G B->xs.length=args.length->B.df= []->
  RelM (fun _ =>False) B N μ ⟨P4 0 args,ins,nx,args.length⟩ ⟨xs.toArray,[]⟩ B.w->
  Calls P f xs.toArray B.w (fun e w'=>∃x r a c μ',e=.returned x/\R r a/\nx<=c/\RelM (fun _ =>False) B N μ' ⟨[(0,r)],a,c,1⟩ ⟨#[x],[]⟩ w')
theorem ACS.q{f:FuncId}{args:List V}{ins:List (Nat × Ob)}{R:V->List (Nat × Ob)->Prop}(h:ACS P f args ins R (fun _ =>False))(G:Gp):U9 G P f args ins R:=
 fun B N μ nx xs _ h1 h2 a=>(h B N μ nx xs h1 h2 a).mono fun _ _ c=>c.elim id (fun⟨_,_,h,_⟩=>h.elim)
theorem Gon.hand{D:Nat->Prop}{μ:Mu}{a:Act}{w:World}(i:Gon G w0)(j:RelM D w0 N0 μ S a w){ins:List (Nat × Ob)}(f:∀k q,get ins k=some q->get S.objs k=some q):Gon G ⟨w,Mx μ ins,μ,[]⟩:=
 ⟨i.at j.below,by
  rintro b e⟨d,q,c,n,o⟩;obtain⟨l,g,h⟩:=j.objs d q (f _ _ n);rw [o]at g;injection g with g;subst g
  rcases h.1 with m|m
  ·exact absurd (G.low _ i.here b e) om
  ·exact i.notX b e m⟩
end
section
variable {P:Program}{kb:Nat}{w0:Bs}{N0:Nat->Prop}{Q:Exit->AS->Prop}{S S':AS}{G:Gp}
theorem Apd{f:FuncId}{fn:Func}{c:Code}{args:List V}{ins:List (Nat × Ob)}{R:V->List (Nat × Ob)->Prop}(hf:P.funcs[f]? =some fn)(hb:fn.body=some c)(hl:args.length<=fn.ntmps)
  (h:∀w0 N0 nx,Gon G w0->AW P w0 N0 c (Acy P fn R (fun _ =>False) nx) ⟨P4 0 args,ins,nx,fn.ntmps⟩):U9 G P f args ins R:=by
 intro B N μ nx xs hG n u hr;refine calls_of_wp hf hb (wp_mono (h B N nx hG _ B.w ⟨μ,hr.enter n hl u⟩) ?_);rintro e y w'⟨S',g,⟨μ',d⟩⟩;have j:y.defers= []:=by rw [d.defers,u]
 have m:nx<=S'.nx/\(∃r a,Xi P S' fn.results.toList=some r/\(∀k o,get a k=some o->get S'.objs k=some o)/\R r a)->∃v,(results fn y.tmps).run P w'=.ok v w'/\
   (∃x r a i μ',Ending.returned v=.returned x/\R r a/\nx<=i/\RelM (fun _ =>False) B N μ' ⟨[(0,r)],a,i,1⟩ ⟨#[x],[]⟩ w'):=by
  rintro⟨t,r,a,h1,h2,z⟩;obtain⟨x,hx,s⟩:=Agr d h1;exact⟨x,hx,x,r,a,S'.nx,μ',rfl,z,t,d.leave u s h2⟩
 cases e with
 |ret=>exact⟨j,m g⟩
 |normal=>exact⟨j,m g⟩
 |panic ch=>exact g.elim
 |exit id=>exact g.elim
 |goto l=>exact g.elim
 |outgrown=>exact g.elim
theorem Pj{ops:List Oper}{i:Nat}{o:Oper}{g:List Oper}{f:Operand}{u:FuncId}{fn:Func}{args:Array Operand}{ah:Array TypeId}{vs:List V}{ins:List (Nat × Ob)}{R:V->List (Nat × Ob)->Prop}
  (hG:Gon G w0)(hc:U9 G P u vs ins R)(ae:P.funcs[u]? =some fn)(hb:fn.body.isSome=true)(hn:(fn.name== "runtime.NumGoroutine")=false)
  (hg:S.gv ops o=some true)(ho:o.op=.call { callee:=.value f,args:=args,argTypes:=ah})(hf:S.evc true f=some (.fn u))
  (ha:S.args true args.toList=some vs)(d:∀k q,get ins k=some q->get S.objs k=some q)
  (h:∀r c nx,R r c->S.nx+i+1<=nx->(∀k,get c k=none->get ins k=none)/\∃S',({ S with objs:=c++S.objs,nx:=nx}:AS).putv o.dst (Fs o true r)=some S'/\Jj P w0 N0 ops Q (i+1) g S'):Jj P w0 N0 ops Q i (o::g) S:=by
 rintro D a w hD⟨μ,s⟩;refine wpList_step fun K hK=>?_
 rw [K6 s hg,if_pos rfl];have e:=s.fresh_lt hD;obtain⟨h1,h2⟩:=Fx s rfl ha
 have m:=s.hand (nx:=S.nx+i+1) e (vs:=vs) (xs:=args.toList.map a.eval) (ins:=ins) (by simp [h1]) d (fun j x v hx hv=>by
  simp only [Bc,A0]at hx;obtain⟨y,hy,rfl⟩:=hx;exact h2 j y v hy hv)
 have l:=hc ⟨w,Mx μ ins,μ,[]⟩ _ μ (S.nx+i+1) (args.toList.map a.eval) (hG.hand s d) (by simp [h1]) rfl m
 refine Xj ho (Us s hf) ae hb hn l ?_ ?_ ?_
 ·rintro x w'⟨x',r,c,t,μ',z,hR,ag,aa⟩;injection z with z;subst z;obtain⟨ab,S',hs,n⟩:=h r c t hR ag;obtain⟨af,ad⟩:=s.back d ab aa;refine hK _ _ (n (fun _ =>False) _ w' (fun j hj=>hj.elim) ⟨μ',af.putv hs ?_⟩);unfold Fs
  split
  ·exact ad
  ·exact .whn _ _ _ (fun _ =>ad) (fun hf=>by cases hf)
 ·rintro ch w'⟨x',r,c,t,μ',z,_⟩;cases z
 ·rintro w'⟨x',r,c,t,μ',z,_⟩;cases z
end
section
variable {P:Program}{w0:Bs}{N0:Nat->Prop}{Q:Exit->AS->Prop}{S S':AS}
def Ll(w0:Bs)(w:World)(μ:Mu)(S:AS):Bs:=⟨w,Mx μ S.objs,μ,w0.df⟩
structure Anch(w0:Bs)(N0:Nat->Prop)(μ:Mu)(S:AS)(w:World):Prop where
 below:w0.Below w
 own:∀g,Mx μ S.objs g->w0.free g
 n0:∀b,N0 b->b<w0.w.heap.size/\¬w0.X b
 m:∀d v l,w0.M d v=some l->μ d v=some l
theorem RelM.anch{D:Nat->Prop}{μ:Mu}{a:Act}{w:World}(h:RelM D w0 N0 μ S a w):Anch w0 N0 μ S w:=by
 refine⟨h.below,fun g i=>?_,h.n0.1,h.n0.2⟩;obtain⟨d,o,c,h1,h2⟩:=i;obtain⟨l,e,f⟩:=h.objs d o h1;rw [h2]at e;injection e with e;subst e;exact f.1
theorem RelM.rebase{D:Nat->Prop}{μ:Mu}{a:Act}{w:World}(h:RelM D w0 N0 μ S a w){i:Bs}(e:i.df=w0.df):RelM D (Ll i w μ S) N0 μ S a w:=by
 have f:=h.anch
 refine⟨h.defers.trans e.symm,h.size,Bs.Below.refl _,⟨fun b g=>⟨B6 (h.n0.1 b g).1 h.below.size,fun n=>?_⟩,fun _ _ _ m=>m⟩,h.fresh,fun d o k=>?_,h.inj,h.env⟩
 ·rcases f.own b n with h1|h1
  ·exact absurd (h.n0.1 b g).1 om
  ·exact(h.n0.1 b g).2 h1
 ·obtain⟨l,j,c⟩:=h.objs d o k;refine⟨l,j,?_⟩;cases l with
  |none=>exact c
  |some r=>exact⟨.inr ⟨d,o,r.2,k,j⟩,c.2⟩
theorem Anch.back{D2:Nat->Prop}{μ n:Mu}{a2:Act}{w i:World}{r:AS}{u:Nat->Prop}(h:Anch w0 N0 μ S w)(hN:∀b,N0 b->u b)(h2:RelM D2 (Ll w0 w μ S) u n r a2 i):RelM D2 w0 N0 n r a2 i:=by
 have a:∀b,b<i.heap.size->Fb N0 n r b->Fb u n r b:=fun b _ hb=>hb.imp (hN b) id
 have g:Ef i (Fb u n r) i:=Ef.refl _ _
 refine⟨h2.defers,h2.size,⟨h2.below.os.trans h.below.os,h2.below.tape.trans h.below.tape,h2.below.output.trans h.below.output,Ai h.below.size h2.below.size,fun k g s=>?_⟩,⟨h.n0,fun d v l hl=>h2.n0.2 d v l (h.m d v l hl)⟩,h2.fresh,fun d o hd=>?_,h2.inj,fun t v hv=>⟨(h2.env t v hv).1,(h2.env t v hv).2.keep g a (fun _ _ _ z=>z)⟩⟩
 ·refine(h2.below.block k (B6 g h.below.size) (fun ho=>?_)).trans (h.below.block k g s)
  rcases h.own k ho with h1|h1
  ·omega
  ·exact s h1
 ·obtain⟨l,hl,f⟩:=h2.objs d o hd;refine⟨l,hl,?_⟩;cases l with
  |none=>exact f
  |some gc=>
   obtain⟨h1,h3,h4,h5,aa,h6,h7,h8⟩:=f
   refine⟨?_,h3,h4,h5,aa,h6,h7,fun k e j c he hj=>?_⟩
   ·rcases h1 with h1|h1
    ·exact .inl (Ai h.below.size h1)
    ·exact h.own _ h1
   ·obtain⟨x,s,y⟩:=h8 k e j c he hj;exact⟨x,s,y.keep g a (fun _ _ _ z=>z)⟩
theorem RelM.turn{D:Nat->Prop}{μ:Mu}{a:Act}{w m:World}{b:Nat}(h:RelM D (Ll w0 w μ S) N0 μ S a w)(hb:N0 b)(hk:∀k,k≠b->m.heap[k]? =w.heap[k]?)(aa:m.heap.size=w.heap.size):RelM D (Ll w0 m μ S) N0 μ S a m:=by
 have f:Ef w (Fb N0 μ S) m:=⟨by omega,fun k _ hn=>hk k (fun e=>hn (.inl (e▸hb)))⟩;refine⟨h.defers,h.size,Bs.Below.refl _,⟨fun x n=>⟨by have:=(h.n0.1 x n).1;simp only [Ll]at this|-;omega,(h.n0.1 x n).2⟩,fun _ _ _ g=>g⟩,h.fresh,fun d o u=>?_,h.inj,fun t v hv=>⟨(h.env t v hv).1,(h.env t v hv).2.keep f (fun _ _ g=>g) (fun _ _ _ g=>g)⟩⟩;obtain⟨l,hl,i⟩:=h.objs d o u;refine⟨l,hl,?_⟩;cases l with
 |none=>exact i
 |some y=>
  obtain⟨h1,h3,h4,h5,s,h6,h7,h8⟩:=i;have z:y.1≠b:=fun e=>(h.n0.1 b hb).2 (e▸⟨d,o,y.2,u,hl⟩)
  refine⟨.inr ⟨d,o,y.2,u,hl⟩,h3,h4,h5,s,(hk _ z).trans h6,h7,fun k e j c he hj=>?_⟩;obtain⟨x,n,r⟩:=h8 k e j c he hj;exact⟨x,n,r.keep f (fun _ _ g=>g) (fun _ _ _ g=>g)⟩
end
section
variable {P:Program}{w0:Bs}{N0:Nat->Prop}{Q:Exit->AS->Prop}{S S':AS}
theorem RelM.later_nx{D:Nat->Prop}{μ:Mu}{a:Act}{w:World}(h:RelM D w0 N0 μ S a w){i:Nat}(c:∀j,D j->j<i):RelM (fun _ =>False) w0 N0 μ { S with nx:=S.nx+i} a w:=
 ⟨h.defers,h.size,h.below,h.n0,fun d v f=>.inl (by
  rcases h.fresh d v f with h1|⟨j,g,e⟩
  ·simp only;omega
  ·have:=c j g
   simp only;omega),h.objs,h.inj,h.env⟩
theorem A7m{ops:List Oper}{i:Nat}{c:List Oper}(d:({ S with nx:=S.nx+i}:AS).le S')(h:Jj P w0 N0 ops Q i c S'):Jj P w0 N0 ops Q i c S:=by
 rintro D a w f⟨μ,e⟩;exact h (fun _ =>False) a w (fun j g=>g.elim) (d _ _ _ _ ⟨μ,e.later_nx f⟩)
theorem I7{ops:List Oper}{i:Nat}{a:List Oper}(d:Nat)(L M:List Nat)(c:({ S with nx:=S.nx+i}:AS).freezeK d L M=some S')(h:Jj P w0 N0 ops Q i a S'):Jj P w0 N0 ops Q i a S:=by
 unfold AS.freezeK at c;split at c
 case h_2=>cases c
 rename_i S1 h1;injection c with c;subst c;exact A7m (AS.le_trans (Ago h1) (L1 _ L M)) h
end
section
variable {P:Program}{kb:Nat}{w0:Bs}{N0:Nat->Prop}{Q:Exit->AS->Prop}
theorem Hp.b{G:Gp}(c:Gon G w0){f:FuncId}{args:List V}{R:V->Prop}(h:Hp G P f args R):ACB w0 P f args R:=fun w N xs d h1 h2 a=>h w N xs (c.at d) h1 h2 a
theorem Ut{G:Gp}{ops:List Oper}{i:Nat}{ks:List Nat}{l:List (Nat × List Nat)}{o:Oper}{c:Bool}{f:Operand}{a:FuncId}{fn:Func}{args:Array Operand}{g:Array TypeId}{vs:List V}{e:V}{S S':AS}
  (x:Gon G w0)(t:c=true->Hp G P a vs (fun r=>r=e))(k:P.funcs[a]? =some fn)(z:fn.body.isSome=true)(s:(fn.name== "runtime.NumGoroutine")=false)(m:G8 ops i=some o)(j:(ks.all fun d=>(get S.objs (0+d)).isNone)=true)
  (n:S.gv ops o=some c)(u:o.op=.call { callee:=.value f,args:=args,argTypes:=g})(y:S.evc c f=some (.fn a))(w:S.args c args.toList=some vs)(hp:vs.all V.pureV=true)(hs:S.putv o.dst (Fs o c e)=some S')(h:AWO P 0 w0 ops Q l S'):AWO P 0 w0 ops Q ((i,ks)::l) S:=by
 rw [C0]at m;exact⟨o,S',m,j,.inr (.inl ⟨c,f,args,g,a,fn,vs,e,n,u,y,k,z,s,w,hp,fun h=>(t h).b x,hs⟩),h⟩
theorem Np{G:Gp}{ops:List Oper}{i:Nat}{o:Oper}{d:List Oper}{c:Bool}{f:Operand}{a:FuncId}{fn:Func}{args:Array Operand}{g:Array TypeId}{vs:List V}{e:V}{S S':AS}
  (t:Gon G w0)(m:c=true->Hp G P a vs (fun r=>r=e))(j:P.funcs[a]? =some fn)(w:fn.body.isSome=true)(l:(fn.name== "runtime.NumGoroutine")=false)
  (k:S.gv ops o=some c)(n:o.op=.call { callee:=.value f,args:=args,argTypes:=g})(u:S.evc c f=some (.fn a))(s:S.args c args.toList=some vs)(hp:vs.all V.pureV=true)(hs:S.putv o.dst (Fs o c e)=some S')(h:Jj P w0 N0 ops Q (i+1) d S'):Jj P w0 N0 ops Q i (o::d) S:=
 Ao4 (kb:=0) (.inr (.inl ⟨c,f,args,g,a,fn,vs,e,k,n,u,j,w,l,s,hp,fun h=>(m h).b t,hs⟩)) h
end
section
variable {P:Program}{kb:Nat}{w0:Bs}{N0:Nat->Prop}{Q:Exit->AS->Prop}{S S':AS}{G:Gp}
theorem Dr{fn:Func}{nx:Nat}{a:V}{outs0:List (Nat × Ob)}{R:V->List (Nat × Ob)->Prop}{E:List PanicEntry->Prop}(c:nx<=S.nx)(d:Xi P S fn.results.toList=some a)(f:R a outs0)(e:∀k o,get outs0 k=some o->get S.objs k=some o):
  Acy P fn R E nx .ret S:=⟨c,a,outs0,d,e,f⟩
theorem L3{d k:Nat}{x a:Ob}(h:Eng.get [(d,x)] k=none):Eng.get [(d,a)] k=none:=by
 simp only [Eng.get]at h|-
 split at h
 ·cases h
 ·rename_i h1;rw [if_neg h1]
end
end Go.Eng
namespace Go.Eng
open Go.RowKit Go.ChangeShapes Go.WideShapes Go.ChangeAt
inductive SmlV(n:Nat):V->Prop
 |str {l:List UInt8} (h:l.length<=n):SmlV n (.str l)
 |ro {sz:Nat} {es:List V} (h:es.length<=n) (k:∀e∈es,SmlV n e):SmlV n (.ro sz es)
 |agg {cs:List V} (k:∀c∈cs,SmlV n c):SmlV n (.agg cs)
 |bool (b:Bool):SmlV n (.bool b)
 |int (k:IntKind) (i:Int):SmlV n (.int k i)
 |nils:SmlV n .nils
theorem A3h{n:Nat}{b:Option Bool}{cs:List V}(h:∀c∈cs,SmlV n c):SmlV n (mkV b cs):=by
 unfold mkV
 split
 ·exact .agg h
 ·cases cs with
  |nil=>exact .nils
  |cons c r=>exact h c sm
structure BulkOk{H:Type}(B:DataW H->Nat):Prop where
 str:∀b:List UInt8,b.length<=B (.lit (.string b))
 slice:∀elems spare:List (DataW H),elems.length<=B (.slice elems spare)/\∀e∈elems,B e<=B (.slice elems spare)
 agg:∀parts:List (DataW H),∀e∈parts,B e<=B (.agg parts)
section
variable {H:Type}{enc:TypeId × Value->H}{P:Program}{w:World}{base:Nat}{spare:Nat->Bool}{held:Bool}
theorem We{L:List TypeId}{B:DataW H->Nat}{N:Nat}(hB:BulkOk B)(hL:okL P L=true):∀ {fuel:Nat}{t:TypeId}{cs:List Value}{x:DataW H × List MemPlace},t∈L->DataW.trod enc P w base spare held fuel t cs=some x->B x.1<=N->
  ∃vs,Sp w (fun _ =>False) cs vs/\(∀v∈vs,v.isCell=true)/\Rd P fuel t vs/\cs.length=P.cellsOf t/\∀v∈vs,SmlV N v
 |0,_,_,_,_,h,_ =>by simp [DataW.trod]at h
 |fuel+1,t,cs,x,ht,h,hx=>by
  have n:=Aw.1 hL t ht;unfold Axz at n;unfold DataW.trod at h;unfold Rd;generalize hu:P.underlying t=u at n h|-;split at n
  ·
   clear hx;simp only [beq_iff_eq]at n;split at h<;>simp_all;rename_i b;exact⟨[.bool b],Sp.one (.bool _),by simp,by cases b<;>simp,fun v d=>by rw [Bz.1 d];exact .bool _⟩
  ·clear hx;simp only [beq_iff_eq]at n;split at h<;>simp_all;exact⟨[.int _ _],Sp.one (.int _ _),by simp,⟨_,rfl,h.1.2⟩,fun v d=>by rw [Bz.1 d];exact .int _ _⟩
  ·have hN:∀l:List UInt8,x.1=.lit (.string l)->l.length<=N:=fun l e=>Ai (hB.str l) (e▸hx)
   clear hx;simp only [beq_iff_eq]at n;split at h
   all_goals try(cases h;done)
   all_goals try(rename_i he;cases he;done)
   rename_i s _;simp only [Option.ite_none_right_eq_some,Au]at h;have hl:=hN s.data.toList (by rw [<- h.2]);refine⟨[.str s.data.toList],Sp.one ?_,by simp [V.isCell],⟨_,rfl,by simpa using h.1⟩,by simp [n],fun v d=>by rw [Bz.1 d];exact .str hl⟩;have:=Pur.str (w:=w) (N:=fun _ =>False) s.data.toList;simpa using this
  ·rename_i e;simp only [Bk,beq_iff_eq,decide_eq_true_eq]at n;obtain⟨⟨ak,a1⟩,ah⟩:=n;split at h
   all_goals try(exfalso;first|(rename_i he;cases he;done)|(rename_i he _;cases he;done)|(rename_i he _ _;cases he;done)|(cases h;done))
   ·refine⟨[.ro (P.cellsOf e) []],Sp.one (.ro none ⟨0,0,none⟩ 0 0 _ [] (fun _ _ =>undef) rfl (A9 _) (B4 _) (fun h0=>by omega) sm sm sm),by simp [V.isCell],⟨[],rfl,by simp,by simp⟩,by simp [ak],fun v d=>by rw [Bz.1 d];exact .ro sm sm⟩
   ·rename_i e' a len au a0;cases a0
    simp only at h;split at h
    case isFalse=>cases h
    rename_i hb;simp only [B7]at h;obtain⟨elems,he,z⟩:=h;simp only [A0]at z;obtain⟨ao,_,rfl⟩:=z;simp only at hx;have al:=hB.slice (elems.map (·.1)) (ao.map (·.1));have a3:elems.length<=N:=by have:=al.1;simp at this;omega
    have ad:elems.length=len:=by simpa using mapM_some_length he
    have ai:∀i,i<len->∃vs:List V,∃ci:List Value,w.cells? base (a.add (i*P.cellsOf e)) (P.cellsOf e)=some ci/\Sp w (fun _ =>False) ci vs/\(∀v∈vs,v.isCell=true)/\Rd P fuel e vs/\ci.length=P.cellsOf e/\∀v∈vs,SmlV N v:=by
     intro i hi;have h1:=mapM_some_get he i i (by simp [hi]);have ae:elems[i]'(by omega)∈elems:=Az _;rw [Al Go.om]at h1;simp only [B7]at h1;obtain⟨ci,h2,h3⟩:=h1;obtain⟨vs,h4,h5,h6,h7,h8⟩:=We hB hL (by simpa using ah) h3 (Ai (al.2 _ (Bm.2 ⟨_,ae,rfl⟩)) hx);exact⟨vs,ci,h2,h4,h5,h6,h7,h8⟩
    obtain⟨es,av,hp⟩:=Ail ai
    have o:∀(k:Nat)us,es[k]? =some us->(mkV (Ex P e) us).cells=us/\(mkV (Ex P e) us).fits (P.cellsOf e):=by
     intro k us y;obtain⟨ci,h1,h2,h3,h4,h5,ab⟩:=hp k us y
     have hc:(mkV (Ex P e) us).cells=us:=by
      unfold mkV
      split
      ·rfl
      ·rename_i af
       have aw:us.length=1:=by
        rw [<- h2.1,h5];have m:=Aw.1 hL e (by simpa using ah);unfold Axz at m;unfold Ex at af;generalize P.underlying e=ue at m af
        split at m
        ·simpa using m
        ·simpa using m
        ·simpa using m
        ·simp only [Bk,beq_iff_eq]at m;exact m.1.1
        ·simp at af
        ·cases m
       match us,aw,h3 with
       | [c],_,h3=>simpa using V.cells_one (h3 c sm)
     exact⟨hc,by rw [hc,<- h2.1,h5],by rw [hc];exact h3⟩
    refine⟨[.ro (P.cellsOf e) (es.map (mkV (Ex P e)))],Sp.one (.ro (some a) a len au _ _ (fun k j=>(w.cell? (a.add (k*P.cellsOf e+j))).getD undef) (by simp [av]) hb.2.1 hb.2.2 (fun h0=>⟨rfl,?_,id⟩) ?_ ?_ ?_),by simp [V.isCell],⟨es,rfl,by omega,?_⟩,by simp [ak],?_⟩
    ·obtain⟨vs,ci,h1,_,_,_,h5,_⟩:=ai 0 h0;obtain⟨_,h6,h7⟩:=World.cells?_some h1;have:=h7 0 a1;rw [Al Go.om]at this;have:=World.block_lt_of_cell? _ _ this
     rwa [add_block,add_block]at this
    ·intro v d;simp only [Bm]at d;obtain⟨us,aa,rfl⟩:=d;obtain⟨k,y⟩:=Co aa;exact(o k us y).2
    all_goals
     try
      intro k v j c y hj;simp only [Bc,A0]at y;obtain⟨us,y,rfl⟩:=y;rw [(o k us y).1]at hj;obtain⟨ci,h1,h2,h3,h4,h5,ab⟩:=hp k us y;obtain⟨_,h6,h7⟩:=World.cells?_some h1;have az:j<us.length:=(Ap.1 hj).1;have aq:j<ci.length:=by rw [h2.1];exact az
      have h8:=h7 j om;rw [Qz,Al aq]at h8
    ·rw [h8];rfl
    ·rw [h8];exact h2.2 j _ c (Al aq) hj
    ·intro us aa;obtain⟨k,y⟩:=Co aa;exact(hp k us y).choose_spec.2.2.2.1
    ·intro v d;rw [Bz.1 d];refine .ro so fun v d=>?_;obtain⟨us,aa,rfl⟩:=Bm.1 d;obtain⟨k,y⟩:=Co aa;obtain⟨ci,_,_,_,_,_,ab⟩:=hp k us y;unfold mkV
     split
     ·exact .agg ab
     ·cases us with
      |nil=>exact .nils
      |cons c r=>exact ab c sm
  ·rename_i fs;simp only [Bk,Aw]at n;obtain⟨ag,am⟩:=n;replace h:(if cs.length=P.cellsOf t then(fs.toList.mapM fun f=>DataW.trod enc P w base spare held fuel f.type ((cs.drop f.offset).take (P.cellsOf f.type))).map fun xs=>(DataW.agg (xs.map (·.1)),xs.flatMap (·.2))else none)=some x:=h;split at h
   case isFalse=>cases h
   rename_i ad;simp only [A0]at h;obtain⟨xs,an,a2⟩:=h;subst a2;simp only at hx;have ar:=hB.agg (xs.map (·.1))
   have hf:∀f∈fs.toList,∃vs,Sp w (fun _ =>False) ((cs.drop f.offset).take (P.cellsOf f.type)) vs/\(∀v∈vs,v.isCell=true)/\Rd P fuel f.type vs/\((cs.drop f.offset).take (P.cellsOf f.type)).length=P.cellsOf f.type/\∀v∈vs,SmlV N v:=by
    intro f aj;obtain⟨i,hi⟩:=Co aj;have h1:=mapM_some_get an i f hi;have hl:=mapM_some_length an;have ay:i<xs.length:=by rw [hl];exact(Ap.1 hi).1
    have ae:xs[i]∈xs:=Az _;rw [Al ay]at h1;exact We hB hL (by simpa using am f aj) h1 (Ai (ar _ (Bm.2 ⟨_,ae,rfl⟩)) hx)
   have ax:∀(l:List Field)(off:Nat),Ze P l off (P.cellsOf t)=true->(∀f∈l,∃vs,Sp w (fun _ =>False) ((cs.drop f.offset).take (P.cellsOf f.type)) vs/\(∀v∈vs,v.isCell=true)/\Rd P fuel f.type vs/\((cs.drop f.offset).take (P.cellsOf f.type)).length=P.cellsOf f.type/\∀v∈vs,SmlV N v)->
     ∃vs,Sp w (fun _ =>False) (cs.drop off) vs/\(∀v∈vs,v.isCell=true)/\RdF P (Rd P fuel) l vs/\∀v∈vs,SmlV N v:=by
    intro l
    induction l with
    |nil=>
     intro off hl _;simp only [Ze,beq_iff_eq]at hl;refine⟨[],⟨by simp;omega,by simp⟩,by simp,rfl,by simp⟩
    |cons f l ih=>
     intro off hl hh;simp only [Ze,Bk,beq_iff_eq]at hl;obtain⟨n,hl⟩:=hl;subst n;obtain⟨ws,h1,h2,h3,h9⟩:=ih _ hl (fun g hg=>hh g (by simp [hg]));obtain⟨us,g1,g2,g3,_,g9⟩:=hh f sm
     refine⟨us++ws,?_,?_,⟨us,ws,rfl,g3,h3⟩,fun v d=>(Cc.1 d).elim (g9 v) (h9 v)⟩
     ·have:=g1.append h1
      rwa [<- List.drop_drop,Gi]at this
     ·intro v d
      rcases Cc.1 d with d|d
      ·exact g2 v d
      ·exact h2 v d
   obtain⟨vs,h1,h2,h3,h9⟩:=ax fs.toList 0 ag hf;exact⟨vs,by simpa using h1,h2,h3,ad,h9⟩
  ·cases n
theorem Ax4{L:List TypeId}{B:DataW H->Nat}{N:Nat}(z:BulkOk B)(h:okL P L=true){r:Reach}{s:Nat}{t:TypeId}{v:Value}{d:DataW H}{ps:List MemPlace}(i:t∈L)(e:Value.okWide P w r s t v)(x:DataW.Trod enc P w base spare held t v d ps)(o:B d<=N):
  ∃u,Pur w (fun _ =>False) v u/\RdW P t u/\SmlV N u:=by
 obtain⟨fuel,y⟩:=x;obtain⟨vs,h1,h2,k,h4,n⟩:=We z h i y o;refine⟨mkV (Ex P t) vs,?_,⟨fuel,vs,k,rfl⟩,A3h n⟩;have g:=Aw.1 h t i;unfold Axz at g;generalize f:P.underlying t=u at g
 have one:v.cells= #[v]->Ex P t=some false->Pur w (fun _ =>False) v (mkV (Ex P t) vs):=by
  intro m hb;have j:=h1.1;rw [m]at j h1
  match vs,j,h1 with
  | [c],_,h1=>
   rw [hb];exact h1.2 0 v c rfl rfl
 split at g
 ·obtain⟨b,rfl⟩:=okWide_bool f e;exact one rfl (by simp [Ex,f])
 ·obtain⟨b,rfl⟩:=okWide_int f e;exact one rfl (by simp [Ex,f])
 ·obtain⟨b,rfl⟩:=okWide_string f e;exact one rfl (by simp [Ex,f])
 ·obtain⟨a,l,c,rfl⟩:=okWide_slice f e;exact one rfl (by simp [Ex,f])
 ·obtain⟨cs,rfl,_⟩:=okWide_struct f e;have:Ex P t=some true:=by simp [Ex,f]
  rw [this];have:=Pur.agg cs.toList vs h1.1 h2 h1.2;simpa [mkV]using this
 ·cases g
end
end Go.Eng
set_option linter.unusedSimpArgs false
namespace Go.Eng
open Go.RowKit
section
variable {P:Program}{w0:Bs}{N0:Nat->Prop}{Q:Exit->AS->Prop}{S S':AS}
end
inductive Tr where
 |done
 |take (i:Nat) (ks:List Nat) (t:Tr)
 |alt (i:Nat) (t r:Tr)
 |stop
def Tr.ids:Tr->List Nat
 | .alt i _ r=>i::r.ids
 |_ =>[]
def Tr.depth:Tr->Nat
 | .take _ _ t=>t.depth+1
 | .alt _ t r=>max (t.depth+1) r.depth
 |_ =>0
def My(ops:List Oper):Bool->Array Bool->Tr->Bool
 |c,a,.done=> !c&&(Region.ready .any ops.toArray a).isEmpty
 |c,a,.take i ks t=> !c&&(Abh ops a i ks&&My ops false (a.setIfInBounds i true) t)
 |c,a,.alt i t r=>(c||Region.ready .any ops.toArray a==i::r.ids)&&(My ops false (a.setIfInBounds i true) t&&My ops true a r)
 |c,_,.stop=>c
section
variable {P:Program}{kb:Nat}{w0:Bs}{N0:Nat->Prop}{Q:Exit->AS->Prop}
def AWT(P:Program)(kb:Nat)(w0:Bs)(ops:List Oper)(Q:Exit->AS->Prop):Tr->AS->Prop
 | .done,S=>∃S',({ S with nx:=S.nx+ops.length}:AS).le S'/\Q .normal S'
 | .take i ks t,S=>∃o S',ops[i]? =some o/\(ks.all fun d=>(get S.objs (kb+d)).isNone)=true/\Rq P kb w0 ops i o S S'/\AWT P kb w0 ops Q t S'
 | .alt i t r,S=>(∃o S',ops[i]? =some o/\Rq P kb w0 ops i o S S'/\AWT P kb w0 ops Q t S')/\AWT P kb w0 ops Q r S
 | .stop,_ =>True
theorem Abj{ops:List Oper}(z:Zd ops=true):∀(t:Tr)(f:Bool)(a:Array Bool)(S:AS)(n:Nat),t.depth<=n->My ops f a t=true->AWT P kb w0 ops Q t S->
  (f=false->Si P kb w0 ops (fun S=>∃S',({ S with nx:=S.nx+ops.length}:AS).le S'/\Q .normal S') n a S)/\
  (f=true->∀m,n=m+1->∀i∈t.ids,∃o S',ops[i]? =some o/\Rq P kb w0 ops i o S S'/\Si P kb w0 ops (fun S=>∃S',({ S with nx:=S.nx+ops.length}:AS).le S'/\Q .normal S') m (a.setIfInBounds i true) S')
 | .done,f,a,S,n,l,c,h=>by
  simp only [My,Bk,I3,List.isEmpty_iff]at c;refine⟨fun _ =>?_,fun g=>by rw [g]at c;cases c.1⟩;cases n with
  |zero=>exact⟨c.2,h⟩
  |succ n=>exact⟨fun _ =>h,fun i g=>by rw [c.2]at g;cases g⟩
 | .stop,f,a,S,n,l,c,h=>by
  simp only [My]at c;exact⟨fun g=>(by rw [g]at c;cases c),fun _ m _ i g=>(by cases g)⟩
 | .take i ks t,f,a,S,n,l,c,h=>by
  simp only [My,Bk,I3]at c;refine⟨fun _ =>?_,fun g=>by rw [g]at c;cases c.1⟩;obtain⟨m,rfl⟩:∃m,n=m+1:=⟨n-1,by simp only [Tr.depth]at l;omega⟩;obtain⟨o,S',x,ae,hs,e⟩:=h;have ih:=(Abj z t false _ S' m (by simp only [Tr.depth]at l;omega) c.2.2 e).1 rfl;have s:=c.2.1;unfold Abh at s;simp only [x,Hc,Bk,beq_iff_eq]at s
  rcases s with⟨⟨⟨h1,h2⟩,h3⟩,w⟩|s
  ·obtain⟨B,hB,u⟩:=Xf h3
   refine Agi ?_ x (by simpa using h1) z B m a S S' hB u (fun hl j oj d k ab aa l=>?_) (by simpa using h2) hs ih
   ·rintro S T he⟨S2,h5,h6⟩;have ad:({ T with nx:=T.nx+ops.length}:AS).eqv { S with nx:=S.nx+ops.length}:=⟨fun t=>(he.1 t).symm,fun d=>(he.2.1 d).symm,by simp only;rw [he.2.2.1],he.2.2.2.symm⟩;exact⟨S2,AS.le_trans ad.le h5,h6⟩
   ·rcases w with w|w
    ·simp [hl]at w
    ·have h5:=Aw.1 w j (Hv.2 (Ap.1 k).1);simp only [ab,k,aa,l,Qx,Oa]at h5;have h6:=Aw.1 ae d (by simpa using h5);simpa using h6
  ·exact Ak5 x s hs ih
 | .alt i t r,f,a,S,n,l,c,h=>by
  simp only [My,Bk,Hc,beq_iff_eq]at c;obtain⟨h1,h2,h3⟩:=c;obtain⟨⟨o,S',x,hs,e⟩,hr⟩:=h;simp only [Tr.depth]at l
  have y:∀m,n=m+1->∀j∈i::r.ids,∃o S',ops[j]? =some o/\Rq P kb w0 ops j o S S'/\Si P kb w0 ops (fun S=>∃S',({ S with nx:=S.nx+ops.length}:AS).le S'/\Q .normal S') m (a.setIfInBounds j true) S':=by
   intro m s j k
   rcases Cj.1 k with rfl|k
   ·exact⟨o,S',x,hs,(Abj z t false _ S' m om h2 e).1 rfl⟩
   ·exact(Abj z r true a S n om h3 hr).2 rfl m s j k
  refine⟨fun g=>?_,fun _ =>y⟩
  rcases h1 with h1|h1
  ·rw [g]at h1;cases h1
  obtain⟨m,rfl⟩:∃m,n=m+1:=⟨n-1,by omega⟩;exact⟨fun h0=>(by rw [h1]at h0;cases h0),fun j k=>y m rfl j (by rw [h1]at k;exact k)⟩
theorem Abk{id:Nat}{l:List Oper}{S:AS}(t:Tr)(r:P.follows .mixedOrders=true)(f:(My l false (Array.replicate l.length false) t&&(Zd l&&decide (t.depth<=l.length)))=true)(h:AWT P 0 w0 l Q t S):AW P w0 N0 (.region id l.toArray true) Q S:=by
 simp only [Bk,decide_eq_true_iff]at f;obtain⟨f,n,o⟩:=f;rintro a w⟨μ,c⟩;refine wp_region_any r ?_;have i:l.toArray.size=l.length:=sm;rw [i];have g:=(Abj n t false _ S l.length o f h).1 rfl
 refine Zc (K:=fun S=>∃S',({ S with nx:=S.nx+l.length}:AS).le S'/\Q .normal S') ?_ l.length _ S a _ sm ⟨μ,?_⟩ g
 ·rintro S a w⟨S',h1,h2⟩⟨μ,c⟩;refine⟨S',h2,h1 _ _ _ _ ⟨μ,⟨c.defers,c.size,c.below,c.n0,fun d v m=>?_,c.objs,c.inj,c.env⟩⟩⟩
  rcases c.fresh d v m with h3|⟨j,k,e⟩
  ·exact .inl sy
  ·exact .inl sy
 ·have:=c.drew;exact this.more fun j k=>k.elim
def Ald(P:Program)(kb:Nat)(ops:List Oper)(L M:List Nat):Tr->AS->Option (List AS)
 | .done,S=>some [(S.bump ops.length).keep L M]
 | .take i ks t,S=>match Ni P kb ops [(i,ks)] S with
  |some S'=>Ald P kb ops L M t S'
  |none=>none
 | .alt i t r,S=>match Ni P kb ops [(i,[])] S with
  |some S'=>match Ald P kb ops L M t S',Ald P kb ops L M r S with
   |some a,some b=>some (a++b)
   |_,_ =>none
  |none=>none
 | .stop,_ =>some []
attribute [simp] Ald
theorem Zg{ops:List Oper}{i:Nat}{ks:List Nat}{S c:AS}(h:Ni P kb ops [(i,ks)] S=some c):∃o,ops[i]? =some o/\(ks.all fun d=>(get S.objs (kb+d)).isNone)=true/\Rq P kb w0 ops i o S c:=by
 simp only [Ni]at h;split at h
 case h_2=>cases h
 rename_i o e;split at h
 case isFalse=>cases h
 rename_i a;split at h
 case h_2=>cases h
 rename_i S2 h2;injection h with h;subst h;rw [C0]at e;exact⟨o,e,a,.inl h2⟩
theorem Rt{ops:List Oper}{L M:List Nat}:∀ {t:Tr}{S:AS}{l:List AS},Ald P 0 ops L M t S=some l->(∀T∈l,Q .normal T)->AWT P 0 w0 ops Q t S
 | .done,S,l,h,c=>by
  simp only [Ald,Au]at h;subst h;exact⟨_,L1 (S.bump ops.length) L M,c _ sm⟩
 | .stop,S,l,h,c=>trivial
 | .take i ks t,S,l,h,c=>by
  simp only [Ald]at h;split at h
  case h_2=>cases h
  rename_i S' h1;obtain⟨o,h2,f,d⟩:=Zg (w0:=w0) h1;exact⟨o,S',h2,f,d,Rt h c⟩
 | .alt i t r,S,l,h,c=>by
  simp only [Ald]at h;split at h
  case h_2=>cases h
  rename_i S' h1;split at h
  case h_2=>cases h
  rename_i a b j g;injection h with h;subst h;obtain⟨o,h2,f,d⟩:=Zg (w0:=w0) h1;exact⟨⟨o,S',h2,d,Rt j (fun T e=>c T (I2 _ e))⟩,Rt g (fun T e=>c T (List.mem_append_right _ e))⟩
theorem Rv{ops:List Oper}{i:Nat}{ks:List Nat}{t:Tr}{S a:AS}(h1:Ni P 0 ops [(i,ks)] S=some a)(h:AWT P 0 w0 ops Q t a):AWT P 0 w0 ops Q (.take i ks t) S:=by
 obtain⟨o,h2,c,d⟩:=Zg (w0:=w0) h1;exact⟨o,a,h2,c,d,h⟩
theorem Ale{ops:List Oper}{i:Nat}{ks:List Nat}{t:Tr}{S:AS}{o:Oper}{c:Bool}{f:Operand}{a:FuncId}{fn:Func}{args:Array Operand}{g:Array TypeId}{vs:List V}{e:V}{S':AS}
  (s:c=true->AC P a vs (fun r=>r=e))(k:P.funcs[a]? =some fn)(y:fn.body.isSome=true)(n:(fn.name== "runtime.NumGoroutine")=false)(l:G8 ops i=some o)(j:(ks.all fun d=>(get S.objs (0+d)).isNone)=true)
  (m:S.gv ops o=some c)(u:o.op=.call { callee:=.value f,args:=args,argTypes:=g})(x:S.evc c f=some (.fn a))(w:S.args c args.toList=some vs)(hp:vs.all V.pureV=true)(hs:S.putv o.dst (Fs o c e)=some S')(h:AWT P 0 w0 ops Q t S'):AWT P 0 w0 ops Q (.take i ks t) S:=by
 rw [C0]at l;exact⟨o,S',l,j,.inr (.inl ⟨c,f,args,g,a,fn,vs,e,m,u,x,k,y,n,w,hp,fun h=>(s h).b,hs⟩),h⟩
end
def FCQ(G:Gp)(P:Program)(c:V)(args:List V)(R:V->Prop):Prop:=
 ∃a us vs fn,(c=.fc a us vs\/(c=.fn a/\us= []/\vs= []))/\P.funcs[a]? =some fn/\fn.body.isSome=true/\(fn.name== "runtime.NumGoroutine")=false/\Hp G P a (us++args++vs) R
def Rx(P:Program)(t:TypeId)(a:String)(n:Nat)(c:FuncId)(off k:Nat):Prop:=
 ∀(xs:List Value)(w:World),xs.length=n->(method (P.types.size+Made.depth) t (.agg xs.toArray) a).run P w=.ok (c,.agg ((xs.drop off).take k).toArray) w
def ICQ(G:Gp)(P:Program)(v:V)(name:String)(args:List V)(R:V->Prop):Prop:=
 ∃t cs a fn off k,(v=.dm t cs\/v=.ifc t (.agg cs))/\Rx P t name cs.length a off k/\P.funcs[a]? =some fn/\fn.body.isSome=true/\(fn.name== "runtime.NumGoroutine")=false/\
  Hp G P a (.agg ((cs.drop off).take k)::args) R
theorem Ape{G:Gp}{P:Program}{a:FuncId}{fn:Func}{us vs args:List V}{R:V->Prop}(h:Hp G P a (us++args++vs) R)(c:P.funcs[a]? =some fn)(e:fn.body.isSome=true)(d:(fn.name== "runtime.NumGoroutine")=false):FCQ G P (.fc a us vs) args R:=
 ⟨a,us,vs,fn,.inl rfl,c,e,d,h⟩
section
variable {P:Program}{kb:Nat}{w0:Bs}{N0:Nat->Prop}{Q:Exit->AS->Prop}{S S':AS}{G:Gp}
theorem Ax5{ops:List Oper}{i:Nat}{o:Oper}{args:Array Operand}{vs:List V}{aa:FuncId}{us cs:List V}{g:V}{more:List Operand}
  (hG:Gon G w0)(hc:Hp G P aa (us++vs++cs) (fun r=>r=g))(hg:S.gv ops o=some true)
  (ai:∀T,Mw ops o S T->(∀x∈more,∀c,T.evc c x=S.evc c x)/\T.args true args.toList=S.args true args.toList)
  (z:∀T,(∀x∈more,∀c,T.evc c x=S.evc c x)->∀(N0:Nat->Prop)(μ:Mu)(D:Nat->Prop)(a:Act)(w:World),RelM D w0 N0 μ T a w->
   ∃xs t:List Value,xs.length=us.length/\t.length=cs.length/\(∀(i:Nat)x c,xs[i]? =some x->us[i]? =some c->Pur w (Fb N0 μ T) x c)/\(∀(i:Nat)x c,t[i]? =some x->cs[i]? =some c->Pur w (Fb N0 μ T) x c)/\
    (execOp a.eval o).run P w=.ok (.enter aa (xs++args.toList.map a.eval++t).toArray) w)
  (ha:S.args true args.toList=some vs)(hp:vs.all V.pureV=true)(hs:S.putv o.dst (Fs o true g)=some S'):Qb P w0 ops i o S S':=by
 obtain⟨ae,ad⟩:=J0 hs;refine⟨Fs o true g,[],ae,fun T hT am N0 D a w h hi an K Q' hK=>?_⟩;obtain⟨l,n⟩:=ai T hT;replace hg:T.gv ops o=some true:=by rw [<- hT.gv];exact hg
 replace ha:T.args true args.toList=some vs:=by rw [n];exact ha
 have hs:=K4 (S:=T) (Fs o true g) (fun d hd=>by rw [<- hT.2.1];exact ad d hd);obtain⟨μ,h⟩:=h;rw [K6 h hg,if_pos rfl];obtain⟨h1,h2⟩:=Fx h rfl ha;obtain⟨xs,t,s,ah,ag,ak,ab⟩:=z T l N0 μ D a w h;unfold Oper.wp;rw [ab]
 have m:=hc w (Fb N0 μ T) (xs++args.toList.map a.eval++t) (hG.at h.below) h.own_lt (by simp [h1,s,ah]) (fun j x v f k=>by
  have al:(xs++args.toList.map a.eval).length=(us++vs).length:=by simp [h1,s]
  by_cases hj:j<(us++vs).length
  ·rw [Bn Go.om]at f;rw [Bn hj]at k
   by_cases aj:j<us.length
   ·rw [Bn Go.om]at f;rw [Bn aj]at k;exact ag j x v f k
   ·rw [Be Go.om]at f;rw [Be Go.om]at k;rw [s]at f;simp only [Bc,A0]at f;obtain⟨y,hy,rfl⟩:=f;exact(h2 _ y v hy k).pureV (Aw.1 hp v (Ay k))
  ·rw [Be Go.om]at f;rw [Be Go.om]at k;rw [al]at f;exact ak _ x v f k)
 refine m.mono ?_;rintro e w'⟨x,r,rfl,rfl,u,af⟩;refine hK _ _ ⟨μ,((h.later af).putv hs ?_).more (fun j hj=>.inl hj)⟩;unfold Fs
 split
 ·exact .pur u
 ·exact .whn _ _ _ (fun _ =>.pur u) (fun hf=>by cases hf)
theorem Aaq{ρ:Operand->Value}{o:Oper}{f:Operand}{a:FuncId}{fn:Func}{args:Array Operand}{h:Array TypeId}{w:World}{xs e:List Value}(l:o.op=.call { callee:=.value f,args:=args,argTypes:=h})(m:ρ f=.func (.func a) xs.toArray e.toArray)
  (i:P.funcs[a]? =some fn)(n:fn.body.isSome=true)(j:(fn.name== "runtime.NumGoroutine")=false):(execOp ρ o).run P w=.ok (.enter a (xs++args.toList.map ρ++e).toArray) w:=by
 unfold execOp;rw [l];obtain⟨c,k⟩:=Cm.1 n;have g:¬fn.name= "runtime.NumGoroutine" :=by simpa using j
 have d:(xs++args.toList.map ρ++e).toArray=xs.toArray++args.map ρ++e.toArray:=by apply Ej;simp
 rw [d];simp [resolve,m,Deferred.ofValue,invoke,callFunc,i,g,k]
theorem Agt{ops:List Oper}{i:Nat}{o:Oper}{f:Operand}{u:V}{args:Array Operand}{aa:Array TypeId}{vs:List V}{j:V}
  (hG:Gon G w0)(hc:FCQ G P u vs (fun r=>r=j))(hg:S.gv ops o=some true)(n:o.op=.call { callee:=.value f,args:=args,argTypes:=aa})(hf:S.evc true f=some u)
  (ha:S.args true args.toList=some vs)(hp:vs.all V.pureV=true)(hs:S.putv o.dst (Fs o true j)=some S'):Qb P w0 ops i o S S':=by
 obtain⟨ab,us,cs,fn,z,l,hb,hn,t⟩:=hc
 refine Ax5 (more:=[f]) hG t hg (fun T m=>⟨fun x s c=>?_,?_⟩) (fun T m N0 μ D a w hr=>?_) ha hp hs
 ·simp only [Bz]at s;subst s;exact(m.evc (by rw [n];simp [Op.operands,Call.operands]) c).symm
 ·exact(I6 (S:=S) (T:=T) (fun x s=>m.evc (by rw [n];simp [Op.operands,Call.operands];right;simpa using s) true)).symm
 ·have g:T.evc true f=some u:=by rw [m f (by simp)];exact hf
  have d:=hr.evc g rfl
  rcases z with rfl|⟨rfl,rfl,rfl⟩
  ·generalize e:a.eval f=y at d;cases d with
   |pur d=>cases d with
    |fc _ xs ys _ _ hl hm h k=>exact⟨xs,ys,hl,hm,h,k,Aaq n e l hb hn⟩
  ·have:=Us hr g;exact⟨[],[],rfl,rfl,by simp,by simp,Aaq n (by rw [this]) l hb hn⟩
theorem Alf{ρ:Operand->Value}{o:Oper}{r:Operand}{name:String}{t:TypeId}{a:FuncId}{fn:Func}{args:Array Operand}{g:Array TypeId}{w:World}{x y:Value}(l:o.op=.call { callee:=.invoke r name,args:=args,argTypes:=g})(j:ρ r=.iface t x)
  (m:(method (P.types.size+Made.depth) t x name).run P w=.ok (a,y) w)
  (h:P.funcs[a]? =some fn)(n:fn.body.isSome=true)(i:(fn.name== "runtime.NumGoroutine")=false):(execOp ρ o).run P w=.ok (.enter a ([y]++args.toList.map ρ++[]).toArray) w:=by
 unfold execOp;rw [l];obtain⟨c,k⟩:=Cm.1 n;have f:¬fn.name= "runtime.NumGoroutine" :=by simpa using i
 have e:([y]++args.toList.map ρ++[]).toArray= #[y]++args.map ρ:=by apply Ej;simp
 have d:(#[Value.iface t x]++args.map ρ).extract 1 (1+args.size)=args.map ρ:=by apply Ej;simp;exact Bg sm
 rw [e];simp [resolve,j,invoke,callMethod,m,callFunc,h,f,k,d]
theorem At3{ops:List Oper}{i:Nat}{o:Oper}{r:Operand}{l:String}{v:V}{args:Array Operand}{ag:Array TypeId}{vs:List V}{s:V}
  (hG:Gon G w0)(h:ICQ G P v l vs (fun r=>r=s))(hg:S.gv ops o=some true)(ho:o.op=.call { callee:=.invoke r l,args:=args,argTypes:=ag})(hf:S.evc true r=some v)
  (ha:S.args true args.toList=some vs)(hp:vs.all V.pureV=true)(hs:S.putv o.dst (Fs o true s)=some S'):Qb P w0 ops i o S S':=by
 obtain⟨t,cs,ae,fn,off,k,hv,af,ab,hb,hn,ad⟩:=h
 refine Ax5 (us:=[.agg ((cs.drop off).take k)]) (cs:=[]) (more:=[r]) hG (by simpa using ad) hg (fun T z=>⟨fun x f c=>?_,?_⟩) (fun T z N0 μ D a w hr=>?_) ha hp hs
 ·simp only [Bz]at f;subst f;exact(z.evc (by rw [ho];simp [Op.operands,Call.operands]) c).symm
 ·exact(I6 (S:=S) (T:=T) (fun x f=>z.evc (by rw [ho];simp [Op.operands,Call.operands];right;simpa using f) true)).symm
 ·have aa:T.evc true r=some v:=by rw [z r (by simp)];exact hf
  have e:=hr.evc aa rfl
  have u:∀xs:List Value,xs.length=cs.length->(∀c∈cs,c.isCell=true)->(∀(i:Nat)x c,xs[i]? =some x->cs[i]? =some c->Pur w (Fb N0 μ T) x c)->a.eval r=.iface t (.agg xs.toArray)->
    ∃xs ys:List Value,xs.length= [V.agg ((cs.drop off).take k)].length/\ys.length=([]:List V).length/\(∀(i:Nat)x c,xs[i]? =some x->[V.agg ((cs.drop off).take k)][i]? =some c->Pur w (Fb N0 μ T) x c)/\(∀(i:Nat)x c,ys[i]? =some x->([]:List V)[i]? =some c->Pur w (Fb N0 μ T) x c)/\
     (execOp a.eval o).run P w=.ok (.enter ae (xs++args.toList.map a.eval++ys).toArray) w:=by
   intro xs m d n he;refine⟨[.agg ((xs.drop off).take k).toArray],[],rfl,rfl,fun i x c f h=>?_,by simp,Alf ho he (af xs w m) ab hb hn⟩
   rcases i with _ |i
   ·simp at f h;subst f;subst h
    have:Pur w (Fb N0 μ T) (.agg ((xs.drop off).take k).toArray) (.agg ((cs.drop off).take k)):=by
     refine .agg _ _ (by simp [m]) (fun c h=>d c (Cx (B8 h))) fun j x c f h=>?_
     by_cases hj:j<k
     ·rw [Cg hj,Cy]at f h;exact n _ x c f h
     ·rw [List.getElem?_take_eq_none Go.om]at f;cases f
    simpa using this
   ·simp at f
  rcases hv with rfl|rfl
  ·generalize g:a.eval r=y at e;cases e with
   |pur e=>cases e with
    |dm _ xs _ m d n=>exact u xs m d n g
  ·generalize g:a.eval r=y at e;cases e with
   |pur e=>cases e with
    |ifc _ x _ _ f=>cases f with
     |agg xs _ m d n=>exact u xs m d n g
   |ifc _ x _ d=>simp [V.isCell]at d
theorem O7{ops:List Oper}{i:Nat}{o:Oper}{a:List Oper}{f:Operand}{g:V}{args:Array Operand}{d:Array TypeId}{vs:List V}{c:V}
  (n:Gon G w0)(k:FCQ G P g vs (fun r=>r=c))(e:i<ops.length)(j:S.gv ops o=some true)(l:o.op=.call { callee:=.value f,args:=args,argTypes:=d})(s:S.evc true f=some g)
  (m:S.args true args.toList=some vs)(hp:vs.all V.pureV=true)(hs:S.putv o.dst (Fs o true c)=some S')(h:Jj P w0 N0 ops Q (i+1) a S'):Jj P w0 N0 ops Q i (o::a) S:=
 Aip e (Agt n k j l s m hp hs).gen h
theorem Agu{ops:List Oper}{i:Nat}{o:Oper}{c:List Oper}{r:Operand}{a:String}{v:V}{args:Array Operand}{e:Array TypeId}{vs:List V}{d:V}
  (m:Gon G w0)(j:ICQ G P v a vs (fun r=>r=d))(f:i<ops.length)(g:S.gv ops o=some true)(k:o.op=.call { callee:=.invoke r a,args:=args,argTypes:=e})(n:S.evc true r=some v)
  (l:S.args true args.toList=some vs)(hp:vs.all V.pureV=true)(hs:S.putv o.dst (Fs o true d)=some S')(h:Jj P w0 N0 ops Q (i+1) c S'):Jj P w0 N0 ops Q i (o::c) S:=
 Aip f (At3 m j g k n l hp hs).gen h
theorem Ax6{X:List Nat}{ops:List Oper}{i:Nat}{o:Oper}{f:Operand}{d:V}{args:Array Operand}{c:Array TypeId}{vs:List V}{a:V}
  (l:i∈X)(k:Gon G w0)(g:FCQ G P d vs (fun r=>r=a))(e:S.gv ops o=some true)(h:o.op=.call { callee:=.value f,args:=args,argTypes:=c})(m:S.evc true f=some d)
  (j:S.args true args.toList=some vs)(hp:vs.all V.pureV=true)(hs:S.putv o.dst (Fs o true a)=some S'):Lv P kb w0 X ops i o S S':=
 .inr (.inr ⟨l,Agt k g e h m j hp hs⟩)
end
section
variable {P:Program}{w0:Bs}{N0:Nat->Prop}{Q:Exit->AS->Prop}{S S':AS}
theorem RelM.forget{D:Nat->Prop}{μ:Mu}{a:Act}{w:World}(h:RelM D w0 N0 μ S a w){d:Nat}{x:Value}(f:d<S.nt):RelM D w0 N0 μ { S with env:=Jn [d] S.env} (a.put (some d) x) w:=by
 refine⟨h.defers,by simp [Act.put,h.size],h.below,h.n0,h.fresh,h.objs,h.inj,fun t u c=>?_⟩;obtain⟨h1,h2⟩:=Q4 c;rw [Mq a d x t (by rw [h.size];exact f),if_neg (fun e=>h2 (by simp [e]))];exact h.env t u h1
theorem Ax7{ops:List Oper}{i:Nat}{o:Oper}{e:List Oper}{d:Nat}{c:Value}(g:o.guard=none)(n:o.op=.assign (.const c))(t:o.dst=some d)(l:d<S.nt)
  (u:({ S with env:=Jn [d] S.env}:AS)=S')(h:Jj P w0 N0 ops Q (i+1) e S'):Jj P w0 N0 ops Q i (o::e) S:=by
 rintro D a w r⟨μ,m⟩;refine wpList_plain g fun K k=>?_
 unfold Oper.wp
 have f:(execOp a.eval o).run P w=.ok (.value (a.eval (.const c))) w:=by
  unfold execOp;rw [n];rfl
 rw [f];subst u;refine k _ _ ?_;rw [t];exact h D _ _ (fun j s=>Eh (r j s)) ⟨μ,m.forget l⟩
def A67(fn:Func)(R:V->Prop)(e:Exit)(S:AS):Prop:=
 match e with
 | .ret| .normal=>∃t v,fn.results.toList= [.tmp t]/\get S.env t=some v/\v.pureV=true/\R v
 |_ =>False
theorem At4{fn:Func}{R:V->Prop}{t:Nat}{v:V}(h1:fn.results.toList= [.tmp t])(h2:get S.env t=some v)(a:v.pureV=true)(c:R v):A67 fn R .ret S:=⟨t,v,h1,h2,a,c⟩
theorem At5{f:FuncId}{fn:Func}{c:Code}{args:List V}{R:V->Prop}(hf:P.funcs[f]? =some fn)(a:fn.body=some c)(hl:args.length<=fn.ntmps)
  (h:∀w0 N0,AW P w0 N0 c (A67 fn R) ⟨P4 0 args,[],0,fn.ntmps⟩):AC P f args R:=by
 intro w N xs z s hp
 refine calls_of_wp hf a (wp_mono (h ⟨w,fun _ =>False,fun _ _ =>none,[]⟩ N _ w ⟨fun _ _ =>none,⟨rfl,?_,Bs.Below.refl _,⟨fun b a=>⟨z b a,fun h=>h⟩,fun _ _ _ h=>by cases h⟩,fun d v l=>absurd rfl l,fun d o m=>?_,fun d o _ _ _ _ _ m=>?_,fun t v l=>?_⟩⟩) ?_)
 ·simp only [Gz,C4,I1];omega
 ·simp [get]at m
 ·simp [get]at m
 ·obtain⟨_,h2⟩:=Q0 l;simp only [J4]at h2;have ht:t<args.length:=(Ap.1 h2).1;refine⟨by simp only;omega,.pur ?_⟩;have n:xs[t]? =some xs[t]:=Al om;have:=hp t xs[t] v n h2
  have g:(xs.toArray++Array.replicate (fn.ntmps-xs.toArray.size) undef).getD t undef=xs[t]:=by
   rw [Dm,G5 (by simp;omega)];simp [n]
  rw [g]
  exact this.keep (Ef.refl _ _) (fun b a ho=>by
   rcases ho with h0|⟨d,o,c,h1,_⟩
   ·exact h0
   ·simp [get]at h1)
 ·rintro e u w'⟨S',k,⟨μ,j⟩⟩
  have i:(∃t v,fn.results.toList= [.tmp t]/\get S'.env t=some v/\v.pureV=true/\R v)->∃v,(results fn u.tmps).run P w'=.ok v w'/\∃x r,Ending.returned v=.returned x/\R r/\Pur w' N x r/\Below w.heap.size w w':=by
   rintro⟨t,v,h1,h2,y,h4⟩;have h5:=(j.env t v h2).2.pureV y;refine⟨u.tmps.getD t undef,?_,_,v,rfl,h4,h5.keep (Ef.refl _ _) (fun b _ a=>.inl a),j.below.plain⟩;rw [Rp,Sem.run_bind,Hf,Sem.run_map,h1];rfl
  cases e with
  |ret=>exact⟨j.defers,i k⟩
  |normal=>exact⟨j.defers,i k⟩
  |_ =>exact k.elim
end
def A98(P:Program)(f h:FuncId)(sz:Nat)(ty:TypeId)(es c:List V)(F:Nat->Nat->V):Prop:=
 (∀(w:World)(g a:Nat),a<=maxLen->Aan w g ty sz a es->Calls P f #[.slice (some ⟨g,0,none⟩) es.length a,.func (.func h) #[] #[]] w (fun e w'=>∃x,e=.returned x/\w.grownBy w' (some g)/\Aan w' g ty sz a c/\
   ∀d v μ N',μ d v=some (some (g,a))->Enc w' N' μ x (F d v)))/\
 (es= []->c= []/\∀(w:World)A,Calls P f #[.slice A 0 0,.func (.func h) #[] #[]] w (fun e w'=>∃x,e=.returned x/\w.grownBy w' none/\∀d v μ N',μ d v=some none->Enc w' N' μ x (F d v)))
section
variable {P:Program}{w0:Bs}{N0:Nat->Prop}{Q:Exit->AS->Prop}{S:AS}
theorem Apf{ops:List Oper}{i:Nat}{o:Oper}{ah:List Oper}{f x y:Operand}{aa g0:FuncId}{fn:Func}{a4:Array TypeId}{d v sz:Nat}{ty:TypeId}{es z:List V}{F:Nat->Nat->V}{S':AS}
  (hc:A98 P aa g0 sz ty es z F)(aw:es.all Lu=true)(aq:z.all Lu=true)(ax:P.funcs[aa]? =some fn)(hb:fn.body.isSome=true)(hn:(fn.name== "runtime.NumGoroutine")=false)
  (hg:o.guard=none)(a2:o.op=.call { callee:=.value f,args:= #[x,y],argTypes:=a4})(hf:S.evc true f=some (.fn aa))(hy:S.evc true y=some (.fn g0))
  (hx:S.evc true x=some (.sl d v sz es.length))(ho:get S.objs d=some ⟨v,sz,ty,es⟩)(hs:({ S with objs:=(d,⟨v,sz,ty,z⟩)::S.objs}:AS).putv o.dst (F d v)=some S')
  (h:Jj P w0 N0 ops Q (i+1) ah S'):Jj P w0 N0 ops Q i (o::ah) S:=by
 rintro D a w hD⟨μ,hr⟩;refine wpList_plain hg fun K hK=>?_
 have af:=hr.evc hf rfl
 have ay:a.eval f=.func (.func aa) #[] #[]:=by
  generalize a.eval f=y at af;cases af with
  |pur af=>cases af with
   |fn=>rfl
 have ab:=hr.evc hx rfl;obtain⟨l,hl,ad⟩:=hr.objs d _ ho;unfold Oper.wp;rw [Hq a2 ay ax hb hn];have ag:=hr.evc hy rfl
 have az:a.eval y=.func (.func g0) #[] #[]:=by
  generalize a.eval y=y' at ag;cases ag with
  |pur ag=>cases ag with
   |fn=>rfl
 have an: #[x,y].map a.eval= #[a.eval x,.func (.func g0) #[] #[]]:=by simp [az]
 rw [an]
 have s:∀(e:Ending)(w':World)(xv:Value)(row:Option Nat),e=.returned xv->w.grownBy w' row->(∀g,row=some g->∃c,l=some (g,c))->(∀N',Wx w' N' μ w0 ⟨v,sz,ty,z⟩ l)->(∀N',Enc w' N' μ xv (F d v))->
   ∃r,e=.returned r/\K (a.put o.dst r) w':=by
  rintro e w' xv row rfl n u am m;refine⟨xv,rfl,?_⟩
  have au:w0.Below w':=hr.below.grown n hr.below.size (fun k hk=>by
   obtain⟨c,e⟩:=u k hk;rw [e]at ad;exact ad.1)
  obtain⟨al,_⟩:=hr.update (D':=D) (d:=d) (o':=⟨v,sz,ty,z⟩) (l':=l) (w':=w') (μ':=μ) (fun _ _ _ hh=>hh) hr.fresh hl au
   (Ef.of_grown n (fun g hg=>by obtain⟨c,e⟩:=u g hg;exact .inr ⟨d,_,c,ho,by rw [hl,e]⟩))
   (fun d1 o1 g c a3 h1 h2=>n.block g (hr.block_lt h1 h2) (fun e=>by
    obtain⟨c',e'⟩:=u g e.symm;exact a3 (hr.inj _ _ _ _ _ _ _ h1 ho h2 (by rw [hl,e']))))
   (fun g c e=>.inr ⟨_,c,ho,by rw [hl,e]⟩) (fun N' _ =>am N')
  exact hK _ _ (h D _ w' (fun j hj=>Eh (hD j hj)) ⟨μ,al.putv hs (m _)⟩)
 have t:∀ {w1 w2:World}{N1:Nat->Prop}{μ1:Mu}{y:Value}{c:V},c.flat=true->Enc w1 N1 μ1 y c->Pur w2 (fun _ =>False) y c:=by
  intro w1 w2 N1 μ1 y c ar hy;exact(hy.flatP ar).of_flat ar
 generalize a6:a.eval x=xv at ab
 have ai:Calls P aa #[xv,.func (.func g0) #[] #[]] w (fun e w'=>∃r,e=.returned r/\K (a.put o.dst r) w'):=by
  generalize ae:V.sl d v sz es.length=sv at ab;cases ab with
  |pur ab=>cases ab<;>cases ae
  |slr d' v' a5 len g ak h1 h2 h3=>
   cases ae
   rw [hl]at h1;injection h1 with h1;subst h1;obtain⟨b1,b2,b3,b4,av,b5,b6,b7⟩:=ad
   refine(hc.1 w g ak h3 ⟨b2,b4,av,b5,b6,fun k e j c he hj=>?_⟩).mono ?_
   ·obtain⟨y,hy,aj⟩:=b7 k e j c he hj;exact⟨y,hy,t (Aw.1 (Aw.1 aw e (Ay he)) c (Ay hj)) aj⟩
   ·rintro e w'⟨r,he,n,⟨c1,c2,ao,c3,c4,c5⟩,m⟩;refine s e w' r (some g) he n (fun g' a0=>by cases a0;exact⟨ak,rfl⟩) (fun N'=>⟨b1,c1,h3,c2,ao,c3,c4,fun k e j c he hj=>?_⟩) fun N'=>m d v μ N' hl;obtain⟨y,hy,aj⟩:=c5 k e j c he hj;exact⟨y,hy,.pur (aj.of_flat (Aw.1 (Aw.1 aq e (Ay he)) c (Ay hj)))⟩
  |slv d' v' a5 A h1=>
   injection ae with e1 e2 e3 e4;subst e1;subst e2;subst e3;rw [hl]at h1;injection h1 with h1;subst h1;have a1:es= []:=ad;obtain⟨h2,h3⟩:=hc.2 a1;refine(h3 w A).mono ?_;rintro e w'⟨r,he,n,m⟩;exact s e w' r none he n (fun g hg=>by cases hg) (fun N'=>h2) fun N'=>m d v μ N' hl
  |_ =>cases ae
 refine ai.mono ?_;rintro e w'⟨r,rfl,hk⟩;exact hk
end
theorem Vt(g:Nat)(ty:TypeId)(d:Nat × Nat):∀(vs:List Value)(o:Nat)(w:World)(c:Array Value),w.heap[g]? =some (.cells c ty d)->
  ∃a,(w.setCells g o vs).heap[g]? =some (.cells a ty d)/\a.size=c.size/\∀j,j<o->a[j]? =c[j]?
 | [],_,w,c,h=>⟨c,h,rfl,fun _ _ =>rfl⟩
 |v::r,o,w,c,h=>by
  have h1:(w.setCell ⟨g,o,none⟩ v).heap[g]? =some (.cells (c.setIfInBounds o v) ty d):=by simp [World.setCell,Kj,h]
  obtain⟨a,h2,e,f⟩:=Vt g ty d r (o+1) _ _ h1;refine⟨a,h2,by simpa using e,fun j hj=>?_⟩;rw [f j Go.om];simp [show¬o=j by omega]
theorem Vu(g:Nat):∀(vs:List Value)(o:Nat)(w:World),(w.setCells g o vs).os=w.os/\(w.setCells g o vs).tape=w.tape/\(w.setCells g o vs).output=w.output/\(w.setCells g o vs).heap.size=w.heap.size/\∀b,b≠g->(w.setCells g o vs).heap[b]? =w.heap[b]?
 | [],_,w=>⟨rfl,rfl,rfl,rfl,fun _ _ =>rfl⟩
 |v::r,o,w=>by
  obtain⟨h1,h2,c,d,f⟩:=Vu g r (o+1) (w.setCell ⟨g,o,none⟩ v);refine⟨h1,h2,c,d.trans (by simp [World.setCell]),fun b a=>(f b a).trans ?_⟩;simp [World.setCell,Kj,show¬g=b from fun e=>a e.symm]
section
variable {P:Program}{w0:Bs}{N0:Nat->Prop}{Q:Exit->AS->Prop}{S S':AS}
theorem Vv(cells:Array Value)(n:Nat):(Builtin.zeroCells cells n).toList.length=n*cells.size:=by simp [Builtin.zeroCells]
theorem Aff{cells:Array Value}{n:Nat}(h1:∀v∈cells.toList,v.oneCell'=true):∀v∈(Builtin.zeroCells cells n).toList,v.oneCell'=true:=by
 intro v c;simp only [Builtin.zeroCells]at c;obtain⟨j,d⟩:=Co c;simp at d;obtain⟨q,a,rfl⟩:=d
 have a:q<n*cells.size:=by
  have:=Ay a;simpa using this
 refine h1 _ ?_
 have e:0<cells.size:=by
  rcases Es cells.size with h|h
  ·rw [h]at a;simp at a
  ·exact h
 have:=C9 q e;rw [getElem!_pos cells (q%cells.size) this];simp
theorem At6(w:World)(t e ty:TypeId)(z:Value)(g:P.underlying t=some (.slice e))(d:(zeroValue e).run P w=.ok z w)(h1:∀v∈z.cells.toList,v.oneCell'=true)(b o n c:Nat)(hn:0<n)
  (f:∀j,j<n*z.cells.size->(w.cell? ⟨b,o+j,none⟩).isSome=true)(h:∀j,j<n*z.cells.size->w.frozen? ⟨b,o+j,none⟩=false):
  (Builtin.clear_ #[t] ty #[.slice (some ⟨b,o,none⟩) n c]).run P w=.ok (.tuple #[]) (w.setCells b o (Builtin.zeroCells z.cells n).toList):=by
 have a:=run_storeCells_cells (P:=P) b o (Builtin.zeroCells z.cells n).toList 0 w (by rw [Vv];simpa using f) (by rw [Vv];simpa using h) (Aff h1);simp only [Dy]at a;obtain⟨m,rfl⟩:∃m,n=m+1:=⟨n-1,by omega⟩;simp [Builtin.clear_,run_underlying g,d,a]
theorem At7{D:Nat->Prop}{μ:Mu}{a:Act}{w:World}(h:RelM D w0 N0 μ S a w){d off len:Nat}{t te ty:TypeId}{s:Value}{o:Ob}{z:Value}(ht:Fr P t=some te)(hz:(zeroValue te).run P w=.ok z w)(aj:z.cells.size=o.sz)(h1:∀v∈z.cells.toList,v.oneCell'=true)
  (hs:Enc w (Fb N0 μ S) μ s (.ss d o.v o.sz off len))(ho:get S.objs d=some o)(au:off+len=o.es.length):
  ∃w',(Builtin.clear_ #[t] ty #[s]).run P w=.ok (.tuple #[]) w'/\RelM D w0 N0 μ { S with objs:=(d,{ o with es:=o.es.take off})::S.objs} a w':=by
 have hu:=Dh ht;obtain⟨l,y,aa⟩:=h.objs d o ho;generalize u:V.ss d o.v o.sz off len=sv at hs;cases hs with
 |pur hs=>subst u;cases hs
 |ss d' v' ao al am g c r A h2 h3 hA=>
  injection u with e1 e2 e3 e4 e5;subst e1;subst e2;subst e3;subst e4;subst e5
  by_cases h0:len=0
  ·subst h0
   refine⟨w,?_,?_⟩
   ·cases A<;>simp [Builtin.clear_,run_underlying hu]
   ·have ai:o.es.take off=o.es:=Bg om;rw [ai];refine(h.update (D':=D) (d:=d) (o':=o) (l':=l) (μ':=μ) (fun _ _ _ m=>m) h.fresh y h.below (Ef.refl _ _) (fun _ _ _ _ _ _ _ =>rfl) (fun g c e=>.inr ⟨o,c,ho,by rw [y,e]⟩) (fun N' hN=>?_)).1;exact aa.keep (w':=w) (N':=N') (μ':=μ) (Ef.refl _ _) hN (fun _ _ _ m=>m) fun _ _ _ =>rfl
  obtain⟨hm,rfl⟩:=hA om;rw [hm]at y;injection y with y;subst y;obtain⟨o1,o2,o3,o4,n,o5,o6,o7⟩:=aa
  have ag:off*o.sz+len*o.sz<=n.size:=by
   rw [o6,<- B9];exact B3 _ om
  have ae:=At6 (P:=P) w t te ty z hu hz h1 g (off*o.sz) len c om
   (fun j hj=>by rw [aj]at hj;simp [World.cell?,o5,show off*o.sz+j<n.size by omega])
   (fun j hj=>by simp [World.frozen?,o5])
  refine⟨_,ae,?_⟩;obtain⟨ad,a1,a2,a3⟩:=Vt g o.ty (0,0) (Builtin.zeroCells z.cells len).toList (off*o.sz) w n o5;obtain⟨k1,k2,k3,ab,k5⟩:=Vu g (Builtin.zeroCells z.cells len).toList (off*o.sz) w;have f:∀b,b<w.heap.size->b≠g->(w.setCells g (off*o.sz) (Builtin.zeroCells z.cells len).toList).heap[b]? =w.heap[b]? :=fun b _ ak=>k5 b ak
  have aq:g<w.heap.size:=(B2.1 o5).1
  have i:Ef w (Fb N0 μ S) (w.setCells g (off*o.sz) (Builtin.zeroCells z.cells len).toList):=
   ⟨by rw [ab];exact A9 _,fun b hb hN=>f b hb (fun e=>hN (by subst e;exact .inr ⟨d,o,r,ho,hm⟩))⟩
  refine(h.update (D':=D) (d:=d) (o':={ o with es:=o.es.take off}) (l':=some (g,r)) (μ':=μ) (fun _ _ _ m=>m) h.fresh hm ?_ i
   (fun d1 an g1 c1 af h1 h2=>f g1 (h.block_lt h1 h2) (fun e=>af (by subst e;exact h.inj _ _ _ _ _ _ _ h1 ho h2 hm)))
   (fun g2 c2 e=>by
    simp only [Au,B0]at e;obtain⟨rfl,rfl⟩:=e;exact .inr ⟨o,r,ho,hm⟩) (fun N' hN=>?_)).1
  ·refine⟨k1.trans h.below.os,k2.trans h.below.tape,k3.trans h.below.output,by rw [ab];exact h.below.size,fun k hk hx=>?_⟩
   ·rw [f k (B6 hk h.below.size) (fun e=>by
     subst e
     rcases o1 with h3|h3
     ·exact absurd hk om
     ·exact hx h3)]
    exact h.below.block k hk hx
  ·refine⟨o1,by simp only [Cs];omega,o3,fun e he=>o4 e (B8 he),ad,a1,by rw [a2,o6],fun k e j c he hj=>?_⟩;have hk:k<off:=by have:=(Ap.1 he).1;simp at this;omega
   simp only [Cg hk]at he;obtain⟨x,hx,ah⟩:=o7 k e j c he hj
   have ar:j<o.sz:=by
    have h5:=(o4 e (Ay he)).1;have:=(Ap.1 hj).1;omega
   refine⟨x,?_,ah.keep i hN (fun _ _ _ m=>m)⟩
   rw [a3 _ ?_]
   ·exact hx
   ·show k*o.sz+j<off*o.sz
    have:=B3 o.sz (show k+1<=off by omega);rw [B9]at this;omega
 |_ =>cases u
theorem At8{ops:List Oper}{i:Nat}{o:Oper}{c:List Oper}{x:Operand}{t te:TypeId}{d off len:Nat}{ob:Ob}{z:Value}(r:o.guard=none)(hd:o.dst=none)
  (ho:o.op=.call { callee:=.builtin .clear,args:= #[x],argTypes:= #[t]})(y:S.evc true x=some (.ss d ob.v ob.sz off len))(g:get S.objs d=some ob)(l:off+len=ob.es.length)
  (ht:Fr P t=some te)(u:∀w,(zeroValue te).run P w=.ok z w)(m:z.cells.size=ob.sz)(h1:∀v∈z.cells.toList,v.oneCell'=true)
  (hS:({ S with objs:=(d,{ ob with es:=ob.es.take off})::S.objs}:AS)=S')(k:Jj P w0 N0 ops Q (i+1) c S'):Jj P w0 N0 ops Q i (o::c) S:=by
 rintro D a w hD⟨μ,n⟩;refine wpList_plain r fun K s=>?_
 obtain⟨w',e,h⟩:=At7 (P:=P) (ty:=o.type) n ht (u w) m h1 (n.evc y rfl) g l;unfold Oper.wp
 have f:(execOp a.eval o).run P w=.ok (.value (.tuple #[])) w':=by
  unfold execOp;rw [ho];simp [resolve,invoke,builtin,e,Result.andThen]
 rw [f];subst hS;refine s _ _ ?_;rw [hd];exact k D _ _ (fun j hj=>Eh (hD j hj)) ⟨μ,h⟩
end
section
variable {P:Program}{w0:Bs}{N0:Nat->Prop}{Q:Exit->AS->Prop}{S S':AS}
theorem At9{D:Nat->Prop}{μ:Mu}{a:Act}{w:World}(h:RelM D w0 N0 μ S a w){d len:Nat}{dT sT te ty:TypeId}{s x:Value}{xv:V}{es:List V}{o:Ob}(ht:Fr P dT=some te)(hn:Ie P te=some 1)
  (hs:Enc w (Fb N0 μ S) μ s (.sl d o.v o.sz len))(ho:get S.objs d=some o)(a4:o.es.length=len)(u:o.sz=1)(hx:Enc w (Fb N0 μ S) μ x xv)(he:S.elems xv=some (1,es))(az:es.length<=len):
  ∃w',(Builtin.copy_ #[dT,sT] ty #[s,x]).run P w=.ok (goInt es.length) w'/\RelM D w0 N0 μ { S with objs:=(d,{ o with es:=es++o.es.drop es.length})::S.objs} a w':=by
 have hu:=Dh ht;unfold Ie at hn;obtain⟨A,c,rfl,a6,ag⟩:=h.elems hx he
 have ab:es.length=0->RelM D w0 N0 μ { S with objs:=(d,{ o with es:=es++o.es.drop es.length})::S.objs} a w:=fun h0=>by
  have a0:({ o with es:=es++o.es.drop es.length}:Ob)=o:=by
   rw [Gf h0];rfl
  rw [a0];obtain⟨l,hl,ae⟩:=h.objs d o ho;refine(h.update (D':=D) (d:=d) (o':=o) (l':=l) (μ':=μ) (fun _ _ _ t=>t) h.fresh hl h.below (Ef.refl _ _) (fun _ _ _ _ _ _ _ =>rfl) (fun g c e=>.inr ⟨o,c,ho,by rw [hl,e]⟩) (fun N' hN=>?_)).1;exact ae.keep (w':=w) (N':=N') (μ':=μ) (Ef.refl _ _) hN (fun _ _ _ t=>t) fun _ _ _ =>rfl
 cases hs with
 |pur hs=>cases hs
 |slv _ _ _ B hm=>exact⟨w,by rw [show es.length=0 by omega];exact run_copy_none w dT sT ty te B A 0 0 0 c hu hn sm,ab om⟩
 |slr _ _ _ _ g i hm a3 a2=>
  by_cases h0:es.length=0
  ·exact⟨w,by rw [h0];exact run_copy_none w dT sT ty te _ A len i 0 c hu hn sm,ab h0⟩
  have ay:es≠ []:=fun e=>by subst e;simp at h0
  obtain⟨hf,ad,vs,rfl,n,au,m⟩:=ag ay;obtain⟨l,z,ae⟩:=h.objs d o ho;rw [hm]at z;injection z with z;subst z;obtain⟨o1,o2,o3,o4,af,o5,o6,o7⟩:=ae;rw [u,F0]at o6;rw [F0]at n
  have ao:∀v∈vs,v.oneCell'=true:=by
   intro v hv;obtain⟨j,hj⟩:=Co hv;have aw:j<(flat es).length:=by rw [<- m.1];exact(Ap.1 hj).1
   have hc:=Al aw;refine(m.2 j v _ hj hc).cell_oneCell ?_;have aa:=Ay hc;unfold flat at aa;obtain⟨e,ai,ar⟩:=List.mem_flatMap.1 aa;exact(hf e ai).2 _ ar
  have r:=run_copy_row (P:=P) w dT sT ty te g 0 len i ad es.length c af o.ty vs hu hn o5 (by rw [n];exact(Hb az).symm)
   au om ao
  rw [n]at r;simp only [Iq,Fm,Dj]at r;refine⟨_,r,?_⟩
  have f:Ef w (Fb N0 μ S) (w.setRow g (vs++af.toList.drop es.length).toArray):=
   ⟨by simp,fun b hb hN=>setRow_other w g b _ (fun e=>hN (by subst e;exact .inr ⟨d,o,i,ho,hm⟩))⟩
  refine(h.update (D':=D) (d:=d) (o':={ o with es:=es++o.es.drop es.length}) (l':=some (g,i)) (μ':=μ) (fun _ _ _ t=>t) h.fresh hm (Agb h.below o1 _) f
   (fun d1 a5 g1 c1 aq h1 h2=>setRow_other w g g1 _ (fun e=>aq (by subst e;exact h.inj _ _ _ _ _ _ _ h1 ho h2 hm)))
   (fun g2 c2 e=>by
    simp only [Au,B0]at e;obtain⟨rfl,rfl⟩:=e;exact .inr ⟨o,i,ho,hm⟩) (fun N' hN=>?_)).1
  have an:∀e1∈es++o.es.drop es.length,e1.fits o.sz:=fun e1 ai=>by
   rcases Cc.1 ai with h1|h1
   ·rw [u];exact hf e1 h1
   ·exact o4 e1 (Cx h1)
  have ax:(es++o.es.drop es.length).length=o.es.length:=by rw [Bf,F7];omega
  refine⟨o1,by simp only [ax];exact o2,o3,an,_,setRow_heap w g af _ o.ty (0,0) o5,?_,?_⟩
  ·simp only [C4,Bf,n,F7,Ia,u,F0];omega
  ·intro k e j c2 hk hj;simp only [u,F0]at o7|-
   by_cases av:k<es.length
   ·rw [Bn av]at hk;have ah:=hf e (Ay hk)
    have aj:j=0:=by
     have:=(Ap.1 hj).1;have:=ah.1;omega
    subst aj;have al:=Od hf hk hj;simp only [F0,Dy]at al|-;have am:vs[k]? =some (vs[k]'(by omega)):=Al om
    refine⟨vs[k]'(by omega),?_,?_⟩
    ·rw [Iv,Bn Go.om];exact am
    ·exact(m.2 k _ c2 am al).keep f hN (fun _ _ _ t=>t)
   ·rw [Be om,Cy]at hk;have ah:=o4 e (Ay hk)
    have aj:j=0:=by
     have:=(Ap.1 hj).1;have:=ah.1;omega
    subst aj;rw [show es.length+(k-es.length)=k by omega]at hk;obtain⟨y,ak,a1⟩:=o7 k e 0 c2 hk hj;simp only [Dy]at ak|-;refine⟨y,?_,a1.keep f hN (fun _ _ _ t=>t)⟩;rw [Iv,Be om,Cy,n,show es.length+(k-es.length)=k by omega];rw [<- ak];simp
def AS.copyTS(S:AS)(x y:Operand)(dst:Option Nat):Option AS:=match S.evc true x,S.evc true y with
 |some (.sl d v sz len),some a=>match get S.objs d,S.elems a with
  |some ob,some (n,es)=>if ob.v=v/\ob.sz=sz/\sz=1/\n=1/\ob.es.length=len/\es.length<=len then AS.putv { S with objs:=(d,{ ob with es:=es++ob.es.drop es.length})::S.objs} dst (.int .i64 es.length)else none
  |_,_ =>none
 |_,_ =>none
theorem Aua{ops:List Oper}{i:Nat}{o:Oper}{c:List Oper}{x y:Operand}{s sT te:TypeId}(t:o.guard=none)
  (ho:o.op=.call { callee:=.builtin .copy,args:= #[x,y],argTypes:= #[s,sT]})(ht:Fr P s=some te)(hn:Ie P te=some 1)
  (hs:S.copyTS x y o.dst=some S')(k:Jj P w0 N0 ops Q (i+1) c S'):Jj P w0 N0 ops Q i (o::c) S:=by
 unfold AS.copyTS at hs;split at hs
 case h_2=>cases hs
 rename_i d v sz len xv hx hy;split at hs
 case h_2=>cases hs
 rename_i ob n es g he;split at hs
 case isFalse=>cases hs
 rename_i z;obtain⟨rfl,rfl,h,rfl,rfl,r⟩:=z;rintro D a w hD⟨μ,m⟩;refine wpList_plain t fun K u=>?_
 obtain⟨w',e,l⟩:=At9 (P:=P) (sT:=sT) (ty:=o.type) m ht hn (m.evc hx rfl) g rfl h (m.evc hy rfl) he r;unfold Oper.wp
 have f:(execOp a.eval o).run P w=.ok (.value (goInt es.length)) w':=by
  unfold execOp;rw [ho];simp [resolve,invoke,builtin,e,Result.andThen]
 rw [f];exact u _ _ (k D _ _ (fun j hj=>Eh (hD j hj)) ⟨μ,l.putv hs (.pur (.int _ _))⟩)
theorem Aub{G:Gp}{ops:List Oper}{i:Nat}{ks:List Nat}{t:Tr}{o:Oper}{c:Bool}{f:Operand}{a:FuncId}{fn:Func}{args:Array Operand}{g:Array TypeId}{vs:List V}{e:V}
  (x:Gon G w0)(s:c=true->Hp G P a vs (fun r=>r=e))(k:P.funcs[a]? =some fn)(z:fn.body.isSome=true)(n:(fn.name== "runtime.NumGoroutine")=false)(l:G8 ops i=some o)(j:(ks.all fun d=>(get S.objs (0+d)).isNone)=true)
  (m:S.gv ops o=some c)(u:o.op=.call { callee:=.value f,args:=args,argTypes:=g})(y:S.evc c f=some (.fn a))(w:S.args c args.toList=some vs)(hp:vs.all V.pureV=true)(hs:S.putv o.dst (Fs o c e)=some S')(h:AWT P 0 w0 ops Q t S'):AWT P 0 w0 ops Q (.take i ks t) S:=by
 rw [C0]at l;exact⟨o,S',l,j,.inr (.inl ⟨c,f,args,g,a,fn,vs,e,m,u,y,k,z,n,w,hp,fun h=>(s h).b x,hs⟩),h⟩
theorem C1(a:Nat)(h:Q .ret { S with nx:=a+S.nx}):AW P w0 N0 .ret Q S:=S7 (S':={ S with nx:=a+S.nx}) (Agm rfl rfl rfl (Nat.le_add_left _ _)) (Aj h)
end
attribute [simp] AS.copyTS
def AS.viewB(S:AS):V->Option V
 | .bp d v sz k off=>if off=0 then(match get S.objs d with
  |some o=>if o.v=v/\o.sz=sz then(match G8 o.es k with
   |some (.agg cs)=>match S.viewL cs with
    |some us=>some (.rp (.agg us))
    |none=>none
   |_ =>none)else none
  |none=>none)else none
 |v=>S.view v
def AS.viewsB(S:AS):List V->Option (List V)
 | []=>some []
 |v::r=>match S.viewB v,S.viewsB r with
  |some u,some us=>some (u::us)
  |_,_ =>none
section
variable {P:Program}{kb:Nat}{D:Nat->Prop}{w0:Bs}{w:World}{N0:Nat->Prop}{μ:Mu}{S S':AS}{a:Act}{Q:Exit->AS->Prop}
theorem RelM.viewB(h:RelM D w0 N0 μ S a w){x:Value}{v u:V}(t:Enc w (Fb N0 μ S) μ x v)(e:S.viewB v=some u):Pur w N0 x u:=by
 have m:S.view v=some u->Pur w N0 x u:=fun e=>h.view t e
 cases v<;>simp only [AS.viewB]at e
 case bp d v sz k off=>
  split at e
  case isFalse=>cases e
  rename_i h0;split at e
  case h_2=>cases e
  rename_i o ho;split at e
  case isFalse=>cases e
  rename_i ag;obtain⟨rfl,rfl⟩:=ag;split at e
  case h_2=>cases e
  rename_i cs n;split at e
  case h_2=>cases e
  rename_i us af;injection e with e;subst e;subst h0;rw [C0]at n;obtain⟨h1,h2⟩:=V8 af;cases t with
  |pur t=>cases t
  |bp _ _ _ _ _ g ai hm=>
   obtain⟨l,z,aa⟩:=h.objs d o ho;rw [hm]at z;injection z with z;subst z;obtain⟨hf,_,_,h4,ab,h5,h6,h7⟩:=aa;have ad:=h4 _ (Ay n);have ah:cs.length=o.sz:=ad.1
   have f:∀(j:Nat)c,us[j]? =some c->∃y,w.cell? ((⟨g,k*o.sz,none⟩:Addr).add j)=some y/\Pur w N0 y c/\c.isCell=true:=by
    intro j c i;have aj:j<us.length:=(Ap.1 i).1;have r:cs[j]? =some cs[j]:=Al om;obtain⟨y,s,ae⟩:=h7 k _ j cs[j] n r;obtain⟨hp,hc⟩:=h.viewC ae (h2 j cs[j] c r i);exact⟨y,by rw [Addr.add_lit,cell_of_row w g _ ab o.ty (0,0) h5];exact s,hp,hc⟩
   refine .rp ⟨g,k*o.sz,none⟩ o.sz (.agg us) (fun j=>(w.cell? ((⟨g,k*o.sz,none⟩:Addr).add j)).getD undef) (h.block_lt ho hm) (fun hn=>?_) ⟨by show us.length=o.sz;omega,fun c hc=>?_⟩ (fun j c i=>?_) fun j c i=>?_
   ·have:=h.n0.1 _ hn;exact absurd hf (fun hf=>hf.elim (fun h=>by have:=this.1;simp only at*;omega) this.2)
   ·obtain⟨j,i⟩:=Co hc;obtain⟨_,_,_,h8⟩:=f j c i;exact h8
   ·obtain⟨y,s,_,_⟩:=f j c i;simp only [s,En]
   ·obtain⟨y,s,hp,_⟩:=f j c i;simp only [s,En];exact hp
 all_goals exact m e
theorem Aar:∀ {vs us:List V},S.viewsB vs=some us->us.length=vs.length/\∀(i:Nat)v u,vs[i]? =some v->us[i]? =some u->S.viewB v=some u
 | [],us,h=>by simp only [AS.viewsB,Au]at h;subst h;simp
 |c::cs,us,h=>by
  simp only [AS.viewsB]at h;split at h
  case h_2=>cases h
  rename_i u f h1 h2;injection h with h;subst h;obtain⟨e,g⟩:=Aar h2;refine⟨by simp [e],fun i c' j d a=>?_⟩
  rcases i with _ |i
  ·simp at d a;subst d;subst a;exact h1
  ·simp at d a;exact g i c' j d a
theorem Aiq{S T:AS}(h:∀d,get S.objs d=get T.objs d):∀(vs:List V),S.viewsB vs=T.viewsB vs:=by
 have a:∀v,S.viewC v=T.viewC v:=by
  intro v;cases v<;>simp only [AS.viewC]<;>rw [Ta h]
 have e:∀l,S.viewL l=T.viewL l:=by
  intro l
  induction l with
  |nil=>rfl
  |cons v l ih=>simp only [AS.viewL,a,ih]
 have c:∀v,S.viewB v=T.viewB v:=by
  intro v;cases v<;>simp only [AS.viewB,AS.view,a,e,h]
 intro vs
 induction vs with
 |nil=>rfl
 |cons v l ih=>simp only [AS.viewsB,c,ih]
theorem Apg{ops:List Oper}{i:Nat}{o:Oper}{f:Operand}{h:FuncId}{fn:Func}{args:Array Operand}{ah:Array TypeId}{vs us:List V}{g:V}
  (hc:AC P h us (fun r=>r=g))(ad:P.funcs[h]? =some fn)(hb:fn.body.isSome=true)(hn:(fn.name== "runtime.NumGoroutine")=false)
  (hg:S.gv ops o=some true)(ho:o.op=.call { callee:=.value f,args:=args,argTypes:=ah})(s:S.evc true f=some (.fn h))
  (ha:S.args true args.toList=some vs)(hp:S.viewsB vs=some us)(hl:g.light=true)(hs:S.putv o.dst (Fs o true g)=some S'):Qb P w0 ops i o S S':=by
 obtain⟨af,ab⟩:=J0 hs;refine⟨Fs o true g,[],af,fun T t aa N0 D a w k hi ai K Q' hK=>?_⟩;replace hg:T.gv ops o=some true:=by rw [<- t.gv];exact hg
 replace s:T.evc true f=some (.fn h):=by rw [<- t.evc (by rw [ho];simp [Op.operands,Call.operands])];exact s
 replace ha:T.args true args.toList=some vs:=by rw [<- I6 (S:=S) (T:=T) (fun x z=>t.evc (by rw [ho];simp [Op.operands,Call.operands];right;simpa using z) true)];exact ha
 replace hp:T.viewsB vs=some us:=by rw [<- Aiq aa];exact hp
 have hs:=K4 (S:=T) (Fs o true g) (fun d hd=>by rw [<- t.2.1];exact ab d hd);obtain⟨μ,k⟩:=k;rw [K6 k hg,if_pos rfl];have l:=k.evc s rfl
 have ae:a.eval f=.func (.func h) #[] #[]:=by
  generalize a.eval f=y at l;cases l with
  |pur l=>cases l with
   |fn=>rfl
 obtain⟨h1,h2⟩:=Fx k rfl ha;obtain⟨h3,h4⟩:=Aar hp;unfold Oper.wp;rw [Hq ho ae ad hb hn]
 have c:=hc w N0 (args.toList.map a.eval) (fun b hb=>B6 (k.n0.1 b hb).1 k.below.size) (by simp [h1,h3]) (fun j x v z hv=>by
  simp only [Bc,A0]at z;obtain⟨y,hy,rfl⟩:=z;have u:j<vs.length:=by rw [<- h3];exact(Ap.1 hv).1
  exact k.viewB (h2 j y vs[j] hy (Al u)) (h4 j vs[j] v (Al u) hv))
 have n:(args.toList.map a.eval).toArray=args.map a.eval:=by apply Ej;simp
 rw [n]at c;refine c.mono ?_;rintro e w'⟨x,r,rfl,rfl,m,ag⟩;refine hK _ _ ⟨μ,((k.later ag).putv hs ?_).more (fun j u=>.inl u)⟩;unfold Fs
 split
 ·exact .pur (m.of_light hl)
 ·exact .whn _ _ _ (fun _ =>.pur (m.of_light hl)) (fun s=>by cases s)
theorem Uu{X:List Nat}{ops:List Oper}{i:Nat}{o:Oper}{f:Operand}{a:FuncId}{fn:Func}{args:Array Operand}{d:Array TypeId}{vs us:List V}{c:V}
  (n:i∈X)(j:AC P a us (fun r=>r=c))(e:P.funcs[a]? =some fn)(t:fn.body.isSome=true)(h:(fn.name== "runtime.NumGoroutine")=false)
  (g:S.gv ops o=some true)(k:o.op=.call { callee:=.value f,args:=args,argTypes:=d})(s:S.evc true f=some (.fn a))
  (l:S.args true args.toList=some vs)(hp:S.viewsB vs=some us)(m:c.light=true)(hs:S.putv o.dst (Fs o true c)=some S'):Lv P kb w0 X ops i o S S':=
 .inr (.inr ⟨n,Apg j e t h g k s l hp m hs⟩)
end
attribute [simp] AS.viewB AS.viewsB
section
variable {P:Program}{kb:Nat}{D:Nat->Prop}{w0:Bs}{w:World}{N0:Nat->Prop}{μ:Mu}{S S':AS}{a:Act}{Q:Exit->AS->Prop}
end
section
variable {P:Program}{kb:Nat}{w0:Bs}{N0:Nat->Prop}{S S':AS}{Q:Exit->AS->Prop}{ops:List Oper}
def AX(P:Program)(w0:Bs)(N0:Nat->Prop)(ops:List Oper)(Q:Exit->AS->Prop)(n:Nat)(c:Array Bool)(S:AS):Prop:=
 ∀a w,Pd (fun j=>c.getD j false=true) w0 N0 S a w->wpAny P .any ops.toArray (post w0 N0 Q) n c a w
def Abl(P:Program)(w0:Bs)(N0:Nat->Prop)(ops:List Oper)(Q:Exit->AS->Prop)(i:Nat)(o:Oper)(S:AS)(R:AS->Prop):Prop:=
 ∀(D:Nat->Prop)(a:Act)(w:World),Pd D w0 N0 S a w->¬D i->(∀j,D j->j<ops.length)->∀(K:Act->World->Prop),(∀S' c w',R S'->Pd (fun j=>D j\/j=i) w0 N0 S' c w'->K c w')->
  if Region.wanted o (yielded ops.toArray a.tmps)=true then o.wp P a w K (post w0 N0 Q)else K (a.put o.dst undef) w
theorem Air{X:List Nat}{i:Nat}{o:Oper}(h:Lv P kb w0 X ops i o S S'):Abl P w0 N0 ops Q i o S (fun T=>T=S'):=
 fun _ _ _ e f a _ d=>Aao e f a h (fun g w' c=>d S' g w' rfl c)
theorem Ais{n:Nat}{c:Array Bool}(l:List Nat)(z:(c.size==ops.length&&(Region.ready .any ops.toArray c==l&& !l.isEmpty))=true)
  (h:∀i∈l,∃o R,ops[i]? =some o/\Abl P w0 N0 ops Q i o S R/\∀S',R S'->AX P w0 N0 ops Q n (c.setIfInBounds i true) S'):AX P w0 N0 ops Q (n+1) c S:=by
 simp only [Bk,beq_iff_eq]at z;obtain⟨aa,hl,x⟩:=z;intro a w hr;refine⟨fun h0=>(by rw [hl]at h0;subst h0;simp at x),fun i s=>?_⟩;have e:=(mem_ready.1 s).1
 have g:i<c.size:=by
  rcases De i c.size with h|h
  ·exact h
  ·simp [Cu h]at e
 have r:¬(c.getD i false=true):=by
  intro h1;simp [g]at e h1;rw [e]at h1;cases h1
 have t:∀j,c.getD j false=true->j<ops.length:=fun j k=>by
  rcases De j c.size with h|h
  ·omega
  ·simp [Cu h]at k
 rw [hl]at s;obtain⟨o,R,ho,hs,d⟩:=h i s;unfold wpOp;have u:ops.toArray[i]? =some o:=by simpa using ho
 simp only [u]
 have:=hs _ a w hr r t (wpAny P .any ops.toArray (post w0 N0 Q) n (c.setIfInBounds i true)) (fun S' a' w' hR f=>by
  obtain⟨μ',f⟩:=f;refine d S' hR a' w' ⟨μ',f.more (fun j k=>?_)⟩
  rcases k with k|k
  ·by_cases m:i=j
   ·subst m;simp [g]
   ·rw [getD_set_ne false m];exact k
  ·subst k;simp [g])
 split
 ·rename_i y;rw [if_pos y]at this;exact .inl this
 ·rename_i y;rw [if_neg y]at this;exact this
theorem Acz{n:Nat}{a:Array Bool}(i:Nat){o:Oper}(e:(a.size==ops.length&&(Region.ready .any ops.toArray a== [i]&& ![i].isEmpty))=true)(c:G8 ops i=some o)(hs:Lv P 0 w0 [i] ops i o S S')
  (h:AX P w0 N0 ops Q n (a.setIfInBounds i true) S'):AX P w0 N0 ops Q (n+1) a S:=
 Ais [i] e (fun j d=>by
  simp only [Bz]at d;subst d;rw [C0]at c;exact⟨o,_,c,Air hs,fun S' f=>by subst f;exact h⟩)
theorem A3i{n:Nat}{a:Array Bool}(i:Nat){o:Oper}{R:AS->Prop}(e:(a.size==ops.length&&(Region.ready .any ops.toArray a== [i]&& ![i].isEmpty))=true)(d:G8 ops i=some o)(hs:Abl P w0 N0 ops Q i o S R)
  (h:∀S',R S'->AX P w0 N0 ops Q n (a.setIfInBounds i true) S'):AX P w0 N0 ops Q (n+1) a S:=
 Ais [i] e (fun j c=>by
  simp only [Bz]at c;subst c;rw [C0]at d;exact⟨o,_,d,hs,h⟩)
theorem Ax8{n:Nat}{a:Array Bool}(i j:Nat){o o':Oper}{f g:AS}(r:(a.size==ops.length&&(Region.ready .any ops.toArray a== [i,j]&& ![i,j].isEmpty))=true)(l:G8 ops i=some o)(c:G8 ops j=some o')
  (hs:Lv P 0 w0 [i,j] ops i o S f)(d:Lv P 0 w0 [i,j] ops j o' S g)
  (h:AX P w0 N0 ops Q n (a.setIfInBounds i true) f)(s:AX P w0 N0 ops Q n (a.setIfInBounds j true) g):AX P w0 N0 ops Q (n+1) a S:=
 Ais [i,j] r (fun k m=>by
  rw [C0]at l c;simp only [Cj,F9,or_false]at m
  rcases m with rfl|rfl
  ·exact⟨o,_,l,Air hs,fun S' e=>by subst e;exact h⟩
  ·exact⟨o',_,c,Air d,fun S' e=>by subst e;exact s⟩)
theorem Ait{X:List Nat}{i:Nat}{o:Oper}{c:Bool}{f:Operand}{a:FuncId}{fn:Func}{args:Array Operand}{e:Array TypeId}{vs:List V}{d:V}
  (l:c=true->AC P a vs (fun r=>r=d))(g:P.funcs[a]? =some fn)(t:fn.body.isSome=true)(k:(fn.name== "runtime.NumGoroutine")=false)
  (j:S.gv ops o=some c)(m:o.op=.call { callee:=.value f,args:=args,argTypes:=e})(s:S.evc c f=some (.fn a))(n:S.args c args.toList=some vs)(hp:vs.all V.pureV=true)(hs:S.putv o.dst (Fs o c d)=some S'):Lv P kb w0 X ops i o S S':=
 .inl (.inr (.inl ⟨c,f,args,e,a,fn,vs,d,j,m,s,g,t,k,n,hp,fun h=>(l h).b,hs⟩))
theorem A7n{n:Nat}{c:Array Bool}(L M:List Nat)(l:(c.size==ops.length&&(Region.ready .any ops.toArray c).isEmpty)=true)(hs:fin ops L M S=S')(h:Q .normal S'):AX P w0 N0 ops Q n c S:=by
 simp only [Bk,beq_iff_eq]at l;obtain⟨s,t⟩:=l;have g:Region.ready .any ops.toArray c= []:=by simpa using t
 subst hs;rintro a w⟨μ,f⟩
 have k:post w0 N0 Q .normal a w:=by
  refine⟨_,h,L1 (S.bump ops.length) L M _ _ _ _ ⟨μ,⟨f.defers,f.size,f.below,f.n0,fun d v o=>?_,f.objs,f.inj,f.env⟩⟩⟩
  rcases f.fresh d v o with h3|⟨j,r,e⟩
  ·exact .inl (by show v<S.nx+ops.length;omega)
  ·have u:j<c.size:=by
    rcases De j c.size with h|h
    ·exact h
    ·simp [Cu h]at r
   exact .inl (by show v<S.nx+ops.length;omega)
 cases n with
 |zero=>exact⟨g,k⟩
 |succ n=>exact⟨fun _ =>k,fun i m=>by rw [g]at m;cases m⟩
theorem Ax9{id:Nat}(e:P.follows .mixedOrders=true)(h:AX P w0 N0 ops Q ops.length (Array.replicate ops.length false) S):AW P w0 N0 (.region id ops.toArray true) Q S:=by
 rintro a w⟨μ,f⟩;refine wp_region_any e ?_;have c:ops.toArray.size=ops.length:=sm;rw [c];exact h a _ ⟨μ,f.drew.more (fun j d=>d.elim)⟩
theorem Auc{G:Gp}{i:Nat}{o:Oper}{f:Operand}{s:FuncId}{fn:Func}{args:Array Operand}{af:Array TypeId}{vs:List V}{ins:List (Nat × Ob)}{R:V->List (Nat × Ob)->Prop}
  (hG:Gon G w0)(hc:U9 G P s vs ins R)(ad:P.funcs[s]? =some fn)(hb:fn.body.isSome=true)(hn:(fn.name== "runtime.NumGoroutine")=false)
  (hg:S.gv ops o=some true)(ho:o.op=.call { callee:=.value f,args:=args,argTypes:=af})(hf:S.evc true f=some (.fn s))
  (ha:S.args true args.toList=some vs)(d:∀k q,get ins k=some q->get S.objs k=some q)
  (h:∀r c nx,R r c->S.nx+ops.length+1<=nx->(∀k,get c k=none->get ins k=none)/\∃S',({ S with objs:=c++S.objs,nx:=nx}:AS).putv o.dst (Fs o true r)=some S'):
  Abl P w0 N0 ops Q i o S (fun S'=>∃r c nx,R r c/\S.nx+ops.length+1<=nx/\({ S with objs:=c++S.objs,nx:=nx}:AS).putv o.dst (Fs o true r)=some S'):=by
 rintro D a w⟨μ,n⟩hi hD K hK;rw [K6 n hg,if_pos rfl];have e:=n.fresh_lt hD;obtain⟨h1,h2⟩:=Fx n rfl ha
 have m:=n.hand (nx:=S.nx+ops.length+1) e (vs:=vs) (xs:=args.toList.map a.eval) (ins:=ins) (by simp [h1]) d (fun j x v hx hv=>by
  simp only [Bc,A0]at hx;obtain⟨y,hy,rfl⟩:=hx;exact h2 j y v hy hv)
 have l:=hc ⟨w,Mx μ ins,μ,[]⟩ _ μ (S.nx+ops.length+1) (args.toList.map a.eval) (hG.hand n d) (by simp [h1]) rfl m
 refine Xj ho (Us n hf) ad hb hn l ?_ ?_ ?_
 ·rintro x w'⟨x',r,c,g,μ',t,hR,ab,u⟩;injection t with t;subst t;obtain⟨z,S',hs⟩:=h r c g hR ab;obtain⟨ae,aa⟩:=n.back d z u;refine hK S' _ _ ⟨r,c,g,hR,ab,hs⟩ ⟨μ',(ae.putv hs ?_).more (fun j hj=>hj.elim)⟩;unfold Fs
  split
  ·exact aa
  ·exact .whn _ _ _ (fun _ =>aa) (fun hf=>by cases hf)
 ·rintro ch w'⟨x',r,c,g,μ',t,_⟩;cases t
 ·rintro w'⟨x',r,c,g,μ',t,_⟩;cases t
end
section
variable {P:Program}{w0:Bs}{N0:Nat->Prop}{Q:Exit->AS->Prop}{S S':AS}
theorem Zh{a:Int}:∀ {es:List MapEntry},(es.map Nd).Nodup->∀e∈es,Nd e=a->Hi a es=some e.val
 | [],_,e,c,_ =>by cases c
 |x::r,f,e,c,d=>by
  rw [Ct,H7]at f;unfold Hi
  rcases Cj.1 c with rfl|c
  ·rw [if_pos d]
  ·rw [if_neg (fun h=>f.1 (by rw [h,<- d];exact Bm.2 ⟨e,c,rfl⟩))];exact Zh f.2 e c d
theorem Pk{a:Int}{v:Value}:∀ {es:List MapEntry},Hi a es=some v->∃e∈es,Nd e=a
 | [],h=>by cases h
 |x::r,h=>by
  unfold Hi at h
  split at h
  ·rename_i c;exact⟨x,Et ..,c⟩
  ·obtain⟨e,f,d⟩:=Pk h;exact⟨e,Dv _ f,d⟩
def Im(es:Array MapEntry)(a:Array Nat):List Int:=(leftOf es a).toList.map Nd
theorem Td{es:Array MapEntry}{a:Array Nat}(h:(es.toList.map Nd).Nodup):(Im es a).Nodup:=by
 unfold Im leftOf;rw [Array.toList_filter];exact h.sublist ((List.filter_sublist ..).map _)
theorem Afg{es:Array MapEntry}{a:Array Nat}(h:(leftOf es a).size=0):Im es a= []:=by
 unfold Im;rw [Array.eq_empty_of_size_eq_zero h];rfl
theorem Kq{es:Array MapEntry}{a:Array Nat}{x:MapEntry}:x∈(leftOf es a).toList↔x∈es.toList/\a.contains x.born=false:=by
 unfold leftOf;rw [Array.toList_filter,J8];simp
theorem Aru:∀ {l:List MapEntry}{x e:MapEntry},(l.map Nd).Nodup->x∈l->e∈l->Nd x=Nd e->x=e
 | [],_,_,_,c,_,_ =>by cases c
 |y::r,x,e,a,c,f,d=>by
  rw [Ct,H7]at a
  rcases Cj.1 c with h1|h1
  ·rcases Cj.1 f with h2|h2
   ·rw [h1,h2]
   ·exact(a.1 (Bm.2 ⟨e,h2,by rw [<- d,h1]⟩)).elim
  ·rcases Cj.1 f with h2|h2
   ·exact(a.1 (Bm.2 ⟨x,h1,by rw [d,h2]⟩)).elim
   ·exact Aru a.2 h1 h2 d
theorem Afh{es:Array MapEntry}{c:Array Nat}(j:(es.toList.map Nd).Nodup)(m:(es.toList.map (·.born)).Nodup){e:MapEntry}(l:e∈(leftOf es c).toList):
  ∀a,a∈Im es (c.push e.born)↔a∈Im es c/\a≠Nd e:=by
 intro a;have d:=Kq.1 l;unfold Im
 constructor
 ·intro h;obtain⟨x,f,rfl⟩:=Bm.1 h;obtain⟨h1,h2⟩:=Kq.1 f;rw [contains_push,F3]at h2;refine⟨Bm.2 ⟨x,Kq.2 ⟨h1,h2.1⟩,rfl⟩,fun k=>?_⟩;have:=Aru j h1 d.1 k;subst this;simp at h2
 ·rintro⟨h,i⟩;obtain⟨x,f,rfl⟩:=Bm.1 h;obtain⟨h1,h2⟩:=Kq.1 f;refine Bm.2 ⟨x,Kq.2 ⟨h1,?_⟩,rfl⟩;rw [contains_push,h2,Oa];have:x.born≠e.born:=fun g=>i (by rw [born_inj m h1 d.1 g])
  simpa using this
end
section
variable {P:Program}{w0:Bs}{N0:Nat->Prop}{Q:Exit->AS->Prop}{S S':AS}
theorem Alg{α:Type}{r0 r1 r2 aa ab ty d0 d1 d2 d3 d4 d5 d6 bm e0:Nat}{k:IntKind}{m:List (Int × V)}{o0 o1 o2 o3 o4 o5 o6:Oper}{x:Operand}{ad:Code}(dI:Nat)(s:α->AS)(ag:α->List Int->Prop)(x0:α)
  (g0:o0.guard=none)(p0:o0.op=.move x)(q0:o0.dst=some d0)(g1:o1.guard=none)(p1:o1.op=.range ty (.tmp d0))(q1:o1.dst=some d1)
  (g2:o2.guard=none)(p2:o2.op=.next (.tmp d1) false)(q2:o2.dst=some d2)(g3:o3.guard=none)(p3:o3.op=.extract (.tmp d2) 0)(q3:o3.dst=some d3)
  (g4:o4.guard=none)(p4:o4.op=.entry (.tmp d1))(q4:o4.dst=some d4)(g5:o5.guard=none)(p5:o5.op=.extract (.tmp d4) 0)(q5:o5.dst=some d5)(g6:o6.guard=none)(p6:o6.op=.assign (.tmp d5))(q6:o6.dst=some d6)
  (hx:S.evc true x=some (.mp bm k m))(ht:Wz P ty=some (k,e0))(hn:d0<S.nt/\d1<S.nt)(aq:∀y,d2<(s y).nt/\d3<(s y).nt/\d4<(s y).nt/\d5<(s y).nt/\d6<(s y).nt)
  (bk:d2≠d1/\d3≠d1)
  (hd:∀y,get (s y).env d1=some (.bp dI S.nx 0 0 0))(h0:∀L:List Int,L.Nodup->(∀a,a∈L↔(Gd a m).isSome=true)->ag x0 L)
  (hS:({ S with env:=(d1,.bp dI S.nx 0 0 0)::(d0,.mp bm k m)::S.env,nx:=S.nx+2}:AS).le (s x0))
  (b4:∀B N y L a v,ag y L->a∈L->AW P B N ad (Mt ab (Akx (fun T=>∃y',(∀L':List Int,L'.Nodup->(∀c,c∈L'↔c∈L/\c≠a)->ag y' L')/\T.le (s y')) (Mt aa Q)))
   { s y with env:=(d6,.int k a)::(d5,.int k a)::(d4,.tup [.int k a,v])::(d3,.bool true)::(d2,.tup [.bool true,.int k a,v])::(s y).env,nx:=(s y).nx+5})
  (cg:∀y,ag y []->Q .normal { s y with env:=(d3,.bool false)::(d2,.tup [.bool false])::(s y).env,nx:=(s y).nx+2}):
  AW P w0 N0 (.seq (.region r0 [o0,o1].toArray false) (.block aa (.loop (.seq (.region r1 [o2,o3].toArray false) (.seq (.cond (.tmp d3) .skip (.exit aa)) (.block ab (.seq (.region r2 [o4,o5,o6].toArray false) ad))))))) Q S:=by
 rintro a w⟨μ,hr⟩;obtain⟨kt,dd,ds⟩:=Ui ht
 obtain⟨es,f,g,dq,b3,b9,hs,c0,hw,hh,cf⟩:∃(es:Array MapEntry)(f:Nat)(g:Int->Value),¬Fb N0 μ S bm/\w.heap[bm]? =some (.map es f)/\(∀e∈es.toList,∃a,e.key=.int k a)/\(∀a v,Gd a m=some v->Hi a es.toList=some (g a)/\v.flat0=true)/\
   (∀a,Gd a m=none->Hi a es.toList=none)/\((es.toList.map (·.born)).Nodup/\(∀e∈es.toList,e.born<f)/\(es.toList.map Nd).Nodup)/\(∀a v,Gd a m=some v->Pur w (Fb N0 μ S) (g a) v)/\a.eval x=.map (some bm):=by
  have:=hr.evc hx rfl;generalize a.eval x=y at this;cases this with
  |pur hp=>cases hp with
   |mp _ _ _ es f g hN hb b9 hs hn hw hh=>exact⟨es,f,g,hN,hb,b9,hs,hn,hw,hh,rfl⟩
 refine wp_seq (wp_region_lit ?_);refine wpList_plain g0 fun K hK=>?_
 have cc:(execOp a.eval o0).run P w=.ok (.value (a.eval x)) w:=by unfold execOp;rw [p0];rfl
 unfold Oper.wp;rw [cc];refine hK _ _ ?_;rw [q0];have aw:=hr.put (d:=d0) hn.1 (hr.evc hx rfl)
 have he:(a.put (some d0) (a.eval x)).eval (.tmp d0)=.map (some bm):=by
  show(a.put (some d0) (a.eval x)).tmps.getD d0 undef=_
  rw [Mq a d0 _ d0 (by rw [hr.size];exact hn.1),if_pos rfl,cf]
 generalize a.put (some d0) (a.eval x)=a1 at aw he;clear hK K;refine wpList_plain g1 fun K hK=>?_
 have ca:(execOp a1.eval o1).run P w=.ok (.value (.pointer (some ⟨w.heap.size,0,none⟩))) (w.alloc (.mapIter (some bm) f #[] f)):=by
  unfold execOp;rw [p1];simp only [he,Sem.run_bind,run_range_map w ty kt e0 bm es f dd b3,Result.andThen_ok];rfl
 unfold Oper.wp;rw [ca];refine hK _ _ (wpList_nil ?_);rw [q1];obtain⟨b,cx⟩:∃b,b=w.heap.size:=⟨_,rfl⟩;rw [<- cx]
 have db:μ dI S.nx=none:=by
  cases hm:μ dI S.nx with
  |none=>rfl
  |some l=>
   rcases hr.fresh dI S.nx (by rw [hm];simp)with h|⟨j,hj,_⟩
   ·omega
   ·exact hj.elim
 obtain⟨μ1,b2⟩:∃μ1:Mu,μ1=fun d v=>if d=dI/\v=S.nx then some (some (b,0))else μ d v:=⟨_,rfl⟩
 have au:∀d v l,μ d v=some l->μ1 d v=some l:=by
  intro d v l' hl;rw [b2];simp only
  split
  ·rename_i e;rw [e.1,e.2,db]at hl;cases hl
  ·exact hl
 have cz:μ1 dI S.nx=some (some (b,0)):=by rw [b2];simp
 have a8:∀d o,get S.objs d=some o->μ1 d o.v=μ d o.v:=by
  intro d o ho;obtain⟨l',hl,_⟩:=hr.objs d o ho;rw [hl];exact au _ _ _ hl
 obtain⟨w2,Pm⟩:∃w2,w2=w.alloc (.mapIter (some bm) f #[] f):=⟨_,rfl⟩;rw [<- Pm];have be:Below w.heap.size w w2:=by rw [Pm];exact(Below.refl _ _).alloc (A9 _) _
 have ba:w2.heap[b]? =some (.mapIter (some bm) f #[] f):=by rw [Pm,cx];exact heap_alloc_new w _
 have dn:w2.heap.size=w.heap.size+1:=by rw [Pm];simp
 obtain⟨S2,ax⟩:∃S2:AS,S2= { S with env:=(d1,.bp dI S.nx 0 0 0)::(d0,.mp bm k m)::S.env,nx:=S.nx+2}:=⟨_,rfl⟩;rw [<- ax]at hS;have am:S2.objs=S.objs:=by rw [ax]
 have a9:∀x,Mx μ1 S2.objs x->Mx μ S.objs x:=by
  rintro x⟨d,o,c,h1,h2⟩;rw [am]at h1;exact⟨d,o,c,h1,by rw [<- a8 d o h1];exact h2⟩
 have bt:∀x,x<w.heap.size->Fb (fun y=>N0 y\/y=b) μ1 S2 x->Fb N0 μ { S with env:=(d0,.mp bm k m)::S.env} x:=by
  intro x c2 ho
  rcases ho with(h|h)|⟨d,o,c,h1,h2⟩
  ·exact .inl h
  ·omega
  ·obtain⟨d,o,c,h1,h2⟩:=a9 x ⟨d,o,c,h1,h2⟩;exact .inr ⟨d,o,c,h1,h2⟩
 have az:Ef w (Fb N0 μ { S with env:=(d0,.mp bm k m)::S.env}) w2:=Ef.of_below be _;have de:Anch w0 N0 μ1 S2 w2:=⟨hr.below.trans (be.mono hr.below.size),fun g ho=>hr.anch.own g (a9 g ho),hr.n0.1,fun d v l' hl=>au _ _ _ (hr.n0.2 d v l' hl)⟩
 have cy:RelM (fun _ =>False) (Ll w0 w2 μ1 S2) (fun y=>N0 y\/y=b) μ1 S2 (a1.put (some d1) (.pointer (some ⟨b,0,none⟩))) w2:=by
  refine⟨aw.defers,by rw [ax];simp [Act.put,aw.size],Bs.Below.refl _,⟨fun x hx=>⟨?_,fun ho=>?_⟩,fun _ _ _ hh=>hh⟩,fun d v hv=>?_,fun d o hd=>?_,fun d o d' o' g c c' h1 h2 h3 h4=>?_,fun t v hv=>?_⟩
  ·show x<w2.heap.size
   rcases hx with h|h
   ·have:=(hr.n0.1 x h).1;have:=hr.below.size;omega
   ·omega
  ·obtain⟨d,o,c,h1,h2⟩:=a9 x ho;have c2:=hr.block_lt h1 h2
   rcases hx with h|h
   ·rcases hr.anch.own x ⟨d,o,c,h1,h2⟩with h3|h3
    ·have:=(hr.n0.1 x h).1;omega
    ·exact(hr.n0.1 x h).2 h3
   ·omega
  ·left
   rw [ax];simp only;rw [b2]at hv;simp only at hv
   split at hv
   ·rename_i e;omega
   ·rcases hr.fresh d v hv with h|⟨j,hj,_⟩
    ·omega
    ·exact hj.elim
  ·rw [am]at hd;obtain⟨l',hl,bi⟩:=aw.objs d o hd;refine⟨l',by rw [a8 d o hd];exact hl,?_⟩;cases l' with
   |none=>exact bi
   |some gc=>
    obtain⟨h1,h3,h4,h5,co,h6,h7,h8⟩:=bi
    refine⟨.inr ⟨d,o,gc.2,by rw [am];exact hd,by rw [a8 d o hd];exact hl⟩,h3,h4,h5,co,?_,h7,fun k e j c c3 hj=>?_⟩
    ·exact(be.block _ (hr.block_lt hd hl)).trans h6
    ·obtain⟨y,hy,dj⟩:=h8 k e j c c3 hj;exact⟨y,hy,dj.keep az bt au⟩
  ·rw [am]at h1 h2;rw [a8 d o h1]at h3;rw [a8 d' o' h2]at h4;exact hr.inj d o d' o' g c c' h1 h2 h3 h4
  ·rw [ax]at hv|-;simp only at hv|-;rw [Mq a1 d1 _ t (by rw [aw.size];exact hn.2)];rw [C7]at hv
   split at hv
   ·rename_i e;injection hv with hv;subst hv;subst e;simp only [if_true];exact⟨hn.2,.bp dI S.nx 0 0 0 b 0 cz⟩
   ·rename_i e;rw [if_neg e];have:=aw.env t v hv;exact⟨this.1,by have h':=this.2.keep az bt au;rw [ax]at h';exact h'⟩
 generalize a1.put (some d1) (.pointer (some ⟨b,0,none⟩))=a2 at cy;have b0:bm<w.heap.size:=(B2.1 b3).1;have cq:w2.heap[bm]? =some (.map es f):=by rw [Pm,heap_alloc_old w _ b0];exact b3
 have bf:∀n y r a w,(leftOf es r).size=n->ag y (Im es r)->(∃μ,Anch w0 N0 μ (s y) w/\RelM (fun _ =>False) (Ll w0 w μ (s y)) (fun z=>N0 z\/z=b) μ (s y) a w/\μ dI S.nx=some (some (b,0))/\w.heap[b]? =some (.mapIter (some bm) f r f)/\w.heap[bm]? =some (.map es f))->
   (Code.loop (.seq (.region r1 [o2,o3].toArray false) (.seq (.cond (.tmp d3) .skip (.exit aa)) (.block ab (.seq (.region r2 [o4,o5,o6].toArray false) ad))))).wp P (post w0 N0 (Mt aa Q)) a w:=by
  have bj:∀y r a w,ag y (Im es r)->(∃μ,Anch w0 N0 μ (s y) w/\RelM (fun _ =>False) (Ll w0 w μ (s y)) (fun z=>N0 z\/z=b) μ (s y) a w/\μ dI S.nx=some (some (b,0))/\w.heap[b]? =some (.mapIter (some bm) f r f)/\w.heap[bm]? =some (.map es f))->
    (Code.seq (.region r1 [o2,o3].toArray false) (.seq (.cond (.tmp d3) .skip (.exit aa)) (.block ab (.seq (.region r2 [o4,o5,o6].toArray false) ad)))).wp P (fun e a' w'=>(e=.normal/\∃y' u,(leftOf es u).size<(leftOf es r).size/\ag y' (Im es u)/\(∃μ,Anch w0 N0 μ (s y') w'/\RelM (fun _ =>False) (Ll w0 w' μ (s y')) (fun z=>N0 z\/z=b) μ (s y') a' w'/\μ dI S.nx=some (some (b,0))/\w'.heap[b]? =some (.mapIter (some bm) f u f)/\w'.heap[bm]? =some (.map es f)))\/(e≠ .normal/\post w0 N0 (Mt aa Q) e a' w')) a w:=by
   rintro y r a w af⟨μ,hA,hR,hμ,ba,ar⟩;have cr:b<w.heap.size:=(B2.1 ba).1;have c8:bm≠b:=fun e=>by rw [e,ba]at ar;simp at ar
   have br:∀(S':AS)(w':World)(B:Bs)(a':Act)(N:Nat->Prop),RelM (fun _ =>False) B N μ S' a' w'->get S'.env d1=some (.bp dI S.nx 0 0 0)->a'.eval (.tmp d1)=.pointer (some ⟨b,0,none⟩):=by
    intro S' w' B a' N ah hg;have:=(ah.env d1 _ hg).2;show a'.tmps.getD d1 undef=_
    generalize a'.tmps.getD d1 undef=z at this;cases this with
    |pur hp=>cases hp
    |bp _ _ _ _ _ g dp h1=>
     rw [hμ]at h1;injection h1 with h1;injection h1 with h1;injection h1 with h1 h2;subst h1;rfl
   have cu:=br _ _ _ _ _ hR (hd y)
   have fin:∀(tv:Value)(t2:V)(g:Bool)(w1:World)(Qf:Exit->Act->World->Prop),(∀k,k≠b->w1.heap[k]? =w.heap[k]?)->w1.heap.size=w.heap.size->(w1.os=w.os/\w1.tape=w.tape/\w1.output=w.output)->
     (∀N μ',Enc w1 N μ' tv t2)->(execOp a.eval o2).run P w=.ok (.value tv) w1->(Instr.extract tv 0).run P w1=.ok (.bool g) w1->
     (∀a4,RelM (fun _ =>False) (Ll w0 w1 μ (s y)) (fun z=>N0 z\/z=b) μ { s y with env:=(d3,.bool g)::(d2,t2)::(s y).env,nx:=(s y).nx+2} a4 w1->Anch w0 N0 μ (s y) w1->
      (Code.seq (.cond (.tmp d3) .skip (.exit aa)) (.block ab (.seq (.region r2 [o4,o5,o6].toArray false) ad))).wp P Qf a4 w1)->
     (Code.seq (.region r1 [o2,o3].toArray false) (.seq (.cond (.tmp d3) .skip (.exit aa)) (.block ab (.seq (.region r2 [o4,o5,o6].toArray false) ad)))).wp P Qf a w:=by
    intro tv t2 g w1 Qf hk cj b1 c5 ct cv da;refine wp_seq (wp_region_lit (wpList_plain g2 fun K hK=>?_));unfold Oper.wp;rw [ct];refine hK _ _ (wpList_plain g3 fun K2 dk=>?_);clear hK K;rw [q2];have hT:=hR.turn (w0:=w0) (.inr rfl) hk cj;have ck:=hT.put (d:=d2) (aq y).1 (c5 _ _)
    have bu:(a.put (some d2) tv).eval (.tmp d2)=tv:=by
     show(a.put (some d2) tv).tmps.getD d2 undef=tv
     rw [Mq a d2 tv d2 (by rw [hR.size];exact(aq y).1),if_pos rfl]
    generalize a.put (some d2) tv=a3 at ck bu
    have bv:(execOp a3.eval o3).run P w1=.ok (.value (.bool g)) w1:=by
     unfold execOp;rw [p3];simp only [bu,Sem.run_bind,cv,Result.andThen_ok,Sem.run_pure]
    unfold Oper.wp;rw [bv];refine dk _ _ (wpList_nil ?_);rw [q3];have ak:=ck.put (d:=d3) (aq y).2.1 (.pur (.bool g));generalize a3.put (some d3) (.bool g)=a4 at ak
    have ai:RelM (fun _ =>False) (Ll w0 w1 μ (s y)) (fun z=>N0 z\/z=b) μ { s y with env:=(d3,.bool g)::(d2,t2)::(s y).env,nx:=(s y).nx+2} a4 w1:=
     ⟨ak.defers,ak.size,ak.below,ak.n0,fun d v hv=>by
      rcases ak.fresh d v hv with h|⟨j,hj,_⟩
      ·left;simp only at h|-;omega
      ·exact hj.elim,ak.objs,ak.inj,ak.env⟩
    refine da a4 ai ⟨⟨b1.1.trans hA.below.os,b1.2.1.trans hA.below.tape,b1.2.2.trans hA.below.output,by rw [cj];exact hA.below.size,fun k dg c4=>?_⟩,hA.own,hA.n0,hA.m⟩
    rw [hk k (fun e=>?_)]
    ·exact hA.below.block k dg c4
    ·have:=hr.below.size;omega
   rcases run_next_at (P:=P) w o2.type b bm f f r es f ba ar hw.2.1 (A9 _)with⟨hz,al⟩|⟨en,bl,w1,Dg,al⟩
   ·refine fin (.tuple #[.bool false]) (.tup [.bool false]) false w _ (fun _ _ =>rfl) rfl ⟨rfl,rfl,rfl⟩ ?_ ?_ rfl fun a4 ai ao=>?_
    ·intro N μ'
     exact .tup [.bool false] _ rfl (fun i x c h1 h2=>by
      rcases i with _ |i
      ·simp at h1 h2;subst h1;subst h2;exact .pur (.bool _)
      ·simp at h1)
    ·unfold execOp;rw [p2];simp only [cu];rw [Sem.run_bind,al];rfl
    ·have bg:a4.eval (.tmp d3)=.bool false:=by
      have:=(ai.env d3 (.bool false) (by simp)).2;show a4.tmps.getD d3 undef=_
      generalize a4.tmps.getD d3 undef=z at this;cases this with
      |pur hp=>cases hp;rfl
     refine wp_seq (wp_cond_false bg (wp_exit (.inr ⟨by simp,_,?_,μ,ao.back (fun _ h=>.inl h) ai⟩)));show(if aa=aa then Q .normal _ else Q (.exit aa) _)
     rw [if_pos rfl];rw [Afg hz]at af;exact cg y af
   ·obtain⟨wn,bh⟩:∃wn,wn=Go.ChangeMaps.setBlock w1 b (.mapIter (some bm) f (r.push en.born) f):=⟨_,rfl⟩;rw [<- bh]at al;have ce:w1.heap=w.heap:=by rcases Dg with rfl|rfl<;>rfl
    have ci:∀k,k≠b->wn.heap[k]? =w.heap[k]? :=by
     intro k hk;rw [bh];simp [Go.ChangeMaps.setBlock,ce,Y2 hk]
    have cn:wn.heap.size=w.heap.size:=by rw [bh];simp [Go.ChangeMaps.setBlock,ce]
    have cw:wn.os=w.os/\wn.tape=w.tape/\wn.output=w.output:=by rw [bh];rcases Dg with rfl|rfl<;>exact⟨rfl,rfl,rfl⟩
    have bs:wn.heap[b]? =some (.mapIter (some bm) f (r.push en.born) f):=by
     rw [bh];simp [Go.ChangeMaps.setBlock,ce,cr]
    have av:wn.heap[bm]? =some (.map es f):=by rw [ci bm c8];exact ar
    have bd:=Kq.1 bl;obtain⟨a0,bx⟩:=b9 en bd.1;have b7:Nd en=a0:=by simp [Nd,bx]
    have ay:=Zh hw.2.2 en bd.1 b7
    obtain⟨v,hv⟩:∃v,Gd a0 m=some v:=by
     cases h:Gd a0 m with
     |none=>rw [c0 a0 h]at ay;cases ay
     |some v=>exact⟨v,rfl⟩
    have dh:en.val=g a0:=by have:=(hs a0 v hv).1;rw [ay]at this;injection this
    have bn:∀(w':World)(N':Nat->Prop),Pur w' N' en.val v:=fun w' N'=>by rw [dh];exact(hh a0 v hv).of_flat0 (hs a0 v hv).2
    refine fin (.tuple #[.bool true,en.key,en.val]) (.tup [.bool true,.int k a0,v]) true wn _ ci cn cw ?_ ?_ rfl fun a4 ai ao=>?_
    ·intro N μ';rw [bx]
     exact .tup [.bool true,.int k a0,en.val] _ rfl (fun i x c h1 h2=>by
      rcases i with _ |_ |_ |i
      ·simp at h1 h2;subst h1;subst h2;exact .pur (.bool _)
      ·simp at h1 h2;subst h1;subst h2;exact .pur (.int _ _)
      ·simp at h1 h2;subst h1;subst h2;exact .pur (bn _ _)
      ·simp at h1)
    ·unfold execOp;rw [p2];simp only [cu];rw [Sem.run_bind,al];rfl
    have bg:a4.eval (.tmp d3)=.bool true:=by
     have:=(ai.env d3 (.bool true) (by simp)).2;show a4.tmps.getD d3 undef=_
     generalize a4.tmps.getD d3 undef=z at this;cases this with
     |pur hp=>cases hp;rfl
    have c1:=br _ _ _ _ _ ai (by simp only [C7,if_neg bk.2,if_neg bk.1];exact hd y);refine wp_seq (wp_cond_true bg (wp_skip ?_));show(Code.block ab (.seq (.region r2 [o4,o5,o6].toArray false) ad)).wp P _ a4 wn
    refine wp_block (wp_seq (wp_region_lit (wpList_plain g4 fun K hK=>?_)))
    have bz:(execOp a4.eval o4).run P wn=.ok (.value (.tuple #[.int k a0,en.val])) wn:=by
     unfold execOp;rw [p4];simp only [c1];have:=run_entry_at (P:=P) wn b bm f r es f en bs av bd.1 hw.1;rw [bx]at this;rw [Sem.run_bind,this];rfl
    unfold Oper.wp;rw [bz];refine hK _ _ ?_;rw [q4];clear hK K
    have bw:=ai.put (d:=d4) (aq y).2.2.1 (v:=.tup [.int k a0,v]) (x:=.tuple #[.int k a0,en.val]) (.tup [.int k a0,en.val] _ rfl (fun i x c h1 h2=>by
      rcases i with _ |_ |i
      ·simp at h1 h2;subst h1;subst h2;exact .pur (.int _ _)
      ·simp at h1 h2;subst h1;subst h2;exact .pur (bn _ _)
      ·simp at h1))
    have bq:(a4.put (some d4) (.tuple #[.int k a0,en.val])).eval (.tmp d4)=.tuple #[.int k a0,en.val]:=by
     show(a4.put (some d4) _).tmps.getD d4 undef=_
     rw [Mq a4 d4 _ d4 (by rw [ai.size];exact(aq y).2.2.1),if_pos rfl]
    generalize a4.put (some d4) (.tuple #[.int k a0,en.val])=a5 at bw bq;refine wpList_plain g5 fun K hK=>?_
    have b8:(execOp a5.eval o5).run P wn=.ok (.value (.int k a0)) wn:=by
     unfold execOp;rw [p5];simp only [bq];rfl
    unfold Oper.wp;rw [b8];refine hK _ _ ?_;rw [q5];clear hK K;have cp:=bw.put (d:=d5) (aq y).2.2.2.1 (.pur (.int k a0))
    have bo:(a5.put (some d5) (.int k a0)).eval (.tmp d5)=.int k a0:=by
     show(a5.put (some d5) _).tmps.getD d5 undef=_
     rw [Mq a5 d5 _ d5 (by rw [bw.size];exact(aq y).2.2.2.1),if_pos rfl]
    generalize a5.put (some d5) (.int k a0)=a6 at cp bo;refine wpList_plain g6 fun K hK=>?_
    have cd:(execOp a6.eval o6).run P wn=.ok (.value (.int k a0)) wn:=by
     unfold execOp;rw [p6];simp only [bo];rfl
    unfold Oper.wp;rw [cd];refine hK _ _ (wpList_nil ?_);rw [q6];clear hK K;have an:=cp.put (d:=d6) (aq y).2.2.2.2 (.pur (.int k a0));generalize a6.put (some d6) (.int k a0)=a7 at an
    have c6:RelM (fun _ =>False) (Ll w0 wn μ (s y)) (fun z=>N0 z\/z=b) μ { s y with env:=(d6,.int k a0)::(d5,.int k a0)::(d4,.tup [.int k a0,v])::(d3,.bool true)::(d2,.tup [.bool true,.int k a0,v])::(s y).env,nx:=(s y).nx+5} a7 wn:=
     ⟨an.defers,an.size,an.below,an.n0,fun d v hv=>by
      rcases an.fresh d v hv with h|⟨j,hj,_⟩
      ·left;simp only at h|-;omega
      ·exact hj.elim,an.objs,an.inj,an.env⟩
    have cl:a0∈Im es r:=Bm.2 ⟨en,bl,b7⟩
    have c7:¬Mx μ (s y).objs bm:=by
     rintro⟨d,o,c,h1,h2⟩;obtain⟨l,hl,bi⟩:=ai.objs d o h1;rw [h2]at hl;injection hl with hl;subst hl;obtain⟨_,_,_,_,co,h6,_⟩:=bi;rw [av]at h6;simp at h6
    have bc:∀S' a' w' μ',RelM (fun _ =>False) (Ll w0 wn μ (s y)) (fun z=>N0 z\/z=b) μ' S' a' w'->(∃y',(∀L':List Int,L'.Nodup->(∀c,c∈L'↔c∈Im es r/\c≠a0)->ag y' L')/\S'.le (s y'))->
      ∃y' u,(leftOf es u).size<(leftOf es r).size/\ag y' (Im es u)/\(∃μ,Anch w0 N0 μ (s y') w'/\RelM (fun _ =>False) (Ll w0 w' μ (s y')) (fun z=>N0 z\/z=b) μ (s y') a' w'/\μ dI S.nx=some (some (b,0))/\w'.heap[b]? =some (.mapIter (some bm) f u f)/\w'.heap[bm]? =some (.map es f)):=by
     rintro S' a' w' μ' ah⟨y',df,c9⟩;obtain⟨μ3,aj⟩:=c9 _ _ _ _ ⟨μ',ah⟩;have b5:=ao.back (fun _ h=>.inl h) aj
     refine⟨y',r.push en.born,left_shrinks es r en bl,df _ (Td hw.2.2) (fun c=>by rw [Afh hw.2.2 hw.1 bl c,b7]),μ3,b5.anch,aj.rebase rfl,aj.n0.2 _ _ _ hμ,?_,?_⟩
     ·rw [aj.below.block b (by show b<wn.heap.size;omega) (aj.n0.1 b (.inr rfl)).2];exact bs
     ·rw [aj.below.block bm (by show bm<wn.heap.size;exact(B2.1 av).1) c7];exact av
    refine wp_mono (b4 _ _ y _ a0 v af cl a7 wn ⟨μ,c6⟩) ?_;rintro e a' w'⟨S',hQ,⟨μ',ah⟩⟩;cases e with
    |normal=>exact .inl ⟨rfl,bc S' a' w' μ' ah hQ⟩
    |exit id=>
     simp only [Mt]at hQ;simp only [Exit.inBlock]
     split
     ·rename_i b6;rw [if_pos b6]at hQ;exact .inl ⟨trivial,bc S' a' w' μ' ah hQ⟩
     ·rename_i b6;rw [if_neg b6]at hQ;exact .inr ⟨by simp,S',hQ,μ',ao.back (fun _ h=>.inl h) ah⟩
    |goto l=>exact .inr ⟨by simp,S',hQ,μ',ao.back (fun _ h=>.inl h) ah⟩
    |ret=>exact .inr ⟨by simp,S',hQ,μ',ao.back (fun _ h=>.inl h) ah⟩
    |panic ch=>exact .inr ⟨by simp,S',hQ,μ',ao.back (fun _ h=>.inl h) ah⟩
    |outgrown=>exact .inr ⟨by simp,S',hQ,μ',ao.back (fun _ h=>.inl h) ah⟩
  have bf:∀n y r a w,(leftOf es r).size=n->ag y (Im es r)->(∃μ,Anch w0 N0 μ (s y) w/\RelM (fun _ =>False) (Ll w0 w μ (s y)) (fun z=>N0 z\/z=b) μ (s y) a w/\μ dI S.nx=some (some (b,0))/\w.heap[b]? =some (.mapIter (some bm) f r f)/\w.heap[bm]? =some (.map es f))->
    ∀bb k cs,∃e a' w',post w0 N0 (Mt aa Q) e a' w'/\Arrives P (lone (bb.at a (.code (.seq (.region r1 [o2,o3].toArray false) (.seq (.cond (.tmp d3) .skip (.exit aa)) (.block ab (.seq (.region r2 [o4,o5,o6].toArray false) ad)))):: .inLoop (.seq (.region r1 [o2,o3].toArray false) (.seq (.cond (.tmp d3) .skip (.exit aa)) (.block ab (.seq (.region r2 [o4,o5,o6].toArray false) ad))))::k)) cs w) bb k cs e a' w':=by
   intro n
   induction n using Nat.strongRecOn with
   |_ n ih=>
    intro y r a w cm af hJ bb k cs;obtain⟨e,a1,w1,hq,ae⟩:=bj y r a w af hJ bb (.inLoop _ ::k) cs
    rcases hq with⟨rfl,y',u,h1,h3,h4⟩|⟨bk,hq⟩
    ·obtain⟨e2,a2,w2,dl,cb⟩:=ih (leftOf es u).size om y' u a1 w1 rfl h3 h4 bb k cs;exact⟨e2,a2,w2,dl,.of_steps (Steps.trans ae (.one step_inLoop)) cb⟩
    ·cases e with
     |normal=>exact absurd rfl bk
     |exit id=>exact⟨_,a1,w1,hq,.pass (x:=.inLoop _) rfl (fun _ _ =>.inl sm) ae⟩
     |goto l=>exact⟨_,a1,w1,hq,.pass (x:=.inLoop _) rfl (fun _ _ =>.inl sm) ae⟩
     |ret=>exact⟨_,a1,w1,hq,.pass (x:=.inLoop _) rfl (fun _ _ =>.inl sm) ae⟩
     |panic ch=>exact⟨_,a1,w1,hq,.pass (x:=.inLoop _) rfl (fun _ _ =>.inl sm) ae⟩
     |outgrown=>exact⟨_,a1,w1,hq,.pass (x:=.inLoop _) rfl (fun _ _ =>.inl sm) ae⟩
  intro n y r a w cm af hJ bb k cs;obtain⟨e,a',w',hq,ae⟩:=bf n y r a w cm af hJ bb k cs;exact⟨e,a',w',hq,.of_steps (.one step_loop) ae⟩
 have dm:∃μ,Anch w0 N0 μ (s x0) w2/\RelM (fun _ =>False) (Ll w0 w2 μ (s x0)) (fun z=>N0 z\/z=b) μ (s x0) a2 w2/\μ dI S.nx=some (some (b,0))/\w2.heap[b]? =some (.mapIter (some bm) f #[] f)/\w2.heap[bm]? =some (.map es f):=by
  obtain⟨μ3,aj⟩:=hS _ _ _ _ ⟨μ1,cy⟩;have b5:=de.back (fun _ h=>.inl h) aj;exact⟨μ3,b5.anch,aj.rebase rfl,aj.n0.2 _ _ _ cz,ba,cq⟩
 have di:ag x0 (Im es #[]):=by
  refine h0 _ (Td hw.2.2) fun a=>?_
  constructor
  ·intro h;obtain⟨e,he,hk⟩:=Bm.1 h;have ay:=Zh hw.2.2 e (Kq.1 he).1 hk;cases hc:Gd a m with
   |none=>rw [c0 a hc]at ay;cases ay
   |some v=>rfl
  ·intro h;obtain⟨v,hv⟩:=Cm.1 h;obtain⟨e,he,hk⟩:=Pk (hs a v hv).1;exact Bm.2 ⟨e,Kq.2 ⟨he,by simp⟩,hk⟩
 refine wp_block (wp_mono (bf _ x0 #[] a2 w2 rfl di dm) ?_);rintro e a' w'⟨S',hQ,hR⟩;cases e with
 |exit dr=>
  simp only [Mt]at hQ;simp only [Exit.inBlock]
  split
  ·rename_i he;rw [if_pos he]at hQ;exact⟨S',hQ,hR⟩
  ·rename_i he;rw [if_neg he]at hQ;exact⟨S',hQ,hR⟩
 |_ =>exact⟨S',hQ,hR⟩
end
section
variable {P:Program}{w0:Bs}{N0:Nat->Prop}{Q:Exit->AS->Prop}{S S':AS}
theorem RelM.mapSet{D:Nat->Prop}{μ:Mu}{a:Act}{w w':World}{b:Nat}{k:IntKind}{m':List (Int × V)}{x:Value}(r:RelM D w0 N0 μ S a w)(ar:w0.free b)(aw:∀t v,get S.env t=some v->v.okM=true)(d:MapTurn w w' b)(aq:x=.map (some b))
  (aa:∀N',¬N' b->Pur w' N' x (.mp b k m'))(an:¬Fb N0 μ S b)(az:w'.os=w.os)(a1:w'.tape=w.tape)(au:w'.output=w.output):RelM D w0 N0 μ { S with env:=Ql (V.mset b k m') S.env} a w':=by
 refine⟨r.defers,r.size,⟨az.trans r.below.os,a1.trans r.below.tape,au.trans r.below.output,by rw [d.size];exact r.below.size,fun j hj hx=>(d.other j (fun e=>by subst e;rcases ar with h|h;omega;exact hx h)).trans (r.below.block j hj hx)⟩,r.n0,r.fresh,fun d1 o1 h1=>?_,r.inj,fun t1 v1 h1=>?_⟩
 ·obtain⟨l,o,z⟩:=r.objs d1 o1 h1;refine⟨l,o,?_⟩;cases l with
  |none=>exact z
  |some gc=>
   obtain⟨b1,b2,b3,b4,av,b5,b6,b7⟩:=z
   have a3:gc.1≠b:=by
    rintro rfl;obtain⟨a4,c1,al⟩:=d.was;rw [b5]at al;cases al
   refine⟨b1,b2,b3,b4,av,(d.other _ a3).trans b5,b6,fun k e j c he hj=>?_⟩;obtain⟨y,hy,a0⟩:=b7 k e j c he hj;exact⟨y,hy,a0.mapTurn d (J9 ((b4 e (Ay he)).2 c (Ay hj)))⟩
 ·simp only [Q2,A0]at h1;obtain⟨v0,h1,rfl⟩:=h1;obtain⟨h2,m⟩:=r.env t1 v0 h1;refine⟨h2,?_⟩;have g:v0.okM=true:=aw t1 v0 h1;generalize a.tmps.getD t1 undef=tv at m;cases v0 with
  |mp b' k' m'=>
   simp only [V.mset];cases m with
   |pur m=>
    cases m with
    |mp _ _ _ ag ab g2 af ae ah s ai Pm aj=>
     by_cases f:b'=b
     ·subst f;simp only [if_true];rw [<- aq];exact .pur (aa _ an)
     ·simp only [f,if_false];exact .pur (.mp b' k' m' ag ab g2 af ((d.other _ f).trans ae) ah s ai Pm (fun c v hc=>(aj c v hc).of_flat0 (s c v hc).2))
  |rm b' k' m'=>
   simp only [V.mset];cases m with
   |pur m=>
    cases m with
    |rm ad _ _ _ ak am a2 h4=>
    obtain⟨ao,_⟩:=d.cell a2;cases h4 with
    |mp _ _ _ ag ab g2 af ae ah s ai Pm aj=>
     by_cases f:b'=b
     ·subst f;simp only [if_true];refine .pur (.rm ad b' k _ (by rw [d.size];exact ak) am ao ?_);have h5:=aa _ an;rw [aq]at h5;exact h5
     ·simp only [f,if_false];exact .pur (.rm ad b' k' m' (by rw [d.size];exact ak) am ao (.mp b' k' m' ag ab g2 af ((d.other _ f).trans ae) ah s ai Pm (fun c v hc=>(aj c v hc).of_flat0 (s c v hc).2)))
  |tup vs=>
   simp only [V.mset]
   have u:∀xs:List Value,xs.length=vs.length->(∀(i:Nat)x c,xs[i]? =some x->vs[i]? =some c->Enc w (Fb N0 μ S) μ x c)->Enc w' (Fb N0 μ S) μ (.tuple xs.toArray) (.tup vs):=fun xs o n=>
    .tup xs vs o (fun i x c h1 h2=>(n i x c h1 h2).mapTurn d (Aw.1 g c (Ay h2)))
   cases m with
   |pur m=>cases m with
    |tup xs _ o n=>exact u xs o (fun i x c a b=>.pur (n i x c a b))
   |tup xs _ o n=>exact u xs o n
  |whn c0 v1=>
   simp only [V.mset];cases m with
   |pur m=>cases m
   |whn _ _ _ n ay=>
    refine .whn _ _ _ (fun ax=>?_) ay;have h4:=n ax;cases v1 with
    |tup vs=>
     have u:∀xs:List Value,xs.length=vs.length->(∀(i:Nat)x c,xs[i]? =some x->vs[i]? =some c->Enc w (Fb N0 μ S) μ x c)->Enc w' (Fb N0 μ S) μ (.tuple xs.toArray) (.tup vs):=fun xs o n=>
      .tup xs vs o (fun i x c h1 h2=>(n i x c h1 h2).mapTurn d (Aw.1 g c (Ay h2)))
     cases h4 with
     |pur h4=>cases h4 with
      |tup xs _ o n=>exact u xs o (fun i x c a b=>.pur (n i x c a b))
     |tup xs _ o n=>exact u xs o n
    |_ =>exact h4.mapTurn d (by first|rfl|exact g)
  |_ =>exact m.mapTurn d (by first|rfl|exact g)
def Vw(a:Int)(m:List (Int × V)):List (Int × V):=m.filter fun p=>decide (p.1≠a)
theorem Pl(a c:Int):∀(m:List (Int × V)),Gd c (Vw a m)=if c=a then none else Gd c m
 | []=>by simp [Vw,Gd]
 |(x,v)::r=>by
  have ih:=Pl a c r;unfold Vw at ih|-;rw [List.filter_cons]
  by_cases f:x=a
  ·simp only [f,ne_eq,not_true_eq_false,decide_false,Fh,if_false];rw [ih]
   by_cases e:c=a
   ·rw [if_pos e,if_pos e]
   ·rw [if_neg e,if_neg e,Gd,if_neg (fun h=>e h.symm)]
  ·simp only [ne_eq,f,not_false_eq_true,decide_true,if_true];rw [Gd,Gd,ih]
   by_cases d:x=c
   ·rw [if_pos d,if_pos d,if_neg (fun h=>f (by rw [d,h]))]
   ·rw [if_neg d,if_neg d]
theorem Aas{a c:Int}:∀ {es:List MapEntry}{n:Nat}{p:Nat × Value},(es.map Nd).Nodup->Jy a es n=some p->Hi c (es.eraseIdx (p.1-n))=if c=a then none else Hi c es
 | [],n,p,_,h=>by simp [Jy]at h
 |e::r,n,p,g,h=>by
  rw [Ct,H7]at g;unfold Jy at h
  split at h
  ·rename_i f;injection h with h;subst h;simp only [Fv,List.eraseIdx_cons_zero]
   by_cases d:c=a
   ·rw [if_pos d];cases hf:Hi c r with
    |none=>rfl
    |some v=>
     obtain⟨e',i,j⟩:=Pk hf;exact absurd (Bm.2 ⟨e',i,by rw [j,d,f]⟩) g.1
   ·rw [if_neg d,Hi,if_neg (by rw [f];exact fun h=>d h.symm)]
  ·rename_i f;have k:=(Me h).2.1;have ih:=Aas (c:=c) g.2 h;rw [show p.1-n=(p.1-(n+1))+1 by omega];simp only [List.eraseIdx_cons_succ,Hi];rw [ih]
   by_cases d:c=a
   ·rw [if_pos d,if_pos d,if_neg (by rw [d];exact f)]
   ·rw [if_neg d,if_neg d]
theorem Afi{w:World}{N:Nat->Prop}{μ:Mu}{t e b kt' ty:Nat}{k:IntKind}{m:List (Int × V)}{a:Int}{x y:Value}(hx:Enc w N μ x (.mp b k m))(hy:Enc w N μ y (.int k a))(ht:Wz P t=some (k,e)):
  ∃w',(Builtin.delete_ #[t,kt'] ty #[x,y]).run P w=.ok (.tuple #[]) w'/\MapTurn w w' b/\x=.map (some b)/\(∀N',¬N' b->Pur w' N' x (.mp b k (Vw a m)))/\w'.os=w.os/\w'.tape=w.tape/\w'.output=w.output:=by
 obtain⟨kt,aa,hk⟩:=Ui ht;cases hy with
 |pur hy=>
 cases hy with
 |int=>
 cases hx with
 |pur hx=>
 cases hx with
 |mp _ _ _ es f g hN z ad hs hn hw hh=>
 have r:=P7 (q:=k) (a:=a) es.toList 0 ad
 have turn:∀i d,MapTurn w { w with heap:=w.heap.setIfInBounds b (.map i d)} b:=fun i d=>
  ⟨⟨es,f,z⟩,by simp,fun j hj=>by simp [J7];intro h;exact absurd h.symm hj⟩
 have ae:∀i d,({ w with heap:=w.heap.setIfInBounds b (.map i d)}:World).heap[b]? =some (.map i d):=fun i d=>by
  have s:=(B2.1 z).1;simp [s]
 have pur:∀(i:Array MapEntry)N',¬N' b->(i.toList.Sublist es.toList)->(∀c,Hi c i.toList=if c=a then none else Hi c es.toList)->
   Pur { w with heap:=w.heap.setIfInBounds b (.map i f)} N' (.map (some b)) (.mp b k (Vw a m)):=by
  intro i N' o n ab
  refine .mp b k _ i f g o (ae i f) (fun e he=>ad e (n.subset he)) (fun c v l=>?_) (fun c l=>?_) ⟨hw.1.sublist (n.map _),fun e he=>hw.2.1 e (n.subset he),hw.2.2.sublist (n.map _)⟩ fun c v l=>?_
  ·rw [Pl]at l;rw [ab]
   split at l
   ·cases l
   ·rename_i e;rw [if_neg e];exact hs c v l
  ·rw [Pl]at l;rw [ab]
   split at l
   ·rename_i e;rw [if_pos e]
   ·rename_i e;rw [if_neg e];exact hn c l
  ·rw [Pl]at l
   split at l
   ·cases l
   ·exact(hh c v l).of_flat0 (hs c v l).2
 cases hp:Jy a es.toList 0 with
 |none=>
  rw [hp]at r;have u:=MapKept.run_findKey (w:=w) hk r;have hA:=P8.1 hp
  refine⟨_,?_,turn es f,rfl,fun N' o=>pur es N' o (List.Sublist.refl _) (fun c=>?_),rfl,rfl,rfl⟩
  ·simp only [Builtin.delete_,Sem.run_bind,Iv,Da,Fy,run_underlying aa,Result.andThen_ok,MapKept.run_getObj_map z,MapKept.run_checkKey hk (k:=.int k a) (by simp [MapKept.IsKey]),u,MapKept.run_setObj_map _ z];rfl
  ·by_cases l:c=a
   ·rw [if_pos l,l];exact hA
   ·rw [if_neg l]
 |some p=>
  rw [hp]at r;have u:=MapKept.run_findKey (w:=w) hk r;obtain⟨hA,_,e0,af,ah,ag⟩:=Me hp
  have s:p.1<es.size:=by
   have:=(Ap.1 af).1;simpa using this
  refine⟨_,?_,turn (es.eraseIdxIfInBounds p.1) f,rfl,fun N' o=>pur _ N' o ?_ (fun c=>?_),rfl,rfl,rfl⟩
  ·simp only [Builtin.delete_,Sem.run_bind,Iv,Da,Fy,run_underlying aa,Result.andThen_ok,MapKept.run_getObj_map z,MapKept.run_checkKey hk (k:=.int k a) (by simp [MapKept.IsKey]),u,MapKept.run_setObj_map _ z];rfl
  ·have:(es.eraseIdxIfInBounds p.1).toList=es.toList.eraseIdx p.1:=by simp [Array.eraseIdxIfInBounds,s]
   rw [this];exact List.eraseIdx_sublist ..
  ·have:(es.eraseIdxIfInBounds p.1).toList=es.toList.eraseIdx p.1:=by simp [Array.eraseIdxIfInBounds,s]
   rw [this];have:=Aas (c:=c) hw.2.2 hp;simpa using this
theorem Afj{ops:List Oper}{i:Nat}{o:Oper}{c:List Oper}{S':AS}{t e kt':TypeId}{m x:Operand}{b:Nat}{k:IntKind}{es:List (Int × V)}{a:Int}(hb:w0.free b)(hg:o.guard=none)(hd:o.dst=none)
  (ho:o.op=.call { callee:=.builtin .delete,args:= #[m,x],argTypes:= #[t,kt']})
  (hm:S.evc true m=some (.mp b k es))(hx:S.evc true x=some (.int k a))(ht:Wz P t=some (k,e))(y:Aih S.env=true)(hS:({ S with env:=Ql (V.mset b k (Vw a es)) S.env}:AS)=S')
  (h:Jj P w0 N0 ops Q (i+1) c S'):Jj P w0 N0 ops Q i (o::c) S:=by
 subst hS;rintro D aa w hD⟨μ,r⟩;refine wpList_plain hg fun K hK=>?_
 obtain⟨w',f,d,n,g,z,ab,u⟩:=Afi (P:=P) (kt':=kt') (ty:=o.type) (r.evc hm rfl) (r.evc hx rfl) ht
 have ad:¬Fb N0 μ S b:=by
  have:=r.evc hm rfl;rw [n]at this;cases this with
  |pur hp=>cases hp with
   |mp _ _ _ _ _ _ hN=>exact hN
 unfold Oper.wp
 have s:(execOp aa.eval o).run P w=.ok (.value (.tuple #[])) w':=by
  unfold execOp;rw [ho];simp [resolve,invoke,builtin,f,Result.andThen]
 rw [s];refine hK _ _ ?_;have l:aa.put o.dst (.tuple #[])=aa:=by rw [hd];rfl
 rw [l];exact h D _ _ (fun j hj=>Eh (hD j hj)) ⟨μ,r.mapSet hb (Ak9 y) d n g ad z ab u⟩
end
attribute [simp] Vw
section
variable {P:Program}{w0:Bs}{N0:Nat->Prop}{Q:Exit->AS->Prop}{S S':AS}
theorem Aph{ops:List Oper}{i:Nat}{o1 u:Oper}{n:List Oper}{t:TypeId}{d f b:Nat}{k:IntKind}{m:List (Int × V)}(g1:o1.guard=none)(p1:o1.op=.alloc t)(q1:o1.dst=some d)(g2:u.guard=none)(p2:u.op=.store t (.tmp d) (.tmp f))(q2:u.dst=none)
  (hz:(P.info? t).bind (·.zero)=some (.map none))(hn:Ie P t=some 1)(hv:S.evc true (.tmp f)=some (.mp b k m))(an:f≠d)(hs:S.putv (some d) (.rm b k m)=some S')
  (h:Jj P w0 N0 ops Q (i+2) n S'):Jj P w0 N0 ops Q i (o1::u::n) S:=by
 rintro D a w hD⟨μ,hr⟩;refine wpList_plain g1 fun K hK=>?_
 obtain⟨ar,aa,aq⟩:=B7.1 hz;have ai:(zeroValue t).run P w=.ok (.map none) w:=by simp [zeroValue,typeInfo,aa,aq]
 have s:(execOp a.eval o1).run P w=.ok (.value (.pointer (some ⟨w.heap.size,0,none⟩))) (w.alloc (.cells #[.map none] t)):=by
  unfold execOp;rw [p1];simp only [Sem.run_bind,Instr.alloc,ai,Result.andThen_ok,newVar,newRow,run_newObj,World.alloc_eq,Sem.run_pure];rfl
 unfold Oper.wp;rw [s];refine hK _ _ (wpList_plain g2 fun K2 al=>?_);clear hK K;rw [q1];have l:d<S.nt:=(J0 hs).2 d rfl
 have ab:a.eval (.tmp f)=.map (some b):=by
  have:=hr.evc hv rfl;generalize a.eval (.tmp f)=y at this;cases this with
  |pur hp=>cases hp;rfl
 obtain⟨o,g⟩:∃o,o=a.put (some d) (.pointer (some ⟨w.heap.size,0,none⟩)):=⟨_,rfl⟩;rw [<- g]
 have am:o.eval (.tmp d)=.pointer (some ⟨w.heap.size,0,none⟩):=by
  rw [g];show(a.put (some d) _).tmps.getD d undef=_
  rw [Mq a d _ d (by rw [hr.size];exact l),if_pos rfl]
 have aj:o.eval (.tmp f)=.map (some b):=by
  rw [g,<- ab];show(a.put (some d) _).tmps.getD f undef=a.tmps.getD f undef
  rw [Mq a d _ f (by rw [hr.size];exact l),if_neg (fun e=>an e.symm)]
 obtain⟨c,Dg⟩:∃c,c=w.alloc (.cells #[.map none] t):=⟨_,rfl⟩;rw [<- Dg];have af:c.heap[w.heap.size]? =some (.cells #[.map none] t (0,0)):=by rw [Dg];exact heap_alloc_new w _
 have ad:=run_storeCells_at (P:=P) w.heap.size 0 t (Value.map (some b)).cells.toList 0 #[.map none] c af (by simp [Value.cells]) (by simp [Value.cells,Value.oneCell']);have ao:(Value.map (some b)).cells.size=1:=rfl;have ak:(Value.map (some b)).cells.toList= [Value.map (some b)]:=rfl
 have r:(execOp o.eval u).run P c=.ok .skip (c.setRow w.heap.size #[.map (some b)]):=by
  unfold execOp;rw [p2];simp only [am,aj,Instr.storeAt,Instr.sureAddr,Sem.run_bind,Sem.run_pure,Result.andThen_ok,storeVar,Ms hn,ao,ne_eq,not_true_eq_false,if_false,Dy]at ad|-;rw [ad];rfl
 unfold Oper.wp;rw [r];refine al _ _ ?_;have ag:o.put u.dst undef=o:=by rw [q2];rfl
 rw [ag]
 have ah:Below w.heap.size w (c.setRow w.heap.size #[.map (some b)]):=by
  have h0:Below w.heap.size w c:=by rw [Dg];exact(Below.refl _ _).alloc (A9 _) _
  exact⟨h0.os,h0.tape,h0.output,by simpa using h0.size,fun j hj=>(setRow_other c w.heap.size j _ om).trans (h0.block j hj)⟩
 have z:=hr.later ah;have ae:=z.evc hv rfl;rw [ab]at ae;have hR:=z.putv hs (x:=.pointer (some ⟨w.heap.size,0,none⟩)) (.pur (.rm ⟨w.heap.size,0,none⟩ b k m (by show w.heap.size<_;simp [World.setRow,Dg]) (fun hn=>by have:=hr.own_lt _ hn;simp only at this;omega) (by rw [cell_of_row _ w.heap.size 0 #[.map (some b)] t (0,0) (setRow_heap c w.heap.size _ _ t (0,0) af)];rfl) (by cases ae with|pur hp=>exact hp)));rw [<- g]at hR;exact h D _ _ (fun j hj=>by have:=hD j hj;omega) ⟨μ,hR⟩
theorem Aiu{ops:List Oper}{i:Nat}{o:Oper}{c:List Oper}{t:TypeId}(k:IntKind)(u:o.guard=none)(ho:o.op=.makeMap t none)
  (h:∀b,w0.free b->(∀d b' s r,get S.env d=some (.mp b' s r)\/get S.env d=some (.rm b' s r)->b'≠b)->∃S',S.putv o.dst (.mp b k [])=some S'/\Jj P w0 N0 ops Q (i+1) c S'):Jj P w0 N0 ops Q i (o::c) S:=by
 rintro D a w hD⟨μ,l⟩;refine wpList_plain u fun K z=>?_
 obtain⟨S',hs,e⟩:=h w.heap.size (.inl l.below.size) (fun d b' s r f=>by
  have ab:b'<w.heap.size:=by
   rcases f with f|f
   ·have:=(l.env d _ f).2;generalize a.tmps.getD d undef=y at this;cases this with
    |pur hp=>cases hp with
     |mp _ _ _ es cl g hN n=>exact(B2.1 n).1
   ·have:=(l.env d _ f).2;generalize a.tmps.getD d undef=y at this;cases this with
    |pur hp=>cases hp with
     |rm ad _ _ _ x aa ae h4=>cases h4 with
      |mp _ _ _ es cl g hN n=>exact(B2.1 n).1
  omega)
 have n:Below w.heap.size w (w.alloc (.map #[] 0)):=(Below.refl _ _).alloc (A9 _) _;unfold Oper.wp
 have m:(execOp a.eval o).run P w=.ok (.value (.map (some w.heap.size))) (w.alloc (.map #[] 0)):=by
  unfold execOp;rw [ho];rfl
 rw [m];refine z _ _ (e D _ _ (fun j hj=>Eh (hD j hj)) ⟨μ,(l.later n).putv hs (.pur ?_)⟩);exact .mp _ k [] #[] 0 (fun _ =>undef) (fun hn=>by have:=l.own_lt _ hn;omega) (heap_alloc_new w _) sm (by simp [Gd]) (by simp [Hi]) sm (by simp [Gd])
end
end Go.Eng
namespace Go.Eng
theorem gt{p:Prop}(h:p:=by simp [Eng.get]):p:=h
section
variable {P:Program}{w0:Bs}{N0:Nat->Prop}{Q:Exit->AS->Prop}{S:AS}{f:FuncId}{fn:Func}{c:Code}{args:List V}
theorem Ax{R:V->Prop}(d:P.funcs[f]? =some fn)(h:∀w0 N0,AW P w0 N0 c (Att P fn R) ⟨P4 0 args,[],0,fn.ntmps⟩)(e:fn.body=some c:=by exact rfl)(a:Nat.ble args.length fn.ntmps=true:=by exact rfl):AC P f args R:=Ak0 d e (Iw a) h
theorem Kr{sz:Nat}{ty:TypeId}{R:(Nat->Nat->V)->List V->Prop}(d:P.funcs[f]? =some fn)(h:∀w0 N0,AW P w0 N0 c (Axx P fn sz ty R) ⟨P4 0 args,[],0,fn.ntmps⟩)(e:fn.body=some c:=by exact rfl)(a:Nat.ble args.length fn.ntmps=true:=by exact rfl):ACO P f args sz ty R:=Aty d e (Iw a) h
theorem By{G:Gp}{R:V->Prop}(d:P.funcs[f]? =some fn)(h:∀w0 N0,Gon G w0->AW P w0 N0 c (Att P fn R) ⟨P4 0 args,[],0,fn.ntmps⟩)(e:fn.body=some c:=by exact rfl)(a:Nat.ble args.length fn.ntmps=true:=by exact rfl):Hp G P f args R:=Ags d e (Iw a) h
theorem Gs{ins:List (Nat × Ob)}{R:V->List (Nat × Ob)->Prop}{E:List PanicEntry->Prop}(d:P.funcs[f]? =some fn)(h:∀w0 N0 nx,AW P w0 N0 c (Acy P fn R E nx) ⟨P4 0 args,ins,nx,fn.ntmps⟩)(e:fn.body=some c:=by exact rfl)(a:Nat.ble args.length fn.ntmps=true:=by exact rfl):ACS P f args ins R E:=At1 d e (Iw a) h
theorem Hr{G:Gp}{ins:List (Nat × Ob)}{R:V->List (Nat × Ob)->Prop}(d:P.funcs[f]? =some fn)(h:∀w0 N0 nx,Gon G w0->AW P w0 N0 c (Acy P fn R (fun _ =>False) nx) ⟨P4 0 args,ins,nx,fn.ntmps⟩)(e:fn.body=some c:=by exact rfl)(a:Nat.ble args.length fn.ntmps=true:=by exact rfl):U9 G P f args ins R:=Apd d e (Iw a) h
end
section
variable {P:Program}{w0:Bs}{N0:Nat->Prop}{Q:Exit->AS->Prop}{S:AS}{G:Gp}
theorem Ah{ops:List Oper}{i:Nat}{o:Oper}{a:List Oper}{f:Operand}{c:FuncId}{fn:Func}{args:Array Operand}{e:Array TypeId}{vs:List V}{d:V}{S':AS}
  (l:AC P c vs (fun r=>r=d))(g:P.funcs[c]? =some fn)(h:Jj P w0 N0 ops Q (i+1) a S')(t:fn.body.isSome=true:=by exact rfl)(k:(fn.name== "runtime.NumGoroutine")=false:=by kernel_rfl)
  (j:o.guard=none:=by exact rfl)(m:o.op=.call { callee:=.value f,args:=args,argTypes:=e}:=by exact rfl)(s:S.evc true f=some (.fn c):=by exact rfl)
  (n:S.args true args.toList=some vs:=by simp<;>rfl)(hp:vs.all V.pureV=true:=by simp)(hs:S.putv o.dst d=some S':=by simp<;>rfl):Jj P w0 N0 ops Q i (o::a) S:=
 Mg l g t k j m s n hp hs h
theorem Bq{ops:List Oper}{i:Nat}{o:Oper}{a:List Oper}{f:Operand}{c:FuncId}{fn:Func}{args:Array Operand}{e:Array TypeId}{vs:List V}{d:V}{S':AS}
  (t:Gon G w0)(m:Hp G P c vs (fun r=>r=d))(g:P.funcs[c]? =some fn)(h:Jj P w0 N0 ops Q (i+1) a S')(w:fn.body.isSome=true:=by exact rfl)(l:(fn.name== "runtime.NumGoroutine")=false:=by kernel_rfl)
  (j:i<ops.length:=by simp)(k:S.gv ops o=some true:=by exact rfl)(n:o.op=.call { callee:=.value f,args:=args,argTypes:=e}:=by exact rfl)(u:S.evc true f=some (.fn c):=by exact rfl)
  (s:S.args true args.toList=some vs:=by simp<;>rfl)(hp:vs.all V.pureV=true:=by simp)(hs:S.putv o.dst (Fs o true d)=some S':=by simp<;>rfl):Jj P w0 N0 ops Q i (o::a) S:=
 Gt t m g w l j k n u s hp hs h
theorem Bbz{id:Nat}{l:List Oper}{o:Oper}{a:List Oper}{f:Operand}{c:FuncId}{fn:Func}{args:Array Operand}{g:Array TypeId}{vs:List V}{e:V}{d j S':AS}(n:Nat)
  (s:AC P c vs (fun r=>r=e))(i:P.funcs[c]? =some fn)(L M:List Nat)(h:Q .normal S')
  (h1:V9 P l 0 (l.take n) S=some d:=by simp<;>rfl)(w:l.drop n=o::a:=by exact rfl)(y:fn.body.isSome=true:=by exact rfl)(m:(fn.name== "runtime.NumGoroutine")=false:=by kernel_rfl)
  (k:o.guard=none:=by exact rfl)(t:o.op=.call { callee:=.value f,args:=args,argTypes:=g}:=by exact rfl)(x:d.evc true f=some (.fn c):=by exact rfl)
  (u:d.args true args.toList=some vs:=by simp<;>rfl)(hp:vs.all V.pureV=true:=by simp)(h2:d.putv o.dst e=some j:=by simp<;>rfl)
  (hs:(match V9 P l (0+(l.take n).length+1) a j with|some d=>some ((d.bump (0+(l.take n).length+1+a.length)).keep L M)|none=>none)=some S':=by simp<;>rfl):AW P w0 N0 (.region id l.toArray false) Q S:=
 Ad (Am n h1 (by rw [w];exact Mg s i y m k t x u hp h2 (Af L M hs h)))
theorem Bbo{id:Nat}{l:List Oper}{o:Oper}{a:List Oper}{f:Operand}{d:FuncId}{fn:Func}{args:Array Operand}{g:Array TypeId}{vs:List V}{e:V}{c k S':AS}(n:Nat)
  (x:Gon G w0)(t:Hp G P d vs (fun r=>r=e))(i:P.funcs[d]? =some fn)(L M:List Nat)(h:Q .normal S')
  (h1:V9 P l 0 (l.take n) S=some c:=by simp<;>rfl)(y:l.drop n=o::a:=by exact rfl)(hb:fn.body.isSome=true:=by exact rfl)(s:(fn.name== "runtime.NumGoroutine")=false:=by kernel_rfl)
  (j:0+(l.take n).length<l.length:=by simp)(m:c.gv l o=some true:=by exact rfl)(u:o.op=.call { callee:=.value f,args:=args,argTypes:=g}:=by exact rfl)(z:c.evc true f=some (.fn d):=by exact rfl)
  (w:c.args true args.toList=some vs:=by simp<;>rfl)(hp:vs.all V.pureV=true:=by simp)(h2:c.putv o.dst (Fs o true e)=some k:=by simp<;>rfl)
  (hs:(match V9 P l (0+(l.take n).length+1) a k with|some c=>some ((c.bump (0+(l.take n).length+1+a.length)).keep L M)|none=>none)=some S':=by simp<;>rfl):AW P w0 N0 (.region id l.toArray false) Q S:=
 Ad (Am n h1 (by rw [y];exact Gt x t i hb s j m u z w hp h2 (Af L M hs h)))
theorem Ao{c:Operand}{x y:Code}{t:Bool}(e:t=true->AW P w0 N0 x Q S)(d:t=false->AW P w0 N0 y Q S)(a:S.evc true c=some (.bool t):=by exact rfl):AW P w0 N0 (.cond c x y) Q S:=A7 a e d
end
end Go.Eng
set_option linter.unusedSimpArgs false
namespace Go.Eng
open Go.RowKit
section
variable {P:Program}{kb:Nat}{w0:Bs}{N0:Nat->Prop}{Q:Exit->AS->Prop}{S S':AS}{G:Gp}
theorem RelM.backD{D:Nat->Prop}{μ μ':Mu}{a:Act}{w w':World}(h:RelM D w0 N0 μ S a w){ins f:List (Nat × Ob)}{ad:Nat}{r:V}{x:Value}(y:∀k o,get ins k=some o->get S.objs k=some o)
  (hr:RelM (fun _ =>False) ⟨w,Mx μ ins,μ,[]⟩ (fun b=>Fb N0 μ S b/\¬Mx μ ins b) μ' ⟨[(0,r)],f,ad,1⟩ ⟨#[x],[]⟩ w'):
  RelM (fun _ =>False) w0 N0 μ' { S with objs:=f++Jn (ins.map (·.1)) S.objs,nx:=ad} a w'/\Enc w' (Fb N0 μ' { S with objs:=f++Jn (ins.map (·.1)) S.objs,nx:=ad}) μ' x r:=by
 have hμ:∀d v l,μ d v=some l->μ' d v=some l:=hr.n0.2
 have z:∀d o,get (f++Jn (ins.map (·.1)) S.objs) d=some o->get f d=some o\/(get f d=none/\get S.objs d=some o/\get ins d=none):=by
  intro d o hd;rw [Ain]at hd;cases ho:get f d with
  |none=>
   rw [ho]at hd;obtain⟨e1,e2⟩:=Q4 hd;refine .inr ⟨rfl,e1,?_⟩;cases hi:get ins d with
   |none=>rfl
   |some q=>exact absurd (Aio hi) e2
  |some q=>rw [ho]at hd;exact .inl hd
 have aa:∀d o g c,get S.objs d=some o->get ins d=none->μ d o.v=some (some (g,c))->¬Mx μ ins g:=by
  rintro d o g c h1 h2 h3⟨d',o',c',u,h5⟩;have:=h.inj d o d' o' g c c' h1 (y _ _ u) h3 h5;subst this;rw [h2]at u;cases u
 have ae:Ef w (Fb N0 μ S) w':=⟨hr.below.size,fun b hb hn=>hr.below.block b hb (fun⟨d,o,c,h1,h2⟩=>hn (.inr ⟨d,o,c,y _ _ h1,h2⟩))⟩
 have ab:∀g,(⟨w,Mx μ ins,μ,[]⟩:Bs).free g->w0.free g:=by
  rintro g(hg|⟨d,o,c,h1,h2⟩)
  ·exact .inl (Ai h.below.size hg)
  ·obtain⟨l,m,s⟩:=h.objs d o (y _ _ h1);rw [h2]at m;injection m with m;subst m;exact s.1
 have n:∀d o g c,get f d=some o->μ' d o.v=some (some (g,c))->(⟨w,Mx μ ins,μ,[]⟩:Bs).free g:=by
  intro d o g c h1 h2;obtain⟨l,m,s⟩:=hr.objs d o h1;rw [h2]at m;injection m with m;subst m;exact s.1
 have i:∀d o,get S.objs d=some o->∀l,μ' d o.v=some l->μ d o.v=some l:=by
  intro d o h1 l h2;obtain⟨l',aj,_⟩:=h.objs d o h1;have:=hμ _ _ _ aj;rw [h2]at this;injection this with this;rw [aj,this]
 have ah:∀b,b<w.heap.size->Fb N0 μ' { S with objs:=f++Jn (ins.map (·.1)) S.objs,nx:=ad} b->Fb N0 μ S b:=by
  rintro b hb(h0|⟨d,o,c,h1,h2⟩)
  ·exact .inl h0
  ·rcases z d o h1 with h3|⟨_,u,_⟩
   ·rcases n d o b c h3 h2 with h5|⟨d',o',c',h6,h7⟩
    ·exact absurd hb (Sa.2 h5)
    ·exact .inr ⟨d',o',c',y _ _ h6,h7⟩
   ·exact .inr ⟨d,o,c,u,i d o u _ h2⟩
 have ag:∀b,b<w'.heap.size->Fb N0 μ' { S with objs:=f++Jn (ins.map (·.1)) S.objs,nx:=ad} b->Fb (fun b=>Fb N0 μ S b/\¬Mx μ ins b) μ' ⟨[(0,r)],f,ad,1⟩ b:=by
  rintro b hb(h0|⟨d,o,c,h1,h2⟩)
  ·by_cases hB:Mx μ ins b
   ·obtain⟨d,o,c,h1,h2⟩:=hB;obtain⟨l,m,s⟩:=h.objs d o (y _ _ h1);rw [h2]at m;injection m with m;subst m;exact absurd s.1 (fun hf=>hf.elim (fun h=>by have:=(‹RelM D w0 N0 μ S a w›.n0.1 b h0).1;omega) (‹RelM D w0 N0 μ S a w›.n0.1 b h0).2)
   ·exact .inl ⟨.inl h0,hB⟩
  ·rcases z d o h1 with h3|⟨h3,u,ai⟩
   ·exact .inr ⟨d,o,c,h3,h2⟩
   ·have h5:=i d o u _ h2;exact .inl ⟨.inr ⟨d,o,c,u,h5⟩,aa d o b c u ai h5⟩
 refine⟨⟨h.defers,h.size,?_,⟨h.n0.1,fun d v l m=>hμ _ _ _ (h.n0.2 d v l m)⟩,fun d v hv=>?_,fun d o hd=>?_,fun d o d' o' g c c' h1 h2 h3 u=>?_,fun t v hv=>⟨(h.env t v hv).1,(h.env t v hv).2.keep ae ah hμ⟩⟩,?_⟩
 ·refine⟨hr.below.os.trans h.below.os,hr.below.tape.trans h.below.tape,hr.below.output.trans h.below.output,Ai h.below.size hr.below.size,fun k hk hX=>?_⟩;refine(hr.below.block k (B6 hk h.below.size) (fun hB=>?_)).trans (h.below.block k hk hX)
  rcases ab k (.inr hB)with h1|h1
  ·omega
  ·exact hX h1
 ·rcases hr.fresh d v hv with h1|⟨j,hj,_⟩
  ·exact .inl h1
  ·exact hj.elim
 ·rcases z d o hd with h1|⟨h1,h2,ai⟩
  ·obtain⟨l,m,s⟩:=hr.objs d o h1;refine⟨l,m,?_⟩;have:=s.keep (Ef.refl w' _) ag (fun _ _ _ hh=>hh) (fun _ _ _ =>rfl);cases l with
   |none=>exact this
   |some gc=>exact⟨ab _ this.1,this.2⟩
  ·obtain⟨l,m,s⟩:=h.objs d o h2;refine⟨l,hμ _ _ _ m,s.keep ae ah hμ (fun g c e=>?_)⟩;subst e;exact hr.below.block g (h.block_lt h2 m) (aa d o g c h2 ai m)
 ·have af:∀d o d' o' g c c',get f d=some o->μ' d o.v=some (some (g,c))->get ins d'=none->get S.objs d'=some o'->μ' d' o'.v=some (some (g,c'))->False:=by
   intro d o d' o' g c c' h1 h2 h3 u h5;have h6:=i d' o' u _ h5
   rcases n d o g c h1 h2 with h7|h7
   ·exact absurd (h.block_lt u h6) (Sa.2 h7)
   ·exact aa d' o' g c' u h3 h6 h7
  rcases z d o h1 with a1|⟨_,a2,a1⟩<;>rcases z d' o' h2 with b1|⟨_,b2,b1⟩
  ·exact hr.inj d o d' o' g c c' a1 b1 h3 u
  ·exact(af d o d' o' g c c' a1 h3 b1 b2 u).elim
  ·exact(af d' o' d o g c' c b1 u a1 a2 h3).elim
  ·exact h.inj d o d' o' g c c' a2 b2 (i d o a2 _ h3) (i d' o' b2 _ u)
 ·have:=(hr.env 0 r (by simp [get])).2;simp only [Dm]at this;exact Enc.keep (Ef.refl w' _) ag (fun _ _ _ hh=>hh) (by simpa using this)
theorem Nq{ops:List Oper}{i:Nat}{o:Oper}{g:List Oper}{f:Operand}{u:FuncId}{fn:Func}{args:Array Operand}{ag:Array TypeId}{vs:List V}{ins:List (Nat × Ob)}{R:V->List (Nat × Ob)->Prop}
  (hG:Gon G w0)(hc:U9 G P u vs ins R)(ad:P.funcs[u]? =some fn)(hb:fn.body.isSome=true)(hn:(fn.name== "runtime.NumGoroutine")=false)
  (hg:S.gv ops o=some true)(ho:o.op=.call { callee:=.value f,args:=args,argTypes:=ag})(hf:S.evc true f=some (.fn u))
  (ha:S.args true args.toList=some vs)(d:∀k q,get ins k=some q->get S.objs k=some q)
  (h:∀r c nx,R r c->S.nx+i+1<=nx->∃S',({ S with objs:=c++Jn (ins.map (·.1)) S.objs,nx:=nx}:AS).putv o.dst (Fs o true r)=some S'/\Jj P w0 N0 ops Q (i+1) g S'):Jj P w0 N0 ops Q i (o::g) S:=by
 rintro D a w hD⟨μ,s⟩;refine wpList_step fun K hK=>?_
 rw [K6 s hg,if_pos rfl];have e:=s.fresh_lt hD;obtain⟨h1,h2⟩:=Fx s rfl ha
 have m:=s.hand (nx:=S.nx+i+1) e (vs:=vs) (xs:=args.toList.map a.eval) (ins:=ins) (by simp [h1]) d (fun j x v hx hv=>by
  simp only [Bc,A0]at hx;obtain⟨y,hy,rfl⟩:=hx;exact h2 j y v hy hv)
 have l:=hc ⟨w,Mx μ ins,μ,[]⟩ _ μ (S.nx+i+1) (args.toList.map a.eval) (hG.hand s d) (by simp [h1]) rfl m
 refine Xj ho (Us s hf) ad hb hn l ?_ ?_ ?_
 ·rintro x w'⟨x',r,c,t,μ',z,hR,af,aa⟩;injection z with z;subst z;obtain⟨S',hs,n⟩:=h r c t hR af;obtain⟨ae,ab⟩:=s.backD d aa;refine hK _ _ (n (fun _ =>False) _ w' (fun j hj=>hj.elim) ⟨μ',ae.putv hs ?_⟩);unfold Fs
  split
  ·exact ab
  ·exact .whn _ _ _ (fun _ =>ab) (fun hf=>by cases hf)
 ·rintro ch w'⟨x',r,c,t,μ',z,_⟩;cases z
 ·rintro w'⟨x',r,c,t,μ',z,_⟩;cases z
end
end Go.Eng
