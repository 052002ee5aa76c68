/- Resuming, part 2. No condition. -/
import Derived.Test.YtnoignhlamifmaaGreatDoorE1
import Derived.SizedLaws
import Derived.Recover
import Derived.Laws.IdiomCopy
import Derived.Maps.RangeRun
set_option maxHeartbeats 8000000
set_option linter.all false
set_option maxRecDepth 10000
namespace Go.Eng
open Go.RowKit
variable {α β:Type}{D N' N0:Nat->Prop}{P:Program}{Q:Exit->AS->Prop}{S S' S1:AS}{a:Act}{d:Nat}{w:World}{w0:Bs}{x:Value}{μ:Mu}
def V.frzC(d v sz:Nat)(es:List V):V->V
 |.sl f v' c len=>if f=d/\v'=v/\c=sz/\es.length=len then .ro sz es else .sl f v' c len
 |.ss f v' c off len=>if f=d/\v'=v/\c=sz/\off+len<=es.length then .ro sz ((es.drop off).take len)else .ss f v' c off len
 |.bp f v' c k off=>if f=d/\v'=v/\c=sz/\off=0 then(match Gz es k with|some e=>.rp e|none=>.bp f v' c k off)else .bp f v' c k off
 |u=>u
def V.frz(d v sz:Nat)(es:List V):V->V
 |.agg cs=>.agg (cs.map (V.frzC d v sz es))
 |u=>u.frzC d v sz es
def Wh(d:Nat):List (Nat×α)->List (Nat×α)
 |[]=>[]
 |(k,x)::r=>if k=d then Wh d r else(k,x)::Wh d r
def Z7(d t:Nat):∀(l:List (Nat×α))(x:α),get (Wh d l) t=some x->t≠d/\get l t=some x
 |[],x,h=>by simp[Wh,get]at h
 |(k,y)::r,x,h=>by
  unfold Wh at h
  split at h
  .rename_i e;have⟨h1,h2⟩:=Z7 d t r x h;refine⟨h1,?_⟩;rw[Dh,I oM];exact h2
  .rename_i e;rw[Dh]at h|-
   split at h
   .rename_i c;exact⟨by omega,by rw[Ab c];exact h⟩
   .rename_i c;have⟨h1,h2⟩:=Z7 d t r x h;exact⟨h1,by rw[I c];exact h2⟩
def Ahg(f:α->β)(t:Nat):∀(l:List (Nat×α))(y:β),get (Tj f l) t=some y->∃x,get l t=some x/\f x=y
 |[],y,h=>by simp[Tj,get]at h
 |(k,x)::r,y,h=>by
  unfold Tj at h;rw[Dh]at h;rw[Dh]
  split at h
  .rename_i e;rw[Ab e];injection h with h;exact⟨x,rfl,h⟩
  .rename_i e;rw[I e];exact Ahg f t r y h
def AS.freeze(S:AS)(d:Nat):Option AS:=
 match get S.objs d with
 |some o=>if o.es.all V.pureE=true then some {S with env:=Tj (V.frz d o.v o.sz o.es) S.env,objs:=Tj (λq=>{q with es:=q.es.map (V.frz d o.v o.sz o.es)}) (Wh d S.objs)}else none
 |none=>none
def AS.freezeK(S:AS)(d:Nat)(L M:List Nat):Option AS:=
 match S.freeze d with
 |some S'=>some (S'.keep L M)
 |none=>none
attribute [simp] V.frzC V.frz Wh Tj AS.freeze AS.freezeK
section
def RelM.frzC(h:RelM D w0 N0 μ S a w){o:Ob}(ho:get S.objs d=some o)(hp:o.es.all V.pureE=true)(z:∀b,b<w.heap.size->N' b->Fp N0 μ S b)
  (hd:∀g c,μ d o.v=some (some (g,c))->¬N' g){v:V}(n:Enc w (Fp N0 μ S) μ x v):Enc w N' μ x (v.frzC d o.v o.sz o.es):=by
 have f:=n.keep (Ex.refl _ _) z (λ_ _ _ hh=>hh)
 have ak:∀(v:V)(es:List V),Enc w (Fp N0 μ S) μ x v->S.elems v=some (o.sz,es)->es.all V.pureE=true->(∃off len,v=.ss d o.v o.sz off len\/v=.sl d o.v o.sz len)->Enc w N' μ x (.ro o.sz es):=by
  intro v es n m hp u;refine .pur ?_;obtain⟨A,c,rfl,am,af⟩:=h.elems n m
  by_cases ae:es=[]
  .subst ae
   have hc:c<=maxLen:=by
    obtain⟨off,len,rfl|rfl⟩:=u
    .cases n with
     |pur n=>cases n
     |ss _ _ _ _ _ g c' aa A' h1 h2 h3=>exact h2
    .cases n with
     |pur n=>cases n
     |slr _ _ _ _ g aa h1 h2 h3=>exact h3
     |slv=>simp[maxLen]
   exact .ro A ⟨0,0,none⟩ 0 c _ [] (λ_ _=>undef) rfl am hc (λh0=>absurd h0 sm) sm sm sm
  .obtain⟨hf,ad,vs,rfl,ay,av,ab⟩:=af ae
   have s:ad.block<w.heap.size/\¬N' ad.block/\c<=maxLen:=by
    have r:=Ey.2 ae
    obtain⟨off,len,rfl|rfl⟩:=u
    .simp only[AS.elems,ho]at m;split at m
     case isFalse=>cases m
     rename_i hb;have⟨_,_,ao⟩:=hb;simp only[Am,Bw,true_and]at m;subst m;have ar:((o.es.drop off).take len).length=len:=by simp;omega
     rw[ar]at r n;cases n with
     |pur n=>cases n
     |ss _ _ _ _ _ g c' aa A' h1 h2 h3=>
      have⟨hm,hA⟩:=h3 r;cases hA;exact⟨h.block_lt ho hm,hd _ _ hm,h2⟩
    .simp only[AS.elems,ho]at m;split at m
     case isFalse=>cases m
     rename_i hb;have⟨_,_,ao⟩:=hb;simp only[Am,Bw,true_and]at m;subst m;rw[ao]at r n;cases n with
     |pur n=>cases n
     |slr _ _ _ _ g aa hm h2 h3=>exact⟨h.block_lt ho hm,hd _ _ hm,h3⟩
     |slv=>exact absurd r sm
   have al:∀(k:Nat)e(j:Nat)c,es[k]?=some e->e.cells[j]?=some c->∃y,vs[k*o.sz+j]?=some y/\Enc w (Fp N0 μ S) μ y c:=by
    intro k e j c hk t;have aj:=Qa hf hk t;have an:k*o.sz+j<vs.length:=by rw[ab.1];exact(Al.1 aj).1
    exact⟨_,Ah an,ab.2 _ _ c (Ah an) aj⟩
   refine .ro _ ad es.length c o.sz es (λk j=>(vs[k*o.sz+j]?).getD undef) rfl am s.2.2 (λ_=>⟨rfl,s.1,s.2.1⟩) hf (λk e j c hk t=>?_) λk e j c hk t=>?_
   .have⟨y,hy,_⟩:=al k e j c hk t;simp only[hy,Fv];exact av _ _ hy
   .have⟨y,hy,ah⟩:=al k e j c hk t;simp only[hy,Fv];exact(ah.pureC (Ao.1 (Ao.1 hp e (Ar hk)) c (Ar t))).keep (Ex.refl _ _) z
 unfold V.frzC
 split
 .split
  .rename_i d' v' aq len hc;obtain⟨rfl,rfl,rfl,hl⟩:=hc;exact ak _ o.es n Gi hp ⟨0,len,.inr rfl⟩
  .exact f
 .split
  .rename_i d' v' aq off len hc;obtain⟨rfl,rfl,rfl,hl⟩:=hc;refine ak _ _ n Gi ?_ ⟨off,len,.inl rfl⟩;rw[Ao]at hp|-;exact λe he=>hp e (Df (Da he))
  .exact f
 .split
  .rename_i d' v' aq k off hc;obtain⟨rfl,rfl,rfl,rfl⟩:=hc
   split
   .rename_i e he;rw[C0]at he;cases n with
    |pur n=>cases n
    |bp _ _ _ _ _ g aa hm=>
     have⟨l,hl,ax⟩:=h.objs d' o ho;rw[hm]at hl;cases hl;have⟨b1,b2,b3,b4,ai,b5,b6,b7⟩:=ax;have au:=Ao.1 hp e (Ar he)
     have ag:∀j,w.cell? ((⟨g,k*o.sz+0,none⟩:Addr).add j)=ai[k*o.sz+j]? :=by
      intro j;rw[Addr.add_lit,Eb];simp[World.cell?,b5]
     refine .pur (.rp ⟨g,k*o.sz+0,none⟩ o.sz e (λj=>(ai[k*o.sz+j]?).getD undef) (h.block_lt ho hm) (hd _ _ hm) (b4 e (Ar he)) (λj c t=>?_) (λj c t=>?_))
     .have⟨y,hy,_⟩:=b7 k e j c he t;rw[ag,hy];rfl
     .have⟨y,hy,ah⟩:=b7 k e j c he t;simp only[hy,Fv];exact(ah.pureC (Ao.1 au c (Ar t))).keep (Ex.refl _ _) z
   .exact f
  .exact f
 .exact f
def Als(d v sz:Nat)(es:List V){c:V}(h:c.isCell=true):(c.frzC d v sz es).isCell=true:=by
 unfold V.frzC
 split
 .split<;>first|rfl|exact h
 .split<;>first|rfl|exact h
 .split
  .split<;>rfl
  .exact h
 .exact h
def Adt(d v sz:Nat)(es:List V)(e:V):(e.frz d v sz es).cells=e.cells.map (V.frzC d v sz es):=by
 cases e with
 |agg cs=>rfl
 |sl g v' c len=>simp only[V.frz,V.frzC,V.cells,Br,Ci];by_cases f:g=d/\v'=v/\c=sz/\es.length=len<;>simp[f]
 |ss g v' c off len=>simp only[V.frz,V.frzC,V.cells,Br,Ci];by_cases f:g=d/\v'=v/\c=sz/\off+len<=es.length<;>simp[f]
 |bp g v' c k off=>
  simp only[V.frz,V.frzC,V.cells,Br,Ci]
  by_cases f:g=d/\v'=v/\c=sz/\off=0
  .simp only[Ab f];cases Gz es k<;>rfl
  .simp only[I f]
 |_=>rfl
def RelM.frz(h:RelM D w0 N0 μ S a w){o:Ob}(u:get S.objs d=some o)(hp:o.es.all V.pureE=true)(f:∀b,b<w.heap.size->N' b->Fp N0 μ S b)
  (y:∀g c,μ d o.v=some (some (g,c))->¬N' g){v:V}(r:Enc w (Fp N0 μ S) μ x v):Enc w N' μ x (v.frz d o.v o.sz o.es):=by
 cases v with
 |agg cs=>
  have l:∀xs:List Value,xs.length=cs.length->(∀c∈cs,c.isCell=true)->(∀(i:Nat)x c,xs[i]?=some x->cs[i]?=some c->Enc w (Fp N0 μ S) μ x c)->Enc w N' μ (.agg xs.toArray) (.agg (cs.map (V.frzC d o.v o.sz o.es))):=by
   intro xs n m k
   refine .agg xs _ Gi (λc e=>?_) λi x c t e=>?_
   .simp only[Bc]at e;obtain⟨s,j,rfl⟩:=e;exact Als _ _ _ _ (m s j)
   .simp only[Bj,Ay]at e;obtain⟨s,j,rfl⟩:=e;exact h.frzC u hp f y (k i x s t j)
  cases r with
  |pur r=>cases r with
   |agg xs _ n m k=>exact l xs n m (λi x c a b=>.pur (k i x c a b))
  |agg xs _ n m k=>exact l xs n m k
 |_=>exact h.frzC u hp f y r
def Adu(hs:S.freeze d=some S'):S.le S':=by
 rintro w0 N0 a w⟨μ,h⟩;unfold AS.freeze at hs;split at hs
 case h_2=>cases hs
 rename_i o ho;split at hs
 case isFalse=>cases hs
 rename_i hp;cases hs;generalize s:({S with env:=Tj (V.frz d o.v o.sz o.es) S.env,objs:=Tj (λq=>{q with es:=q.es.map (V.frz d o.v o.sz o.es)}) (Wh d S.objs)}:AS)=S'
 have y:∀f r,get S'.objs f=some r->f≠d/\∃q,get S.objs f=some q/\r= {q with es:=q.es.map (V.frz d o.v o.sz o.es)}:=by
  subst s;intro f r h1;have⟨q,h2,n⟩:=Ahg _ _ _ _ h1;have⟨h4,h5⟩:=Z7 _ _ _ _ h2;exact⟨h4,q,h5,n.symm⟩
 have z:∀b,b<w.heap.size->Fp N0 μ S' b->Fp N0 μ S b:=by
  rintro b hb(h0|⟨f,r,c,h1,h2⟩)
  .exact .inl h0
  .obtain⟨_,q,n,rfl⟩:=y f r h1;exact .inr ⟨f,q,c,n,h2⟩
 have hd:∀g c,μ d o.v=some (some (g,c))->¬Fp N0 μ S' g:=by
  rintro g c hm(h0|⟨f,r,c1,h1,h2⟩)
  .have:=h.n0.1 g h0;have⟨l,hl,m⟩:=h.objs d o ho;rw[hm]at hl;cases hl;exact m.1.elim (λh=>by have:=this.1;omega) this.2
  .obtain⟨af,q,n,rfl⟩:=y f r h1;exact af (h.inj _ _ _ _ _ _ _ n ho h2 hm)
 refine⟨μ,h.defers,by subst s;exact h.size,h.below,h.n0,by subst s;exact h.fresh,λf r h1=>?_,λf r d2 o2 g c c' h1 h2 n h4=>?_,λt v hv=>?_⟩
 .obtain⟨_,q,n,rfl⟩:=y f r h1;have⟨l,hl,m⟩:=h.objs f q n;refine⟨l,hl,?_⟩;cases l with
  |none=>
   have:=m;show q.es.map _ =[]
   rw[this];rfl
  |some gc=>
   have⟨b1,b2,b3,b4,ae,b5,b6,b7⟩:=m
   refine⟨b1,by simpa using b2,b3,λe he=>?_,ae,b5,b6,λk e j c he hj=>?_⟩
   .simp only[Bc]at he;obtain⟨e0,aa,rfl⟩:=he;have hf:=b4 e0 aa;refine⟨by rw[Adt,Db];exact hf.1,λc hc=>?_⟩;rw[Adt]at hc;simp only[Bc]at hc;obtain⟨c0,ab,rfl⟩:=hc;exact Als _ _ _ _ (hf.2 c0 ab)
   .simp only[Bj,Ay]at he;obtain⟨e0,aa,rfl⟩:=he;rw[Adt,Bj,Ay]at hj;obtain⟨c0,ab,rfl⟩:=hj;have⟨x,hx,ad⟩:=b7 k e0 j c0 aa ab;exact⟨x,hx,h.frzC ho hp z hd ad⟩
 .obtain⟨_,q1,h5,rfl⟩:=y f r h1;obtain⟨_,q2,h6,rfl⟩:=y d2 o2 h2;exact h.inj _ _ _ _ _ _ _ h5 h6 n h4
 .have ag:get (Tj (V.frz d o.v o.sz o.es) S.env) t=some v:=by subst s;exact hv
  obtain⟨u,h1,rfl⟩:=Ahg _ _ _ _ ag;have⟨h2,n⟩:=h.env t u h1;exact⟨by subst s;exact h2,h.frz ho hp z hd n⟩
def Bq{c:Code}(d:Nat)(L M:List Nat)(e:S.freezeK d L M=some S')(h:AW P w0 N0 c Q S'):AW P w0 N0 c Q S:=by
 unfold AS.freezeK at e;split at e
 case h_2=>cases e
 rename_i S1 h1;injection e with e;exact T1 (Adu h1) (Ax4 L M e h)
def Avd(d:Nat)(L M:List Nat)(c:S.freezeK d L M=some S1)(g:S1.env=S'.env)(e:S1.objs=S'.objs)(f:S'.nt=S1.nt)(h:S1.nx<=S'.nx):S.le S':=by
 unfold AS.freezeK at c;split at c
 case h_2=>cases c
 rename_i S2 h1;cases c;exact AS.le_trans (Adu h1) (AS.le_trans (Me _ L M) (Wg g e f h))
end
variable {i:Nat}{l ops:List Oper}{o:Oper}
section
def A45{c:List Oper}(d:S.gv ops o=some false)(hs:S.putv o.dst (.whn false (.bool true))=some S')(h:Jb P w0 N0 ops Q (i+1) c S'):Jb P w0 N0 ops Q i (o::c) S:=by
 rintro D a w r⟨μ,f⟩;refine wpList_step λK m=>?_
 have l:Region.wanted o (yielded ops.toArray a.tmps)=false:=by
  unfold AS.gv at d
  split at d
  .cases d
  .rename_i j g e;exact X7 f e d
 rw[l,I (by simp)];exact m _ _ (h D _ w (λj n=>Fx (r j n)) ⟨μ,f.putv hs (.whn _ _ _ (λk=>by cases k) (λ_=>rfl))⟩)
def Yd(ops:List Oper):List Oper->AS->Option AS
 |[],S=>some S
 |o::r,S=>match S.gv ops o with
  |some false=>(match S.putv o.dst (.whn false (.bool true))with
   |some S'=>Yd ops r S'
   |none=>none)
  |_=>none
attribute [simp] Yd
def Alt:∀ {c l2:List Oper}{i:Nat}{S S1:AS},Yd ops c S=some S1->Jb P w0 N0 ops Q (i+c.length) l2 S1->Jb P w0 N0 ops Q i (c++l2) S
 |[],l2,i,S,S1,hs,h=>by
  simp only[Yd,Am]at hs;subst hs;exact h
 |o::r,l2,i,S,S1,hs,h=>by
  simp only[Yd]at hs;split at hs
  case h_2=>cases hs
  rename_i d;split at hs
  case h_2=>cases hs
  rename_i S' hp;refine A45 d hp (Alt hs ?_);rw[show i+1+r.length=i+(o::r).length by simp;omega];exact h
def Kq(n:Nat)(hs:Yd ops (l.take n) S=some S1)(h:Jb P w0 N0 ops Q (i+(l.take n).length) (l.drop n) S1):Jb P w0 N0 ops Q i l S:=by
 have:=Alt (Q:=Q) (P:=P) (w0:=w0) (N0:=N0) hs h
 rwa[Ga]at this
end
def Ye{x y:Code}(f:α->AS)(I:α->Prop)(h1:AW P w0 N0 x (Ph (λT=>∃a,I a/\T.le (f a)) Q) S)(h2:∀a,I a->AW P w0 N0 y Q (f a)):AW P w0 N0 (.seq x y) Q S:=
 J (h1.mono λe T d=>by
  cases e with
  |normal=>
   have⟨a,g,c⟩:=d;exact T1 c (h2 a g)
  |_=>exact d)
variable {ks:List Nat}{t:TypeId}{u:V}
attribute [simp] Hj Of V.mset Aob V.okM V.okM1 V.flat0 Tj
section
def Sz{c:List Oper}(k:IntKind)(hg:o.guard=none)(u:o.op=.makeMap t none)
  (h:∀b,w0.free b->(∀f b' r n,get S.env f=some (.mp b' r n)->b'≠b)->∃S',S.putv o.dst (.mp b k [])=some S'/\Jb P w0 N0 ops Q (i+1) c S'):Jb P w0 N0 ops Q i (o::c) S:=by
 rintro D a w s⟨μ,l⟩;refine wpList_plain hg λK z=>?_
 have⟨S',hs,d⟩:=h w.heap.size (.inl l.below.size) (λf b' r n hm=>by
  have:=(l.env f _ hm).2;generalize a.tmps.getD f undef=y at this;cases this with
  |pur hp=>cases hp with
   |mp _ _ _ es cl g hN m=>have:=(B3.1 m).1;omega)
 have m:Below w.heap.size w (w.alloc (.map #[] 0)):=(Below.refl _ _).alloc (A2 _) _;unfold Oper.wp
 have e:(execOp a.eval o).run P w=.ok (.value (.map (some w.heap.size))) (w.alloc (.map #[] 0)):=by
  unfold execOp;rw[u];rfl
 rw[e];refine z _ _ (d D _ _ (λj hj=>Fx (s j hj)) ⟨μ,(l.later m).putv hs (.pur ?_)⟩);exact .mp _ k [] #[] 0 (λ_=>undef) (λx=>by have:=l.own_lt _ x;omega) (heap_alloc_new w _) sm Gi (by simp[H3]) sm Gi
def Aq7:∀ {l:List (Nat×V)},Aob l=true->∀t v,get l t=some v->v.okM=true:=λh t v=>Aq0 h t v
def Aya{e:TypeId}{m x v:Operand}{b:Nat}{k:IntKind}{es:List (Int×V)}{a:Int}(w:w0.free b)(r:o.guard=none)(s:o.dst=none)(f:o.op=.mapUpdate t m x v)
  (n:S.evc true m=some (.mp b k es))(h:S.evc true x=some (.int k a))(j:S.evc true v=some u)(d:u.flat0=true)(l:Aa6 P t=some (k,e))(c:Aob S.env=true)(g:({S with env:=Tj (V.mset b k ((a,u)::es)) S.env}:AS)=S'):Abl P 0 w0 ops i o S S':=
 .inr (.inr ⟨t,m,x,v,b,k,es,a,u,e,r,s,f,n,h,j,d,l,w,Aq7 c,g.symm⟩)
def Tk{c:List Oper}{e:TypeId}{m x v:Operand}{b:Nat}{k:IntKind}{es:List (Int×V)}{a:Int}(z:w0.free b)(w:o.guard=none)(y:o.dst=none)(g:o.op=.mapUpdate t m x v)
  (s:S.evc true m=some (.mp b k es))(l:S.evc true x=some (.int k a))(n:S.evc true v=some u)(f:u.flat0=true)(r:Aa6 P t=some (k,e))(d:Aob S.env=true)(j:({S with env:=Tj (V.mset b k ((a,u)::es)) S.env}:AS)=S')
  (h:Jb P w0 N0 ops Q (i+1) c S'):Jb P w0 N0 ops Q i (o::c) S:=Aod (Aya z w y g s l n f r d j) h
def Zh{l:List (Nat×List Nat)}{e:TypeId}{m x v:Operand}{b:Nat}{k:IntKind}{es:List (Int×V)}{a:Int}(hb:w0.free b)(hi:ops[i]?=some o)(f:(ks.all λd=>(get S.objs (0+d)).isNone)=true)(z:o.guard=none)(hd:o.dst=none)(j:o.op=.mapUpdate t m x v)
  (y:S.evc true m=some (.mp b k es))(r:S.evc true x=some (.int k a))(s:S.evc true v=some u)(g:u.flat0=true)(w:Aa6 P t=some (k,e))(c:Aob S.env=true)(n:({S with env:=Tj (V.mset b k ((a,u)::es)) S.env}:AS)=S')
  (h:AWO P 0 w0 ops Q l S'):AWO P 0 w0 ops Q ((i,ks)::l) S:=⟨o,S',hi,f,Aya hb z hd j y r s g w c n,h⟩
end
variable {F:Nat->Nat->V}{K:AS->Prop}{Q':Exit->Act->World->Prop}{T:AS}{X done:List Nat}{args:Array Operand}{es us vs:List V}{f:Operand}{fn:Func}{g:V}{kb:Nat}{ty:TypeId}
section
def lst(ops:List Oper):List Nat->Array Bool
 |[]=>Array.replicate ops.length false
 |i::l=>(lst ops l).setIfInBounds i true
def AT(P:Program)(kb:Nat)(w0:Bs)(X:List Nat)(ops:List Oper)(Q:Exit->AS->Prop)(done:List Nat)(S:AS):Prop:=
 Abp P kb w0 X ops Q (KQ ops Q) (ops.length-done.length) (lst ops done) S
def Bhg(f:(Region.ready .any ops.toArray (lst ops done)).isEmpty=true)(d:({S with nx:=S.nx+ops.length}:AS).le S')(h:Q .normal S'):AT P kb w0 X ops Q done S:=by
 have c:=sG f
 unfold AT;cases ops.length-done.length with
 |zero=>exact⟨c,S',d,h⟩
 |succ n=>exact⟨λ_=>⟨S',d,h⟩,λi e=>by rw[c]at e;cases e⟩
def Hn(u:(Nat.blt done.length ops.length&&Wd ops&&Rq X ops (lst ops done) i ks)=true)(l:ops[i]?=some o)(m:(ks.all λd=>(get S.objs (kb+d)).isNone)=true)(hs:Lb P kb w0 X ops i o S S')(h:AT P kb w0 X ops Q (i::done) S'):AT P kb w0 X ops Q done S:=by
 simp only[Be,Aa1]at u;have⟨⟨aa,hk⟩,e⟩:=u;unfold AT at h|-;rw[show ops.length-done.length=(ops.length-(i::done).length)+1 by simp only[Ax];omega];exact Ads e hk l m hs h
def Km(l:List Nat)(g:(Nat.blt done.length ops.length&&Region.ready .any ops.toArray (lst ops done)==l&& !l.isEmpty)=true)(h:∀i∈l,∃o S',ops[i]?=some o/\Lb P kb w0 X ops i o S S'/\AT P kb w0 X ops Q (i::done) S'):AT P kb w0 X ops Q done S:=by
 simp only[Be,Aa1,beq_iff_eq]at g;have⟨⟨j,e⟩,c⟩:=g;unfold AT;rw[show ops.length-done.length=(ops.length-(done.length+1))+1 by omega]
 refine⟨λd=>?_,λi f=>?_⟩
 .rw[e]at d;subst d;simp at c
 .rw[e]at f;have⟨o,S',h1,h2,k⟩:=h i f;exact .inl ⟨o,S',h1,h2,k⟩
def Bhh(f:(Nat.blt done.length ops.length&&Region.ready .any ops.toArray (lst ops done)== [i])=true)(h:ops[i]?=some o)(hp:Yb P w0 ops i o Q S):AT P kb w0 X ops Q done S:=by
 simp only[Be,Aa1,beq_iff_eq]at f;have⟨g,d⟩:=f;unfold AT;rw[show ops.length-done.length=(ops.length-(done.length+1))+1 by omega];refine⟨λc=>(by rw[d]at c;cases c),λj e=>?_⟩;rw[d]at e;have:=sG e
 subst this;exact .inr ⟨o,h,hp⟩
def Ayb(X:List Nat)(ops:List Oper):List Nat->List (Nat×List Nat)->Bool
 |_,[]=>true
 |done,(i,ks)::l=>Nat.blt done.length ops.length&&Wd ops&&Rq X ops (lst ops done) i ks&&Ayb X ops (i::done) l
def Ayc:List Nat->List (Nat×List Nat)->List Nat
 |done,[]=>done
 |done,(i,_)::l=>Ayc (i::done) l
def Alu:∀(l:List (Nat×List Nat)){done:List Nat}{S S1:AS},Ayb X ops done l=true->Ol P kb ops l S=some S1->AT P kb w0 X ops Q (Ayc done l) S1->AT P kb w0 X ops Q done S
 |[],done,S,S1,_,hs,h=>by
  simp only[Ol,Am]at hs;subst hs;exact h
 |(i,ks)::l,done,S,S1,d,hs,h=>by
  simp only[Ayb,Be]at d;simp only[Ol]at hs;split at hs
  case h_2=>cases hs
  rename_i o e;split at hs
  case isFalse=>cases hs
  rename_i c;split at hs
  case h_2=>cases hs
  rename_i S2 h2;rw[C0]at e;exact Hn (by simp only[Be];exact d.1) e c (.inl (.inl h2)) (Alu l d.2 hs h)
def T4{id:Nat}(kb:Nat)(X:List Nat)(m:P.follows .mixedOrders=true)(h:AT P kb w0 X l Q [] S):AW P w0 N0 (.region id l.toArray true) Q S:=A40 kb X m h
def Ii{id:Nat}(X:List Nat)(c:P.follows .mixedOrders=true)(h:AT P 0 w0 X l Q [] S):AW P w0 N0 (.region id l.toArray true) Q S:=T4 0 X c h
def Nc(h:No P kb ops i o S=some S'):Lb P kb w0 X ops i o S S':=.inl (.inl h)
def Lg(f:RelM D w0 N0 μ S a w)(d:S.gv ops o=some true):Region.wanted o (yielded ops.toArray a.tmps)=true:=by
 unfold AS.gv at d
 split at d
 .rename_i c;simp[Region.wanted,c]
 .rename_i j e c;exact X7 f c d
def Bb0{c:Bool}{e:FuncId}{j:Array TypeId}
  (w:(Nat.blt done.length ops.length&&Wd ops&&Rq X ops (lst ops done) i ks)=true)
  (y:c=true->AC P e vs (λr=>r=g))(l:P.funcs[e]?=some fn)(z:fn.body.isSome=true)(u:(fn.name== "runtime.NumGoroutine")=false)(m:Gz ops i=some o)(k:(ks.all λd=>(get S.objs (kb+d)).isNone)=true)
  (x:S.gv ops o=some c)(t:o.op=.call {callee:=.value f,args:=args,argTypes:=j})(n:S.evc c f=some (.fn e))(s:S.args c args.toList=some vs)(hp:vs.all V.pureV=true)(hs:S.putv o.dst (Fj o c g)=some S')(h:AT P kb w0 X ops Q (i::done) S'):AT P kb w0 X ops Q done S:=by
 rw[C0]at m;exact Hn w m k (.inl (.inr (.inl ⟨c,f,args,j,e,fn,vs,g,x,t,n,l,z,u,s,hp,λh=>(y h).b,hs⟩))) h
def fin(l:List Oper)(L M:List Nat)(S:AS):AS:=(S.bump l.length).keep L M
def Gl(L M:List Nat)(c:(Region.ready .any ops.toArray (lst ops done)).isEmpty=true)(hs:fin ops L M S=S')(h:Q .normal S'):AT P kb w0 X ops Q done S:=by
 subst hs;exact Bhg c (Me _ L M) h
attribute [simp] fin Ayc
end
variable {nx:Nat}{ins objs:List (Nat×Ob)}{r:V}{w':World}{xs:List Value}{μ':Mu}
def Alw(P:Program)(S:AS):List ResultVar->Option (List V)
 |[]=>some []
 |r::rs=>match X8 P S r,Alw P S rs with
  |some v,some vs=>some (v::vs)
  |_,_=>none
def Zi(P:Program)(S:AS)(rs:List ResultVar):Option V:=
 match Alw P S rs with
 |some [v]=>some v
 |some vs=>some (.tup vs)
 |none=>none
attribute [simp] Alw Zi
def Q0(P:Program)(f:FuncId)(args:List V)(ins:List (Nat×Ob))(R:V->List (Nat×Ob)->Prop)(E:List PanicEntry->Prop):Prop:=
 ∀(B:Bs)(N:Nat->Prop)(μ:Mu)(nx:Nat)(xs:List Value),xs.length=args.length->B.df=[]->
  RelM (λ_=>False) B N μ ⟨Nb 0 args,ins,nx,args.length⟩ ⟨xs.toArray,[]⟩ B.w->
  Calls P f xs.toArray B.w (λe w'=>(∃x r c d μ',e=.returned x/\R r c/\nx<=d/\RelM (λ_=>False) B N μ' ⟨[(0,r)],c,d,1⟩ ⟨#[x],[]⟩ w')\/(∃g,e=.panicked g/\E g/\B.Below w'))
def Q0.mono{f:FuncId}{args:List V}{R j:V->List (Nat×Ob)->Prop}{E g:List PanicEntry->Prop}(h:Q0 P f args ins R E)(m:∀r o,R r o->j r o)(l:∀c,E c->g c):Q0 P f args ins j g:=
 λB N μ nx xs h1 h2 s=>(h B N μ nx xs h1 h2 s).mono λ_ _ k=>k.imp (λ⟨x,r,d,e,μ',a,b,c⟩=>⟨x,r,d,e,μ',a,m _ _ b,c⟩) (λ⟨n,a,b,c⟩=>⟨n,a,l _ b,c⟩)
def Abq(P:Program)(fn:Func)(R:V->List (Nat×Ob)->Prop)(E:List PanicEntry->Prop)(nx:Nat):Exit->AS->Prop
 |.ret,S|.normal,S=>nx<=S.nx/\∃r c,Zi P S fn.results.toList=some r/\(∀k o,get c k=some o->get S.objs k=some o)/\R r c
 |.panic d,_=>E d
 |_,_=>False
section
def Alx(h:RelM D w0 N0 μ S a w)(d:Zi P S fn.results.toList=some r):∃x,(results fn a.tmps).run P w=.ok x w/\Enc w (Fp N0 μ S) μ x r:=by
 have g:∀(l:List ResultVar)(vs:List V),Alw P S l=some vs->∃xs:List Value,(l.mapM (U2 a.tmps)).run P w=.ok xs w/\
   xs.length=vs.length/\∀(i:Nat)x v,xs[i]?=some x->vs[i]?=some v->Enc w (Fp N0 μ S) μ x v:=by
  intro l
  induction l with
  |nil=>intro vs c;simp only[Alw,Am]at c;subst c;exact⟨[],rfl,rfl,by simp⟩
  |cons q l ih=>
   intro vs c;simp only[Alw]at c;split at c
   case h_2=>cases c
   rename_i v n h1 h2;cases c;have⟨x,z,k⟩:=Wb h h1;have⟨xs,f,s,t⟩:=ih n h2
   refine⟨x::xs,?_,by simp[s],λi y v j d=>?_⟩
   .rw[O0,Sem.run_bind,z,Result.andThen_ok,Sem.run_bind,f,Result.andThen_ok];rfl
   .rcases i with _ |i
    .simp at j d;subst j d;exact k
    .simp at j d;exact t i y v j d
 unfold Zi at d
 have e:∀xs:List Value,(fn.results.toList.mapM (U2 a.tmps)).run P w=.ok xs w->
   (results fn a.tmps).run P w=.ok (if h:xs.toArray.size=1 then xs.toArray[0]else .tuple xs.toArray) w:=by
  intro xs f;rw[Rp,Sem.run_bind,Gk,Sem.run_map,f];rfl
 split at d
 .rename_i v c;cases d;have⟨xs,h1,h2,m⟩:=g _ _ c
  match xs,h2 with
  |[x],_=>exact⟨x,e [x] h1,m 0 x _ rfl rfl⟩
 .rename_i vs o c;cases d;have⟨xs,h1,h2,m⟩:=g _ _ c;refine⟨.tuple xs.toArray,?_,.tup xs vs h2 m⟩;rw[e xs h1]
  have:¬xs.toArray.size=1:=by
   intro u;have s:vs.length=1:=sO u
   match vs,s with
   |[v],_=>exact o v rfl
  rw[dif_neg this]
 .cases d
def RelM.enter{args:List V}(e:xs.length=args.length)(hl:args.length<=d)(g:w0.df=[])
  (h:RelM (λ_=>False) w0 N0 μ ⟨Nb 0 args,objs,nx,args.length⟩ ⟨xs.toArray,[]⟩ w):
  RelM (λ_=>False) w0 N0 μ ⟨Nb 0 args,objs,nx,d⟩ {tmps:=xs.toArray++Array.replicate (d-xs.toArray.size) undef,defers:=[]} w:=by
 refine⟨g.symm,?_,h.below,h.n0,h.fresh,h.objs,h.inj,λt v f=>?_⟩
 .simp only[Lt,Dz,Array.size_replicate];omega
 .have⟨h1,h2⟩:=h.env t v f;refine⟨by simp only at h1|-;omega,?_⟩
  have c:(xs.toArray++Array.replicate (d-xs.toArray.size) undef).getD t undef=xs.toArray.getD t undef:=by
   simp only at h1;simp only[Hf];rw[Sa (by simp;omega)]
  rw[c];exact h2
def RelM.leave(h:RelM (λ_=>False) w0 N0 μ S a w)(y:w0.df=[]){f:List (Nat×Ob)}(hx:Enc w (Fp N0 μ S) μ x r)(n:∀k o,get f k=some o->get S.objs k=some o):
  RelM (λ_=>False) w0 N0 μ ⟨[(0,r)],f,S.nx,1⟩ ⟨#[x],[]⟩ w:=by
 have j:∀b,b<w.heap.size->Fp N0 μ ⟨[(0,r)],f,S.nx,1⟩ b->Fp N0 μ S b:=by
  rintro b _(h0|⟨d,o,c,h1,h2⟩)
  .exact .inl h0
  .exact .inr ⟨d,o,c,n d o h1,h2⟩
 have z:=Ex.refl w (Fp N0 μ S)
 refine⟨y.symm,rfl,h.below,h.n0,h.fresh,λd o y=>?_,λd o d' o' g c c' h1 h2=>h.inj d o d' o' g c c' (n _ _ h1) (n _ _ h2),λt v m=>?_⟩
 .have⟨l,hl,u⟩:=h.objs d o (n _ _ y);exact⟨l,hl,u.keep z j (λ_ _ _ s=>s) (λ_ _ _=>rfl)⟩
 .simp only[get]at m
  split at m
  .rename_i e;subst e;cases m;exact⟨Nat.one_pos,by simpa using hx.keep z j (λ_ _ _ s=>s)⟩
  .cases m
def Aly{f:FuncId}{c:Code}{args:List V}{R:V->List (Nat×Ob)->Prop}{E:List PanicEntry->Prop}(hf:P.funcs[f]?=some fn)(hb:fn.body=some c)(hl:args.length<=fn.ntmps)
  (h:∀w0 N0 nx,AW P w0 N0 c (Abq P fn R E nx) ⟨Nb 0 args,ins,nx,fn.ntmps⟩):Q0 P f args ins R E:=by
 intro B N μ nx xs t hd hr;refine calls_of_wp hf hb (wp_mono (h B N nx _ B.w ⟨μ,hr.enter t hl hd⟩) ?_);rintro e a' w'⟨S',m,⟨μ',g⟩⟩;have j:a'.defers=[]:=by rw[g.defers,hd]
 have s:nx<=S'.nx/\(∃r d,Zi P S' fn.results.toList=some r/\(∀k o,get d k=some o->get S'.objs k=some o)/\R r d)->∃v,(results fn a'.tmps).run P w'=.ok v w'/\
   ((∃x r d n μ',Ending.returned v=.returned x/\R r d/\nx<=n/\RelM (λ_=>False) B N μ' ⟨[(0,r)],d,n,1⟩ ⟨#[x],[]⟩ w')\/(∃u,Ending.returned v=.panicked u/\E u/\B.Below w')):=by
  rintro⟨z,r,d,h1,h2,h3⟩;have⟨x,hx,y⟩:=Alx g h1;exact⟨x,hx,.inl ⟨x,r,d,S'.nx,μ',rfl,h3,z,g.leave hd y h2⟩⟩
 cases e with
 |ret=>exact⟨j,s m⟩
 |normal=>exact⟨j,s m⟩
 |panic u=>exact⟨j,.inr ⟨u,rfl,m,g.below⟩⟩
 |exit id=>exact m.elim
 |goto l=>exact m.elim
 |outgrown=>exact m.elim
def Af1(r:List (Nat×α))(t:Nat):∀(l:List (Nat×α)),get (l++r) t=match get l t with|some x=>some x|none=>get r t
 |[]=>rfl
 |(k,x)::l=>by
  simp only[Cj,Dh]
  split
  .rfl
  .exact Af1 r t l
def Mg(μ:Mu)(objs:List (Nat×Ob))(b:Nat):Prop:=∃d o c,get objs d=some o/\μ d o.v=some (some (b,c))
def RelM.hand(h:RelM D w0 N0 μ S a w)(r:∀d v,μ d v≠none->v<nx)(n:xs.length=vs.length)
  (e:∀k o,get ins k=some o->get S.objs k=some o)(hx:∀(i:Nat)x v,xs[i]?=some x->vs[i]?=some v->Enc w (Fp N0 μ S) μ x v):
  RelM (λ_=>False) ⟨w,Mg μ ins,μ,[]⟩ (λb=>Fp N0 μ S b/\¬Mg μ ins b) μ ⟨Nb 0 vs,ins,nx,vs.length⟩ ⟨xs.toArray,[]⟩ w:=by
 have z:=Ex.refl w (Fp N0 μ S)
 have f:∀b,b<w.heap.size->Fp (λb=>Fp N0 μ S b/\¬Mg μ ins b) μ ⟨Nb 0 vs,ins,nx,vs.length⟩ b->Fp N0 μ S b:=by
  rintro b _(h0|⟨d,o,c,h1,h2⟩)
  .exact h0.1
  .exact .inr ⟨d,o,c,e _ _ h1,h2⟩
 refine⟨rfl,by simp[n],Bs.Below.refl _,⟨λb hb=>⟨?_,hb.2⟩,λ_ _ _ j=>j⟩,λd v s=>.inl (r d v s),λd o hd=>?_,λd o d' o' g c c' h1 h2=>h.inj d o d' o' g c c' (e _ _ h1) (e _ _ h2),λt v s=>?_⟩
 .exact h.own_lt b hb.1
 .have⟨l,y,u⟩:=h.objs d o (e d o hd);refine⟨l,y,?_⟩;have:=u.keep z f (λ_ _ _ j=>j) (λ_ _ _=>rfl);cases l with
  |none=>exact this
  |some gc=>exact⟨.inr ⟨d,o,gc.2,hd,y⟩,this.2⟩
 .have⟨_,h2⟩:=Abj s;simp only[Mz]at h2;have ht:=(Al.1 h2).1;refine⟨ht,?_⟩;have m:xs[t]?=some xs[t]:=Ah om;have:xs.toArray.getD t undef=xs[t]:=by simp[m]
  rw[this];exact(hx t xs[t] v m h2).keep z f (λ_ _ _ j=>j)
def RelM.backO(h:RelM D w0 N0 μ S a w){f O:List (Nat×Ob)}{ae:Nat}(aa:∀k o,get ins k=some o->get S.objs k=some o)(z:∀d o,get O d=some o->get f d=some o\/(get f d=none/\get S.objs d=some o/\get ins d=none))
  (hr:RelM (λ_=>False) ⟨w,Mg μ ins,μ,[]⟩ (λb=>Fp N0 μ S b/\¬Mg μ ins b) μ' ⟨[(0,r)],f,ae,1⟩ ⟨#[x],[]⟩ w'):
  RelM (λ_=>False) w0 N0 μ' {S with objs:=O,nx:=ae} a w'/\Enc w' (Fp N0 μ' {S with objs:=O,nx:=ae}) μ' x r:=by
 have hμ:=hr.n0.2
 have ab:∀d o g c,get S.objs d=some o->get ins d=none->μ d o.v=some (some (g,c))->¬Mg μ ins g:=by
  rintro d o g c h1 h2 h3⟨d',o',c',u,h5⟩;have:=h.inj d o d' o' g c c' h1 (aa _ _ u) h3 h5;subst this;rw[h2]at u;cases u
 have af:Ex w (Fp N0 μ S) w':=⟨hr.below.size,λb hb hn=>hr.below.block b hb (λ⟨d,o,c,h1,h2⟩=>hn (.inr ⟨d,o,c,aa _ _ h1,h2⟩))⟩
 have ad:∀g,(⟨w,Mg μ ins,μ,[]⟩:Bs).free g->w0.free g:=by
  rintro g(hg|⟨d,o,c,h1,h2⟩)
  .exact .inl (Ae h.below.size hg)
  .have⟨l,n,y⟩:=h.objs d o (aa _ _ h1);rw[h2]at n;cases n;exact y.1
 have s:∀d o g c,get f d=some o->μ' d o.v=some (some (g,c))->(⟨w,Mg μ ins,μ,[]⟩:Bs).free g:=by
  intro d o g c h1 h2;have⟨l,n,y⟩:=hr.objs d o h1;rw[h2]at n;cases n;exact y.1
 have m:∀d o,get S.objs d=some o->∀l,μ' d o.v=some l->μ d o.v=some l:=by
  intro d o h1 l h2;have⟨l',ak,_⟩:=h.objs d o h1;have:=hμ _ _ _ ak;rw[h2]at this;injection this with this;rw[ak,this]
 have ai:∀b,b<w.heap.size->Fp N0 μ' {S with objs:=O,nx:=ae} b->Fp N0 μ S b:=by
  rintro b hb(h0|⟨d,o,c,h1,h2⟩)
  .exact .inl h0
  .rcases z d o h1 with h3|⟨_,u,_⟩
   .rcases s d o b c h3 h2 with h5|⟨d',o',c',h6,h7⟩
    .exact absurd hb (Nat.not_lt.2 h5)
    .exact .inr ⟨d',o',c',aa _ _ h6,h7⟩
   .exact .inr ⟨d,o,c,u,m d o u _ h2⟩
 have ah:∀b,b<w'.heap.size->Fp N0 μ' {S with objs:=O,nx:=ae} b->Fp (λb=>Fp N0 μ S b/\¬Mg μ ins b) μ' ⟨[(0,r)],f,ae,1⟩ b:=by
  rintro b hb(h0|⟨d,o,c,h1,h2⟩)
  .by_cases hB:Mg μ ins b
   .have⟨d,o,c,h1,h2⟩:=hB;have⟨l,n,y⟩:=h.objs d o (aa _ _ h1);rw[h2]at n;cases n;exact absurd y.1 (λhf=>hf.elim (λh=>by have:=(‹RelM D w0 N0 μ S a w›.n0.1 b h0).1;omega) (‹RelM D w0 N0 μ S a w›.n0.1 b h0).2)
   .exact .inl ⟨.inl h0,hB⟩
  .rcases z d o h1 with h3|⟨h3,u,aj⟩
   .exact .inr ⟨d,o,c,h3,h2⟩
   .have h5:=m d o u _ h2;exact .inl ⟨.inr ⟨d,o,c,u,h5⟩,ab d o b c u aj h5⟩
 refine⟨⟨h.defers,h.size,?_,⟨h.n0.1,λd v l n=>hμ _ _ _ (h.n0.2 d v l n)⟩,λd v hv=>?_,λd o hd=>?_,λd o d' o' g c c' h1 h2 h3 u=>?_,λt v hv=>⟨(h.env t v hv).1,(h.env t v hv).2.keep af ai hμ⟩⟩,?_⟩
 .refine⟨hr.below.os.trans h.below.os,hr.below.tape.trans h.below.tape,hr.below.output.trans h.below.output,Ae h.below.size hr.below.size,λk hk hX=>?_⟩;refine(hr.below.block k (Cp hk h.below.size) (λhB=>?_)).trans (h.below.block k hk hX)
  rcases ad k (.inr hB)with h1|h1
  .omega
  .exact hX h1
 .rcases hr.fresh d v hv with h1|⟨j,hj,_⟩
  .exact .inl h1
  .exact hj.elim
 .rcases z d o hd with h1|⟨h1,h2,aj⟩
  .have⟨l,n,y⟩:=hr.objs d o h1;refine⟨l,n,?_⟩;have:=y.keep (Ex.refl w' _) ah (λ_ _ _ hh=>hh) (λ_ _ _=>rfl);cases l with
   |none=>exact this
   |some gc=>exact⟨ad _ this.1,this.2⟩
  .have⟨l,n,y⟩:=h.objs d o h2;refine⟨l,hμ _ _ _ n,y.keep af ai hμ (λg c e=>?_)⟩;subst e;exact hr.below.block g (h.block_lt h2 n) (ab d o g c h2 aj n)
 .have ag:∀d o d' o' g c c',get f d=some o->μ' d o.v=some (some (g,c))->get ins d'=none->get S.objs d'=some o'->μ' d' o'.v=some (some (g,c'))->False:=by
   intro d o d' o' g c c' h1 h2 h3 u h5;have h6:=m d' o' u _ h5
   rcases s d o g c h1 h2 with h7|h7
   .exact absurd (h.block_lt u h6) (Nat.not_lt.2 h7)
   .exact ab d' o' g c' u h3 h6 h7
  rcases z d o h1 with a1|⟨_,a2,a1⟩<;>rcases z d' o' h2 with b1|⟨_,b2,b1⟩
  .exact hr.inj d o d' o' g c c' a1 b1 h3 u
  .exact(ag d o d' o' g c c' a1 h3 b1 b2 u).elim
  .exact(ag d' o' d o g c' c b1 u a1 a2 h3).elim
  .exact h.inj d o d' o' g c c' a2 b2 (m d o a2 _ h3) (m d' o' b2 _ u)
 .have:=(hr.env 0 r Gi).2;simp only[Hf]at this;exact Enc.keep (Ex.refl w' _) ah (λ_ _ _ hh=>hh) (sG this)
def zA{f:List (Nat×Ob)}(aj:∀k,get f k=none->get ins k=none):∀d o,get (f++S.objs) d=some o->get f d=some o\/(get f d=none/\get S.objs d=some o/\get ins d=none):=by
 intro d o hd;rw[Af1]at hd;cases ho:get f d with
 |none=>rw[ho]at hd;exact .inr ⟨rfl,hd,aj d ho⟩
 |some q=>rw[ho]at hd;exact .inl hd
def RelM.back(h:RelM D w0 N0 μ S a w){f:List (Nat×Ob)}{af:Nat}(ab:∀k o,get ins k=some o->get S.objs k=some o)
  (aj:∀k,get f k=none->get ins k=none)
  (hr:RelM (λ_=>False) ⟨w,Mg μ ins,μ,[]⟩ (λb=>Fp N0 μ S b/\¬Mg μ ins b) μ' ⟨[(0,r)],f,af,1⟩ ⟨#[x],[]⟩ w'):
  RelM (λ_=>False) w0 N0 μ' {S with objs:=f++S.objs,nx:=af} a w'/\Enc w' (Fp N0 μ' {S with objs:=f++S.objs,nx:=af}) μ' x r:=h.backO ab (zA aj) hr
def RelM.lost(h:RelM D w0 N0 μ S a w)(aa:∀d v,μ d v≠none->v<nx)(m:∀k o,get ins k=some o->get S.objs k=some o)
  (f:∀k o,get objs k=some o->get S.objs k=some o/\get ins k=none)(n:(⟨w,Mg μ ins,μ,[]⟩:Bs).Below w'):RelM (λ_=>False) w0 N0 μ {S with objs:=objs,nx:=nx} a w':=by
 have j:Ex w (Fp N0 μ S) w':=⟨n.size,λb ab hn=>n.block b ab (λ⟨d,o,c,h1,h2⟩=>hn (.inr ⟨d,o,c,m _ _ h1,h2⟩))⟩
 have s:∀b,b<w.heap.size->Fp N0 μ {S with objs:=objs,nx:=nx} b->Fp N0 μ S b:=by
  rintro b _(h0|⟨d,o,c,h1,h2⟩)
  .exact .inl h0
  .exact .inr ⟨d,o,c,(f _ _ h1).1,h2⟩
 have u:∀d o g c,get S.objs d=some o->get ins d=none->μ d o.v=some (some (g,c))->¬Mg μ ins g:=by
  rintro d o g c h1 h2 z⟨d',o',c',h4,h5⟩;have:=h.inj d o d' o' g c c' h1 (m _ _ h4) z h5;subst this;rw[h2]at h4;cases h4
 refine⟨h.defers,h.size,?_,h.n0,λd v y=>.inl (aa d v y),λd o hd=>?_,λd o d' o' g c c' h1 h2=>h.inj d o d' o' g c c' (f _ _ h1).1 (f _ _ h2).1,λt v y=>⟨(h.env t v y).1,(h.env t v y).2.keep j s (λ_ _ _ hh=>hh)⟩⟩
 .refine⟨n.os.trans h.below.os,n.tape.trans h.below.tape,n.output.trans h.below.output,Ae h.below.size n.size,λk hk hX=>?_⟩;refine(n.block k (Cp hk h.below.size) (λ⟨d,o,c,h1,h2⟩=>?_)).trans (h.below.block k hk hX);have⟨l,r,x⟩:=h.objs d o (m _ _ h1);rw[h2]at r;cases r
  rcases x.1 with z|z
  .omega
  .exact hX z
 .have⟨h1,h2⟩:=f d o hd;have⟨l,r,x⟩:=h.objs d o h1;refine⟨l,r,x.keep j s (λ_ _ _ hh=>hh) (λg c e=>?_)⟩;subst e;exact n.block g (h.block_lt h1 r) (u d o g c h1 h2 r)
def RelM.fresh_lt(h:RelM D w0 N0 μ S a w)(g:∀j,D j->j<i):∀d v,μ d v≠none->v<S.nx+i+1:=by
 intro d v f
 rcases h.fresh d v f with h1|⟨j,c,e⟩
 .omega
 .have:=g j c;omega
def S0(h:RelM D w0 N0 μ S a w){d:FuncId}(e:S.evc true f=some (.fn d)):a.eval f=.func (.func d) #[] #[]:=by
 have c:=h.evc e rfl;generalize a.eval f=y at c;cases c.pf;rfl
def Lr(L:List Nat):List (Nat×α)->List (Nat×α)
 |[]=>[]
 |(k,x)::r=>if L.contains k then Lr L r else(k,x)::Lr L r
def T5{L:List Nat}:∀ {l:List (Nat×α)}{k:Nat}{x:α},get (Lr L l) k=some x->get l k=some x/\k∉L
 |[],k,x,h=>by simp[Lr,get]at h
 |(q,y)::r,k,x,h=>by
  simp only[Lr]at h
  split at h
  .rename_i c;have⟨h1,h2⟩:=T5 h;refine⟨?_,h2⟩;rw[Dh,I (λe=>h2 (by rw[<-e];simpa using c))];exact h1
  .rename_i c;rw[Dh]at h|-
   split
   .rename_i e;rw[Ab e]at h;exact⟨h,by rw[<-e];simpa using c⟩
   .rename_i e;rw[I e]at h;exact T5 h
def Aoi:∀ {l:List (Nat×α)}{k:Nat}{x:α},get l k=some x->k∈l.map (·.1)
 |[],k,x,h=>by simp[get]at h
 |(q,y)::r,k,x,h=>by
  rw[Dh]at h
  split at h
  .rename_i e;simp[e]
  .exact Dt _ (Aoi h)
def T6{c:FuncId}{j:Array TypeId}(n:o.op=.call {callee:=.value f,args:=args,argTypes:=j})(m:a.eval f=.func (.func c) #[] #[])
  (k:P.funcs[c]?=some fn)(t:fn.body.isSome=true)(r:(fn.name== "runtime.NumGoroutine")=false){K:Act->World->Prop}{R:Ending->World->Prop}
  (l:Calls P c (args.toList.map a.eval).toArray w R)(h1:∀x w',R (.returned x) w'->K (a.put o.dst x) w')(h2:∀g w',R (.panicked g) w'->Q' (.panic g) a w')(s:∀w',¬R .outgrown w'):o.wp P a w K Q':=by
 unfold Oper.wp;rw[Ly n m k t r];have d:(args.toList.map a.eval).toArray=args.map a.eval:=by apply Fb;simp
 rw[d]at l;refine l.mono ?_;intro e w' h;cases e with
 |returned x=>exact h1 x w' h
 |panicked g=>exact h2 g w' h
 |outgrown=>exact(s w' h).elim
def Dx{g:List Oper}{n:FuncId}{ab:Array TypeId}{R:V->List (Nat×Ob)->Prop}{E:List PanicEntry->Prop}
  (hc:Q0 P n vs ins R E)(ad:P.funcs[n]?=some fn)(hb:fn.body.isSome=true)(hn:(fn.name== "runtime.NumGoroutine")=false)
  (hg:S.gv ops o=some true)(ho:o.op=.call {callee:=.value f,args:=args,argTypes:=ab})(hf:S.evc true f=some (.fn n))
  (ha:S.args true args.toList=some vs)(e:∀k q,get ins k=some q->get S.objs k=some q)
  (h:∀r c nx,R r c->S.nx+i+1<=nx->(∀k,get c k=none->get ins k=none)/\∃S',({S with objs:=c++S.objs,nx:=nx}:AS).putv o.dst (Fj o true r)=some S'/\Jb P w0 N0 ops Q (i+1) g S')
  (hE:∀ch,E ch->Q (.panic ch) {S with objs:=Lr (ins.map (·.1)) S.objs,nx:=S.nx+i+1}):Jb P w0 N0 ops Q i (o::g) S:=by
 rintro D a w hD⟨μ,l⟩;refine wpList_step λK hK=>?_
 rw[Lg l hg,Ab rfl];have d:=l.fresh_lt hD;have⟨h1,h2⟩:=Gc l rfl ha
 have t:=l.hand (nx:=S.nx+i+1) d (vs:=vs) (xs:=args.toList.map a.eval) (ins:=ins) Gi e (λj x v hx hv=>by
  simp only[Bj,Ay]at hx;obtain⟨y,hy,rfl⟩:=hx;exact h2 j y v hy hv)
 have s:=hc ⟨w,Mg μ ins,μ,[]⟩ _ μ (S.nx+i+1) (args.toList.map a.eval) Gi rfl t
 refine T6 ho (S0 l hf) ad hb hn s ?_ ?_ ?_
 .rintro x w'(⟨x',r,c,nx',μ',he,hR,hnx,hrel⟩|⟨ch,he,_⟩)
  .cases he;have⟨z,S',hs,m⟩:=h r c nx' hR hnx;have⟨aa,u⟩:=l.back e z hrel;refine hK _ _ (m (λ_=>False) _ w' (λj hj=>hj.elim) ⟨μ',aa.putv hs ?_⟩);unfold Fj
   split
   .exact u
   .exact .whn _ _ _ (λ_=>u) (λhf=>by cases hf)
  .cases he
 .rintro ch w'(⟨x',r,c,nx',μ',he,_⟩|⟨ch',he,hEc,hbw⟩)
  .cases he
  .cases he;refine⟨_,hE ch hEc,μ,l.lost d e (λk q hq=>?_) hbw⟩;have⟨h3,h4⟩:=T5 hq;refine⟨h3,?_⟩;cases hk:get ins k with
   |none=>rfl
   |some q'=>exact absurd (Aoi hk) h4
 .rintro w'(⟨x',r,c,nx',μ',he,_⟩|⟨ch',he,_⟩)<;>cases he
end
variable {N:Nat->Prop}{ai:Nat}{y:Value}
def Rf(ins c:List (Nat×Ob)):Bool:=
 (c.all λp=>match get ins p.1 with|some q=>q.v==p.2.v&&q.sz==p.2.sz&&q.ty==p.2.ty&&p.2.es.all V.pureE|none=>false)&&(ins.all λp=>(get c p.1).isSome)
attribute [simp] Rf
def Ave:∀ {l:List (Nat×α)}{k:Nat}{x:α},get l k=some x->(k,x)∈l
 |[],k,x,h=>by simp[get]at h
 |(q,y)::r,k,x,h=>by
  rw[Dh]at h
  split at h
  .rename_i e;injection h with h;subst e h;simp
  .exact Dt _ (Ave h)
def Ahh{c:List (Nat×Ob)}(h:Rf ins c=true):(∀k o,get c k=some o->∃q,get ins k=some q/\q.v=o.v/\o.es.all V.pureE=true)/\∀k,get c k=none->get ins k=none:=by
 simp only[Rf,Be]at h
 refine⟨λk o f=>?_,λk e=>?_⟩
 .have:=Ao.1 h.1 (k,o) (Ave f);simp only at this
  split at this
  .rename_i q d;simp only[Be,beq_iff_eq]at this;exact⟨q,d,this.1.1.1,this.2⟩
  .cases this
 .cases d:get ins k with
  |none=>rfl
  |some q=>
   have:=Ao.1 h.2 (k,q) (Ave d);simp only[e]at this;cases this
section
def RelM.back0(h:RelM D w0 N0 μ S a w){f:List (Nat×Ob)}(n:∀k o,get ins k=some o->get S.objs k=some o)
  (am:Rf ins f=true)(hp:r.pureV=true)
  (hr:RelM (λ_=>False) ⟨w,Mg μ ins,μ,[]⟩ (λb=>Fp N0 μ S b/\¬Mg μ ins b) μ' ⟨[(0,r)],f,ai,1⟩ ⟨#[x],[]⟩ w'):
  RelM D w0 N0 μ {S with objs:=f++S.objs} a w'/\Pur w' (Fp N0 μ {S with objs:=f++S.objs}) x r:=by
 have⟨z,ag⟩:=Ahh am;have⟨ah,ak⟩:=h.back n ag hr;have hμ:=hr.n0.2
 have ab:∀d o,get (f++S.objs) d=some o->get f d=some o\/(get f d=none/\get S.objs d=some o):=by
  intro d o u;rw[Af1]at u;cases ho:get f d with
  |none=>rw[ho]at u;exact .inr ⟨rfl,u⟩
  |some q=>rw[ho]at u;exact .inl u
 have aj:∀d o,get (f++S.objs) d=some o->∃l,μ d o.v=some l:=by
  intro d o u
  rcases ab d o u with h1|⟨_,h1⟩
  .have⟨q,h2,h3,_⟩:=z d o h1;have⟨l,s,_⟩:=h.objs d q (n _ _ h2);exact⟨l,by rw[<-h3];exact s⟩
  .have⟨l,s,_⟩:=h.objs d o h1;exact⟨l,s⟩
 have m:∀d o,get (f++S.objs) d=some o->μ' d o.v=μ d o.v:=by
  intro d o u;have⟨l,s⟩:=aj d o u;rw[s,hμ _ _ _ s]
 have ae:Fp N0 μ' {S with objs:=f++S.objs,nx:=ai}=Fp N0 μ {S with objs:=f++S.objs}:=by
  funext b
  unfold Fp
  refine propext ⟨?_,?_⟩
  .rintro(h0|⟨d,o,c,h1,h2⟩)
   .exact .inl h0
   .exact .inr ⟨d,o,c,h1,by rw[<-m d o h1];exact h2⟩
  .rintro(h0|⟨d,o,c,h1,h2⟩)
   .exact .inl h0
   .exact .inr ⟨d,o,c,h1,by rw[m d o h1];exact h2⟩
 have aa:Ex w (Fp N0 μ S) w':=⟨hr.below.size,λb hb hn=>hr.below.block b hb (λ⟨d,o,c,h1,h2⟩=>hn (.inr ⟨d,o,c,n _ _ h1,h2⟩))⟩
 have af:∀b,b<w.heap.size->Fp N0 μ {S with objs:=f++S.objs} b->Fp N0 μ S b:=by
  rintro b hb(h0|⟨d,o,c,h1,h2⟩)
  .exact .inl h0
  .rcases ab d o h1 with h3|⟨_,h4⟩
   .have⟨q,h5,h6,_⟩:=z d o h3;exact .inr ⟨d,q,c,n _ _ h5,by rw[h6];exact h2⟩
   .exact .inr ⟨d,o,c,h4,h2⟩
 refine⟨⟨h.defers,h.size,ah.below,h.n0,h.fresh,λd o u=>?_,λd o d' o' g c c' h1 h2 h3 h4=>ah.inj d o d' o' g c c' h1 h2 (by rw[m d o h1];exact h3) (by rw[m d' o' h2];exact h4),λt v hv=>⟨(h.env t v hv).1,(h.env t v hv).2.keep aa af (λ_ _ _ hh=>hh)⟩⟩,?_⟩
 .rcases ab d o u with h1|⟨h1,h2⟩
  .have⟨l,s,ad⟩:=ah.objs d o u;rw[m d o u]at s;refine⟨l,s,?_⟩;have⟨_,_,_,ao⟩:=z d o h1;cases l with
   |none=>exact ad
   |some gc=>
    have⟨o1,o2,o3,o4,al,o5,o6,o7⟩:=ad;refine⟨o1,o2,o3,o4,al,o5,o6,λk e j c he hj=>?_⟩;have⟨y,hy,an⟩:=o7 k e j c he hj;refine⟨y,hy,.pur ?_⟩;rw[<-ae];exact an.pureC (Ao.1 (Ao.1 ao e (Ar he)) c (Ar hj))
  .have⟨l,s,ad⟩:=h.objs d o h2;refine⟨l,s,ad.keep aa af (λ_ _ _ hh=>hh) (λg c e=>?_)⟩;subst e;refine hr.below.block g (h.block_lt h2 s) ?_;rintro⟨d',q,c',h4,h5⟩;have:=h.inj d o d' q g c c' h2 (n _ _ h4) s h5;subst this;rw[ag d h1]at h4;cases h4
 .rw[<-ae];exact ak.pureV hp
def Ahi{h:FuncId}{ae:Array TypeId}{e:List (Nat×Ob)}
  (hX:i∈X)(hc:Q0 P h vs ins (λr q=>r=g/\q=e) (λ_=>False))(af:Rf ins e=true)(hp:g.pureV=true)(aa:P.funcs[h]?=some fn)(hb:fn.body.isSome=true)(hn:(fn.name== "runtime.NumGoroutine")=false)
  (hg:S.gv ops o=some true)(ho:o.op=.call {callee:=.value f,args:=args,argTypes:=ae})(u:S.evc true f=some (.fn h))
  (ha:S.args true args.toList=some vs)(c:∀k q,get ins k=some q->get S.objs k=some q)(hs:({S with objs:=e++S.objs}:AS).putv o.dst (Fj o true g)=some S'):Lb P kb w0 X ops i o S S':=by
 have⟨ag,ah⟩:=K4 hs;refine .inr (.inr ⟨hX,Fj o true g,e,by rw[ag];rfl,λT hT ab N0 D a w m hi ai K Q' hK=>?_⟩);replace hg:T.gv ops o=some true:=by rw[<-hT.gv];exact hg
 replace u:T.evc true f=some (.fn h):=by rw[<-hT.evc (by rw[ho];simp[Op.operands,Call.operands])];exact u
 replace ha:T.args true args.toList=some vs:=by rw[<-Jh (S:=S) (T:=T) (λx hx=>hT.evc (by rw[ho];simp[Op.operands,Call.operands];right;simpa using hx) true)];exact ha
 replace c:∀k q,get ins k=some q->get T.objs k=some q:=λk q hk=>by rw[<-ab];exact c k q hk
 have⟨μ,m⟩:=m;rw[Lg m hg,Ab rfl];have⟨h1,h2⟩:=Gc m rfl ha;have l:=m.fresh_lt ai
 have n:=m.hand (nx:=T.nx+ops.length+1) l (vs:=vs) (xs:=args.toList.map a.eval) (ins:=ins) Gi c (λj x v hx hv=>by
  simp only[Bj,Ay]at hx;obtain⟨y,hy,rfl⟩:=hx;exact h2 j y v hy hv)
 have s:=hc ⟨w,Mg μ ins,μ,[]⟩ _ μ (T.nx+ops.length+1) (args.toList.map a.eval) Gi rfl n
 refine T6 ho (S0 m u) aa hb hn s ?_ ?_ ?_
 .rintro x w'(⟨x',r,outs',nx',μ',he,⟨rfl,rfl⟩,hnx,hrel⟩|⟨ch,he,_⟩)
  .cases he;have⟨ad,t⟩:=m.back0 c af hp hrel;refine hK _ _ ⟨μ,(ad.putv (Mf (S:={T with objs:=outs'++T.objs}) (dst:=o.dst) (Fj o true r) (λd hd=>by have:=ah d hd;simp only at this|-;rw[<-hT.2.1];exact this)) ?_).more (λj hj=>.inl hj)⟩;unfold Fj
   split
   .exact .pur t
   .exact .whn _ _ _ (λ_=>.pur t) (λu=>by cases u)
  .cases he
 .rintro ch w'(⟨x',r,outs',nx',μ',he,_⟩|⟨ch',_,hE,_⟩)
  .cases he
  .exact hE.elim
 .rintro w'(⟨x',r,outs',nx',μ',he,_⟩|⟨ch',he,_⟩)<;>cases he
def Alz{g:FuncId}{ab:Array TypeId}{E:List PanicEntry->Prop}
  (hc:Q0 P g vs ins (λ_ _=>False) E)(aa:P.funcs[g]?=some fn)(hb:fn.body.isSome=true)(hn:(fn.name== "runtime.NumGoroutine")=false)
  (hg:S.gv ops o=some true)(ho:o.op=.call {callee:=.value f,args:=args,argTypes:=ab})(hf:S.evc true f=some (.fn g))
  (ha:S.args true args.toList=some vs)(c:∀k q,get ins k=some q->get S.objs k=some q)(e:∀k q,get objs k=some q->get S.objs k=some q/\get ins k=none)
  (hE:∀s,E s->Q (.panic s) ⟨[],objs,S.nx+ops.length+1,S.nt⟩):Yb P w0 ops i o Q S:=by
 intro T z u N0 D a w h hi ad;replace hg:T.gv ops o=some true:=by rw[<-z.gv];exact hg
 replace hf:T.evc true f=some (.fn g):=by rw[<-z.evc (by rw[ho];simp[Op.operands,Call.operands])];exact hf
 replace ha:T.args true args.toList=some vs:=by rw[<-Jh (S:=S) (T:=T) (λx hx=>z.evc (by rw[ho];simp[Op.operands,Call.operands];right;simpa using hx) true)];exact ha
 replace c:∀k q,get ins k=some q->get T.objs k=some q:=λk q hk=>by rw[<-u];exact c k q hk
 replace e:∀k q,get objs k=some q->get T.objs k=some q/\get ins k=none:=λk q hk=>by rw[<-u];exact e k q hk
 have⟨μ,h⟩:=h;refine⟨Lg h hg,λK=>?_⟩;have⟨h1,h2⟩:=Gc h rfl ha;have d:=h.fresh_lt ad
 have l:=h.hand (nx:=T.nx+ops.length+1) d (vs:=vs) (xs:=args.toList.map a.eval) (ins:=ins) Gi c (λj x v hx hv=>by
  simp only[Bj,Ay]at hx;obtain⟨y,hy,rfl⟩:=hx;exact h2 j y v hy hv)
 have n:=hc ⟨w,Mg μ ins,μ,[]⟩ _ μ (T.nx+ops.length+1) (args.toList.map a.eval) Gi rfl l
 refine T6 ho (S0 h hf) aa hb hn n ?_ ?_ ?_
 .rintro x w'(⟨x',r,outs',nx',μ',he,hF,_⟩|⟨s,he,_⟩)
  .exact hF.elim
  .cases he
 .rintro s w'(⟨x',r,outs',nx',μ',he,_⟩|⟨ch',he,hEc,hbw⟩)
  .cases he
  .cases he;have m:=h.lost d c e hbw;refine⟨_,hE s hEc,μ,m.defers,by rw[z.2.1];exact m.size,m.below,m.n0,by rw[z.2.2];exact m.fresh,m.objs,m.inj,λt v hv=>by simp[get]at hv⟩
 .rintro w'(⟨x',r,outs',nx',μ',he,_⟩|⟨ch',he,_⟩)<;>cases he
def V.val1:V->Option Value
 |.bool b=>some (.bool b)
 |.int k n=>some (.int k n)
 |.str l=>some (.string ⟨l.toArray⟩)
 |_=>none
def Enc.val1{v:V}(h:Enc w N μ x v)(c:v.val1=some y):x=y:=by
 cases v<;>simp only[V.val1,Am]at c<;>try(cases c;done)
 all_goals
  subst c;cases h with
  |pur h=>cases h;rfl
def A01{g:List Oper}{x:Operand}{v:V}(r:S.gv ops o=some true)(l:o.op=.panic x)(s:S.evc true x=some (.ifc t v))(k:v.val1=some y)
  (h:Q (.panic [{v:=.iface t y,recovered:=false}]) {S with nx:=S.nx+i+1}):Jb P w0 N0 ops Q i (o::g) S:=by
 rintro D a w n⟨μ,c⟩;refine wpList_step λK hK=>?_
 rw[Lg c r,Ab rfl];have e:=c.evc s rfl
 have he:a.eval x=.iface t y:=by
  generalize a.eval x=z at e;cases e with
  |pur e=>cases e with
   |ifc _ u _ _ j=>rw[(Enc.pur (μ:=μ) j).val1 k]
  |ifc _ u _ _ j=>rw[j.val1 k]
 unfold Oper.wp
 have f:(execOp a.eval o).run P w=.halt (.panic (.iface t y)) w:=by
  unfold execOp;rw[l];simp only[he,Instr.panic,goPanic,Sem.run_bind];rfl
 rw[f];refine⟨_,h,μ,c.defers,c.size,c.below,c.n0,λd v m=>.inl (c.fresh_lt n d v m),c.objs,c.inj,c.env⟩
end
variable {R:V->Prop}{d0:Nat}
def Y0:FrameMode->Value×FrameMode
 |.panicking ({v,recovered:=false,goexit:=false}::c)=>(v,.panicking ({v,recovered:=true}::c))
 |u=>(.nilIface,u)
def ACD(P:Program)(f:FuncId)(args:List V)(ins:List (Nat×Ob))(u g:FrameMode)(R:List (Nat×Ob)->Prop):Prop:=
 ∀(B:Bs)(N:Nat->Prop)(μ:Mu)(nx:Nat)(xs:List Value),xs.length=args.length->B.df=[]->
  RelM (λ_=>False) B N μ ⟨Nb 0 args,ins,nx,args.length⟩ ⟨xs.toArray,[]⟩ B.w->
  CallsD P f xs.toArray u B.w (λe q w'=>∃x c d μ',e=.returned x/\q=g/\R c/\nx<=d/\RelM (λ_=>False) B N μ' ⟨[],c,d,0⟩ ⟨#[],[]⟩ w')
def A46(R:List (Nat×Ob)->Prop)(nx:Nat):Exit->AS->Prop
 |.ret,S|.normal,S=>nx<=S.nx/\∃c,(∀k o,get c k=some o->get S.objs k=some o)/\R c
 |_,_=>False
section
def Abr{ops:Array Oper}{s:Exit->Act->List Frame->World->Prop}{cs:List Frame}(c:∀a w,¬Q' .outgrown a w)(f:∀e a w,Q' e a w->s e a cs w):
  ∀(l:List Oper)(k:Nat)(a:Act)(w:World),(∀j,l[j]?=ops[k+j]?)->wpList P ops Q' l a w->wpOpsS P ops s (List.range' k l.length) a cs w
 |[],k,a,w,_,h=>f _ _ _ h
 |o::l,k,a,w,t,h=>by
  have x:ops[k]?=some o:=by simpa using(t 0).symm
  have ih:=λa w=>Abr c f l (k+1) a w (λj=>by have:=t (j+1);simpa[Hm,O3 1 j]using this)
  simp only[Ax,List.range'_succ,wpOpsS,x];unfold wpList at h
  split at h
  .rename_i g;rw[Ab g]
   have h1:o.wp P a w (wpList P ops Q' l) Q':=by
    rcases h with h|⟨_,y,w',h⟩
    .exact h
    .exact(c _ _ h).elim
   unfold Oper.wp at h1;generalize(execOp a.eval o).run P w=r at h1|-;cases r with
   |ok n w'=>
    cases n<;>simp only[Oper.upon]at h1|-<;>first|exact ih _ _ h1|(exact h1.elim)|skip
    .refine h1.mono ?_;intro e m d;cases e with
     |returned v=>exact ih _ _ d
     |panicked ch=>exact f _ _ _ d
     |outgrown=>have⟨y,w3,z⟩:=d;exact(c _ _ z).elim
    .exact h1.mono λv m d=>ih _ _ d
   |halt u w'=>
    cases u<;>simp only[Oper.upon]at h1|-<;>first|exact f _ _ _ h1|(exact h1.elim)
  .rename_i g;rw[I g];exact ih _ _ h
def Akh{d:Frame}{cs:List Frame}{u:FrameMode}(g:d.mode=u):
  (match recoverD (d::cs)with|some (v,e)=>(v,e)|none=>(.nilIface,d::cs))=((Y0 u).1,{d with mode:=(Y0 u).2}::cs):=by
 have j:({d with mode:=u}:Frame)=d:=by subst g;rfl
 simp only[recoverD,g]
 split
 .rename_i v e h
  split at h
  .rename_i v' c;simp only[Am,Bw]at h;obtain⟨rfl,rfl⟩:=h;rfl
  .cases h
 .rename_i h
  split at h
  .cases h
  .rename_i f
   have:Y0 u=(.nilIface,u):=by
    unfold Y0
    split
    .rename_i v c;exact absurd rfl (f v c)
    .rfl
   rw[this];simp only;rw[j]
def Afc{f:FuncId}{id:Nat}{s:Oper}{y:Code}{args:List V}{u:FrameMode}{v:V}{R:List (Nat×Ob)->Prop}(hf:P.funcs[f]?=some fn)(hb:fn.body=some (.seq (.region id (s::l).toArray false) y))(hl:args.length<=fn.ntmps)
  (ho:s.op=.call {callee:=.builtin .recover,args:= #[],argTypes:= #[]})(hg:s.guard=none)(hd:s.dst=some d0)(al:d0<fn.ntmps)(hv:∀w N,Pur w N (Y0 u).1 v)
  (h:∀w0 N0 nx,Jb P w0 N0 (s::l) (Ph (AW P w0 N0 y (A46 R nx)) (A46 R nx)) 1 l ⟨(d0,v)::Nb 0 args,ins,nx,fn.ntmps⟩)
  (aj:fn.results= #[]):ACD P f args ins u (Y0 u).2 R:=by
 intro B N μ nx xs ah ab hr;refine callsD_of_wpS hf hb λc₀ cs hu=>wpS_seq (wpS_region ?_);have ag:=hr.enter ah hl ab
 have ae:RelM (λ_=>False) B N μ ⟨(d0,v)::Nb 0 args,ins,nx,fn.ntmps⟩ (Act.put {tmps:=xs.toArray++Array.replicate (fn.ntmps-xs.toArray.size) undef,defers:=[]} s.dst (Y0 u).1) B.w:=by
  rw[hd];exact ag.put al (.pur (hv _ _))
 have an:=h B N nx (λ_=>False) _ B.w (λj hj=>hj.elim) ⟨μ,ae⟩
 have ad:∀e a w',post B N (A46 R nx) e a w'->bodyPostS P fn c₀ cs (λe q w'=>∃x m r μ',e=.returned x/\q=(Y0 u).2/\R m/\nx<=r/\RelM (λ_=>False) B N μ' ⟨[],m,r,0⟩ ⟨#[],[]⟩ w') e a ({c₀ with mode:=(Y0 u).2}::cs) w':=by
  rintro e a w'⟨S',hE,μ',ai⟩
  have af:nx<=S'.nx/\(∃m,(∀k o,get m k=some o->get S'.objs k=some o)/\R m)->a.defers=[]/\∃u',{c₀ with mode:=(Y0 u).2}::cs= {c₀ with mode:=u'}::cs/\∃v,(results fn a.tmps).run P w'=.ok v w'/\
    ∃x m r μ',Ending.returned v=.returned x/\u'=(Y0 u).2/\R m/\nx<=r/\RelM (λ_=>False) B N μ' ⟨[],m,r,0⟩ ⟨#[],[]⟩ w':=by
   rintro⟨ak,m,h1,h2⟩;refine⟨by rw[ai.defers,ab],(Y0 u).2,rfl,.tuple #[],by rw[Rp,aj];simp[Gk],.tuple #[],m,S'.nx,μ',rfl,rfl,h2,ak,?_⟩;have hx:Enc w' (Fp N μ' S') μ' (.bool true) (.bool true):=.pur (.bool _);have:=ai.leave ab hx h1;refine⟨ab.symm,rfl,this.below,this.n0,this.fresh,λd o hd=>?_,λd o d' o' g c c' a1 a2=>this.inj d o d' o' g c c' a1 a2,λt v hv=>by simp[get]at hv⟩;exact this.objs d o hd
  cases e with
  |ret=>exact af hE
  |normal=>exact af hE
  |_=>exact hE.elim
 have aa:List.range (s::l).toArray.size=0::List.range' 1 l.length:=by
  rw[List.range_eq_range'];simp[List.range'_succ]
 rw[aa]
 have am:(execOp (Act.eval {tmps:=xs.toArray++Array.replicate (fn.ntmps-xs.toArray.size) undef,defers:=[]}) s).run P B.w=.ok .recover B.w:=by
  unfold execOp;rw[ho];simp[resolve,invoke,builtin]
 simp only[wpOpsS];have hw:Region.wanted s (yielded (s::l).toArray (xs.toArray++Array.replicate (fn.ntmps-xs.toArray.size) undef))=true:=by simp[Region.wanted,hg]
 simp only[H8,Dy,hw,if_true,am];have n:=Akh (cs:=cs) hu
 have fin:wpOpsS P (s::l).toArray (Exit.thenS (y.wpS P (bodyPostS P fn c₀ cs (λe q w'=>∃x m r μ',e=.returned x/\q=(Y0 u).2/\R m/\nx<=r/\RelM (λ_=>False) B N μ' ⟨[],m,r,0⟩ ⟨#[],[]⟩ w'))) (bodyPostS P fn c₀ cs (λe q w'=>∃x m r μ',e=.returned x/\q=(Y0 u).2/\R m/\nx<=r/\RelM (λ_=>False) B N μ' ⟨[],m,r,0⟩ ⟨#[],[]⟩ w'))) (List.range' 1 l.length)
   (Act.put {tmps:=xs.toArray++Array.replicate (fn.ntmps-xs.toArray.size) undef,defers:=[]} s.dst (Y0 u).1) ({c₀ with mode:=(Y0 u).2}::cs) B.w:=by
  refine Abr ?_ ?_ l 1 _ _ (λj=>by simp[O3 1 j]) an
  .rintro a w⟨S',hE,_⟩;exact hE
  .rintro e a w'⟨S',hE,hR⟩;cases e with
   |normal=>
    refine wpS_of_wp (wp_mono (hE a w' hR) ?_);intro e2 a2 w2 h2;exact ad _ _ _ h2
   |ret=>exact ad .ret a w' ⟨S',hE,hR⟩
   |_=>exact hE.elim
 split
 .rename_i v' ao z;rw[z]at n;simp only[Bw]at n;rw[n.1,n.2];exact fin
 .rename_i z;rw[z]at n;simp only[Bw]at n;rw[n.1,n.2];exact fin
def V.isBp:V->Bool
 |.bp .. =>true
 |_=>false
def Enc.bp_mono{v:V}(h:Enc w N μ x v)(e:v.isBp=true)(f:∀d v l,μ d v=some l->μ' d v=some l):Enc w' N' μ' x v:=by
 cases v<;>simp only[V.isBp]at e<;>try(cases e;done)
 cases h with
 |pur h=>cases h
 |bp _ _ _ _ _ g c h1=>exact .bp _ _ _ _ _ g c (f _ _ _ h1)
def Adv:Exit->Option FrameMode
 |.ret|.normal=>some .returning
 |.panic c=>some (.panicking c)
 |_=>none
def Bkt(P:Program)(fn:Func)(g:FuncId)(cvs:List V)(R:V->Prop)(e:Exit)(S:AS):Prop:=
 ∃u f ins d,Adv e=some u/\(∀k o,get ins k=some o->get S.objs k=some o)/\ACD P g cvs ins u f d/\settle f=.returning/\
  ∀c nx,d c->(∀k,get c k=none->get ins k=none)/\∃r,Ko P {S with objs:=c++S.objs,nx:=nx} fn.results.toList=some r/\R r
def Aq8{f:FuncId}{c1 c2:Code}{id:Nat}{om od:Oper}{args:List V}{cf:FuncId}{cfn:Func}{caps:Array Operand}{cvs:List V}{dm:Nat}{ats:Array TypeId}(hf:P.funcs[f]?=some fn)
  (hb:fn.body=some (.seq c1 (.seq (.region id [om,od].toArray false) c2)))(hl:args.length<=fn.ntmps)(hcf:P.funcs[cf]?=some cfn)(hcb:cfn.body.isSome=true)(hcn:(cfn.name== "runtime.NumGoroutine")=false)
  (hom:om.op=.makeFunc (.func cf) #[] caps)(hog:om.guard=none)(hodst:om.dst=some dm)(hod:od.op=.defer {callee:=.value (.tmp dm),args:= #[],argTypes:=ats})(hdg:od.guard=none)(hdd:od.dst=none)
  (h1:∀w0 N0,AW P w0 N0 c1 (λe S=>e=.normal/\S=S1) ⟨Nb 0 args,[],0,fn.ntmps⟩)(hcv:S1.args true caps.toList=some cvs)(hbp:cvs.all V.isBp=true)(hdm:dm<S1.nt)
  (h2:∀w0 N0,AW P w0 N0 c2 (Bkt P fn cf cvs R) {S1 with nx:=S1.nx+2})(hdrop:get S1.env dm=none):AC P f args R:=by
 intro w N xs hN hlen hp
 have hr0:RelM (λ_=>False) ⟨w,λ_=>False,λ_ _=>none,[]⟩ N (λ_ _=>none) ⟨Nb 0 args,[],0,args.length⟩ ⟨xs.toArray,[]⟩ w:=by
  refine⟨rfl,by simp[hlen],Bs.Below.refl _,⟨λb hb=>⟨hN b hb,λh=>h⟩,λ_ _ _ h=>by cases h⟩,λd v hv=>absurd rfl hv,λd o hd=>by simp[get]at hd,λd o _ _ _ _ _ hd=>by simp[get]at hd,λt v hv=>?_⟩
  have⟨_,h2⟩:=Abj hv
  simp only[Mz]at h2
  have ht:=(Al.1 h2).1
  have hxt:xs[t]?=some xs[t]:=Ah oM
  have he:xs.toArray.getD t undef=xs[t]:=by simp[hxt]
  refine⟨ht,.pur ?_⟩
  rw[he]
  exact(hp t xs[t] v hxt h2).keep (Ex.refl _ _) (λb hb ho=>by
   rcases ho with h0|⟨d,o,c,h1,_⟩
   .exact h0
   .simp[get]at h1)
 refine calls_of_wp_defers hf hb (wp_seq (wp_mono (h1 ⟨w,λ_=>False,λ_ _=>none,[]⟩ N _ w ⟨_,hr0.enter hlen hl rfl⟩) ?_))
 rintro e a w1⟨S,⟨rfl,rfl⟩,μ1,hr1⟩
 refine wp_seq (wp_region_lit ?_)
 have⟨hcl,hcx⟩:=Gc hr1 rfl hcv
 refine wpList_plain hog λK hK=>?_
 have hfv:(execOp a.eval om).run P w1=.ok (.value (.func (.func cf) #[] (caps.map a.eval))) w1:=by
  unfold execOp
  rw[hom]
  simp[Instr.makeFunc]
 unfold Oper.wp
 rw[hfv,Oper.upon_value,hodst]
 refine hK _ _ (wpList_plain hdg λK' hK'=>?_)
 have hsz:dm<a.tmps.size:=by rw[hr1.size];exact hdm
 have hev:(a.put (some dm) (.func (.func cf) #[] (caps.map a.eval))).eval (.tmp dm)=.func (.func cf) #[] (caps.map a.eval):=by
  show(a.put (some dm) _).tmps.getD dm undef=_
  rw[Lx a dm _ dm hsz,Ab rfl]
 have hdf:(execOp (a.put (some dm) (.func (.func cf) #[] (caps.map a.eval))).eval od).run P w1=.ok (.defer {target:=.fn (.func cf) (caps.map a.eval),args:= #[]}) w1:=by
  unfold execOp
  rw[hod]
  simp only[resolve,hev,Deferred.ofValue,Sem.run_bind,Sem.run_pure,Result.andThen_ok,Mx,Ci]
  rfl
 unfold Oper.wp
 rw[hdf,Oper.upon_defer,hdd]
 refine hK' _ _ (wpList_nil ?_)
 have hr2:RelM (λ_=>False) ⟨w,λ_=>False,μ1,[{target:=.fn (.func cf) (caps.map a.eval),args:= #[]}]⟩ N μ1 {S with nx:=S.nx+2} ({(a.put (some dm) (.func (.func cf) #[] (caps.map a.eval)))with defers:={target:=.fn (.func cf) (caps.map a.eval),args:= #[]}::(a.put (some dm) (.func (.func cf) #[] (caps.map a.eval))).defers}:Act) w1:=by
  have hd0:(a.put (some dm) (.func (.func cf) #[] (caps.map a.eval))).defers=[]:=hr1.defers
  refine⟨by simp only[hd0],by simp[Act.put,hr1.size],⟨hr1.below.os,hr1.below.tape,hr1.below.output,hr1.below.size,hr1.below.block⟩,⟨hr1.n0.1,λ_ _ _ h=>h⟩,λd v hv=>?_,λd o ho=>?_,hr1.inj,λt v hv=>?_⟩
  .rcases hr1.fresh d v hv with h3|⟨j,hj,_⟩
   .exact .inl (by simp only;omega)
   .exact hj.elim
  .have⟨l,hl',hob⟩:=hr1.objs d o ho
   refine⟨l,hl',?_⟩
   cases l with
   |none=>exact hob
   |some gc=>exact hob
  .have hne:dm≠t:=by rintro rfl;simp only at hv;rw[hdrop]at hv;cases hv
   have⟨h3,h4⟩:=hr1.env t v hv
   refine⟨h3,?_⟩
   simp only
   rw[Lx a dm _ t hsz,I hne]
   exact h4
 refine wp_mono (h2 _ N _ w1 ⟨μ1,hr2⟩) ?_
 rintro e a' w2⟨S2,⟨u,u',ins,R',hmode,hins,hacd,hset,hout⟩,μ2,hr3⟩
 have hdf2:=hr3.defers
 have hinv:(invoke (.fn (.func cf) (caps.map a.eval)) #[]).run P w2=.ok (.enter cf (caps.map a.eval)) w2:=by
  have hn':=sG hcn
  simp[invoke,callFunc,hcf,hn',Option.isNone_iff_eq_none,Option.isSome_iff_ne_none.1 hcb]
 have hleave:Leaves P fn a'.tmps (λe w'=>∃x r,e=.returned x/\R r/\Pur w' N x r/\Below w.heap.size w w') a'.defers u w2:=by
  rw[hdf2]
  have hu:u≠ .run:=by
   cases e<;>simp[Adv]at hmode<;>rw[<-hmode]<;>simp
  refine leaves_cons hu hinv ?_
  have hmono:=hr3.n0.2
  have hhand:=hr3.hand (nx:=S2.nx+0+1) (hr3.fresh_lt (λj hj=>hj.elim)) (vs:=cvs) (xs:=caps.toList.map a.eval) (ins:=ins) Gi hins (λj x v hx hv=>by
   simp only[Bj,Ay]at hx
   obtain⟨y,hy,rfl⟩:=hx
   exact(hcx j y v hy hv).bp_mono (Ao.1 hbp v (Ar hv)) hmono)
  have hcall:=hacd ⟨w2,Mg μ2 ins,μ2,[]⟩ _ μ2 _ (caps.toList.map a.eval) Gi rfl hhand
  have harr:(caps.toList.map a.eval).toArray=caps.map a.eval:=by apply Fb;simp
  rw[harr]at hcall
  refine hcall.mono ?_
  rintro e' q w3⟨x,outs,nx',μ3,rfl,rfl,hR',hnx,hrel⟩
  have⟨hcov,r,hres,hRr⟩:=hout outs nx' hR'
  have hrel':RelM (λ_=>False) ⟨w2,Mg μ2 ins,μ2,[]⟩ (λb=>Fp N μ2 S2 b/\¬Mg μ2 ins b) μ3 ⟨[(0,.bool true)],outs,nx',1⟩ ⟨#[.bool true],[]⟩ w3:=by
   refine⟨rfl,rfl,hrel.below,hrel.n0,hrel.fresh,hrel.objs,hrel.inj,λt v hv=>?_⟩
   simp only[get]at hv
   split at hv
   .rename_i e;subst e;cases hv;exact⟨Nat.one_pos,.pur (.bool _)⟩
   .cases hv
  have⟨hb1,_⟩:=hr3.back hins hcov hrel'
  have⟨y,hy,hpy⟩:=Abi (P:=P) (fn:=fn) (r:=r) hb1 hres
  show Leaves P fn a'.tmps _ [] (settle q) w3
  rw[hset]
  exact⟨y,hy,y,r,rfl,hRr,hpy,⟨hb1.below.os,hb1.below.tape,hb1.below.output,hb1.below.size,λk hk=>hb1.below.block k hk (λh=>h)⟩⟩
 cases e with
 |ret=>simp only[Adv,Am]at hmode;subst hmode;exact hleave
 |normal=>simp only[Adv,Am]at hmode;subst hmode;exact hleave
 |panic ch=>simp only[Adv,Am]at hmode;subst hmode;exact hleave
 |_=>simp[Adv]at hmode
end
variable {new:List V}
def ACA(P:Program)(f:FuncId)(args:List V)(sz:Nat)(ty:TypeId)(es new:List V):Prop:=
 ∀d v,Q0 P f (.sl d v sz es.length::args) [(d,⟨v,sz,ty,es⟩)] (λr c=>∃v',r=.sl d v' sz (es++new).length/\c=[(d,⟨v',sz,ty,es++new⟩)]) (λ_=>False)
@[simp]def Bmq(d k:Nat):(d+1+k=d)=False:=by simp;omega
@[simp]def Bl6(d k:Nat):(d=d+1+k)=False:=by simp;omega
@[simp]def Bmr(d k:Nat):(d<d+1+k)=True:=by simp;omega
section
def RelM.backA(h:RelM D w0 N0 μ S a w)(hi:¬D i){v sz aq v':Nat}{f:List V}(hd:get S.objs d=some ⟨v,sz,ty,es⟩)
  (am:f.all Ih=true)
  (r:RelM (λ_=>False) ⟨w,Mg μ [(d,⟨v,sz,ty,es⟩)],μ,[]⟩ (λb=>Fp N0 μ S b/\¬Mg μ [(d,⟨v,sz,ty,es⟩)] b) μ' ⟨[(0,.sl d v' sz f.length)],[(d,⟨v',sz,ty,f⟩)],aq,1⟩ ⟨#[x],[]⟩ w'):
  ∃ah,RelM (λj=>D j\/j=i) w0 N0 ah {S with objs:=(d,⟨S.nx+i,sz,ty,f⟩)::S.objs} a w'/\∀N,Enc w' N ah x (.sl d (S.nx+i) sz f.length):=by
 have aj:∀k o,get [(d,(⟨v,sz,ty,es⟩:Ob))] k=some o->get S.objs k=some o:=by
  intro k o z;simp only[get]at z
  split at z
  .rename_i e;subst e;cases z;exact hd
  .cases z
 have⟨l,hl,ad⟩:=r.objs d ⟨v',sz,ty,f⟩ Gi;simp only at hl
 have hX:∀b,Mg μ [(d,(⟨v,sz,ty,es⟩:Ob))] b->∃c,μ d v=some (some (b,c)):=by
  rintro b⟨d',o',c,h1,h2⟩;simp only[get]at h1
  split at h1
  .rename_i e;subst e;cases h1;exact⟨c,h2⟩
  .cases h1
 have aa:Ex w (Fp N0 μ S) w':=⟨r.below.size,λb hb hn=>r.below.block b hb (λ⟨d,o,c,h1,h2⟩=>hn (.inr ⟨d,o,c,aj _ _ h1,h2⟩))⟩
 have m:∀b c,μ d v=some (some (b,c))->w0.free b:=by
  intro b c u;have⟨l',n,ak⟩:=h.objs d _ hd;simp only at n;rw[u]at n;cases n;exact ak.1
 have s:w0.Below w':=by
  refine⟨r.below.os.trans h.below.os,r.below.tape.trans h.below.tape,r.below.output.trans h.below.output,Ae h.below.size r.below.size,λk z ae=>?_⟩;refine(r.below.block k (Cp z h.below.size) (λhB=>?_)).trans (h.below.block k z ae);have⟨c,u⟩:=hX k hB
  rcases m k c u with h1|h1
  .omega
  .exact ae h1
 have ab:=h.muSet_mono hi d l
 have⟨ag,_⟩:=h.update (D':=λj=>D j\/j=i) (d:=d) (o':=⟨S.nx+i,sz,ty,f⟩) (l':=l) (w':=w') (μ':=J2 μ d (S.nx+i) l) ab (h.muSet_fresh i d l) (Dg _ _ _ _) s aa
  (λd1 o1 g c ao h1 h2=>r.below.block g (h.block_lt h1 h2) (λhB=>by
   have⟨c',u⟩:=hX g hB;exact ao (h.inj d1 o1 d _ g c c' h1 hd h2 u)))
  (λg c e=>by
   subst e
   rcases ad.1 with h1|h1
   .exact .inl h1
   .have⟨c',u⟩:=hX g h1;exact .inr ⟨_,c',hd,u⟩)
  (λN' _=>by
   cases l with
   |none=>exact ad
   |some gc=>
    have⟨o1,o2,o3,o4,al,o5,o6,o7⟩:=ad
    refine⟨?_,o2,o3,o4,al,o5,o6,λk e j c he hj=>?_⟩
    .rcases o1 with h1|h1
     .exact .inl (Ae h.below.size h1)
     .have⟨c',u⟩:=hX _ h1;exact m _ _ u
    .have⟨y,hy,au⟩:=o7 k e j c he hj;have af:=Ao.1 (Ao.1 am e (Ar he)) c (Ar hj);exact⟨y,hy,.pur ((au.flatP af).of_flat af)⟩)
 refine⟨_,ag,λN=>?_⟩;have hx:=(r.env 0 _ (by simp[get];rfl)).2;have ar:(#[x]:Array Value).getD 0 undef=x:=sm;rw[ar]at hx;have ai:=hx;clear hx;generalize t:V.sl d v' sz f.length=sv at ai;cases ai with
 |pur hp=>cases hp<;>cases t
 |slr d1 v1 sz1 av g an h1 h2 h3=>
  injection t with e1 e2 e3 e4;subst e1 e2 e3 e4;rw[hl]at h1;cases h1;exact .slr d (S.nx+i) sz _ g an (Dg _ _ _ _) h2 h3
 |slv d1 v1 sz1 A h1=>
  injection t with e1 e2 e3 e4;subst e1 e2 e3;rw[hl]at h1;cases h1;rw[e4];exact .slv d (S.nx+i) sz A (Dg _ _ _ _)
 |_=>cases t
def Al0{h:FuncId}{ab:Array TypeId}{v sz:Nat}
  (hc:ACA P h vs sz ty es new)(u:(es++new).all Ih=true)(ad:P.funcs[h]?=some fn)(hb:fn.body.isSome=true)(hn:(fn.name== "runtime.NumGoroutine")=false)
  (hg:S.gv ops o=some true)(ho:o.op=.call {callee:=.value f,args:=args,argTypes:=ab})(hf:S.evc true f=some (.fn h))
  (ha:S.args true args.toList=some (.sl d v sz es.length::vs))(hd:get S.objs d=some ⟨v,sz,ty,es⟩)(hs:({S with objs:=(d,⟨S.nx+i,sz,ty,es++new⟩)::S.objs}:AS).putv o.dst (Fj o true (.sl d (S.nx+i) sz (es++new).length))=some S'):Abo P w0 ops i o S S':=by
 intro N0 D a w g hi aa K Q' hK;have⟨μ,g⟩:=g;rw[Lg g hg,Ab rfl];have⟨h1,h2⟩:=Gc g rfl ha
 have t:∀k o,get [(d,(⟨v,sz,ty,es⟩:Ob))] k=some o->get S.objs k=some o:=by
  intro k o n;simp only[get]at n
  split at n
  .rename_i e;subst e;cases n;exact hd
  .cases n
 have c:=g.fresh_lt aa
 have m:=g.hand (nx:=S.nx+ops.length+1) c (vs:=.sl d v sz es.length::vs) (xs:=args.toList.map a.eval) (ins:=[(d,⟨v,sz,ty,es⟩)]) Gi t (λj x v hx hv=>by
  simp only[Bj,Ay]at hx;obtain⟨y,hy,rfl⟩:=hx;exact h2 j y v hy hv)
 have l:=hc d v ⟨w,Mg μ [(d,⟨v,sz,ty,es⟩)],μ,[]⟩ _ μ (S.nx+ops.length+1) (args.toList.map a.eval) Gi rfl m
 refine T6 ho (S0 g hf) ad hb hn l ?_ ?_ ?_
 .rintro x w'(⟨x',r,outs',nx',μ',he,⟨v',rfl,rfl⟩,hnx,hrel⟩|⟨ch,he,_⟩)
  .cases he;have⟨ae,z,s⟩:=g.backA hi hd u hrel;refine hK _ _ ⟨ae,z.putv hs ?_⟩;unfold Fj
   split
   .exact s _
   .exact .whn _ _ _ (λ_=>s _) (λhf=>by cases hf)
  .cases he
 .rintro ch w'(⟨x',r,outs',nx',μ',he,_⟩|⟨ch',_,hE,_⟩)
  .cases he
  .exact hE.elim
 .rintro w'(⟨x',r,outs',nx',μ',he,_⟩|⟨ch',he,_⟩)<;>cases he
def Abs{c:List Oper}(e:i<ops.length)(hs:Abo P w0 ops i o S S')(h:Jb P w0 N0 ops Q (i+1) c S'):Jb P w0 N0 ops Q i (o::c) S:=by
 intro D a w g l;have r:¬D i:=λm=>absurd (g i m) om
 refine wpList_step λK k=>hs N0 D a w l r (λj d=>Rc (g j d) e) _ _ (λn w' f=>k _ _ (h _ n w' (λj d=>?_) f))
 rcases d with d|d
 .have:=g j d;omega
 .omega
def Yf{c:List Oper}{e:FuncId}{k:Array TypeId}{v sz:Nat}
  (w:ACA P e vs sz ty es new)(j:(es++new).all Ih=true)(l:P.funcs[e]?=some fn)(x:fn.body.isSome=true)(s:(fn.name== "runtime.NumGoroutine")=false)
  (g:i<ops.length)(t:S.gv ops o=some true)(r:o.op=.call {callee:=.value f,args:=args,argTypes:=k})(m:S.evc true f=some (.fn e))
  (n:S.args true args.toList=some (.sl d v sz es.length::vs))(u:get S.objs d=some ⟨v,sz,ty,es⟩)(hs:({S with objs:=(d,⟨S.nx+i,sz,ty,es++new⟩)::S.objs}:AS).putv o.dst (Fj o true (.sl d (S.nx+i) sz (es++new).length))=some S')
  (h:Jb P w0 N0 ops Q (i+1) c S'):Jb P w0 N0 ops Q i (o::c) S:=Abs g (Al0 w j l x s t r m n u hs) h
def T7{c:FuncId}{l:Array TypeId}{v sz:Nat}
  (z:i∈X)(hc:ACA P c vs sz ty es new)(h:(es++new).all Ih=true)(m:P.funcs[c]?=some fn)(s:fn.body.isSome=true)(y:(fn.name== "runtime.NumGoroutine")=false)
  (hg:S.gv ops o=some true)(k:o.op=.call {callee:=.value f,args:=args,argTypes:=l})(w:S.evc true f=some (.fn c))
  (t:S.args true args.toList=some (.sl d v sz es.length::vs))(hd:get S.objs d=some ⟨v,sz,ty,es⟩)(hs:({S with objs:=(d,⟨S.nx+i,sz,ty,es++new⟩)::S.objs}:AS).putv o.dst (Fj o true (.sl d (S.nx+i) sz (es++new).length))=some S'):Lb P kb w0 X ops i o S S':=by
 have⟨j,n⟩:=K4 hs;refine .inr (.inr ⟨z,_,[(d,⟨S.nx+i,sz,ty,es++new⟩)],by rw[j];rfl,λT e r=>?_⟩);have g:=e.2.2
 refine Al0 (S:=T) (d:=d) (v:=v) hc h m s y (by rw[<-e.gv];exact hg) k (by rw[<-e.evc (by rw[k];simp[Op.operands,Call.operands])];exact w)
  (by rw[<-Jh (S:=S) (T:=T) (λx u=>e.evc (by rw[k];simp[Op.operands,Call.operands];right;simpa using u) true)];exact t) (by rw[<-r];exact hd) ?_
 rw[Mf _ (λq hq=>by have:=n q hq;simp only at this|-;rw[<-e.2.1];exact this),g];rfl
def Adw{f:FuncId}{c:Code}{args:List V}{sz:Nat}(g:P.funcs[f]?=some fn)(j:fn.body=some c)(k:args.length+1<=fn.ntmps)
  (h:∀d v w0 N0 nx,AW P w0 N0 c (Abq P fn (λr e=>∃v',r=.sl d v' sz (es++new).length/\e=[(d,⟨v',sz,ty,es++new⟩)]) (λ_=>False) nx) ⟨(0,.sl d v sz es.length)::Nb 1 args,[(d,⟨v,sz,ty,es⟩)],nx,fn.ntmps⟩):ACA P f args sz ty es new:=
 λd v=>Aly g j (sG k) (λw0 N0 nx=>h d v w0 N0 nx)
def Aq9{v' sz:Nat}{c:List V}{E:List PanicEntry->Prop}(h:nx<=S.nx)(l:Zi P S fn.results.toList=some (.sl d v' sz c.length))(j:get S.objs d=some ⟨v',sz,ty,c⟩):
  Abq P fn (λr g=>∃v',r=.sl d v' sz c.length/\g=[(d,⟨v',sz,ty,c⟩)]) E nx .ret S:=by
 refine⟨h,_,[(d,⟨v',sz,ty,c⟩)],l,λk o f=>?_,v',rfl,rfl⟩;simp only[get]at f
 split at f
 .rename_i e;subst e;cases f;exact j
 .cases f
end
variable {k:Nat}{e:V}{outs0:List (Nat×Ob)}
section
def A47(l:List Nat)(g:(Nat.blt done.length ops.length&&Region.ready .any ops.toArray (lst ops done)==l&& !l.isEmpty)=true)(h:∀i∈l,(∃o S',ops[i]?=some o/\Lb P kb w0 X ops i o S S'/\AT P kb w0 X ops Q (i::done) S')\/∃o,ops[i]?=some o/\Yb P w0 ops i o Q S):AT P kb w0 X ops Q done S:=by
 simp only[Be,Aa1,beq_iff_eq]at g;have⟨⟨k,e⟩,c⟩:=g;unfold AT;rw[show ops.length-done.length=(ops.length-(done.length+1))+1 by omega]
 refine⟨λd=>?_,λi f=>?_⟩
 .rw[e]at d;subst d;simp at c
 .rw[e]at f
  rcases h i f with⟨o,S',h1,h2,m⟩|j
  .exact .inl ⟨o,S',h1,h2,m⟩
  .exact .inr j
def Af2{x y:Code}(c:AS)(h1:AW P w0 N0 x (Ph (λS'=>S'=c) Q) S)(h2:AW P w0 N0 y Q c):AW P w0 N0 (.seq x y) Q S:=
 J (h1.mono λe S' h=>by
  cases e with
  |normal=>simp only[Ph]at h|-;subst h;exact h2
  |_=>exact h)
def Ara{E:List PanicEntry->Prop}(d:nx<=S.nx)(g:Zi P S fn.results.toList=some e)(f:∀k o,get outs0 k=some o->get S.objs k=some o):
  Abq P fn (λr c=>r=e/\c=outs0) E nx .ret S:=⟨d,e,outs0,g,f,rfl,rfl⟩
def B2{o q:Ob}{l:List (Nat×Ob)}(h:get l d=some q)(c:get [(d,q)] k=some o):get l k=some o:=by
 simp only[get]at c
 split at c
 .rename_i e;subst e;cases c;exact h
 .cases c
def Ke{d:List Oper}{g:FuncId}{n:Array TypeId}{c:List (Nat×Ob)}
  (hc:Q0 P g vs ins (λr q=>r=e/\q=c) (λ_=>False))(s:P.funcs[g]?=some fn)(x:fn.body.isSome=true)(hn:(fn.name== "runtime.NumGoroutine")=false)(l:Rf ins c=true)(hp:e.pureV=true)
  (t:i<ops.length)(hg:S.gv ops o=some true)(z:o.op=.call {callee:=.value f,args:=args,argTypes:=n})(hf:S.evc true f=some (.fn g))
  (y:S.args true args.toList=some vs)(j:∀k q,get ins k=some q->get S.objs k=some q)(hs:({S with objs:=c++S.objs}:AS).putv o.dst (Fj o true e)=some S')
  (h:Jb P w0 N0 ops Q (i+1) d S'):Jb P w0 N0 ops Q i (o::d) S:=by
 refine Abs t ?_ h;intro N0 D a w hr u m K Q' hK;exact We hr u m (Ahi (kb:=0) (w0:=w0) (X:=[i]) (ops:=ops) (i:=i) sm hc l hp s x hn hg z hf y j hs) hK
def Ji{d:List Oper}{c:FuncId}{g:Array TypeId}{E:List PanicEntry->Prop}
  (w:Q0 P c vs ins (λ_ _=>False) E)(h:P.funcs[c]?=some fn)(x:fn.body.isSome=true)(s:(fn.name== "runtime.NumGoroutine")=false)
  (u:S.gv ops o=some true)(r:o.op=.call {callee:=.value f,args:=args,argTypes:=g})(m:S.evc true f=some (.fn c))
  (n:S.args true args.toList=some vs)(e:∀k q,get ins k=some q->get S.objs k=some q)(l:∀j,E j->Q (.panic j) {S with objs:=Lr (ins.map (·.1)) S.objs,nx:=S.nx+i+1}):Jb P w0 N0 ops Q i (o::d) S:=
 Dx w h x s u r m n e (λ_ _ _ t _=>t.elim) l
end
def Glw(b:Nat)(x:Value)(w:World):Prop:=w.cell? ⟨b,0,none⟩=some x
def Glw.lt{b:Nat}(h:Glw b x w):b<w.heap.size:=by
 rcases Cz b w.heap.size with c|c
 .exact c
 .simp[Glw,World.cell?,Dp c]at h
structure Gp where
 P:World->Prop
 bl:Nat->Prop
 stable:∀w w',P w->(∀b,bl b->w'.heap[b]?=w.heap[b]?)->P w'
 low:∀w,P w->∀b,bl b->b<w.heap.size
structure Gon(G:Gp)(B:Bs):Prop where
 here:G.P B.w
 notX:∀b,G.bl b->¬B.X b
def Gon.at{G:Gp}{B:Bs}{w:World}(h:Gon G B)(d:B.Below w):G.P w:=
 G.stable _ _ h.here (λb c=>d.block b (G.low _ h.here b c) (h.notX b c))
def Jp(G:Gp)(P:Program)(f:FuncId)(args:List V)(R:V->Prop):Prop:=
 ∀(w:World)(N:Nat->Prop)(xs:List Value),G.P w->(∀b,N b->b<w.heap.size)->xs.length=args.length->(∀(i:Nat)x v,xs[i]?=some x->args[i]?=some v->Pur w N x v)->
  Calls P f xs.toArray w (λe w'=>∃x r,e=.returned x/\R r/\Pur w' N x r/\Below w.heap.size w w')
def AC.q{P:Program}{f:FuncId}{args:List V}{R:V->Prop}(h:AC P f args R)(G:Gp):Jp G P f args R:=λw N xs _ h1 h2 c=>h w N xs h1 h2 c
def Jp.mono{G:Gp}{P:Program}{f:FuncId}{args:List V}{R c:V->Prop}(h:Jp G P f args R)(d:∀r,R r->c r):Jp G P f args c:=
 λw N xs g h1 h2 e=>(h w N xs g h1 h2 e).mono λ_ _⟨x,r,he,hR,hp,hb⟩=>⟨x,r,he,d r hR,hp,hb⟩
def Jp.relaxP{G:Gp}{P:Program}{f:FuncId}{args:List V}{v':V}(h:Jp G P f args (λr=>Bh r v')):Jp G P f args (λr=>r=v'):=
 λw N xs d h1 h2 c=>(h w N xs d h1 h2 c).mono λ_ _⟨x,_,he,hR,hp,hb⟩=>⟨x,v',he,rfl,hR.1 _ _ _ hp,hb⟩
def Jp.argsR{G:Gp}{P:Program}{f:FuncId}{args c:List V}{R:V->Prop}(h:Jp G P f c R)(d:RelaxL args c):Jp G P f args R:=
 λw N xs g h1 h2 m=>h w N xs g h1 (by rw[h2,d.length]) (λi x v k j=>by
  have⟨u,e,l⟩:=d.get i v j;exact l.1 _ _ _ (m i x u k e))
def Rr{G:Gp}{P:Program}{f:FuncId}{args:List V}{R:V->Prop}(i:Nat){sz:Nat}{es:List V}(h:args[i]?=some (.ro sz es))(k:es.length<=maxLen->Jp G P f args R):Jp G P f args R:=by
 intro w N xs c e d hp;have hi:=(Al.1 h).1;have g:xs[i]?=some xs[i]:=Ah om;exact k (hp i _ _ g h).ro_len w N xs c e d hp
section
variable {P:Program}{kb:Nat}{w0:Bs}{N0:Nat->Prop}{Q:Exit->AS->Prop}{S S':AS}{G:Gp}
def A02{f:FuncId}{fn:Func}{c:Code}{args:List V}{R:V->Prop}(hf:P.funcs[f]?=some fn)(n:fn.body=some c)(hl:args.length<=fn.ntmps)
  (h:∀w0 N0,Gon G w0->AW P w0 N0 c (Wa P fn R) ⟨Nb 0 args,[],0,fn.ntmps⟩):Jp G P f args R:=λ_ _ _ g a b d=>Bkp hf n hl a b d (h _ _ ⟨g,λ_ _ h=>h⟩)
def Jp.b(d:Gon G w0){f:FuncId}{args:List V}{R:V->Prop}(h:Jp G P f args R):ACB w0 P f args R:=λw N xs e h1 h2 c=>h w N xs (d.at e) h1 h2 c
def U4.gen{ops:List Oper}{i:Nat}{o:Oper}(h:U4 P w0 ops i o S S'):Abo P w0 ops i o S S':=by
 obtain⟨u,O,rfl,h⟩:=h;exact h S ⟨λ_ _=>rfl,rfl,rfl⟩ λ_=>rfl
def Jf{ops:List Oper}{i:Nat}{o:Oper}{c:List Oper}{f:Operand}{d:FuncId}{fn:Func}{args:Array Operand}{j:Array TypeId}{vs:List V}{e:V}
  (w:Gon G w0)(n:Jp G P d vs (λr=>r=e))(k:P.funcs[d]?=some fn)(x:fn.body.isSome=true)(t:(fn.name== "runtime.NumGoroutine")=false)
  (g:i<ops.length)(u:S.gv ops o=some true)(s:o.op=.call {callee:=.value f,args:=args,argTypes:=j})(l:S.evc true f=some (.fn d))
  (m:S.args true args.toList=some vs)(hp:vs.all V.pureV=true)(hs:S.putv o.dst (Fj o true e)=some S')(h:Jb P w0 N0 ops Q (i+1) c S'):Jb P w0 N0 ops Q i (o::c) S:=
 Aod (kb:=0) (.inr (.inl ⟨_,f,args,j,d,fn,vs,e,u,s,l,k,x,t,m,hp,λ_=>n.b w,hs⟩)) h
def U5(G:Gp)(P:Program)(f:FuncId)(args:List V)(ins:List (Nat×Ob))(R:V->List (Nat×Ob)->Prop):Prop:=
 ∀(B:Bs)(N:Nat->Prop)(μ:Mu)(nx:Nat)(xs:List Value),Gon G B->xs.length=args.length->B.df=[]->
  RelM (λ_=>False) B N μ ⟨Nb 0 args,ins,nx,args.length⟩ ⟨xs.toArray,[]⟩ B.w->
  Calls P f xs.toArray B.w (λe w'=>∃x r c d μ',e=.returned x/\R r c/\nx<=d/\RelM (λ_=>False) B N μ' ⟨[(0,r)],c,d,1⟩ ⟨#[x],[]⟩ w')
def Q0.q{f:FuncId}{args:List V}{ins:List (Nat×Ob)}{R:V->List (Nat×Ob)->Prop}(h:Q0 P f args ins R (λ_=>False))(G:Gp):U5 G P f args ins R:=
 λB N μ nx xs _ h1 h2 d=>(h B N μ nx xs h1 h2 d).mono λ_ _ c=>c.elim id (λ⟨_,_,h,_⟩=>h.elim)
def Gon.hand{D:Nat->Prop}{μ:Mu}{a:Act}{w:World}(j:Gon G w0)(m:RelM D w0 N0 μ S a w){ins:List (Nat×Ob)}(e:∀k q,get ins k=some q->get S.objs k=some q):Gon G ⟨w,Mg μ ins,μ,[]⟩:=
 ⟨j.at m.below,by
  rintro b f⟨d,q,c,r,o⟩;have⟨l,g,h⟩:=m.objs d q (e _ _ r);rw[o]at g;cases g
  rcases h.1 with n|n
  .exact absurd (G.low _ j.here b f) om
  .exact j.notX b f n⟩
end
variable {G:Gp}
section
def Avf{f:FuncId}{c:Code}{args:List V}{R:V->List (Nat×Ob)->Prop}(hf:P.funcs[f]?=some fn)(hb:fn.body=some c)(hl:args.length<=fn.ntmps)
  (h:∀w0 N0 nx,Gon G w0->AW P w0 N0 c (Abq P fn R (λ_=>False) nx) ⟨Nb 0 args,ins,nx,fn.ntmps⟩):U5 G P f args ins R:=by
 intro B N μ nx xs hG t z hr;refine calls_of_wp hf hb (wp_mono (h B N nx hG _ B.w ⟨μ,hr.enter t hl z⟩) ?_);rintro e a' w'⟨S',j,⟨μ',g⟩⟩;have s:a'.defers=[]:=by rw[g.defers,z]
 have n:nx<=S'.nx/\(∃r d,Zi P S' fn.results.toList=some r/\(∀k o,get d k=some o->get S'.objs k=some o)/\R r d)->∃v,(results fn a'.tmps).run P w'=.ok v w'/\
   (∃x r d m μ',Ending.returned v=.returned x/\R r d/\nx<=m/\RelM (λ_=>False) B N μ' ⟨[(0,r)],d,m,1⟩ ⟨#[x],[]⟩ w'):=by
  rintro⟨y,r,d,h1,h2,h3⟩;have⟨x,hx,u⟩:=Alx g h1;exact⟨x,hx,x,r,d,S'.nx,μ',rfl,h3,y,g.leave z u h2⟩
 cases e with
 |ret=>exact⟨s,n j⟩
 |normal=>exact⟨s,n j⟩
 |panic ch=>exact j.elim
 |exit id=>exact j.elim
 |goto l=>exact j.elim
 |outgrown=>exact j.elim
def Ahj{g:List Oper}{n:FuncId}{ag:Array TypeId}{R:V->List (Nat×Ob)->Prop}
  (hG:Gon G w0)(hc:U5 G P n vs ins R)(ah:P.funcs[n]?=some fn)(hb:fn.body.isSome=true)(hn:(fn.name== "runtime.NumGoroutine")=false)
  (hg:S.gv ops o=some true)(ho:o.op=.call {callee:=.value f,args:=args,argTypes:=ag})(hf:S.evc true f=some (.fn n))
  (ha:S.args true args.toList=some vs)(d:∀k q,get ins k=some q->get S.objs k=some q)
  (h:∀r c nx,R r c->S.nx+i+1<=nx->∃O,(∀d o,get O d=some o->get c d=some o\/(get c d=none/\get S.objs d=some o/\get ins d=none))/\∃S',({S with objs:=O,nx:=nx}:AS).putv o.dst (Fj o true r)=some S'/\Jb P w0 N0 ops Q (i+1) g S'):Jb P w0 N0 ops Q i (o::g) S:=by
 rintro D a w hD⟨μ,l⟩;refine wpList_step λK hK=>?_
 rw[Lg l hg,Ab rfl];have⟨h1,h2⟩:=Gc l rfl ha
 have z:=l.hand (nx:=S.nx+i+1) (l.fresh_lt hD) (vs:=vs) (xs:=args.toList.map a.eval) (ins:=ins) Gi d (λj x v hx hv=>by
  simp only[Bj,Ay]at hx;obtain⟨y,hy,rfl⟩:=hx;exact h2 j y v hy hv)
 have u:=hc ⟨w,Mg μ ins,μ,[]⟩ _ μ (S.nx+i+1) (args.toList.map a.eval) (hG.hand l d) Gi rfl z
 refine T6 ho (S0 l hf) ah hb hn u ?_ ?_ ?_
 .rintro x w'⟨x',r,c,s,μ',t,hR,ae,aa⟩;cases t;have⟨O,ad,S',hs,m⟩:=h r c s hR ae;have⟨af,ab⟩:=l.backO d ad aa;refine hK _ _ (m (λ_=>False) _ w' (λj hj=>hj.elim) ⟨μ',af.putv hs ?_⟩);unfold Fj
  split
  .exact ab
  .exact .whn _ _ _ (λ_=>ab) (λhf=>by cases hf)
 .rintro ch w'⟨x',r,c,s,μ',t,_⟩;cases t
 .rintro w'⟨x',r,c,s,μ',t,_⟩;cases t
def Np{g:List Oper}{n:FuncId}{ag:Array TypeId}{R:V->List (Nat×Ob)->Prop}
  (hG:Gon G w0)(hc:U5 G P n vs ins R)(ah:P.funcs[n]?=some fn)(hb:fn.body.isSome=true)(hn:(fn.name== "runtime.NumGoroutine")=false)
  (hg:S.gv ops o=some true)(ho:o.op=.call {callee:=.value f,args:=args,argTypes:=ag})(hf:S.evc true f=some (.fn n))
  (ha:S.args true args.toList=some vs)(d:∀k q,get ins k=some q->get S.objs k=some q)
  (h:∀r c nx,R r c->S.nx+i+1<=nx->(∀k,get c k=none->get ins k=none)/\∃S',({S with objs:=c++S.objs,nx:=nx}:AS).putv o.dst (Fj o true r)=some S'/\Jb P w0 N0 ops Q (i+1) g S'):Jb P w0 N0 ops Q i (o::g) S:=Ahj hG hc ah hb hn hg ho hf ha d (λr c x u v=>have⟨a,b⟩:=h r c x u v;⟨_,zA a,b⟩)
def zD{f:List (Nat×Ob)}:∀d o,get (f++Lr (ins.map (·.1)) S.objs) d=some o->get f d=some o\/(get f d=none/\get S.objs d=some o/\get ins d=none):=by
 intro d o hd;rw[Af1]at hd;cases ho:get f d with
 |none=>
  rw[ho]at hd;have⟨e1,e2⟩:=T5 hd;refine .inr ⟨rfl,e1,?_⟩;cases hi:get ins d with
  |none=>rfl
  |some q=>exact absurd (Aoi hi) e2
 |some q=>rw[ho]at hd;exact .inl hd
def Pq{g:List Oper}{n:FuncId}{af:Array TypeId}{R:V->List (Nat×Ob)->Prop}
  (hG:Gon G w0)(hc:U5 G P n vs ins R)(ag:P.funcs[n]?=some fn)(hb:fn.body.isSome=true)(hn:(fn.name== "runtime.NumGoroutine")=false)
  (hg:S.gv ops o=some true)(ho:o.op=.call {callee:=.value f,args:=args,argTypes:=af})(hf:S.evc true f=some (.fn n))
  (ha:S.args true args.toList=some vs)(d:∀k q,get ins k=some q->get S.objs k=some q)
  (h:∀r c nx,R r c->S.nx+i+1<=nx->∃S',({S with objs:=c++Lr (ins.map (·.1)) S.objs,nx:=nx}:AS).putv o.dst (Fj o true r)=some S'/\Jb P w0 N0 ops Q (i+1) g S'):Jb P w0 N0 ops Q i (o::g) S:=Ahj hG hc ag hb hn hg ho hf ha d (λr c x u v=>⟨_,zD,h r c x u v⟩)
end
section
def Qi(w0:Bs)(w:World)(μ:Mu)(S:AS):Bs:=⟨w,Mg μ S.objs,μ,w0.df⟩
structure Anch(w0:Bs)(N0:Nat->Prop)(μ:Mu)(S:AS)(w:World):Prop where
 below:w0.Below w
 own:∀g,Mg μ S.objs g->w0.free g
 n0:∀b,N0 b->b<w0.w.heap.size/\¬w0.X b
 m:∀d v l,w0.M d v=some l->μ d v=some l
def RelM.anch(h:RelM D w0 N0 μ S a w):Anch w0 N0 μ S w:=by
 refine⟨h.below,λg j=>?_,h.n0.1,h.n0.2⟩;have⟨d,o,c,h1,h2⟩:=j;have⟨l,e,f⟩:=h.objs d o h1;rw[h2]at e;cases e;exact f.1
def RelM.rebase(h:RelM D w0 N0 μ S a w){j:Bs}(e:j.df=w0.df):RelM D (Qi j w μ S) N0 μ S a w:=by
 have f:=h.anch
 refine⟨h.defers.trans e.symm,h.size,Bs.Below.refl _,⟨λb g=>⟨Cp (h.n0.1 b g).1 h.below.size,λr=>?_⟩,λ_ _ _ n=>n⟩,h.fresh,λd o k=>?_,h.inj,h.env⟩
 .rcases f.own b r with h1|h1
  .exact absurd (h.n0.1 b g).1 om
  .exact(h.n0.1 b g).2 h1
 .have⟨l,m,c⟩:=h.objs d o k;refine⟨l,m,?_⟩;cases l with
  |none=>exact c
  |some s=>exact⟨.inr ⟨d,o,s.2,k,m⟩,c.2⟩
def Anch.back{D2:Nat->Prop}{g:Mu}{a2:Act}{r:World}{s:AS}{y:Nat->Prop}(h:Anch w0 N0 μ S w)(hN:∀b,N0 b->y b)(h2:RelM D2 (Qi w0 w μ S) y g s a2 r):RelM D2 w0 N0 g s a2 r:=by
 have f:∀b,b<r.heap.size->Fp N0 g s b->Fp y g s b:=λb _ hb=>hb.imp (hN b) id
 have n:Ex r (Fp y g s) r:=Ex.refl _ _
 refine⟨h2.defers,h2.size,⟨h2.below.os.trans h.below.os,h2.below.tape.trans h.below.tape,h2.below.output.trans h.below.output,Ae h.below.size h2.below.size,λk n z=>?_⟩,⟨h.n0,λd v l hl=>h2.n0.2 d v l (h.m d v l hl)⟩,h2.fresh,λd o hd=>?_,h2.inj,λt v hv=>⟨(h2.env t v hv).1,(h2.env t v hv).2.keep n f (λ_ _ _ hh=>hh)⟩⟩
 .refine(h2.below.block k (Cp n h.below.size) (λho=>?_)).trans (h.below.block k n z)
  rcases h.own k ho with h1|h1
  .omega
  .exact z h1
 .have⟨l,hl,u⟩:=h2.objs d o hd;refine⟨l,hl,?_⟩;cases l with
  |none=>exact u
  |some gc=>
   have⟨h1,h3,h4,h5,ab,h6,h7,h8⟩:=u
   refine⟨?_,h3,h4,h5,ab,h6,h7,λk e j c he hj=>?_⟩
   .rcases h1 with h1|h1
    .exact .inl (Ae h.below.size h1)
    .exact h.own _ h1
   .have⟨x,z,aa⟩:=h8 k e j c he hj;exact⟨x,z,aa.keep n f (λ_ _ _ hh=>hh)⟩
def RelM.turn{m:World}{b:Nat}(h:RelM D (Qi w0 w μ S) N0 μ S a w)(hb:N0 b)(hk:∀k,k≠b->m.heap[k]?=w.heap[k]?)(aa:m.heap.size=w.heap.size):RelM D (Qi w0 m μ S) N0 μ S a m:=by
 have f:Ex w (Fp N0 μ S) m:=⟨by omega,λk _ hn=>hk k (λe=>hn (.inl (e▸hb)))⟩;refine⟨h.defers,h.size,Bs.Below.refl _,⟨λx r=>⟨by have:=(h.n0.1 x r).1;simp only[Qi]at this|-;omega,(h.n0.1 x r).2⟩,λ_ _ _ g=>g⟩,h.fresh,λd o hd=>?_,h.inj,λt v hv=>⟨(h.env t v hv).1,(h.env t v hv).2.keep f (λ_ _ g=>g) (λ_ _ _ g=>g)⟩⟩;have⟨l,hl,n⟩:=h.objs d o hd;refine⟨l,hl,?_⟩;cases l with
 |none=>exact n
 |some z=>
  have⟨h1,h3,h4,h5,u,h6,h7,h8⟩:=n;have y:z.1≠b:=λe=>(h.n0.1 b hb).2 (e▸⟨d,o,z.2,hd,hl⟩)
  refine⟨.inr ⟨d,o,z.2,hd,hl⟩,h3,h4,h5,u,(hk _ y).trans h6,h7,λk e j c he hj=>?_⟩;have⟨x,r,s⟩:=h8 k e j c he hj;exact⟨x,r,s.keep f (λ_ _ g=>g) (λ_ _ _ g=>g)⟩
end
section
def RelM.later_nx(h:RelM D w0 N0 μ S a w)(g:∀j,D j->j<i):RelM (λ_=>False) w0 N0 μ {S with nx:=S.nx+i} a w:=
 ⟨h.defers,h.size,h.below,h.n0,λd v f=>.inl (by
  rcases h.fresh d v f with h1|⟨j,c,e⟩
  .simp only;omega
  .have:=g j c
   simp only;omega),h.objs,h.inj,h.env⟩
def Bhj{c:List Oper}(d:({S with nx:=S.nx+i}:AS).le S')(h:Jb P w0 N0 ops Q i c S'):Jb P w0 N0 ops Q i c S:=by
 rintro D a w g⟨μ,e⟩;exact h (λ_=>False) a w (λj f=>f.elim) (d _ _ _ _ ⟨μ,e.later_nx g⟩)
def L0{c:List Oper}(d:Nat)(L M:List Nat)(e:({S with nx:=S.nx+i}:AS).freezeK d L M=some S')(h:Jb P w0 N0 ops Q i c S'):Jb P w0 N0 ops Q i c S:=by
 unfold AS.freezeK at e;split at e
 case h_2=>cases e
 rename_i S1 h1;cases e;exact Bhj (AS.le_trans (Adu h1) (Me _ L M)) h
end
section
def Rg{l:List (Nat×List Nat)}{c:Bool}{e:FuncId}{j:Array TypeId}
  (z:Gon G w0)(hc:c=true->Jp G P e vs (λr=>r=g))(m:P.funcs[e]?=some fn)(x:fn.body.isSome=true)(w:(fn.name== "runtime.NumGoroutine")=false)(n:Gz ops i=some o)(k:(ks.all λd=>(get S.objs (0+d)).isNone)=true)
  (y:S.gv ops o=some c)(u:o.op=.call {callee:=.value f,args:=args,argTypes:=j})(t:S.evc c f=some (.fn e))(s:S.args c args.toList=some vs)(hp:vs.all V.pureV=true)(hs:S.putv o.dst (Fj o c g)=some S')(h:AWO P 0 w0 ops Q l S'):AWO P 0 w0 ops Q ((i,ks)::l) S:=by
 rw[C0]at n;exact⟨o,S',n,k,.inr (.inl ⟨c,f,args,j,e,fn,vs,g,y,u,t,m,x,w,s,hp,λh=>(hc h).b z,hs⟩),h⟩
def U6{e:List Oper}{c:Bool}{d:FuncId}{j:Array TypeId}
  (x:Gon G w0)(n:c=true->Jp G P d vs (λr=>r=g))(k:P.funcs[d]?=some fn)(u:fn.body.isSome=true)(t:(fn.name== "runtime.NumGoroutine")=false)
  (w:S.gv ops o=some c)(s:o.op=.call {callee:=.value f,args:=args,argTypes:=j})(l:S.evc c f=some (.fn d))(m:S.args c args.toList=some vs)(hp:vs.all V.pureV=true)(hs:S.putv o.dst (Fj o c g)=some S')(h:Jb P w0 N0 ops Q (i+1) e S'):Jb P w0 N0 ops Q i (o::e) S:=
 Aod (kb:=0) (.inr (.inl ⟨c,f,args,j,d,fn,vs,g,w,s,l,k,u,t,m,hp,λh=>(n h).b x,hs⟩)) h
end
section
def Ea{d:V}{R:V->List (Nat×Ob)->Prop}{E:List PanicEntry->Prop}(c:nx<=S.nx)(f:Zi P S fn.results.toList=some d)(g:R d outs0)(e:∀k o,get outs0 k=some o->get S.objs k=some o):
  Abq P fn R E nx .ret S:=⟨c,d,outs0,f,e,g⟩
def J4{x c:Ob}(h:Eng.get [(d,x)] k=none):Eng.get [(d,c)] k=none:=by
 simp only[Eng.get]at h|-
 split at h
 .cases h
 .rename_i h1;rw[I h1]
end
open Go.ChangeShapes Go.WideShapes Go.ChangeAt
variable {H:Type}{L:List TypeId}{W:World}{n:Nat}
inductive SmlV(n:Nat):V->Prop
 |str {l:List UInt8} (h:l.length<=n):SmlV n (.str l)
 |ro {sz:Nat} {es:List V} (h:es.length<=n) (k:∀e∈es,SmlV n e):SmlV n (.ro sz es)
 |agg {cs:List V} (k:∀c∈cs,SmlV n c):SmlV n (.agg cs)
 |bool (b:Bool):SmlV n (.bool b)
 |int (k:IntKind) (i:Int):SmlV n (.int k i)
 |nils:SmlV n .nils
def Bb1{b:Option Bool}{cs:List V}(h:∀c∈cs,SmlV n c):SmlV n (mkV b cs):=by
 unfold mkV
 split
 .exact .agg h
 .cases cs with
  |nil=>exact .nils
  |cons c r=>exact h c sm
structure BulkOk{H:Type}(B:DataW H->Nat):Prop where
 str:∀b:List UInt8,b.length<=B (.lit (.string b))
 slice:∀elems spare:List (DataW H),elems.length<=B (.slice elems spare)/\∀e∈elems,B e<=B (.slice elems spare)
 agg:∀parts:List (DataW H),∀e∈parts,B e<=B (.agg parts)
section
variable {H:Type}{enc:TypeId×Value->H}{P:Program}{w:World}{base:Nat}{spare:Nat->Bool}{held:Bool}
def Z8{B:DataW H->Nat}{N:Nat}(hB:BulkOk B)(hL:okL P L=true):∀ {fuel:Nat}{t:TypeId}{cs:List Value}{x:DataW H×List MemPlace},t∈L->DataW.trod enc P w base spare held fuel t cs=some x->B x.1<=N->
  ∃vs,Vy w (λ_=>False) cs vs/\(∀v∈vs,v.isCell=true)/\Rd P fuel t vs/\cs.length=P.cellsOf t/\∀v∈vs,SmlV N v
 |0,_,_,_,_,h,_=>by simp[DataW.trod]at h
 |fuel+1,t,cs,x,ht,h,hx=>by
  have n:=Ao.1 hL t ht;unfold Bby at n;unfold DataW.trod at h;unfold Rd;generalize hu:P.underlying t=u at n h|-;split at n
  .
   clear hx;simp only[beq_iff_eq]at n;split at h<;>simp_all;rename_i b;exact⟨[.bool b],Vy.one (.bool _),by simp,by cases b<;>simp,λv d=>by rw[Bz.1 d];exact .bool _⟩
  .clear hx;simp only[beq_iff_eq]at n;split at h<;>simp_all;exact⟨[.int _ _],Vy.one (.int _ _),by simp,⟨_,rfl,h.1.2⟩,λv d=>by rw[Bz.1 d];exact .int _ _⟩
  .have hN:∀l:List UInt8,x.1=.lit (.string l)->l.length<=N:=λl e=>Ae (hB.str l) (e▸hx)
   clear hx;simp only[beq_iff_eq]at n;split at h
   all_goals try(cases h;done)
   all_goals try(rename_i he;cases he;done)
   rename_i s _;simp only[Option.ite_none_right_eq_some,Am]at h;have hl:=hN s.data.toList (by rw[<-h.2]);refine⟨[.str s.data.toList],Vy.one ?_,by simp[V.isCell],⟨_,rfl,by simpa using h.1⟩,by simp[n],λv d=>by rw[Bz.1 d];exact .str hl⟩;have:=Pur.str (w:=w) (N:=λ_=>False) s.data.toList;simpa using this
  .rename_i e;simp only[Be,beq_iff_eq,decide_eq_true_eq]at n;have⟨⟨ai,a2⟩,ah⟩:=n;split at h
   all_goals try(exfalso;first|(rename_i he;cases he;done)|(rename_i he _;cases he;done)|(rename_i he _ _;cases he;done)|(cases h;done))
   .refine⟨[.ro (P.cellsOf e) []],Vy.one (.ro none ⟨0,0,none⟩ 0 0 _ [] (λ_ _=>undef) rfl (A2 _) (B5 _) (λh0=>by omega) sm sm sm),by simp[V.isCell],⟨[],rfl,by simp,by simp⟩,by simp[ai],λv d=>by rw[Bz.1 d];exact .ro sm sm⟩
   .rename_i e' a len az av;cases av
    simp only at h;split at h
    case isFalse=>cases h
    rename_i hb;simp only[Cf]at h;have⟨elems,he,aa⟩:=h;simp only[Ay]at aa;obtain⟨aj,_,rfl⟩:=aa;simp only at hx;have am:=hB.slice (elems.map (·.1)) (aj.map (·.1));have a3:elems.length<=N:=by have:=am.1;simp at this;omega
    have ad:elems.length=len:=sG (mapM_some_length he)
    have al:∀i,i<len->∃vs:List V,∃ci:List Value,w.cells? base (a.add (i*P.cellsOf e)) (P.cellsOf e)=some ci/\Vy w (λ_=>False) ci vs/\(∀v∈vs,v.isCell=true)/\Rd P fuel e vs/\ci.length=P.cellsOf e/\∀v∈vs,SmlV N v:=by
     intro i hi;have h1:=mapM_some_get he i i Gi;have ag:elems[i]'(by omega)∈elems:=As _;rw[Ah oM]at h1;simp only[Cf]at h1;have⟨ci,h2,h3⟩:=h1;have⟨vs,h4,h5,h6,h7,h8⟩:=Z8 hB hL (sG ah) h3 (Ae (am.2 _ (Bc.2 ⟨_,ag,rfl⟩)) hx);exact⟨vs,ci,h2,h4,h5,h6,h7,h8⟩
    have⟨es,a0,hp⟩:=Ax9 al
    have o:∀(k:Nat)us,es[k]?=some us->(mkV (En P e) us).cells=us/\(mkV (En P e) us).fits (P.cellsOf e):=by
     intro k us y;have⟨ci,h1,h2,h3,h4,h5,ab⟩:=hp k us y
     have hc:(mkV (En P e) us).cells=us:=by
      unfold mkV
      split
      .rfl
      .rename_i af
       have au:us.length=1:=by
        rw[<-h2.1,h5];have m:=Ao.1 hL e (sG ah);unfold Bby at m;unfold En at af;generalize P.underlying e=ue at m af
        split at m
        .simpa using m
        .simpa using m
        .simpa using m
        .simp only[Be,beq_iff_eq]at m;exact m.1.1
        .simp at af
        .cases m
       match us,au,h3 with
       |[c],_,h3=>simpa using V.cells_one (h3 c sm)
     exact⟨hc,by rw[hc,<-h2.1,h5],by rw[hc];exact h3⟩
    refine⟨[.ro (P.cellsOf e) (es.map (mkV (En P e)))],Vy.one (.ro (some a) a len az _ _ (λk j=>(w.cell? (a.add (k*P.cellsOf e+j))).getD undef) Gi hb.2.1 hb.2.2 (λh0=>⟨rfl,?_,id⟩) ?_ ?_ ?_),by simp[V.isCell],⟨es,rfl,by omega,?_⟩,by simp[ai],?_⟩
    .have⟨vs,ci,h1,_,_,_,h5,_⟩:=al 0 h0;have⟨_,h6,h7⟩:=World.cells?_some h1;have:=h7 0 a2;rw[Ah oM]at this;have:=World.block_lt_of_cell? _ _ this
     rwa[add_block,add_block]at this
    .intro v d;simp only[Bc]at d;obtain⟨us,z,rfl⟩:=d;have⟨k,y⟩:=De z;exact(o k us y).2
    all_goals
     try
      intro k v j c y hj;simp only[Bj,Ay]at y;obtain⟨us,y,rfl⟩:=y;rw[(o k us y).1]at hj;have⟨ci,h1,h2,h3,h4,h5,ab⟩:=hp k us y;obtain⟨_,h6,h7⟩:=World.cells?_some h1;have a1:=(Al.1 hj).1;have ak:j<ci.length:=by rw[h2.1];exact a1
      have h8:=h7 j om;rw[T0,Ah ak]at h8
    .rw[h8];rfl
    .rw[h8];exact h2.2 j _ c (Ah ak) hj
    .intro us z;obtain⟨k,y⟩:=De z;exact(hp k us y).choose_spec.2.2.2.1
    .intro v d;rw[Bz.1 d];refine .ro so λv d=>?_;obtain⟨us,z,rfl⟩:=Bc.1 d;obtain⟨k,y⟩:=De z;obtain⟨ci,_,_,_,_,_,ab⟩:=hp k us y;unfold mkV
     split
     .exact .agg ab
     .cases us with
      |nil=>exact .nils
      |cons c r=>exact ab c sm
  .rename_i fs;simp only[Be,Ao]at n;obtain⟨ae,an⟩:=n;replace h:(if cs.length=P.cellsOf t then(fs.toList.mapM λf=>DataW.trod enc P w base spare held fuel f.type ((cs.drop f.offset).take (P.cellsOf f.type))).map λxs=>(DataW.agg (xs.map (·.1)),xs.flatMap (·.2))else none)=some x:=h;split at h
   case isFalse=>cases h
   rename_i ad;simp only[Ay]at h;obtain⟨xs,aq,ar⟩:=h;subst ar;simp only at hx;have ax:=hB.agg (xs.map (·.1))
   have hf:∀f∈fs.toList,∃vs,Vy w (λ_=>False) ((cs.drop f.offset).take (P.cellsOf f.type)) vs/\(∀v∈vs,v.isCell=true)/\Rd P fuel f.type vs/\((cs.drop f.offset).take (P.cellsOf f.type)).length=P.cellsOf f.type/\∀v∈vs,SmlV N v:=by
    intro f ao;obtain⟨i,hi⟩:=De ao;have h1:=mapM_some_get aq i f hi;have hl:=mapM_some_length aq;have ay:i<xs.length:=by rw[hl];exact(Al.1 hi).1
    have ag:xs[i]∈xs:=As _;rw[Ah ay]at h1;exact Z8 hB hL (sG (an f ao)) h1 (Ae (ax _ (Bc.2 ⟨_,ag,rfl⟩)) hx)
   have aw:∀(l:List Field)(off:Nat),Ahe P l off (P.cellsOf t)=true->(∀f∈l,∃vs,Vy w (λ_=>False) ((cs.drop f.offset).take (P.cellsOf f.type)) vs/\(∀v∈vs,v.isCell=true)/\Rd P fuel f.type vs/\((cs.drop f.offset).take (P.cellsOf f.type)).length=P.cellsOf f.type/\∀v∈vs,SmlV N v)->
     ∃vs,Vy w (λ_=>False) (cs.drop off) vs/\(∀v∈vs,v.isCell=true)/\RdF P (Rd P fuel) l vs/\∀v∈vs,SmlV N v:=by
    intro l
    induction l with
    |nil=>
     intro off hl _;simp only[Ahe,beq_iff_eq]at hl;refine⟨[],⟨by simp;omega,by simp⟩,by simp,rfl,by simp⟩
    |cons f l ih=>
     intro off hl hh;simp only[Ahe,Be,beq_iff_eq]at hl;obtain⟨n,hl⟩:=hl;subst n;obtain⟨ws,h1,h2,h3,h9⟩:=ih _ hl (λg hg=>hh g Gi);obtain⟨us,g1,g2,g3,_,g9⟩:=hh f sm
     refine⟨us++ws,?_,?_,⟨us,ws,rfl,g3,h3⟩,λv d=>(Cc.1 d).elim (g9 v) (h9 v)⟩
     .have:=g1.append h1
      rwa[<-Sb,Ga]at this
     .intro v d
      rcases Cc.1 d with d|d
      .exact g2 v d
      .exact h2 v d
   obtain⟨vs,h1,h2,h3,h9⟩:=aw fs.toList 0 ae hf;exact⟨vs,by simpa using h1,h2,h3,ad,h9⟩
  .cases n
def A48{B:DataW H->Nat}{N:Nat}(n:BulkOk B)(k:okL P L=true){r:Reach}{z:Nat}{v:Value}{d:DataW H}{ps:List MemPlace}(j:t∈L)(e:Value.okWide P w r z t v)(y:DataW.Trod enc P w base spare held t v d ps)(s:B d<=N):
  ∃u,Pur w (λ_=>False) v u/\RdW P t u/\SmlV N u:=by
 obtain⟨fuel,m⟩:=y;obtain⟨vs,h1,h2,h3,h4,x⟩:=Z8 n k j m s;refine⟨mkV (En P t) vs,?_,⟨fuel,vs,h3,rfl⟩,Bb1 x⟩;have g:=Ao.1 k t j;unfold Bby at g;generalize f:P.underlying t=u at g
 have one:v.cells= #[v]->En P t=some false->Pur w (λ_=>False) v (mkV (En P t) vs):=by
  intro o hb;have h:=h1.1;rw[o]at h h1
  match vs,h,h1 with
  |[c],_,h1=>
   rw[hb];exact h1.2 0 v c rfl rfl
 split at g
 .obtain⟨b,rfl⟩:=okWide_bool f e;exact one rfl (by simp[En,f])
 .obtain⟨b,rfl⟩:=okWide_int f e;exact one rfl (by simp[En,f])
 .obtain⟨b,rfl⟩:=okWide_string f e;exact one rfl (by simp[En,f])
 .obtain⟨a,l,c,rfl⟩:=okWide_slice f e;exact one rfl (by simp[En,f])
 .obtain⟨cs,rfl,_⟩:=okWide_struct f e;have:En P t=some true:=by simp[En,f]
  rw[this];have:=Pur.agg cs.toList vs h1.1 h2 h1.2;simpa[mkV]using this
 .cases g
end
def Al1{B:DataW H->Nat}{N:Nat}(s:BulkOk B){g:TypeId×Value->H}{r:Reach}{b0:Nat}{sp:Nat->Bool}{f:Bool}(w:okL P L=true):∀ {ts:List TypeId}{vs:List Value}{c:List (DataW H)}{ps:List MemPlace},(∀t∈ts,t∈L)->
  (∀(j:Nat)t v,ts[j]?=some t->vs[j]?=some v->Value.okWide P W r b0 t v)->DataW.TrodAll g P W 0 sp f ts vs c ps->(∀d∈c,B d<=N)->∃us,Avc P ts us/\Vy W (λ_=>False) vs us/\∀u∈us,SmlV N u
 |[],vs,c,ps,_,_,h,_=>by
  obtain⟨rfl,rfl,rfl⟩:=trodAll_nil h;exact⟨[],rfl,⟨rfl,by simp⟩,by simp⟩
 |t::ts,vs,c,ps,n,o,h,m=>by
  obtain⟨v,ab,d,aa,p,q,rfl,rfl,rfl,h1,h2⟩:=trodAll_cons h;obtain⟨u,z,y,g5⟩:=A48 s w (n t sm) (o 0 t v rfl rfl) h1 (m d sm);obtain⟨us,g3,g4,g6⟩:=Al1 s w (λt l=>n t Gi) (λj t' v' l k=>o (j+1) t' v' l k) h2 (λd f=>m d Gi);exact⟨u::us,⟨u,us,rfl,y,g3⟩,(Vy.one z).append g4,λx hx=>(Bu.1 hx).elim (λe=>e▸g5) (g6 x)⟩
def Ahk{w:TypeId×Value->H}{f:FuncId}{s:ChangeSpec}{tb:TypeId}{ts:List TypeId}(m:fn.params.toList=ts)(hL:okL P L=true)(ad:(ts.all λt=>L.contains t&&P.readableRec t&&decide (t<P.types.size))=true)(u:laidOutB P=true)(aa:fn.resultTypes= #[tb])(ag:P.underlying tb=some .bool)
  (g:s.vars=[])(hs:∀c:List (DataW H),c.length=ts.length->s.fn H c= {results:=[.lit (.bool true)],args:=c})(hc:∀vs,Avc P ts vs->(∀v∈vs,SmlV 1048576 v)->Jp G P f vs (λr=>r=.bool true))
{z:Nat}{args:Array Value}{c gs:List (DataW H)}{l:List MemPlace}
  (hG:G.P W){B:DataW H->Nat}(hB:BulkOk B)(af:∀d∈c,B d<=1048576)(ab:∀(j:Nat)t v,fn.params[j]?=some t->args[j]?=some v->Value.okWide P W .any z t v)(hW:DataW.Whole w P fn.params.toList s.vars false W args.toList c gs l):
  Calls P f args W λe W'=>∃v,e=.returned v/\s.post w P fn false true false false W args v W':=by
 have ae:=hW;obtain⟨p,q,hA,hV,rfl,ah,ai⟩:=hW;rw[g]at hV;obtain⟨rfl,rfl⟩:=trodVars_none hV
 have y:c.length=ts.length:=by
  have:∀(ts:List TypeId)(vs:List Value)(c:List (DataW H))(ps:List MemPlace),DataW.TrodAll w P W 0 (λ_=>true) true ts vs c ps->c.length=ts.length:=by
   intro ts
   induction ts with
   |nil=>intro vs c ps h;obtain⟨_,rfl,_⟩:=trodAll_nil h;rfl
   |cons t ts ih=>intro vs c ps h;obtain⟨v,ak,d,aj,p,q,rfl,rfl,rfl,_,h2⟩:=trodAll_cons h;simp[ih _ _ _ h2]
  rw[<-m];exact this _ _ _ _ hA
 have n:∀t∈ts,t∈L/\P.readableRec t=true/\t<P.types.size:=by
  intro t o;have:=Ao.1 ad t o;simp only[Be,decide_eq_true_eq]at this;exact⟨by simpa using this.1.1,this.1.2,this.2⟩
 obtain⟨us,h1,h2,h9⟩:=Al1 hB (L:=L) hL (ts:=ts) (λt o=>(n t o).1) (λj t v o hv=>ab j t v (by rw[<-m]at o;simpa using o) (sG hv)) (m▸hA) af;have k:=hc us h1 h9 W (λ_=>False) args.toList hG (λ_ hb=>hb.elim) h2.1 h2.2;rw[show args.toList.toArray=args by simp]at k;refine k.mono ?_;rintro e W1⟨x,r,rfl,rfl,hp,hb⟩;obtain rfl:x=.bool true:=by cases hp;rfl
 refine⟨_,rfl,c,[],p++[],[],p,[],ae,?_,?_,?_,hb.frame _,λh=>by cases h⟩
 .rw[Do,hs c y,aa];exact trodAll_mk1 (shut_bool ag true)
 .rw[Do,hs c y];exact Zg u hb (λt o=>(n t (m▸o)).2) hA
 .rw[Do,hs c y,g];exact rfl
section
end
inductive Tr where
 |done
 |take (i:Nat) (ks:List Nat) (t:Tr)
 |alt (i:Nat) (t r:Tr)
 |stop
def Tr.ids:Tr->List Nat
 |.alt i _ r=>i::r.ids
 |_=>[]
def Tr.depth:Tr->Nat
 |.take _ _ t=>t.depth+1
 |.alt _ t r=>max (t.depth+1) r.depth
 |_=>0
def On(ops:List Oper):Bool->Array Bool->Tr->Bool
 |d,c,.done=> !d&&(Region.ready .any ops.toArray c).isEmpty
 |d,c,.take i ks t=> !d&&(Rq [] ops c i ks&&On ops false (c.setIfInBounds i true) t)
 |d,c,.alt i t r=>(d||Region.ready .any ops.toArray c==i::r.ids)&&(On ops false (c.setIfInBounds i true) t&&On ops true c r)
 |d,_,.stop=>d
section
def AWT(P:Program)(kb:Nat)(w0:Bs)(ops:List Oper)(Q:Exit->AS->Prop):Tr->AS->Prop
 |.done,S=>∃S',({S with nx:=S.nx+ops.length}:AS).le S'/\Q .normal S'
 |.take i ks t,S=>∃o S',ops[i]?=some o/\(ks.all λd=>(get S.objs (kb+d)).isNone)=true/\Abl P kb w0 ops i o S S'/\AWT P kb w0 ops Q t S'
 |.alt i t r,S=>(∃o S',ops[i]?=some o/\Abl P kb w0 ops i o S S'/\AWT P kb w0 ops Q t S')/\AWT P kb w0 ops Q r S
 |.stop,_=>True
def Af3(hk:Wd ops=true):∀(t:Tr)(f:Bool)(c:Array Bool)(S:AS)(n:Nat),t.depth<=n->On ops f c t=true->AWT P kb w0 ops Q t S->
  (f=false->Abp P kb w0 [] ops Q (KQ ops Q) n c S)/\
  (f=true->∀m,n=m+1->∀i∈t.ids,∃o S',ops[i]?=some o/\Abl P kb w0 ops i o S S'/\Abp P kb w0 [] ops Q (KQ ops Q) m (c.setIfInBounds i true) S')
 |.done,f,c,S,n,s,e,h=>by
  simp only[On,Be,Ht,List.isEmpty_iff]at e;refine⟨λ_=>?_,λk=>by rw[k]at e;cases e.1⟩;cases n with
  |zero=>exact⟨e.2,h⟩
  |succ n=>exact⟨λ_=>h,λi k=>by rw[e.2]at k;cases k⟩
 |.stop,f,c,S,n,s,e,h=>by
  simp only[On]at e;exact⟨λk=>(by rw[k]at e;cases e),λ_ m _ i k=>(by cases k)⟩
 |.take i ks t,f,c,S,n,s,e,h=>by
  simp only[On,Be,Ht]at e;refine⟨λ_=>?_,λk=>by rw[k]at e;cases e.1⟩;obtain⟨m,rfl⟩:∃m,n=m+1:=⟨n-1,by simp only[Tr.depth]at s;omega⟩;have⟨o,S',z,ab,hs,g⟩:=h;have ih:=(Af3 hk t false _ S' m (by simp only[Tr.depth]at s;omega) e.2.2 g).1 rfl;exact Ads e.2.1 hk z ab (.inl hs) ih
 |.alt i t r,f,c,S,n,s,e,h=>by
  simp only[On,Be,I1,beq_iff_eq]at e;have⟨h1,h2,h3⟩:=e;have⟨⟨o,S',z,hs,g⟩,hr⟩:=h;simp only[Tr.depth]at s
  have y:∀m,n=m+1->∀j∈i::r.ids,∃o S',ops[j]?=some o/\Abl P kb w0 ops j o S S'/\Abp P kb w0 [] ops Q (KQ ops Q) m (c.setIfInBounds j true) S':=by
   intro m w j l
   rcases Bu.1 l with rfl|l
   .exact⟨o,S',z,hs,(Af3 hk t false _ S' m om h2 g).1 rfl⟩
   .exact(Af3 hk r true c S n om h3 hr).2 rfl m w j l
  refine⟨λk=>?_,λ_=>y⟩
  rcases h1 with h1|h1
  .rw[k]at h1;cases h1
  obtain⟨m,rfl⟩:∃m,n=m+1:=⟨n-1,by omega⟩;exact⟨λh0=>(by rw[h1]at h0;cases h0),λj l=>.inl (have⟨o,S',a,b,c⟩:=y m rfl j (by rw[h1]at l;exact l);⟨o,S',a,.inl b,c⟩)⟩
def Af4{id:Nat}(t:Tr)(o:P.follows .mixedOrders=true)(f:(On l false (Array.replicate l.length false) t&&(Wd l&&decide (t.depth<=l.length)))=true)(h:AWT P 0 w0 l Q t S):AW P w0 N0 (.region id l.toArray true) Q S:=by
 simp only[Be,decide_eq_true_iff]at f;exact A40 0 [] o ((Af3 f.2.1 t false _ S l.length f.2.2 f.1 h).1 rfl)
def Arb(P:Program)(kb:Nat)(ops:List Oper)(L M:List Nat):Tr->AS->Option (List AS)
 |.done,S=>some [(S.bump ops.length).keep L M]
 |.take i ks t,S=>match Ol P kb ops [(i,ks)] S with
  |some S'=>Arb P kb ops L M t S'
  |none=>none
 |.alt i t r,S=>match Ol P kb ops [(i,[])] S with
  |some S'=>match Arb P kb ops L M t S',Arb P kb ops L M r S with
   |some a,some b=>some (a++b)
   |_,_=>none
  |none=>none
 |.stop,_=>some []
attribute [simp] Arb
def Adx(h:Ol P kb ops [(i,ks)] S=some S1):∃o,ops[i]?=some o/\(ks.all λd=>(get S.objs (kb+d)).isNone)=true/\Abl P kb w0 ops i o S S1:=by
 simp only[Ol]at h;split at h
 case h_2=>cases h
 rename_i o e;split at h
 case isFalse=>cases h
 rename_i c;split at h
 case h_2=>cases h
 rename_i S2 h2;cases h;rw[C0]at e;exact⟨o,e,c,.inl h2⟩
def U7{L M:List Nat}:∀ {t:Tr}{S:AS}{l:List AS},Arb P 0 ops L M t S=some l->(∀T∈l,Q .normal T)->AWT P 0 w0 ops Q t S
 |.done,S,l,h,c=>by
  simp only[Arb,Am]at h;subst h;exact⟨_,Me (S.bump ops.length) L M,c _ sm⟩
 |.stop,S,l,h,c=>trivial
 |.take i ks t,S,l,h,c=>by
  simp only[Arb]at h;split at h
  case h_2=>cases h
  rename_i S' h1;have⟨o,h2,f,e⟩:=Adx (w0:=w0) h1;exact⟨o,S',h2,f,e,U7 h c⟩
 |.alt i t r,S,l,h,c=>by
  simp only[Arb]at h;split at h
  case h_2=>cases h
  rename_i S' h1;split at h
  case h_2=>cases h
  rename_i a b g j;cases h;have⟨o,h2,f,e⟩:=Adx (w0:=w0) h1;exact⟨⟨o,S',h2,e,U7 g (λT d=>c T (L9 _ d))⟩,U7 j (λT d=>c T (Pl _ d))⟩
def U8{t:Tr}(h1:Ol P 0 ops [(i,ks)] S=some S1)(h:AWT P 0 w0 ops Q t S1):AWT P 0 w0 ops Q (.take i ks t) S:=by
 have⟨o,h2,c,d⟩:=Adx (w0:=w0) h1;exact⟨o,S1,h2,c,d,h⟩
def Arc{t:Tr}{c:Bool}{e:FuncId}{j:Array TypeId}
  (y:c=true->AC P e vs (λr=>r=g))(l:P.funcs[e]?=some fn)(z:fn.body.isSome=true)(w:(fn.name== "runtime.NumGoroutine")=false)(m:Gz ops i=some o)(k:(ks.all λd=>(get S.objs (0+d)).isNone)=true)
  (x:S.gv ops o=some c)(u:o.op=.call {callee:=.value f,args:=args,argTypes:=j})(n:S.evc c f=some (.fn e))(s:S.args c args.toList=some vs)(hp:vs.all V.pureV=true)(hs:S.putv o.dst (Fj o c g)=some S')(h:AWT P 0 w0 ops Q t S'):AWT P 0 w0 ops Q (.take i ks t) S:=by
 rw[C0]at m;exact⟨o,S',m,k,.inr (.inl ⟨c,f,args,j,e,fn,vs,g,x,u,n,l,z,w,s,hp,λh=>(y h).b,hs⟩),h⟩
end
variable {ρ:Operand->Value}
def Z9(G:Gp)(P:Program)(d:V)(args:List V)(R:V->Prop):Prop:=
 ∃c us vs fn,(d=.fc c us vs\/(d=.fn c/\us=[]/\vs=[]))/\P.funcs[c]?=some fn/\fn.body.isSome=true/\(fn.name== "runtime.NumGoroutine")=false/\Jp G P c (us++args++vs) R
def U9(P:Program)(t:TypeId)(c:String)(n:Nat)(d:FuncId)(off k:Nat):Prop:=
 ∀(xs:List Value)(w:World),xs.length=n->(method (P.types.size+Made.depth) t (.agg xs.toArray) c).run P w=.ok (d,.agg ((xs.drop off).take k).toArray) w
def ICQ(G:Gp)(P:Program)(v:V)(name:String)(args:List V)(R:V->Prop):Prop:=
 ∃t cs c fn off k,(v=.dm t cs\/v=.ifc t (.agg cs))/\U9 P t name cs.length c off k/\P.funcs[c]?=some fn/\fn.body.isSome=true/\(fn.name== "runtime.NumGoroutine")=false/\
  Jp G P c (.agg ((cs.drop off).take k)::args) R
def Avg{c:FuncId}{args:List V}(h:Jp G P c (us++args++vs) R)(d:P.funcs[c]?=some fn)(f:fn.body.isSome=true)(e:(fn.name== "runtime.NumGoroutine")=false):Z9 G P (.fc c us vs) args R:=
 ⟨c,us,vs,fn,.inl rfl,d,f,e,h⟩
section
def A49{u:FuncId}{cs:List V}{more:List Operand}
  (hG:Gon G w0)(hc:Jp G P u (us++vs++cs) (λr=>r=g))(hg:S.gv ops o=some true)
  (ag:∀T,Oj ops o S T->(∀x∈more,∀c,T.evc c x=S.evc c x)/\T.args true args.toList=S.args true args.toList)
  (z:∀T,(∀x∈more,∀c,T.evc c x=S.evc c x)->∀(N0:Nat->Prop)(μ:Mu)(D:Nat->Prop)(a:Act)(w:World),RelM D w0 N0 μ T a w->
   ∃xs t:List Value,xs.length=us.length/\t.length=cs.length/\(∀(i:Nat)x c,xs[i]?=some x->us[i]?=some c->Pur w (Fp N0 μ T) x c)/\(∀(i:Nat)x c,t[i]?=some x->cs[i]?=some c->Pur w (Fp N0 μ T) x c)/\
    (execOp a.eval o).run P w=.ok (.enter u (xs++args.toList.map a.eval++t).toArray) w)
  (ha:S.args true args.toList=some vs)(hp:vs.all V.pureV=true)(hs:S.putv o.dst (Fj o true g)=some S'):U4 P w0 ops i o S S':=by
 have⟨ae,aj⟩:=K4 hs;refine⟨Fj o true g,[],ae,λT hT an N0 D a w h hi am K Q' hK=>?_⟩;have⟨l,m⟩:=ag T hT;replace hg:T.gv ops o=some true:=by rw[<-hT.gv];exact hg
 replace ha:T.args true args.toList=some vs:=by rw[m];exact ha
 have hs:=Mf (S:=T) (Fj o true g) (λd hd=>by rw[<-hT.2.1];exact aj d hd);have⟨μ,h⟩:=h;rw[Lg h hg,Ab rfl];have⟨h1,h2⟩:=Gc h rfl ha;have⟨xs,t,n,ah,af,ai,ab⟩:=z T l N0 μ D a w h;unfold Oper.wp;rw[ab]
 have s:=hc w (Fp N0 μ T) (xs++args.toList.map a.eval++t) (hG.at h.below) h.own_lt Gi (λj x v f k=>by
  have al:(xs++args.toList.map a.eval).length=(us++vs).length:=by simp[h1,n]
  by_cases hj:j<(us++vs).length
  .rw[Bt oM]at f;rw[Bt hj]at k
   by_cases ad:j<us.length
   .rw[Bt oM]at f;rw[Bt ad]at k;exact af j x v f k
   .rw[Bn oM]at f;rw[Bn oM]at k;rw[n]at f;simp only[Bj,Ay]at f;obtain⟨y,hy,rfl⟩:=f;exact(h2 _ y v hy k).pureV (Ao.1 hp v (Ar k))
  .rw[Bn oM]at f;rw[Bn oM]at k;rw[al]at f;exact ai _ x v f k)
 refine s.mono ?_;rintro e w'⟨x,r,rfl,rfl,aa,ak⟩;refine hK _ _ ⟨μ,((h.later ak).putv hs ?_).more (λj hj=>.inl hj)⟩;unfold Fj
 split
 .exact .pur aa
 .exact .whn _ _ _ (λ_=>.pur aa) (λhf=>by cases hf)
def Afd{d:FuncId}{h:Array TypeId}{g:List Value}(m:o.op=.call {callee:=.value f,args:=args,argTypes:=h})(l:ρ f=.func (.func d) xs.toArray g.toArray)
  (k:P.funcs[d]?=some fn)(s:fn.body.isSome=true)(n:(fn.name== "runtime.NumGoroutine")=false):(execOp ρ o).run P w=.ok (.enter d (xs++args.toList.map ρ++g).toArray) w:=by
 unfold execOp;rw[m];have⟨c,r⟩:=Cv.1 s;have j:=sG n
 have e:(xs++args.toList.map ρ++g).toArray=xs.toArray++args.map ρ++g.toArray:=by apply Fb;simp
 rw[e];simp[resolve,l,Deferred.ofValue,invoke,callFunc,k,j,r]
def Al2{z:V}{u:Array TypeId}
  (hG:Gon G w0)(hc:Z9 G P z vs (λr=>r=g))(hg:S.gv ops o=some true)(n:o.op=.call {callee:=.value f,args:=args,argTypes:=u})(hf:S.evc true f=some z)
  (ha:S.args true args.toList=some vs)(hp:vs.all V.pureV=true)(hs:S.putv o.dst (Fj o true g)=some S'):U4 P w0 ops i o S S':=by
 have⟨ab,us,cs,fn,t,j,hb,hn,aa⟩:=hc
 refine A49 (more:=[f]) hG aa hg (λT m=>⟨λx s c=>?_,?_⟩) (λT m N0 μ D a w hr=>?_) ha hp hs
 .simp only[Bz]at s;subst s;exact(m.evc (by rw[n];simp[Op.operands,Call.operands]) c).symm
 .exact(Jh (S:=S) (T:=T) (λx s=>m.evc (by rw[n];simp[Op.operands,Call.operands];right;simpa using s) true)).symm
 .have e:T.evc true f=some z:=by rw[m f (by simp)];exact hf
  have d:=hr.evc e rfl
  rcases t with rfl|⟨rfl,rfl,rfl⟩
  .generalize l:a.eval f=y at d;cases d with
   |pur d=>cases d with
    |fc _ xs ys _ _ hl hm h k=>exact⟨xs,ys,hl,hm,h,k,Afd n l j hb hn⟩
  .have:=S0 hr e;exact⟨[],[],rfl,rfl,by simp,by simp,Afd n (by rw[this]) j hb hn⟩
def Ard{r:Operand}{name:String}{d:FuncId}{g:Array TypeId}(k:o.op=.call {callee:=.invoke r name,args:=args,argTypes:=g})(m:ρ r=.iface t x)
  (n:(method (P.types.size+Made.depth) t x name).run P w=.ok (d,y) w)
  (j:P.funcs[d]?=some fn)(u:fn.body.isSome=true)(l:(fn.name== "runtime.NumGoroutine")=false):(execOp ρ o).run P w=.ok (.enter d ([y]++args.toList.map ρ++[]).toArray) w:=by
 unfold execOp;rw[k];have⟨c,s⟩:=Cv.1 u;have h:=sG l
 have f:([y]++args.toList.map ρ++[]).toArray= #[y]++args.map ρ:=by apply Fb;simp
 have e:(#[Value.iface t x]++args.map ρ).extract 1 (1+args.size)=args.map ρ:=by apply Fb;simp;exact Ba sm
 rw[f];simp[resolve,m,invoke,callMethod,n,callFunc,j,h,s,e]
def A03{r:Operand}{l:String}{v:V}{ab:Array TypeId}{n:V}
  (hG:Gon G w0)(h:ICQ G P v l vs (λr=>r=n))(hg:S.gv ops o=some true)(ho:o.op=.call {callee:=.invoke r l,args:=args,argTypes:=ab})(hf:S.evc true r=some v)
  (ha:S.args true args.toList=some vs)(hp:vs.all V.pureV=true)(hs:S.putv o.dst (Fj o true n)=some S'):U4 P w0 ops i o S S':=by
 have⟨t,cs,ae,fn,off,k,hv,af,ad,hb,hn,ag⟩:=h
 refine A49 (us:=[.agg ((cs.drop off).take k)]) (cs:=[]) (more:=[r]) hG (sG ag) hg (λT z=>⟨λx f c=>?_,?_⟩) (λT z N0 μ D a w hr=>?_) ha hp hs
 .simp only[Bz]at f;subst f;exact(z.evc (by rw[ho];simp[Op.operands,Call.operands]) c).symm
 .exact(Jh (S:=S) (T:=T) (λx f=>z.evc (by rw[ho];simp[Op.operands,Call.operands];right;simpa using f) true)).symm
 .have aa:T.evc true r=some v:=by rw[z r (by simp)];exact hf
  have e:=hr.evc aa rfl
  have s:∀xs:List Value,xs.length=cs.length->(∀c∈cs,c.isCell=true)->(∀(i:Nat)x c,xs[i]?=some x->cs[i]?=some c->Pur w (Fp N0 μ T) x c)->a.eval r=.iface t (.agg xs.toArray)->
    ∃xs ys:List Value,xs.length=[V.agg ((cs.drop off).take k)].length/\ys.length=([]:List V).length/\(∀(i:Nat)x c,xs[i]?=some x->[V.agg ((cs.drop off).take k)][i]?=some c->Pur w (Fp N0 μ T) x c)/\(∀(i:Nat)x c,ys[i]?=some x->([]:List V)[i]?=some c->Pur w (Fp N0 μ T) x c)/\
     (execOp a.eval o).run P w=.ok (.enter ae (xs++args.toList.map a.eval++ys).toArray) w:=by
   intro xs m d u he;refine⟨[.agg ((xs.drop off).take k).toArray],[],rfl,rfl,λi x c f h=>?_,by simp,Ard ho he (af xs w m) ad hb hn⟩
   rcases i with _ |i
   .simp at f h;subst f h
    have:Pur w (Fp N0 μ T) (.agg ((xs.drop off).take k).toArray) (.agg ((cs.drop off).take k)):=by
     refine .agg _ _ Gi (λc h=>d c (Df (Da h))) λj x c f h=>?_
     by_cases hj:j<k
     .rw[Cq hj,Di]at f h;exact u _ x c f h
     .rw[List.getElem?_take_eq_none oM]at f;cases f
    simpa using this
   .simp at f
  rcases hv with rfl|rfl
  .generalize g:a.eval r=y at e;cases e with
   |pur e=>cases e with
    |dm _ xs _ m d u=>exact s xs m d u g
  .generalize g:a.eval r=y at e;cases e with
   |pur e=>cases e with
    |ifc _ x _ _ f=>cases f with
     |agg xs _ m d u=>exact s xs m d u g
   |ifc _ x _ d=>simp[V.isCell]at d
def N5{c:List Oper}{j:V}{g:Array TypeId}{d:V}
  (s:Gon G w0)(t:Z9 G P j vs (λr=>r=d))(e:i<ops.length)(n:S.gv ops o=some true)(m:o.op=.call {callee:=.value f,args:=args,argTypes:=g})(l:S.evc true f=some j)
  (k:S.args true args.toList=some vs)(hp:vs.all V.pureV=true)(hs:S.putv o.dst (Fj o true d)=some S')(h:Jb P w0 N0 ops Q (i+1) c S'):Jb P w0 N0 ops Q i (o::c) S:=
 Abs e (Al2 s t n m l k hp hs).gen h
def Al3{c:List Oper}{r:Operand}{d:String}{v:V}{g:Array TypeId}
  (n:Gon G w0)(s:ICQ G P v d vs (λr=>r=e))(f:i<ops.length)(m:S.gv ops o=some true)(l:o.op=.call {callee:=.invoke r d,args:=args,argTypes:=g})(k:S.evc true r=some v)
  (j:S.args true args.toList=some vs)(hp:vs.all V.pureV=true)(hs:S.putv o.dst (Fj o true e)=some S')(h:Jb P w0 N0 ops Q (i+1) c S'):Jb P w0 N0 ops Q i (o::c) S:=
 Abs f (A03 n s m l k j hp hs).gen h
def Wi{d:Array TypeId}{c:V}
  (l:i∈X)(n:Gon G w0)(j:Z9 G P e vs (λr=>r=c))(m:S.gv ops o=some true)(k:o.op=.call {callee:=.value f,args:=args,argTypes:=d})(g:S.evc true f=some e)
  (h:S.args true args.toList=some vs)(hp:vs.all V.pureV=true)(hs:S.putv o.dst (Fj o true c)=some S'):Lb P kb w0 X ops i o S S':=
 .inr (.inr ⟨l,Al2 n j m k g h hp hs⟩)
end
section
def RelM.forget(h:RelM D w0 N0 μ S a w)(c:d<S.nt):RelM D w0 N0 μ {S with env:=Lr [d] S.env} (a.put (some d) x) w:=by
 refine⟨h.defers,by simp[Act.put,h.size],h.below,h.n0,h.fresh,h.objs,h.inj,λt u f=>?_⟩;have⟨h1,h2⟩:=T5 f;rw[Lx a d x t (by rw[h.size];exact c),I (λe=>h2 Gi)];exact h.env t u h1
def A5a{e:List Oper}{c:Value}(t:o.guard=none)(g:o.op=.assign (.const c))(r:o.dst=some d)(m:d<S.nt)
  (k:({S with env:=Lr [d] S.env}:AS)=S')(h:Jb P w0 N0 ops Q (i+1) e S'):Jb P w0 N0 ops Q i (o::e) S:=by
 rintro D a w u⟨μ,l⟩;refine wpList_plain t λK n=>?_
 unfold Oper.wp
 have f:(execOp a.eval o).run P w=.ok (.value (a.eval (.const c))) w:=by
  unfold execOp;rw[g];rfl
 rw[f];subst k;refine n _ _ ?_;rw[r];exact h D _ _ (λj s=>Fx (u j s)) ⟨μ,l.forget m⟩
def Bgx(fn:Func)(R:V->Prop)(e:Exit)(S:AS):Prop:=
 match e with
 |.ret|.normal=>∃t v,fn.results.toList=[.tmp t]/\get S.env t=some v/\v.pureV=true/\R v
 |_=>False
def A04{t:Nat}{v:V}(h1:fn.results.toList=[.tmp t])(h2:get S.env t=some v)(c:v.pureV=true)(d:R v):Bgx fn R .ret S:=⟨t,v,h1,h2,c,d⟩
def A05{f:FuncId}{c:Code}{args:List V}(hf:P.funcs[f]?=some fn)(g:fn.body=some c)(hl:args.length<=fn.ntmps)
  (h:∀w0 N0,AW P w0 N0 c (Bgx fn R) ⟨Nb 0 args,[],0,fn.ntmps⟩):AC P f args R:=by
 intro w N xs hN z hp
 refine calls_of_wp hf g (wp_mono (h ⟨w,λ_=>False,λ_ _=>none,[]⟩ N _ w ⟨_,Bhe hl hN z hp⟩) ?_)
 .rintro e y w'⟨S',m,⟨μ,l⟩⟩
  have j:(∃t v,fn.results.toList=[.tmp t]/\get S'.env t=some v/\v.pureV=true/\R v)->∃v,(results fn y.tmps).run P w'=.ok v w'/\∃x r,Ending.returned v=.returned x/\R r/\Pur w' N x r/\Below w.heap.size w w':=by
   rintro⟨t,v,h1,h2,h3,h4⟩;refine⟨y.tmps.getD t undef,?_,_,v,rfl,h4,((l.env t v h2).2.pureV h3).keep (Ex.refl _ _) (λb _ g=>.inl g),l.below.plain⟩;rw[Rp,Sem.run_bind,Gk,Sem.run_map,h1];rfl
  cases e with
  |ret=>exact⟨l.defers,j m⟩
  |normal=>exact⟨l.defers,j m⟩
  |_=>exact m.elim
end
def Bku(P:Program)(f j:FuncId)(sz:Nat)(ty:TypeId)(es h:List V)(F:Nat->Nat->V):Prop:=ACX P f (λx=> #[x,.func (.func j) #[] #[]]) sz ty es h F
def Avh{ah:List Oper}{x y:Operand}{ab g0:FuncId}{az:Array TypeId}{v sz:Nat}{t:List V}
  (hc:Bku P ab g0 sz ty es t F)(aw:es.all Ih=true)(al:t.all Ih=true)(a1:P.funcs[ab]?=some fn)(hb:fn.body.isSome=true)(hn:(fn.name== "runtime.NumGoroutine")=false)
  (hg:o.guard=none)(a2:o.op=.call {callee:=.value f,args:= #[x,y],argTypes:=az})(hf:S.evc true f=some (.fn ab))(hy:S.evc true y=some (.fn g0))
  (hx:S.evc true x=some (.sl d v sz es.length))(ho:get S.objs d=some ⟨v,sz,ty,es⟩)(hs:({S with objs:=(d,⟨v,sz,ty,t⟩)::S.objs}:AS).putv o.dst (F d v)=some S')
  (h:Jb P w0 N0 ops Q (i+1) ah S'):Jb P w0 N0 ops Q i (o::ah) S:=Alr hc (λa w D μ m=>by simp[S0 m hy]) aw al a1 hb hn hg a2 hf hx ho hs h
variable {len off:Nat}{te:TypeId}
def Zj(g:Nat)(ty:TypeId)(e:Nat×Nat):∀(vs:List Value)(o:Nat)(w:World)(d:Array Value),w.heap[g]?=some (.cells d ty e)->
  ∃c,(w.setCells g o vs).heap[g]?=some (.cells c ty e)/\c.size=d.size/\∀j,j<o->c[j]?=d[j]?
 |[],_,w,d,h=>⟨d,h,rfl,λ_ _=>rfl⟩
 |v::r,o,w,d,h=>by
  have h1:(w.setCell ⟨g,o,none⟩ v).heap[g]?=some (.cells (d.setIfInBounds o v) ty e):=by simp[World.setCell,Lp,h]
  have⟨c,h2,k,f⟩:=Zj g ty e r (o+1) _ _ h1;refine⟨c,h2,by simpa using k,λj hj=>?_⟩;rw[f j oM];simp[show¬o=j by omega]
def Zk(g:Nat):∀(vs:List Value)(o:Nat)(w:World),(w.setCells g o vs).os=w.os/\(w.setCells g o vs).tape=w.tape/\(w.setCells g o vs).output=w.output/\(w.setCells g o vs).heap.size=w.heap.size/\∀b,b≠g->(w.setCells g o vs).heap[b]?=w.heap[b]?
 |[],_,w=>⟨rfl,rfl,rfl,rfl,λ_ _=>rfl⟩
 |v::r,o,w=>by
  have⟨h1,h2,d,f,h⟩:=Zk g r (o+1) (w.setCell ⟨g,o,none⟩ v);refine⟨h1,h2,d,f.trans Gi,λb c=>(h b c).trans ?_⟩;simp[World.setCell,Lp,show¬g=b from λe=>c e.symm]
section
def Zl(cells:Array Value)(n:Nat):(Builtin.zeroCells cells n).toList.length=n*cells.size:=by simp[Builtin.zeroCells]
def Aki{cells:Array Value}(h1:∀v∈cells.toList,v.oneCell'=true):∀v∈(Builtin.zeroCells cells n).toList,v.oneCell'=true:=by
 intro v e;simp only[Builtin.zeroCells]at e;have⟨j,d⟩:=De e;simp at d;obtain⟨q,c,rfl⟩:=d
 have c:q<n*cells.size:=by
  have:=Ar c;simpa using this
 refine h1 _ ?_
 have f:0<cells.size:=by
  rcases Eu cells.size with h|h
  .rw[h]at c;simp at c
  .exact h
 have:=Dd q f;rw[getElem!_pos cells (q%cells.size) this];simp
def A06(w:World)(t e ty:TypeId)(z:Value)(g:P.underlying t=some (.slice e))(h:(zeroValue e).run P w=.ok z w)(h1:∀v∈z.cells.toList,v.oneCell'=true)(b o n c:Nat)(hn:0<n)
  (k:∀j,j<n*z.cells.size->(w.cell? ⟨b,o+j,none⟩).isSome=true)(f:∀j,j<n*z.cells.size->w.frozen? ⟨b,o+j,none⟩=false):
  (Builtin.clear_ #[t] ty #[.slice (some ⟨b,o,none⟩) n c]).run P w=.ok (.tuple #[]) (w.setCells b o (Builtin.zeroCells z.cells n).toList):=by
 have d:=run_storeCells_cells (P:=P) b o (Builtin.zeroCells z.cells n).toList 0 w (by rw[Zl];simpa using k) (by rw[Zl];simpa using f) (Aki h1);simp only[Eb]at d;obtain⟨m,rfl⟩:∃m,n=m+1:=⟨n-1,by omega⟩;simp[Builtin.clear_,run_underlying g,h,d]
def A07(h:RelM D w0 N0 μ S a w){s:Value}{o:Ob}{z:Value}(ht:Fw P t=some te)(hz:(zeroValue te).run P w=.ok z w)(ai:z.cells.size=o.sz)(h1:∀v∈z.cells.toList,v.oneCell'=true)
  (hs:Enc w (Fp N0 μ S) μ s (.ss d o.v o.sz off len))(ho:get S.objs d=some o)(ao:off+len=o.es.length):
  ∃w',(Builtin.clear_ #[t] ty #[s]).run P w=.ok (.tuple #[]) w'/\RelM D w0 N0 μ {S with objs:=(d,{o with es:=o.es.take off})::S.objs} a w':=by
 have hu:=Dr ht;have⟨l,hl,af⟩:=h.objs d o ho;generalize u:V.ss d o.v o.sz off len=sv at hs;cases hs with
 |pur hs=>subst u;cases hs
 |ss d' v' au al am g c r A h2 h3 hA=>
  injection u with e1 e2 e3 e4 e5;subst e1 e2 e3 e4 e5
  by_cases h0:len=0
  .subst h0
   refine⟨w,?_,?_⟩
   .cases A<;>simp[Builtin.clear_,run_underlying hu]
   .have aj:o.es.take off=o.es:=Ba om;rw[aj];refine(h.update (D':=D) (d:=d) (o':=o) (l':=l) (μ':=μ) (λ_ _ _ y=>y) h.fresh hl h.below (Ex.refl _ _) (λ_ _ _ _ _ _ _=>rfl) (λg c e=>.inr ⟨o,c,ho,by rw[hl,e]⟩) (λN' hN=>?_)).1;exact af.keep (w':=w) (N':=N') (μ':=μ) (Ex.refl _ _) hN (λ_ _ _ y=>y) λ_ _ _=>rfl
  obtain⟨hm,rfl⟩:=hA om;rw[hm]at hl;cases hl;have⟨o1,o2,o3,o4,n,o5,o6,o7⟩:=af
  have ag:off*o.sz+len*o.sz<=n.size:=by
   rw[o6,<-Ca];exact By _ om
  have ab:=A06 (P:=P) w t te ty z hu hz h1 g (off*o.sz) len c om
   (λj hj=>by rw[ai]at hj;simp[World.cell?,o5,show off*o.sz+j<n.size by omega])
   (λj hj=>by simp[World.frozen?,o5])
  refine⟨_,ab,?_⟩;have⟨ae,a1,a2,a3⟩:=Zj g o.ty (0,0) (Builtin.zeroCells z.cells len).toList (off*o.sz) w n o5;have⟨k1,k2,k3,ad,k5⟩:=Zk g (Builtin.zeroCells z.cells len).toList (off*o.sz) w;have f:∀b,b<w.heap.size->b≠g->(w.setCells g (off*o.sz) (Builtin.zeroCells z.cells len).toList).heap[b]?=w.heap[b]? :=λb _ ak=>k5 b ak
  have an:=(B3.1 o5).1
  have m:Ex w (Fp N0 μ S) (w.setCells g (off*o.sz) (Builtin.zeroCells z.cells len).toList):=
   ⟨by rw[ad];exact A2 _,λb hb hN=>f b hb (λe=>hN (by subst e;exact .inr ⟨d,o,r,ho,hm⟩))⟩
  refine(h.update (D':=D) (d:=d) (o':={o with es:=o.es.take off}) (l':=some (g,r)) (μ':=μ) (λ_ _ _ y=>y) h.fresh hm ?_ m
   (λd1 ar g1 c1 aa h1 h2=>f g1 (h.block_lt h1 h2) (λe=>aa (by subst e;exact h.inj _ _ _ _ _ _ _ h1 ho h2 hm)))
   (λg2 c2 e=>by
    simp only[Am,Bw]at e;obtain⟨rfl,rfl⟩:=e;exact .inr ⟨o,r,ho,hm⟩) (λN' hN=>?_)).1
  .refine⟨k1.trans h.below.os,k2.trans h.below.tape,k3.trans h.below.output,by rw[ad];exact h.below.size,λk hk hx=>?_⟩
   .rw[f k (Cp hk h.below.size) (λe=>by
     subst e
     rcases o1 with h3|h3
     .exact absurd hk om
     .exact hx h3)]
    exact h.below.block k hk hx
  .refine⟨o1,by simp only[C8];omega,o3,λe he=>o4 e (Da he),ae,a1,by rw[a2,o6],λk e j c he hj=>?_⟩;have hk:k<off:=by have:=(Al.1 he).1;simp at this;omega
   simp only[Cq hk]at he;have⟨x,hx,ah⟩:=o7 k e j c he hj
   have aq:j<o.sz:=by
    have h5:=(o4 e (Ar he)).1;have:=(Al.1 hj).1;omega
   refine⟨x,?_,ah.keep m hN (λ_ _ _ y=>y)⟩
   rw[a3 _ ?_]
   .exact hx
   .show k*o.sz+j<off*o.sz
    have:=By o.sz (show k+1<=off by omega);rw[Ca]at this;omega
 |_=>cases u
def A08{c:List Oper}{x:Operand}{ob:Ob}{z:Value}(hg:o.guard=none)(hd:o.dst=none)
  (s:o.op=.call {callee:=.builtin .clear,args:= #[x],argTypes:= #[t]})(y:S.evc true x=some (.ss d ob.v ob.sz off len))(l:get S.objs d=some ob)(m:off+len=ob.es.length)
  (ht:Fw P t=some te)(r:∀w,(zeroValue te).run P w=.ok z w)(h:z.cells.size=ob.sz)(h1:∀v∈z.cells.toList,v.oneCell'=true)
  (u:({S with objs:=(d,{ob with es:=ob.es.take off})::S.objs}:AS)=S')(k:Jb P w0 N0 ops Q (i+1) c S'):Jb P w0 N0 ops Q i (o::c) S:=by
 rintro D a w hD⟨μ,n⟩;refine wpList_plain hg λK hK=>?_
 have⟨w',e,g⟩:=A07 (P:=P) (ty:=o.type) n ht (r w) h h1 (n.evc y rfl) l m;unfold Oper.wp
 have f:(execOp a.eval o).run P w=.ok (.value (.tuple #[])) w':=by
  unfold execOp;rw[s];simp[resolve,invoke,builtin,e,Result.andThen]
 rw[f];subst u;refine hK _ _ ?_;rw[hd];exact k D _ _ (λj hj=>Fx (hD j hj)) ⟨μ,g⟩
end
variable {xv:V}{sT:TypeId}
section
def A09(h:RelM D w0 N0 μ S a w){dT:TypeId}{s:Value}{o:Ob}(ht:Fw P dT=some te)(hn:Hz P te=some 1)
  (hs:Enc w (Fp N0 μ S) μ s (.sl d o.v o.sz len))(ho:get S.objs d=some o)(a3:o.es.length=len)(aa:o.sz=1)(hx:Enc w (Fp N0 μ S) μ x xv)(he:S.elems xv=some (1,es))(ay:es.length<=len):
  ∃w',(Builtin.copy_ #[dT,sT] ty #[s,x]).run P w=.ok (goInt es.length) w'/\RelM D w0 N0 μ {S with objs:=(d,{o with es:=es++o.es.drop es.length})::S.objs} a w':=by
 have hu:=Dr ht;unfold Hz at hn;obtain⟨A,c,rfl,a6,ai⟩:=h.elems hx he
 have ab:es.length=0->RelM D w0 N0 μ {S with objs:=(d,{o with es:=es++o.es.drop es.length})::S.objs} a w:=λh0=>by
  have au:({o with es:=es++o.es.drop es.length}:Ob)=o:=by
   rw[Fy h0];rfl
  rw[au];have⟨l,hl,aj⟩:=h.objs d o ho;refine(h.update (D':=D) (d:=d) (o':=o) (l':=l) (μ':=μ) (λ_ _ _ z=>z) h.fresh hl h.below (Ex.refl _ _) (λ_ _ _ _ _ _ _=>rfl) (λg c e=>.inr ⟨o,c,ho,by rw[hl,e]⟩) (λN' hN=>?_)).1;exact aj.keep (w':=w) (N':=N') (μ':=μ) (Ex.refl _ _) hN (λ_ _ _ z=>z) λ_ _ _=>rfl
 cases hs with
 |pur hs=>cases hs
 |slv _ _ _ B hm=>exact⟨w,by rw[show es.length=0 by omega];exact run_copy_none w dT sT ty te B A 0 0 0 c hu hn sm,ab om⟩
 |slr _ _ _ _ g m hm a5 a4=>
  by_cases h0:es.length=0
  .exact⟨w,by rw[h0];exact run_copy_none w dT sT ty te _ A len m 0 c hu hn sm,ab h0⟩
  have ax:es≠[]:=λe=>by subst e;simp at h0
  obtain⟨hf,ad,vs,rfl,t,az,n⟩:=ai ax;have⟨l,u,aj⟩:=h.objs d o ho;rw[hm]at u;cases u;have⟨o1,o2,o3,o4,ag,o5,o6,o7⟩:=aj;rw[aa,Gs]at o6;rw[Gs]at t
  have aq:∀v∈vs,v.oneCell'=true:=by
   intro v hv;have⟨j,hj⟩:=De hv;have a1:j<(flat es).length:=by rw[<-n.1];exact(Al.1 hj).1
   have hc:=Ah a1;refine(n.2 j v _ hj hc).cell_oneCell ?_;have ae:=Ar hc;unfold flat at ae;have⟨e,af,av⟩:=List.mem_flatMap.1 ae;exact(hf e af).2 _ av
  have r:=run_copy_row (P:=P) w dT sT ty te g 0 len m ad es.length c ag o.ty vs hu hn o5 (by rw[t];exact(G6 ay).symm)
   az om aq
  rw[t]at r;simp only[Kw,D8,Dn]at r;refine⟨_,r,?_⟩
  have f:Ex w (Fp N0 μ S) (w.setRow g (vs++ag.toList.drop es.length).toArray):=
   ⟨by simp,λb hb hN=>setRow_other w g b _ (λe=>hN (by subst e;exact .inr ⟨d,o,m,ho,hm⟩))⟩
  refine(h.update (D':=D) (d:=d) (o':={o with es:=es++o.es.drop es.length}) (l':=some (g,m)) (μ':=μ) (λ_ _ _ z=>z) h.fresh hm (Alg h.below o1 _) f
   (λd1 a7 g1 c1 ar h1 h2=>setRow_other w g g1 _ (λe=>ar (by subst e;exact h.inj _ _ _ _ _ _ _ h1 ho h2 hm)))
   (λg2 c2 e=>by
    simp only[Am,Bw]at e;obtain⟨rfl,rfl⟩:=e;exact .inr ⟨o,m,ho,hm⟩) (λN' hN=>?_)).1
  have am:∀e1∈es++o.es.drop es.length,e1.fits o.sz:=λe1 af=>by
   rcases Cc.1 af with h1|h1
   .rw[aa];exact hf e1 h1
   .exact o4 e1 (Df h1)
  have aw:(es++o.es.drop es.length).length=o.es.length:=by rw[Aq,D6];omega
  refine⟨o1,by simp only[aw];exact o2,o3,am,_,setRow_heap w g ag _ o.ty (0,0) o5,?_,?_⟩
  .simp only[Dz,Aq,t,D6,I7,aa,Gs];omega
  .intro k e j c2 hk hj;simp only[aa,Gs]at o7|-
   by_cases a2:k<es.length
   .rw[Bt a2]at hk;have ak:=hf e (Ar hk)
    have ah:j=0:=by
     have:=(Al.1 hj).1;have:=ak.1;omega
    subst ah;have al:=Qa hf hk hj;simp only[Gs,Eb]at al|-;have an:vs[k]?=some (vs[k]'(by omega)):=Ah om
    refine⟨vs[k]'(by omega),?_,?_⟩
    .rw[H8,Bt oM];exact an
    .exact(n.2 k _ c2 an al).keep f hN (λ_ _ _ z=>z)
   .rw[Bn om,Di]at hk;have ak:=o4 e (Ar hk)
    have ah:j=0:=by
     have:=(Al.1 hj).1;have:=ak.1;omega
    subst ah;rw[show es.length+(k-es.length)=k by omega]at hk;have⟨y,ao,a0⟩:=o7 k e 0 c2 hk hj;simp only[Eb]at ao|-;refine⟨y,?_,a0.keep f hN (λ_ _ _ z=>z)⟩;rw[H8,Bn om,Di,t,show es.length+(k-es.length)=k by omega];rw[<-ao];simp
def AS.copyTS(S:AS)(x y:Operand)(dst:Option Nat):Option AS:=match S.evc true x,S.evc true y with
 |some (.sl d v sz len),some c=>match get S.objs d,S.elems c with
  |some ob,some (n,es)=>if ob.v=v/\ob.sz=sz/\sz=1/\n=1/\ob.es.length=len/\es.length<=len then AS.putv {S with objs:=(d,{ob with es:=es++ob.es.drop es.length})::S.objs} dst (.i es.length)else none
  |_,_=>none
 |_,_=>none
def A1a{c:List Oper}{x y:Operand}{s:TypeId}(hg:o.guard=none)
  (u:o.op=.call {callee:=.builtin .copy,args:= #[x,y],argTypes:= #[s,sT]})(ht:Fw P s=some te)(hn:Hz P te=some 1)
  (hs:S.copyTS x y o.dst=some S')(k:Jb P w0 N0 ops Q (i+1) c S'):Jb P w0 N0 ops Q i (o::c) S:=by
 unfold AS.copyTS at hs;split at hs
 case h_2=>cases hs
 rename_i d v sz len xv z t;split at hs
 case h_2=>cases hs
 rename_i ob n es r he;split at hs
 case isFalse=>cases hs
 rename_i hc;obtain⟨rfl,rfl,m,rfl,rfl,h⟩:=hc;rintro D a w hD⟨μ,g⟩;refine wpList_plain hg λK hK=>?_
 have⟨w',e,l⟩:=A09 (P:=P) (sT:=sT) (ty:=o.type) g ht hn (g.evc z rfl) r rfl m (g.evc t rfl) he h;unfold Oper.wp
 have f:(execOp a.eval o).run P w=.ok (.value (goInt es.length)) w':=by
  unfold execOp;rw[u];simp[resolve,invoke,builtin,e,Result.andThen]
 rw[f];exact hK _ _ (k D _ _ (λj hj=>Fx (hD j hj)) ⟨μ,l.putv hs (.pur (.int _ _))⟩)
def A1b{t:Tr}{c:Bool}{e:FuncId}{j:Array TypeId}
  (z:Gon G w0)(u:c=true->Jp G P e vs (λr=>r=g))(l:P.funcs[e]?=some fn)(hb:fn.body.isSome=true)(x:(fn.name== "runtime.NumGoroutine")=false)(m:Gz ops i=some o)(k:(ks.all λd=>(get S.objs (0+d)).isNone)=true)
  (y:S.gv ops o=some c)(w:o.op=.call {callee:=.value f,args:=args,argTypes:=j})(n:S.evc c f=some (.fn e))(s:S.args c args.toList=some vs)(hp:vs.all V.pureV=true)(hs:S.putv o.dst (Fj o c g)=some S')(h:AWT P 0 w0 ops Q t S'):AWT P 0 w0 ops Q (.take i ks t) S:=by
 rw[C0]at m;exact⟨o,S',m,k,.inr (.inl ⟨c,f,args,j,e,fn,vs,g,y,w,n,l,hb,x,s,hp,λh=>(u h).b z,hs⟩),h⟩
def Dc(c:Nat)(h:Q .ret {S with nx:=c+S.nx}):AW P w0 N0 .ret Q S:=T1 (S':={S with nx:=c+S.nx}) (Wg rfl rfl rfl (Vv _ _)) (Aj h)
end
attribute [simp] AS.copyTS
def AS.viewB(S:AS):V->Option V
 |.bp d v sz k off=>if off=0 then(match get S.objs d with
  |some o=>if o.v=v/\o.sz=sz then(match Gz o.es k with
   |some (.agg cs)=>match S.viewL cs with
    |some us=>some (.rp (.agg us))
    |none=>none
   |_=>none)else none
  |none=>none)else none
 |v=>S.view v
def AS.viewsB(S:AS):List V->Option (List V)
 |[]=>some []
 |v::r=>match S.viewB v,S.viewsB r with
  |some u,some us=>some (u::us)
  |_,_=>none
section
def RelM.viewB(h:RelM D w0 N0 μ S a w){v:V}(z:Enc w (Fp N0 μ S) μ x v)(e:S.viewB v=some u):Pur w N0 x u:=by
 have r:S.view v=some u->Pur w N0 x u:=λe=>h.view z e
 cases v<;>simp only[AS.viewB]at e
 case bp d v sz k off=>
  split at e
  case isFalse=>cases e
  rename_i h0;split at e
  case h_2=>cases e
  rename_i o ho;split at e
  case isFalse=>cases e
  rename_i ad;obtain⟨rfl,rfl⟩:=ad;split at e
  case h_2=>cases e
  rename_i cs n;split at e
  case h_2=>cases e
  rename_i us aa;cases e;subst h0;rw[C0]at n;obtain⟨h1,h2⟩:=Z1 aa;cases z with
  |pur z=>cases z
  |bp _ _ _ _ _ g ai hm=>
   obtain⟨l,hl,af⟩:=h.objs d o ho;rw[hm]at hl;injection hl with hl;subst hl;obtain⟨hf,_,_,h4,ab,h5,h6,h7⟩:=af;have ag:=h4 _ (Ar n);have ah:cs.length=o.sz:=ag.1
   have f:∀(j:Nat)c,us[j]?=some c->∃y,w.cell? ((⟨g,k*o.sz,none⟩:Addr).add j)=some y/\Pur w N0 y c/\c.isCell=true:=by
    intro j c m;have aj:=(Al.1 m).1;have s:cs[j]?=some cs[j]:=Ah om;obtain⟨y,t,ae⟩:=h7 k _ j cs[j] n s;obtain⟨hp,hc⟩:=h.viewC ae (h2 j cs[j] c s m);exact⟨y,by rw[Addr.add_lit,cell_of_row w g _ ab o.ty (0,0) h5];exact t,hp,hc⟩
   refine .rp ⟨g,k*o.sz,none⟩ o.sz (.agg us) (λj=>(w.cell? ((⟨g,k*o.sz,none⟩:Addr).add j)).getD undef) (h.block_lt ho hm) (λhn=>?_) ⟨by show us.length=o.sz;omega,λc hc=>?_⟩ (λj c m=>?_) λj c m=>?_
   .have:=h.n0.1 _ hn;exact absurd hf (λhf=>hf.elim (λh=>by have:=this.1;simp only at*;omega) this.2)
   .obtain⟨j,m⟩:=De hc;obtain⟨_,_,_,h8⟩:=f j c m;exact h8
   .obtain⟨y,t,_,_⟩:=f j c m;simp only[t,Fv]
   .obtain⟨y,t,hp,_⟩:=f j c m;simp only[t,Fv];exact hp
 all_goals exact r e
def Wj:∀ {vs us:List V},S.viewsB vs=some us->us.length=vs.length/\∀(i:Nat)v u,vs[i]?=some v->us[i]?=some u->S.viewB v=some u
 |[],us,h=>by simp only[AS.viewsB,Am]at h;subst h;simp
 |c::cs,us,h=>by
  simp only[AS.viewsB]at h;split at h
  case h_2=>cases h
  rename_i u f h1 h2;cases h;have⟨k,g⟩:=Wj h2;refine⟨by simp[k],λi c' j d e=>?_⟩
  rcases i with _ |i
  .simp at d e;subst d e;exact h1
  .simp at d e;exact g i c' j d e
def Abt(h:∀d,get S.objs d=get T.objs d):∀(vs:List V),S.viewsB vs=T.viewsB vs:=by
 have c:∀v,S.viewC v=T.viewC v:=by
  intro v;cases v<;>simp only[AS.viewC]<;>rw[Afb h]
 have e:∀l,S.viewL l=T.viewL l:=by
  intro l
  induction l with
  |nil=>rfl
  |cons v l ih=>simp only[AS.viewL,c,ih]
 have f:∀v,S.viewB v=T.viewB v:=by
  intro v;cases v<;>simp only[AS.viewB,AS.view,c,e,h]
 intro vs
 induction vs with
 |nil=>rfl
 |cons v l ih=>simp only[AS.viewsB,f,ih]
def Aaa{g:FuncId}{ab:Array TypeId}{c:V}
  (hc:AC P g us (λr=>r=c))(ad:P.funcs[g]?=some fn)(hb:fn.body.isSome=true)(hn:(fn.name== "runtime.NumGoroutine")=false)
  (hg:S.gv ops o=some true)(ho:o.op=.call {callee:=.value f,args:=args,argTypes:=ab})(m:S.evc true f=some (.fn g))
  (ha:S.args true args.toList=some vs)(hp:S.viewsB vs=some us)(hl:c.light=true)(hs:S.putv o.dst (Fj o true c)=some S'):U4 P w0 ops i o S S':=by
 have⟨aa,ae⟩:=K4 hs;refine⟨Fj o true c,[],aa,λT t ag N0 D a w l hi ai K Q' hK=>?_⟩;replace hg:T.gv ops o=some true:=by rw[<-t.gv];exact hg
 replace m:T.evc true f=some (.fn g):=by rw[<-t.evc (by rw[ho];simp[Op.operands,Call.operands])];exact m
 replace ha:T.args true args.toList=some vs:=by rw[<-Jh (S:=S) (T:=T) (λx u=>t.evc (by rw[ho];simp[Op.operands,Call.operands];right;simpa using u) true)];exact ha
 replace hp:T.viewsB vs=some us:=by rw[<-Abt ag];exact hp
 have hs:=Mf (S:=T) (Fj o true c) (λd hd=>by rw[<-t.2.1];exact ae d hd);have⟨μ,l⟩:=l;rw[Lg l hg,Ab rfl];have k:=l.evc m rfl
 have ah:a.eval f=.func (.func g) #[] #[]:=by
  generalize a.eval f=y at k;cases k.pf;rfl
 have⟨h1,h2⟩:=Gc l rfl ha;have⟨h3,h4⟩:=Wj hp;unfold Oper.wp;rw[Ly ho ah ad hb hn]
 have h:=hc w N0 (args.toList.map a.eval) (λb hb=>Cp (l.n0.1 b hb).1 l.below.size) Gi (λj x v u hv=>by
  simp only[Bj,Ay]at u;obtain⟨y,hy,rfl⟩:=u;have z:j<vs.length:=by rw[<-h3];exact(Al.1 hv).1
  exact l.viewB (h2 j y vs[j] hy (Ah z)) (h4 j vs[j] v (Ah z) hv))
 have n:(args.toList.map a.eval).toArray=args.map a.eval:=by apply Fb;simp
 rw[n]at h;refine h.mono ?_;rintro e w'⟨x,r,rfl,rfl,s,af⟩;refine hK _ _ ⟨μ,((l.later af).putv hs ?_).more (λj z=>.inl z)⟩;unfold Fj
 split
 .exact .pur (s.of_light hl)
 .exact .whn _ _ _ (λ_=>.pur (s.of_light hl)) (λm=>by cases m)
def Af5:∀ {vs us:List V},S.views vs=some us->S.viewsB vs=some us
 |[],us,h=>h
 |v::r,us,h=>by
  simp only[AS.views]at h;split at h
  case h_2=>cases h
  rename_i u f h1 h2;cases h;have e:S.viewB v=some u:=by
   cases v<;>first|exact h1|(simp[AS.view,AS.viewC]at h1;done)
  simp only[AS.viewsB,e,Af5 h2]
def Jj{g:FuncId}{ab:Array TypeId}{c:V}
  (hX:i∈X)(hc:AC P g us (λr=>r=c))(ad:P.funcs[g]?=some fn)(hb:fn.body.isSome=true)(hn:(fn.name== "runtime.NumGoroutine")=false)
  (hg:S.gv ops o=some true)(ho:o.op=.call {callee:=.value f,args:=args,argTypes:=ab})(m:S.evc true f=some (.fn g))
  (ha:S.args true args.toList=some vs)(hp:S.views vs=some us)(hl:c.light=true)(hs:S.putv o.dst (Fj o true c)=some S'):Lb P kb w0 X ops i o S S':=.inr (.inr ⟨hX,Aaa hc ad hb hn hg ho m ha (Af5 hp) hl hs⟩)
def Aab{c:List Oper}{d:FuncId}{g:Array TypeId}{e:V}
  (w:AC P d us (λr=>r=e))(j:P.funcs[d]?=some fn)(x:fn.body.isSome=true)(s:(fn.name== "runtime.NumGoroutine")=false)
  (u:S.gv ops o=some true)(n:o.op=.call {callee:=.value f,args:=args,argTypes:=g})(k:S.evc true f=some (.fn d))
  (l:S.args true args.toList=some vs)(hp:S.views vs=some us)(m:e.light=true)(hs:S.putv o.dst (Fj o true e)=some S')(h:Jb P w0 N0 ops Q (i+1) c S')(lt:i<ops.length:=by simp):Jb P w0 N0 ops Q i (o::c) S:=
 Abs lt (Aaa w j x s u n k l (Af5 hp) m hs).gen h
def Abu{m:FuncId}{af:Array TypeId}{sz:Nat}(d:Nat)
  (hX:i∈X)(hc:ACO P m us sz ty (λF' t=>F'=F/\t=es))(ag:P.funcs[m]?=some fn)(hb:fn.body.isSome=true)(hn:(fn.name== "runtime.NumGoroutine")=false)
  (hg:S.gv ops o=some true)(ho:o.op=.call {callee:=.value f,args:=args,argTypes:=af})(hf:S.evc true f=some (.fn m))
  (ha:S.args true args.toList=some vs)(hp:S.views vs=some us)(hs:({S with objs:=(d,⟨S.nx+i,sz,ty,es⟩)::S.objs}:AS).putv o.dst (Fj o true (F d (S.nx+i)))=some S'):Lb P kb w0 X ops i o S S':=by
 have⟨ae,ah⟩:=K4 hs;refine .inr (.inr ⟨hX,Fj o true (F d (S.nx+i)),[(d,⟨S.nx+i,sz,ty,es⟩)],ae,λT hT ai N0 D a w k hi ak K Q' hK=>?_⟩);replace hg:T.gv ops o=some true:=by rw[<-hT.gv];exact hg
 replace hf:T.evc true f=some (.fn m):=by rw[<-hT.evc (by rw[ho];simp[Op.operands,Call.operands])];exact hf
 replace ha:T.args true args.toList=some vs:=by rw[<-Jh (S:=S) (T:=T) (λx hx=>hT.evc (by rw[ho];simp[Op.operands,Call.operands];right;simpa using hx) true)];exact ha
 replace hp:T.viewsB vs=some us:=by rw[<-Abt ai];exact Af5 hp
 have hs:=Mf (S:={T with objs:=(d,⟨T.nx+i,sz,ty,es⟩)::T.objs}) (dst:=o.dst) (Fj o true (F d (T.nx+i))) (λd hd=>by have:=ah d hd;simp only at this|-;rw[<-hT.2.1];exact this);rw[hT.2.2]at hK;have⟨μ,k⟩:=k;rw[Lg k hg,Ab rfl];have r:=k.evc hf rfl
 have aj:a.eval f=.func (.func m) #[] #[]:=by
  generalize a.eval f=y at r;cases r.pf;rfl
 have⟨h1,h2⟩:=Gc k rfl ha;have⟨h3,h4⟩:=Wj hp;unfold Oper.wp;rw[Ly ho aj ag hb hn]
 have n:=hc w N0 (args.toList.map a.eval) (λb hb=>Cp (k.n0.1 b hb).1 k.below.size) Gi (λj x v hx hv=>by
  simp only[Bj,Ay]at hx;obtain⟨y,hy,rfl⟩:=hx;have hj:j<vs.length:=by rw[<-h3];exact(Al.1 hv).1
  exact k.viewB (h2 j y vs[j] hy (Ah hj)) (h4 j vs[j] v (Ah hj) hv))
 have ab:(args.toList.map a.eval).toArray=args.map a.eval:=by apply Fb;simp
 rw[ab]at n;refine n.mono ?_;rintro e w'⟨x,F',t,l,rfl,⟨rfl,rfl⟩,z,s⟩;have u:=k.muSet_mono hi d l
 have⟨aa,_⟩:=k.update (D':=λj=>D j\/j=i) (d:=d) (o':=⟨T.nx+i,sz,ty,t⟩) (l':=l) (w':=w') (μ':=J2 μ d (T.nx+i) l) u (k.muSet_fresh i d _) (Dg _ _ _ _)
  (k.below.trans (z.mono k.below.size)) (Ex.of_below z _) (λd1 o1 g c _ h1 h2=>z.block g (k.block_lt h1 h2))
  (λg c e=>by
   have:=(s d (T.nx+i) (J2 μ d (T.nx+i) l) (λ_=>False) (Dg _ _ _ _)).2;rw[e]at this;exact .inl (this.1.elim id (λh=>h.elim)))
  (λN' _=>by
   have:=(s d (T.nx+i) (J2 μ d (T.nx+i) l) N' (Dg _ _ _ _)).2;cases l with
   |none=>exact this
   |some gc=>exact⟨.inl (Ae k.below.size (this.1.elim id (λh=>h.elim))),this.2⟩)
 refine hK _ _ ⟨_,aa.putv hs ?_⟩;unfold Fj
 split
 .exact(s d (T.nx+i) _ _ (Dg _ _ _ _)).1
 .exact .whn _ _ _ (λ_=>(s d (T.nx+i) _ _ (Dg _ _ _ _)).1) (λhf=>by cases hf)
def Yg{c:FuncId}{e:Array TypeId}{d:V}
  (s:i∈X)(t:AC P c us (λr=>r=d))(g:P.funcs[c]?=some fn)(u:fn.body.isSome=true)(m:(fn.name== "runtime.NumGoroutine")=false)
  (n:S.gv ops o=some true)(l:o.op=.call {callee:=.value f,args:=args,argTypes:=e})(h:S.evc true f=some (.fn c))
  (j:S.args true args.toList=some vs)(hp:S.viewsB vs=some us)(k:d.light=true)(hs:S.putv o.dst (Fj o true d)=some S'):Lb P kb w0 X ops i o S S':=
 .inr (.inr ⟨s,Aaa t g u m n l h j hp k hs⟩)
end
attribute [simp] AS.viewB AS.viewsB
section
end
section
def AX(P:Program)(w0:Bs)(N0:Nat->Prop)(ops:List Oper)(Q:Exit->AS->Prop)(n:Nat)(c:Array Bool)(S:AS):Prop:=
 ∀a w,Ti (λj=>c.getD j false=true) w0 N0 S a w->wpAny P .any ops.toArray (post w0 N0 Q) n c a w
def Af6(P:Program)(w0:Bs)(N0:Nat->Prop)(ops:List Oper)(Q:Exit->AS->Prop)(i:Nat)(o:Oper)(S:AS)(R:AS->Prop):Prop:=
 ∀(D:Nat->Prop)(a:Act)(w:World),Ti D w0 N0 S a w->¬D i->(∀j,D j->j<ops.length)->∀(K:Act->World->Prop),(∀S' c w',R S'->Ti (λj=>D j\/j=i) w0 N0 S' c w'->K c w')->
  if Region.wanted o (yielded ops.toArray a.tmps)=true then o.wp P a w K (post w0 N0 Q)else K (a.put o.dst undef) w
def Aoj(h:Lb P kb w0 X ops i o S S'):Af6 P w0 N0 ops Q i o S (λT=>T=S'):=
 λ_ _ _ f j c _ e=>We f j c h (λg w' d=>e S' g w' rfl d)
def Aok{c:Array Bool}(l:List Nat)(hc:(c.size==ops.length&&(Region.ready .any ops.toArray c==l&& !l.isEmpty))=true)
  (h:∀i∈l,∃o R,ops[i]?=some o/\Af6 P w0 N0 ops Q i o S R/\∀S',R S'->AX P w0 N0 ops Q n (c.setIfInBounds i true) S'):AX P w0 N0 ops Q (n+1) c S:=by
 simp only[Be,beq_iff_eq]at hc;have⟨aa,z,x⟩:=hc;intro a w hr;refine⟨λh0=>(by rw[z]at h0;subst h0;simp at x),λi s=>?_⟩;have k:=(mem_ready.1 s).1
 have d:i<c.size:=by
  rcases Cz i c.size with h|h
  .exact h
  .simp[Dp h]at k
 have t:¬(c.getD i false=true):=by
  intro h1;simp[d]at k h1;rw[k]at h1;cases h1
 have u:∀j,c.getD j false=true->j<ops.length:=λj e=>by
  rcases Cz j c.size with h|h
  .omega
  .simp[Dp h]at e
 rw[z]at s;have⟨o,R,ho,hs,f⟩:=h i s;unfold wpOp;have y:ops.toArray[i]?=some o:=sG ho
 simp only[y]
 have:=hs _ a w hr t u (wpAny P .any ops.toArray (post w0 N0 Q) n (c.setIfInBounds i true)) (λS' a' w' hR g=>by
  have⟨μ',g⟩:=g;refine f S' hR a' w' ⟨μ',g.more (λj e=>?_)⟩
  rcases e with e|e
  .by_cases m:i=j
   .subst m;simp[d]
   .rw[getD_set_ne false m];exact e
  .subst e;simp[d])
 split
 .rename_i r;rw[Ab r]at this;exact .inl this
 .rename_i r;rw[I r]at this;exact this
def Ahl{c:Array Bool}(i:Nat)(g:(c.size==ops.length&&(Region.ready .any ops.toArray c== [i]&& ![i].isEmpty))=true)(d:Gz ops i=some o)(hs:Lb P 0 w0 [i] ops i o S S')
  (h:AX P w0 N0 ops Q n (c.setIfInBounds i true) S'):AX P w0 N0 ops Q (n+1) c S:=
 Aok [i] g (λj e=>by
  simp only[Bz]at e;subst e;rw[C0]at d;exact⟨o,_,d,Aoj hs,λS' f=>by subst f;exact h⟩)
def Bb2{c:Array Bool}(i:Nat){R:AS->Prop}(f:(c.size==ops.length&&(Region.ready .any ops.toArray c== [i]&& ![i].isEmpty))=true)(d:Gz ops i=some o)(hs:Af6 P w0 N0 ops Q i o S R)
  (h:∀S',R S'->AX P w0 N0 ops Q n (c.setIfInBounds i true) S'):AX P w0 N0 ops Q (n+1) c S:=
 Aok [i] f (λj e=>by
  simp only[Bz]at e;subst e;rw[C0]at d;exact⟨o,_,d,hs,h⟩)
def A5b{c:Array Bool}(i j:Nat){o':Oper}{g:AS}(s:(c.size==ops.length&&(Region.ready .any ops.toArray c== [i,j]&& ![i,j].isEmpty))=true)(l:Gz ops i=some o)(d:Gz ops j=some o')
  (hs:Lb P 0 w0 [i,j] ops i o S S1)(f:Lb P 0 w0 [i,j] ops j o' S g)
  (h:AX P w0 N0 ops Q n (c.setIfInBounds i true) S1)(r:AX P w0 N0 ops Q n (c.setIfInBounds j true) g):AX P w0 N0 ops Q (n+1) c S:=
 Aok [i,j] s (λk m=>by
  rw[C0]at l d;simp only[Bu,Ck,or_false]at m
  rcases m with rfl|rfl
  .exact⟨o,_,l,Aoj hs,λS' e=>by subst e;exact h⟩
  .exact⟨o',_,d,Aoj f,λS' e=>by subst e;exact r⟩)
def Aol{c:Bool}{d:FuncId}{g:Array TypeId}
  (t:c=true->AC P d vs (λr=>r=e))(j:P.funcs[d]?=some fn)(u:fn.body.isSome=true)(n:(fn.name== "runtime.NumGoroutine")=false)
  (s:S.gv ops o=some c)(m:o.op=.call {callee:=.value f,args:=args,argTypes:=g})(k:S.evc c f=some (.fn d))(l:S.args c args.toList=some vs)(hp:vs.all V.pureV=true)(hs:S.putv o.dst (Fj o c e)=some S'):Lb P kb w0 X ops i o S S':=
 .inl (.inr (.inl ⟨c,f,args,g,d,fn,vs,e,s,m,k,j,u,n,l,hp,λh=>(t h).b,hs⟩))
def Bhk{c:Array Bool}(L M:List Nat)(l:(c.size==ops.length&&(Region.ready .any ops.toArray c).isEmpty)=true)(hs:fin ops L M S=S')(h:Q .normal S'):AX P w0 N0 ops Q n c S:=by
 simp only[Be,beq_iff_eq]at l;have⟨u,o⟩:=l;have g:=sG o
 subst hs;rintro a w⟨μ,f⟩
 have m:post w0 N0 Q .normal a w:=by
  refine⟨_,h,Me (S.bump ops.length) L M _ _ _ _ ⟨μ,⟨f.defers,f.size,f.below,f.n0,λd v s=>?_,f.objs,f.inj,f.env⟩⟩⟩
  rcases f.fresh d v s with h3|⟨j,t,e⟩
  .exact .inl (by show v<S.nx+ops.length;omega)
  .have r:j<c.size:=by
    rcases Cz j c.size with h|h
    .exact h
    .simp[Dp h]at t
   exact .inl (by show v<S.nx+ops.length;omega)
 cases n with
 |zero=>exact⟨g,m⟩
 |succ n=>exact⟨λ_=>m,λi k=>by rw[g]at k;cases k⟩
def A5c{id:Nat}(e:P.follows .mixedOrders=true)(h:AX P w0 N0 ops Q ops.length (Array.replicate ops.length false) S):AW P w0 N0 (.region id ops.toArray true) Q S:=by
 rintro a w⟨μ,f⟩;refine wp_region_any e ?_;have c:ops.toArray.size=ops.length:=sm;rw[c];exact h a _ ⟨μ,f.drew.more (λj d=>d.elim)⟩
def A1c{m:FuncId}{ae:Array TypeId}{R:V->List (Nat×Ob)->Prop}
  (hG:Gon G w0)(hc:U5 G P m vs ins R)(af:P.funcs[m]?=some fn)(hb:fn.body.isSome=true)(hn:(fn.name== "runtime.NumGoroutine")=false)
  (hg:S.gv ops o=some true)(ho:o.op=.call {callee:=.value f,args:=args,argTypes:=ae})(hf:S.evc true f=some (.fn m))
  (ha:S.args true args.toList=some vs)(d:∀k q,get ins k=some q->get S.objs k=some q)
  (h:∀r c nx,R r c->S.nx+ops.length+1<=nx->(∀k,get c k=none->get ins k=none)/\∃S',({S with objs:=c++S.objs,nx:=nx}:AS).putv o.dst (Fj o true r)=some S'):
  Af6 P w0 N0 ops Q i o S (λS'=>∃r c nx,R r c/\S.nx+ops.length+1<=nx/\({S with objs:=c++S.objs,nx:=nx}:AS).putv o.dst (Fj o true r)=some S'):=by
 rintro D a w⟨μ,l⟩hi hD K hK;rw[Lg l hg,Ab rfl];have⟨h1,h2⟩:=Gc l rfl ha
 have t:=l.hand (nx:=S.nx+ops.length+1) (l.fresh_lt hD) (vs:=vs) (xs:=args.toList.map a.eval) (ins:=ins) Gi d (λj x v hx hv=>by
  simp only[Bj,Ay]at hx;obtain⟨y,hy,rfl⟩:=hx;exact h2 j y v hy hv)
 have s:=hc ⟨w,Mg μ ins,μ,[]⟩ _ μ (S.nx+ops.length+1) (args.toList.map a.eval) (hG.hand l d) Gi rfl t
 refine T6 ho (S0 l hf) af hb hn s ?_ ?_ ?_
 .rintro x w'⟨x',r,c,e,μ',n,hR,u,z⟩;cases n;have⟨ab,S',hs⟩:=h r c e hR u;have⟨ad,aa⟩:=l.back d ab z;refine hK S' _ _ ⟨r,c,e,hR,u,hs⟩ ⟨μ',(ad.putv hs ?_).more (λj hj=>hj.elim)⟩;unfold Fj
  split
  .exact aa
  .exact .whn _ _ _ (λ_=>aa) (λhf=>by cases hf)
 .rintro ch w'⟨x',r,c,e,μ',n,_⟩;cases n
 .rintro w'⟨x',r,c,e,μ',n,_⟩;cases n
end
section
def Ady{a:Int}:∀ {es:List MapEntry},(es.map Pc).Nodup->∀e∈es,Pc e=a->H3 a es=some e.val
 |[],_,e,c,_=>by cases c
 |x::r,f,e,c,d=>by
  rw[Br,I2]at f;unfold H3
  rcases Bu.1 c with rfl|c
  .rw[Ab d]
  .rw[I (λh=>f.1 (by rw[h,<-d];exact Bc.2 ⟨e,c,rfl⟩))];exact Ady f.2 e c d
def Rs{a:Int}{v:Value}:∀ {es:List MapEntry},H3 a es=some v->∃e∈es,Pc e=a
 |[],h=>by cases h
 |x::r,h=>by
  unfold H3 at h
  split at h
  .rename_i f;exact⟨x,Fc ..,f⟩
  .have⟨e,d,c⟩:=Rs h;exact⟨e,Dt _ d,c⟩
def J5(es:Array MapEntry)(c:Array Nat):List Int:=(leftOf es c).toList.map Pc
def Wk{es:Array MapEntry}{c:Array Nat}(h:(es.toList.map Pc).Nodup):(J5 es c).Nodup:=by
 unfold J5 leftOf;rw[Array.toList_filter];exact h.sublist ((Qx ..).map _)
def Akj{es:Array MapEntry}{c:Array Nat}(h:(leftOf es c).size=0):J5 es c=[]:=by
 unfold J5;rw[Array.eq_empty_of_size_eq_zero h];rfl
def L1{es:Array MapEntry}{c:Array Nat}{x:MapEntry}:x∈(leftOf es c).toList↔x∈es.toList/\c.contains x.born=false:=by
 unfold leftOf;rw[Array.toList_filter,Nj];simp
def Ayd:∀ {l:List MapEntry}{x e:MapEntry},(l.map Pc).Nodup->x∈l->e∈l->Pc x=Pc e->x=e
 |[],_,_,_,f,_,_=>by cases f
 |y::r,x,e,c,f,g,d=>by
  rw[Br,I2]at c
  rcases Bu.1 f with h1|h1
  .rcases Bu.1 g with h2|h2
   .rw[h1,h2]
   .exact(c.1 (Bc.2 ⟨e,h2,by rw[<-d,h1]⟩)).elim
  .rcases Bu.1 g with h2|h2
   .exact(c.1 (Bc.2 ⟨x,h1,by rw[d,h2]⟩)).elim
   .exact Ayd c.2 h1 h2 d
def Akk{es:Array MapEntry}{c:Array Nat}(k:(es.toList.map Pc).Nodup)(n:(es.toList.map (·.born)).Nodup){e:MapEntry}(l:e∈(leftOf es c).toList):
  ∀a,a∈J5 es (c.push e.born)↔a∈J5 es c/\a≠Pc e:=by
 intro a;have d:=L1.1 l;unfold J5
 constructor
 .intro h;obtain⟨x,g,rfl⟩:=Bc.1 h;have⟨h1,h2⟩:=L1.1 g;rw[contains_push,E8]at h2;refine⟨Bc.2 ⟨x,L1.2 ⟨h1,h2.1⟩,rfl⟩,λm=>?_⟩;have:=Ayd k h1 d.1 m;subst this;simp at h2
 .rintro⟨h,j⟩;obtain⟨x,g,rfl⟩:=Bc.1 h;have⟨h1,h2⟩:=L1.1 g;refine Bc.2 ⟨x,L1.2 ⟨h1,?_⟩,rfl⟩;rw[contains_push,h2,Bool.false_or];have:x.born≠e.born:=λf=>j (by rw[born_inj n h1 d.1 f])
  simpa using this
end
variable {o1:Oper}
section
abbrev MT(r2 d3 aa ad:Nat)(o4 o5 o6:Oper)(ab:Code):Code:=.seq (.cond (.tmp d3) .skip (.exit aa)) (.block ad (.seq (.region r2 [o4,o5,o6].toArray false) ab))
abbrev MC(r1 r2 d3 aa ad:Nat)(o2 o3 o4 o5 o6:Oper)(ab:Code):Code:=.seq (.region r1 [o2,o3].toArray false) (MT r2 d3 aa ad o4 o5 o6 ab)
abbrev MJ(w0:Bs)(N0:Nat->Prop)(dI nx b bm f:Nat)(es:Array MapEntry)(s:α->AS)(y:α)(r:Array Nat)(a:Act)(w:World):Prop:=∃μ,Anch w0 N0 μ (s y) w/\RelM (λ_=>False) (Qi w0 w μ (s y)) (λz=>N0 z\/z=b) μ (s y) a w/\μ dI nx=some (some (b,0))/\w.heap[b]?=some (.mapIter (some bm) f r f)/\w.heap[bm]?=some (.map es f)
def Are{r0 r1 r2 aa ad ty d1 d2 d3 d4 d5 d6 bm e0:Nat}{k:IntKind}{m:List (Int×V)}{o0 o2 o3 o4 o5 o6:Oper}{x:Operand}{ab:Code}(dI:Nat)(s:α->AS)(ah:α->List Int->Prop)(x0:α)
  (g0:o0.guard=none)(p0:o0.op=.move x)(q0:o0.dst=some d0)(g1:o1.guard=none)(p1:o1.op=.range ty (.tmp d0))(q1:o1.dst=some d1)
  (g2:o2.guard=none)(p2:o2.op=.next (.tmp d1) false)(q2:o2.dst=some d2)(g3:o3.guard=none)(p3:o3.op=.extract (.tmp d2) 0)(q3:o3.dst=some d3)
  (g4:o4.guard=none)(p4:o4.op=.entry (.tmp d1))(q4:o4.dst=some d4)(g5:o5.guard=none)(p5:o5.op=.extract (.tmp d4) 0)(q5:o5.dst=some d5)(g6:o6.guard=none)(p6:o6.op=.assign (.tmp d5))(q6:o6.dst=some d6)
  (hx:S.evc true x=some (.mp bm k m))(ht:Aa6 P ty=some (k,e0))(hn:d0<S.nt/\d1<S.nt)(aq:∀y,d2<(s y).nt/\d3<(s y).nt/\d4<(s y).nt/\d5<(s y).nt/\d6<(s y).nt)
  (bi:d2≠d1/\d3≠d1)
  (hd:∀y,get (s y).env d1=some (.bp dI S.nx 0 0 0))(h0:∀L:List Int,L.Nodup->(∀a,a∈L↔(Hj a m).isSome=true)->ah x0 L)
  (hS:({S with env:=(d1,.bp dI S.nx 0 0 0)::(d0,.mp bm k m)::S.env,nx:=S.nx+2}:AS).le (s x0))
  (b8:∀B N y L a v,ah y L->a∈L->AW P B N ab (Oh ad (Ph (λT=>∃y',(∀L':List Int,L'.Nodup->(∀c,c∈L'↔c∈L/\c≠a)->ah y' L')/\T.le (s y')) (Oh aa Q)))
   {s y with env:=(d6,.int k a)::(d5,.int k a)::(d4,.tup [.int k a,v])::(d3,.bool true)::(d2,.tup [.bool true,.int k a,v])::(s y).env,nx:=(s y).nx+5})
  (cj:∀y,ah y []->Q .normal {s y with env:=(d3,.bool false)::(d2,.tup [.bool false])::(s y).env,nx:=(s y).nx+2}):
  AW P w0 N0 (.seq (.region r0 [o0,o1].toArray false) (.block aa (.loop (.seq (.region r1 [o2,o3].toArray false) (.seq (.cond (.tmp d3) .skip (.exit aa)) (.block ad (.seq (.region r2 [o4,o5,o6].toArray false) ab))))))) Q S:=by
 rintro a w⟨μ,hr⟩;have⟨kt,c8,dq⟩:=X6 ht
 obtain⟨es,f,g,dt,ca,bz,hs,cw,hw,hh,co⟩:∃(es:Array MapEntry)(f:Nat)(g:Int->Value),¬Fp N0 μ S bm/\w.heap[bm]?=some (.map es f)/\(∀e∈es.toList,∃a,e.key=.int k a)/\(∀a v,Hj a m=some v->H3 a es.toList=some (g a)/\v.flat0=true)/\
   (∀a,Hj a m=none->H3 a es.toList=none)/\((es.toList.map (·.born)).Nodup/\(∀e∈es.toList,e.born<f)/\(es.toList.map Pc).Nodup)/\(∀a v,Hj a m=some v->Pur w (Fp N0 μ S) (g a) v)/\a.eval x=.map (some bm):=by
  have:=hr.evc hx rfl;generalize a.eval x=y at this;cases this with
  |pur hp=>cases hp with
   |mp _ _ _ es f g hN hb bz hs hn hw hh=>exact⟨es,f,g,hN,hb,bz,hs,hn,hw,hh,rfl⟩
 refine wp_seq (wp_region_lit ?_);refine wpList_plain g0 λK hK=>?_
 have b0:(execOp a.eval o0).run P w=.ok (.value (a.eval x)) w:=by unfold execOp;rw[p0];rfl
 unfold Oper.wp;rw[b0];refine hK _ _ ?_;rw[q0];have aw:=hr.put (d:=d0) hn.1 (hr.evc hx rfl)
 have he:(a.put (some d0) (a.eval x)).eval (.tmp d0)=.map (some bm):=by
  show(a.put (some d0) (a.eval x)).tmps.getD d0 undef=_
  rw[Lx a d0 _ d0 (by rw[hr.size];exact hn.1),Ab rfl,co]
 generalize a.put (some d0) (a.eval x)=a1 at aw he;clear hK K;refine wpList_plain g1 λK hK=>?_
 have b1:(execOp a1.eval o1).run P w=.ok (.value (.pointer (some ⟨w.heap.size,0,none⟩))) (w.alloc (.mapIter (some bm) f #[] f)):=by
  unfold execOp;rw[p1];simp only[he,Sem.run_bind,run_range_map w ty kt e0 bm es f c8 ca,Result.andThen_ok];rfl
 unfold Oper.wp;rw[b1];refine hK _ _ (wpList_nil ?_);rw[q1];obtain⟨b,cl⟩:∃b,b=w.heap.size:=⟨_,rfl⟩;rw[<-cl]
 have dg:μ dI S.nx=none:=by
  cases hm:μ dI S.nx with
  |none=>rfl
  |some l=>
   rcases hr.fresh dI S.nx (by rw[hm];simp)with h|⟨j,hj,_⟩
   .omega
   .exact hj.elim
 obtain⟨μ1,b2⟩:∃μ1:Mu,μ1=λd v=>if d=dI/\v=S.nx then some (some (b,0))else μ d v:=⟨_,rfl⟩
 have ar:∀d v l,μ d v=some l->μ1 d v=some l:=by
  intro d v l' hl;rw[b2];simp only
  split
  .rename_i e;rw[e.1,e.2,dg]at hl;cases hl
  .exact hl
 have ck:μ1 dI S.nx=some (some (b,0)):=by rw[b2];simp
 have bg:∀d o,get S.objs d=some o->μ1 d o.v=μ d o.v:=by
  intro d o ho;have⟨l',hl,_⟩:=hr.objs d o ho;rw[hl];exact ar _ _ _ hl
 obtain⟨w2,Sk⟩:∃w2,w2=w.alloc (.mapIter (some bm) f #[] f):=⟨_,rfl⟩;rw[<-Sk];have a8:Below w.heap.size w w2:=by rw[Sk];exact(Below.refl _ _).alloc (A2 _) _
 have a9:w2.heap[b]?=some (.mapIter (some bm) f #[] f):=by rw[Sk,cl];exact heap_alloc_new w _
 have dp:w2.heap.size=w.heap.size+1:=by rw[Sk];simp
 obtain⟨S2,ay⟩:∃S2:AS,S2= {S with env:=(d1,.bp dI S.nx 0 0 0)::(d0,.mp bm k m)::S.env,nx:=S.nx+2}:=⟨_,rfl⟩;rw[<-ay]at hS;have al:S2.objs=S.objs:=by rw[ay]
 have bf:∀x,Mg μ1 S2.objs x->Mg μ S.objs x:=by
  rintro x⟨d,o,c,h1,h2⟩;rw[al]at h1;exact⟨d,o,c,h1,by rw[<-bg d o h1];exact h2⟩
 have bs:∀x,x<w.heap.size->Fp (λy=>N0 y\/y=b) μ1 S2 x->Fp N0 μ {S with env:=(d0,.mp bm k m)::S.env} x:=by
  intro x da ho
  rcases ho with(h|h)|⟨d,o,c,h1,h2⟩
  .exact .inl h
  .omega
  .have⟨d,o,c,h1,h2⟩:=bf x ⟨d,o,c,h1,h2⟩;exact .inr ⟨d,o,c,h1,h2⟩
 have bc:Ex w (Fp N0 μ {S with env:=(d0,.mp bm k m)::S.env}) w2:=Ex.of_below a8 _;have dd:Anch w0 N0 μ1 S2 w2:=⟨hr.below.trans (a8.mono hr.below.size),λg ho=>hr.anch.own g (bf g ho),hr.n0.1,λd v l' hl=>ar _ _ _ (hr.n0.2 d v l' hl)⟩
 have cn:RelM (λ_=>False) (Qi w0 w2 μ1 S2) (λy=>N0 y\/y=b) μ1 S2 (a1.put (some d1) (.pointer (some ⟨b,0,none⟩))) w2:=by
  refine⟨aw.defers,by rw[ay];simp[Act.put,aw.size],Bs.Below.refl _,⟨λx hx=>⟨?_,λho=>?_⟩,λ_ _ _ hh=>hh⟩,λd v hv=>?_,λd o hd=>?_,λd o d' o' g c c' h1 h2 h3 h4=>?_,λt v hv=>?_⟩
  .show x<w2.heap.size
   rcases hx with h|h
   .have:=(hr.n0.1 x h).1;have:=hr.below.size;omega
   .omega
  .have⟨d,o,c,h1,h2⟩:=bf x ho;have da:=hr.block_lt h1 h2
   rcases hx with h|h
   .rcases hr.anch.own x ⟨d,o,c,h1,h2⟩with h3|h3
    .have:=(hr.n0.1 x h).1;omega
    .exact(hr.n0.1 x h).2 h3
   .omega
  .left
   rw[ay];simp only;rw[b2]at hv;simp only at hv
   split at hv
   .rename_i e;omega
   .rcases hr.fresh d v hv with h|⟨j,hj,_⟩
    .omega
    .exact hj.elim
  .rw[al]at hd;have⟨l',hl,bj⟩:=aw.objs d o hd;refine⟨l',by rw[bg d o hd];exact hl,?_⟩;cases l' with
   |none=>exact bj
   |some gc=>
    have⟨h1,h3,h4,h5,cm,h6,h7,h8⟩:=bj
    refine⟨.inr ⟨d,o,gc.2,by rw[al];exact hd,by rw[bg d o hd];exact hl⟩,h3,h4,h5,cm,?_,h7,λk e j c dm hj=>?_⟩
    .exact(a8.block _ (hr.block_lt hd hl)).trans h6
    .have⟨y,hy,dn⟩:=h8 k e j c dm hj;exact⟨y,hy,dn.keep bc bs ar⟩
  .rw[al]at h1 h2;rw[bg d o h1]at h3;rw[bg d' o' h2]at h4;exact hr.inj d o d' o' g c c' h1 h2 h3 h4
  .rw[ay]at hv|-;simp only at hv|-;rw[Lx a1 d1 _ t (by rw[aw.size];exact hn.2)];rw[Dh]at hv
   split at hv
   .rename_i e;injection hv with hv;subst hv;subst e;simp only[if_true];exact⟨hn.2,.bp dI S.nx 0 0 0 b 0 ck⟩
   .rename_i e;rw[I e];have:=aw.env t v hv;exact⟨this.1,by have h':=this.2.keep bc bs ar;rw[ay]at h';exact h'⟩
 generalize a1.put (some d1) (.pointer (some ⟨b,0,none⟩))=a2 at cn;have cb:=(B3.1 ca).1;have c2:w2.heap[bm]?=some (.map es f):=by rw[Sk,heap_alloc_old w _ cb];exact ca
 have ba:∀n y r a w,(leftOf es r).size=n->ah y (J5 es r)->(MJ w0 N0 dI S.nx b bm f es s y r a w)->
   (Code.loop (MC r1 r2 d3 aa ad o2 o3 o4 o5 o6 ab)).wp P (post w0 N0 (Oh aa Q)) a w:=by
  have bk:∀y r a w,ah y (J5 es r)->(MJ w0 N0 dI S.nx b bm f es s y r a w)->
    (MC r1 r2 d3 aa ad o2 o3 o4 o5 o6 ab).wp P (λe a' w'=>(e=.normal/\∃y' u,(leftOf es u).size<(leftOf es r).size/\ah y' (J5 es u)/\(MJ w0 N0 dI S.nx b bm f es s y' u a' w'))\/(e≠ .normal/\post w0 N0 (Oh aa Q) e a' w')) a w:=by
   rintro y r a w ag⟨μ,hA,hR,hμ,a9,au⟩;have c0:=(B3.1 a9).1;have dj:bm≠b:=λe=>by rw[e,a9]at au;simp at au
   have bt:∀(S':AS)(w':World)(B:Bs)(a':Act)(N:Nat->Prop),RelM (λ_=>False) B N μ S' a' w'->get S'.env d1=some (.bp dI S.nx 0 0 0)->a'.eval (.tmp d1)=.pointer (some ⟨b,0,none⟩):=by
    intro S' w' B a' N af hg;have:=(af.env d1 _ hg).2;show a'.tmps.getD d1 undef=_
    generalize a'.tmps.getD d1 undef=z at this;cases this with
    |pur hp=>cases hp
    |bp _ _ _ _ _ g ds h1=>
     rw[hμ]at h1;injection h1 with h1;injection h1 with h1;injection h1 with h1 h2;subst h1;rfl
   have ct:=bt _ _ _ _ _ hR (hd y)
   have fin:∀(tv:Value)(t2:V)(g:Bool)(w1:World)(Qf:Exit->Act->World->Prop),(∀k,k≠b->w1.heap[k]?=w.heap[k]?)->w1.heap.size=w.heap.size->(w1.os=w.os/\w1.tape=w.tape/\w1.output=w.output)->
     (∀N μ',Enc w1 N μ' tv t2)->(execOp a.eval o2).run P w=.ok (.value tv) w1->(Instr.extract tv 0).run P w1=.ok (.bool g) w1->
     (∀a4,RelM (λ_=>False) (Qi w0 w1 μ (s y)) (λz=>N0 z\/z=b) μ {s y with env:=(d3,.bool g)::(d2,t2)::(s y).env,nx:=(s y).nx+2} a4 w1->Anch w0 N0 μ (s y) w1->
      (MT r2 d3 aa ad o4 o5 o6 ab).wp P Qf a4 w1)->
     (MC r1 r2 d3 aa ad o2 o3 o4 o5 o6 ab).wp P Qf a w:=by
    intro tv t2 g w1 Qf hk cz b9 c5 ci cr di;refine wp_seq (wp_region_lit (wpList_plain g2 λK hK=>?_));unfold Oper.wp;rw[ci];refine hK _ _ (wpList_plain g3 λK2 db=>?_);clear hK K;rw[q2];have hT:=hR.turn (w0:=w0) (.inr rfl) hk cz;have cu:=hT.put (d:=d2) (aq y).1 (c5 _ _)
    have bu:(a.put (some d2) tv).eval (.tmp d2)=tv:=by
     show(a.put (some d2) tv).tmps.getD d2 undef=tv
     rw[Lx a d2 tv d2 (by rw[hR.size];exact(aq y).1),Ab rfl]
    generalize a.put (some d2) tv=a3 at cu bu
    have b6:(execOp a3.eval o3).run P w1=.ok (.value (.bool g)) w1:=by
     unfold execOp;rw[p3];simp only[bu,Sem.run_bind,cr,Result.andThen_ok,Sem.run_pure]
    unfold Oper.wp;rw[b6];refine db _ _ (wpList_nil ?_);rw[q3];have ak:=cu.put (d:=d3) (aq y).2.1 (.pur (.bool g));generalize a3.put (some d3) (.bool g)=a4 at ak
    have ai:RelM (λ_=>False) (Qi w0 w1 μ (s y)) (λz=>N0 z\/z=b) μ {s y with env:=(d3,.bool g)::(d2,t2)::(s y).env,nx:=(s y).nx+2} a4 w1:=
     ⟨ak.defers,ak.size,ak.below,ak.n0,λd v hv=>by
      rcases ak.fresh d v hv with h|⟨j,hj,_⟩
      .left;simp only at h|-;omega
      .exact hj.elim,ak.objs,ak.inj,ak.env⟩
    refine di a4 ai ⟨⟨b9.1.trans hA.below.os,b9.2.1.trans hA.below.tape,b9.2.2.trans hA.below.output,by rw[cz];exact hA.below.size,λk c7 de=>?_⟩,hA.own,hA.n0,hA.m⟩
    rw[hk k (λe=>?_)]
    .exact hA.below.block k c7 de
    .have:=hr.below.size;omega
   rcases run_next_at (P:=P) w o2.type b bm f f r es f a9 au hw.2.1 (A2 _)with⟨hz,am⟩|⟨en,bl,w1,Ec,am⟩
   .refine fin (.tuple #[.bool false]) (.tup [.bool false]) false w _ (λ_ _=>rfl) rfl ⟨rfl,rfl,rfl⟩ ?_ ?_ rfl λa4 ai ao=>?_
    .intro N μ'
     exact .tup [.bool false] _ rfl (λi x c h1 h2=>by
      rcases i with _ |i
      .simp at h1 h2;subst h1;subst h2;exact .pur (.bool _)
      .simp at h1)
    .unfold execOp;rw[p2];simp only[ct];rw[Sem.run_bind,am];rfl
    .have be:a4.eval (.tmp d3)=.bool false:=by
      have:=(ai.env d3 (.bool false) sM).2;show a4.tmps.getD d3 undef=_
      generalize a4.tmps.getD d3 undef=z at this;cases this with
      |pur hp=>cases hp;rfl
     refine wp_seq (wp_cond_false be (wp_exit (.inr ⟨by simp,_,?_,μ,ao.back (λ_ h=>.inl h) ai⟩)));show(if aa=aa then Q .normal _ else Q (.exit aa) _)
     rw[Ab rfl];rw[Akj hz]at ag;exact cj y ag
   .obtain⟨wn,az⟩:∃wn,wn=Go.ChangeMaps.setBlock w1 b (.mapIter (some bm) f (r.push en.born) f):=⟨_,rfl⟩;rw[<-az]at am;have bv:w1.heap=w.heap:=by rcases Ec with rfl|rfl<;>rfl
    have cy:∀k,k≠b->wn.heap[k]?=w.heap[k]? :=by
     intro k hk;rw[az];simp[Go.ChangeMaps.setBlock,bv,Ne.symm hk]
    have cq:wn.heap.size=w.heap.size:=by rw[az];simp[Go.ChangeMaps.setBlock,bv]
    have cx:wn.os=w.os/\wn.tape=w.tape/\wn.output=w.output:=by rw[az];rcases Ec with rfl|rfl<;>exact⟨rfl,rfl,rfl⟩
    have bo:wn.heap[b]?=some (.mapIter (some bm) f (r.push en.born) f):=by
     rw[az];simp[Go.ChangeMaps.setBlock,bv,c0]
    have av:wn.heap[bm]?=some (.map es f):=by rw[cy bm dj];exact au
    have bd:=L1.1 bl;obtain⟨a0,cd⟩:=bz en bd.1;have b3:Pc en=a0:=by simp[Pc,cd]
    have ax:=Ady hw.2.2 en bd.1 b3
    obtain⟨v,hv⟩:∃v,Hj a0 m=some v:=by
     cases h:Hj a0 m with
     |none=>rw[cw a0 h]at ax;cases ax
     |some v=>exact⟨v,rfl⟩
    have c6:en.val=g a0:=by have:=(hs a0 v hv).1;rw[ax]at this;injection this
    have br:∀(w':World)(N':Nat->Prop),Pur w' N' en.val v:=λw' N'=>by rw[c6];exact(hh a0 v hv).of_flat0 (hs a0 v hv).2
    refine fin (.tuple #[.bool true,en.key,en.val]) (.tup [.bool true,.int k a0,v]) true wn _ cy cq cx ?_ ?_ rfl λa4 ai ao=>?_
    .intro N μ';rw[cd]
     exact .tup [.bool true,.int k a0,en.val] _ rfl (λi x c h1 h2=>by
      rcases i with _ |_ |_ |i
      .simp at h1 h2;subst h1;subst h2;exact .pur (.bool _)
      .simp at h1 h2;subst h1;subst h2;exact .pur (.int _ _)
      .simp at h1 h2;subst h1;subst h2;exact .pur (br _ _)
      .simp at h1)
    .unfold execOp;rw[p2];simp only[ct];rw[Sem.run_bind,am];rfl
    have be:a4.eval (.tmp d3)=.bool true:=by
     have:=(ai.env d3 (.bool true) sM).2;show a4.tmps.getD d3 undef=_
     generalize a4.tmps.getD d3 undef=z at this;cases this with
     |pur hp=>cases hp;rfl
    have cp:=bt _ _ _ _ _ ai (by simp only[Dh,I bi.2,I bi.1];exact hd y);refine wp_seq (wp_cond_true be (wp_skip ?_));show(Code.block ad (.seq (.region r2 [o4,o5,o6].toArray false) ab)).wp P _ a4 wn
    refine wp_block (wp_seq (wp_region_lit (wpList_plain g4 λK hK=>?_)))
    have cc:(execOp a4.eval o4).run P wn=.ok (.value (.tuple #[.int k a0,en.val])) wn:=by
     unfold execOp;rw[p4];simp only[cp];have:=run_entry_at (P:=P) wn b bm f r es f en bo av bd.1 hw.1;rw[cd]at this;rw[Sem.run_bind,this];rfl
    unfold Oper.wp;rw[cc];refine hK _ _ ?_;rw[q4];clear hK K
    have bw:=ai.put (d:=d4) (aq y).2.2.1 (v:=.tup [.int k a0,v]) (x:=.tuple #[.int k a0,en.val]) (.tup [.int k a0,en.val] _ rfl (λi x c h1 h2=>by
      rcases i with _ |_ |i
      .simp at h1 h2;subst h1;subst h2;exact .pur (.int _ _)
      .simp at h1 h2;subst h1;subst h2;exact .pur (br _ _)
      .simp at h1))
    have bq:(a4.put (some d4) (.tuple #[.int k a0,en.val])).eval (.tmp d4)=.tuple #[.int k a0,en.val]:=by
     show(a4.put (some d4) _).tmps.getD d4 undef=_
     rw[Lx a4 d4 _ d4 (by rw[ai.size];exact(aq y).2.2.1),Ab rfl]
    generalize a4.put (some d4) (.tuple #[.int k a0,en.val])=a5 at bw bq;refine wpList_plain g5 λK hK=>?_
    have b4:(execOp a5.eval o5).run P wn=.ok (.value (.int k a0)) wn:=by
     unfold execOp;rw[p5];simp only[bq];rfl
    unfold Oper.wp;rw[b4];refine hK _ _ ?_;rw[q5];clear hK K;have cv:=bw.put (d:=d5) (aq y).2.2.2.1 (.pur (.int k a0))
    have bn:(a5.put (some d5) (.int k a0)).eval (.tmp d5)=.int k a0:=by
     show(a5.put (some d5) _).tmps.getD d5 undef=_
     rw[Lx a5 d5 _ d5 (by rw[bw.size];exact(aq y).2.2.2.1),Ab rfl]
    generalize a5.put (some d5) (.int k a0)=a6 at cv bn;refine wpList_plain g6 λK hK=>?_
    have ce:(execOp a6.eval o6).run P wn=.ok (.value (.int k a0)) wn:=by
     unfold execOp;rw[p6];simp only[bn];rfl
    unfold Oper.wp;rw[ce];refine hK _ _ (wpList_nil ?_);rw[q6];clear hK K;have an:=cv.put (d:=d6) (aq y).2.2.2.2 (.pur (.int k a0));generalize a6.put (some d6) (.int k a0)=a7 at an
    have c4:RelM (λ_=>False) (Qi w0 wn μ (s y)) (λz=>N0 z\/z=b) μ {s y with env:=(d6,.int k a0)::(d5,.int k a0)::(d4,.tup [.int k a0,v])::(d3,.bool true)::(d2,.tup [.bool true,.int k a0,v])::(s y).env,nx:=(s y).nx+5} a7 wn:=
     ⟨an.defers,an.size,an.below,an.n0,λd v hv=>by
      rcases an.fresh d v hv with h|⟨j,hj,_⟩
      .left;simp only at h|-;omega
      .exact hj.elim,an.objs,an.inj,an.env⟩
    have cf:=Bc.2 ⟨en,bl,b3⟩
    have c3:¬Mg μ (s y).objs bm:=by
     rintro⟨d,o,c,h1,h2⟩;obtain⟨l,hl,bj⟩:=ai.objs d o h1;rw[h2]at hl;injection hl with hl;subst hl;obtain⟨_,_,_,_,cm,h6,_⟩:=bj;rw[av]at h6;simp at h6
    have bh:∀S' a' w' μ',RelM (λ_=>False) (Qi w0 wn μ (s y)) (λz=>N0 z\/z=b) μ' S' a' w'->(∃y',(∀L':List Int,L'.Nodup->(∀c,c∈L'↔c∈J5 es r/\c≠a0)->ah y' L')/\S'.le (s y'))->
      ∃y' u,(leftOf es u).size<(leftOf es r).size/\ah y' (J5 es u)/\(MJ w0 N0 dI S.nx b bm f es s y' u a' w'):=by
     rintro S' a' w' μ' af⟨y',dk,df⟩;obtain⟨μ3,aj⟩:=df _ _ _ _ ⟨μ',af⟩;have b5:=ao.back (λ_ h=>.inl h) aj
     refine⟨y',r.push en.born,left_shrinks es r en bl,dk _ (Wk hw.2.2) (λc=>by rw[Akk hw.2.2 hw.1 bl c,b3]),μ3,b5.anch,aj.rebase rfl,aj.n0.2 _ _ _ hμ,?_,?_⟩
     .rw[aj.below.block b (by show b<wn.heap.size;omega) (aj.n0.1 b (.inr rfl)).2];exact bo
     .rw[aj.below.block bm (by show bm<wn.heap.size;exact(B3.1 av).1) c3];exact av
    refine wp_mono (b8 _ _ y _ a0 v ag cf a7 wn ⟨μ,c4⟩) ?_;rintro e a' w'⟨S',hQ,⟨μ',af⟩⟩;cases e with
    |normal=>exact .inl ⟨rfl,bh S' a' w' μ' af hQ⟩
    |exit id=>
     simp only[Oh]at hQ;simp only[Exit.inBlock]
     split
     .rename_i bx;rw[Ab bx]at hQ;exact .inl ⟨trivial,bh S' a' w' μ' af hQ⟩
     .rename_i bx;rw[I bx]at hQ;exact .inr ⟨by simp,S',hQ,μ',ao.back (λ_ h=>.inl h) af⟩
    |goto l=>exact .inr ⟨by simp,S',hQ,μ',ao.back (λ_ h=>.inl h) af⟩
    |ret=>exact .inr ⟨by simp,S',hQ,μ',ao.back (λ_ h=>.inl h) af⟩
    |panic ch=>exact .inr ⟨by simp,S',hQ,μ',ao.back (λ_ h=>.inl h) af⟩
    |outgrown=>exact .inr ⟨by simp,S',hQ,μ',ao.back (λ_ h=>.inl h) af⟩
  have ba:∀n y r a w,(leftOf es r).size=n->ah y (J5 es r)->(MJ w0 N0 dI S.nx b bm f es s y r a w)->
    ∀bb k cs,∃e a' w',post w0 N0 (Oh aa Q) e a' w'/\Arrives P (lone (bb.at a (.code (MC r1 r2 d3 aa ad o2 o3 o4 o5 o6 ab):: .inLoop (MC r1 r2 d3 aa ad o2 o3 o4 o5 o6 ab)::k)) cs w) bb k cs e a' w':=by
   intro n
   induction n using Nat.strongRecOn with
   |_ n ih=>
    intro y r a w cg ag hJ bb k cs;obtain⟨e,a1,w1,hq,ae⟩:=bk y r a w ag hJ bb (.inLoop _ ::k) cs
    rcases hq with⟨rfl,y',u,h1,h3,h4⟩|⟨bi,hq⟩
    .obtain⟨e2,a2,w2,c9,b7⟩:=ih (leftOf es u).size om y' u a1 w1 rfl h3 h4 bb k cs;exact⟨e2,a2,w2,c9,.of_steps (Steps.trans ae (.one step_inLoop)) b7⟩
    .cases e with
     |normal=>exact absurd rfl bi
     |exit id=>exact⟨_,a1,w1,hq,.pass (x:=.inLoop _) rfl (λ_ _=>.inl sm) ae⟩
     |goto l=>exact⟨_,a1,w1,hq,.pass (x:=.inLoop _) rfl (λ_ _=>.inl sm) ae⟩
     |ret=>exact⟨_,a1,w1,hq,.pass (x:=.inLoop _) rfl (λ_ _=>.inl sm) ae⟩
     |panic ch=>exact⟨_,a1,w1,hq,.pass (x:=.inLoop _) rfl (λ_ _=>.inl sm) ae⟩
     |outgrown=>exact⟨_,a1,w1,hq,.pass (x:=.inLoop _) rfl (λ_ _=>.inl sm) ae⟩
  intro n y r a w cg ag hJ bb k cs;obtain⟨e,a',w',hq,ae⟩:=ba n y r a w cg ag hJ bb k cs;exact⟨e,a',w',hq,.of_steps (.one step_loop) ae⟩
 have dh:∃μ,Anch w0 N0 μ (s x0) w2/\RelM (λ_=>False) (Qi w0 w2 μ (s x0)) (λz=>N0 z\/z=b) μ (s x0) a2 w2/\μ dI S.nx=some (some (b,0))/\w2.heap[b]?=some (.mapIter (some bm) f #[] f)/\w2.heap[bm]?=some (.map es f):=by
  obtain⟨μ3,aj⟩:=hS _ _ _ _ ⟨μ1,cn⟩;have b5:=dd.back (λ_ h=>.inl h) aj;exact⟨μ3,b5.anch,aj.rebase rfl,aj.n0.2 _ _ _ ck,a9,c2⟩
 have dl:ah x0 (J5 es #[]):=by
  refine h0 _ (Wk hw.2.2) λa=>?_
  constructor
  .intro h;obtain⟨e,he,hk⟩:=Bc.1 h;have ax:=Ady hw.2.2 e (L1.1 he).1 hk;cases hc:Hj a m with
   |none=>rw[cw a hc]at ax;cases ax
   |some v=>rfl
  .intro h;obtain⟨v,hv⟩:=Cv.1 h;obtain⟨e,he,hk⟩:=Rs (hs a v hv).1;exact Bc.2 ⟨e,L1.2 ⟨he,by simp⟩,hk⟩
 refine wp_block (wp_mono (ba _ x0 #[] a2 w2 rfl dl dh) ?_);rintro e a' w'⟨S',hQ,hR⟩;cases e with
 |exit dr=>
  simp only[Oh]at hQ;simp only[Exit.inBlock]
  split
  .rename_i he;rw[Ab he]at hQ;exact⟨S',hQ,hR⟩
  .rename_i he;rw[I he]at hQ;exact⟨S',hQ,hR⟩
 |_=>exact⟨S',hQ,hR⟩
end
section
def RelM.mapSet{b:Nat}{k:IntKind}{m':List (Int×V)}(r:RelM D w0 N0 μ S a w)(ax:w0.free b)(au:∀t v,get S.env t=some v->v.okM=true)(d:MapTurn w w' b)(al:x=.map (some b))
  (z:∀N',¬N' b->Pur w' N' x (.mp b k m'))(ao:¬Fp N0 μ S b)(av:w'.os=w.os)(a2:w'.tape=w.tape)(ar:w'.output=w.output):RelM D w0 N0 μ {S with env:=Tj (V.mset b k m') S.env} a w':=by
 refine⟨r.defers,r.size,⟨av.trans r.below.os,a2.trans r.below.tape,ar.trans r.below.output,by rw[d.size];exact r.below.size,λj hj hx=>(d.other j (λe=>by subst e;rcases ax with h|h;omega;exact hx h)).trans (r.below.block j hj hx)⟩,r.n0,r.fresh,λd1 o1 h1=>?_,r.inj,λt1 v1 h1=>?_⟩
 .have⟨l,o,aa⟩:=r.objs d1 o1 h1;refine⟨l,o,?_⟩;cases l with
  |none=>exact aa
  |some gc=>
   have⟨b1,b2,b3,b4,aw,b5,b6,b7⟩:=aa
   have ay:gc.1≠b:=by
    rintro rfl;have⟨a4,c1,an⟩:=d.was;rw[b5]at an;cases an
   refine⟨b1,b2,b3,b4,aw,(d.other _ ay).trans b5,b6,λk e j c he hj=>?_⟩;have⟨y,hy,a3⟩:=b7 k e j c he hj;exact⟨y,hy,a3.mapTurn d (Lf ((b4 e (Ar he)).2 c (Ar hj)))⟩
 .simp only[T3,Ay]at h1;obtain⟨v0,h1,rfl⟩:=h1;have⟨h2,m⟩:=r.env t1 v0 h1;refine⟨h2,?_⟩;have g:=au t1 v0 h1;generalize a.tmps.getD t1 undef=tv at m;cases v0 with
  |mp b' k' m'=>
   simp only[V.mset];cases m with
   |pur m=>
    cases m with
    |mp _ _ _ ab ag g2 aj af ah u ai Sk ae=>
     by_cases f:b'=b
     .subst f;simp only[if_true];rw[<-al];exact .pur (z _ ao)
     .simp only[f,if_false];exact .pur (.mp b' k' m' ab ag g2 aj ((d.other _ f).trans af) ah u ai Sk (λc v hc=>(ae c v hc).of_flat0 (u c v hc).2))
  |rm b' k' m'=>
   simp only[V.mset];cases m with
   |pur m=>
    cases m with
    |rm ad _ _ _ aq am az h4=>
    have⟨ak,_⟩:=d.cell az;cases h4 with
    |mp _ _ _ ab ag g2 aj af ah u ai Sk ae=>
     by_cases f:b'=b
     .subst f;simp only[if_true];refine .pur (.rm ad b' k _ (by rw[d.size];exact aq) am ak ?_);have h5:=z _ ao;rw[al]at h5;exact h5
     .simp only[f,if_false];exact .pur (.rm ad b' k' m' (by rw[d.size];exact aq) am ak (.mp b' k' m' ab ag g2 aj ((d.other _ f).trans af) ah u ai Sk (λc v hc=>(ae c v hc).of_flat0 (u c v hc).2)))
  |tup vs=>
   simp only[V.mset]
   have s:∀xs:List Value,xs.length=vs.length->(∀(i:Nat)x c,xs[i]?=some x->vs[i]?=some c->Enc w (Fp N0 μ S) μ x c)->Enc w' (Fp N0 μ S) μ (.tuple xs.toArray) (.tup vs):=λxs o n=>
    .tup xs vs o (λi x c h1 h2=>(n i x c h1 h2).mapTurn d (Ao.1 g c (Ar h2)))
   cases m with
   |pur m=>cases m with
    |tup xs _ o n=>exact s xs o (λi x c a b=>.pur (n i x c a b))
   |tup xs _ o n=>exact s xs o n
  |whn c0 v1=>
   simp only[V.mset];cases m with
   |pur m=>cases m
   |whn _ _ _ n a1=>
    refine .whn _ _ _ (λa0=>?_) a1;have h4:=n a0;cases v1 with
    |tup vs=>
     have s:∀xs:List Value,xs.length=vs.length->(∀(i:Nat)x c,xs[i]?=some x->vs[i]?=some c->Enc w (Fp N0 μ S) μ x c)->Enc w' (Fp N0 μ S) μ (.tuple xs.toArray) (.tup vs):=λxs o n=>
      .tup xs vs o (λi x c h1 h2=>(n i x c h1 h2).mapTurn d (Ao.1 g c (Ar h2)))
     cases h4 with
     |pur h4=>cases h4 with
      |tup xs _ o n=>exact s xs o (λi x c a b=>.pur (n i x c a b))
     |tup xs _ o n=>exact s xs o n
    |_=>exact h4.mapTurn d (by first|rfl|exact g)
  |_=>exact m.mapTurn d (by first|rfl|exact g)
def Zm(a:Int)(m:List (Int×V)):List (Int×V):=m.filter λp=>decide (p.1≠a)
def Rt(a c:Int):∀(m:List (Int×V)),Hj c (Zm a m)=if c=a then none else Hj c m
 |[]=>by simp[Zm,Hj]
 |(x,v)::r=>by
  have ih:=Rt a c r;unfold Zm at ih|-;rw[List.filter_cons]
  by_cases f:x=a
  .simp only[f,ne_eq,not_true_eq_false,decide_false,F3,if_false];rw[ih]
   by_cases e:c=a
   .rw[Ab e,Ab e]
   .rw[I e,I e,Hj,I (λh=>e h.symm)]
  .simp only[ne_eq,f,not_false_eq_true,decide_true,if_true];rw[Hj,Hj,ih]
   by_cases d:x=c
   .rw[Ab d,Ab d,I (λh=>f (by rw[d,h]))]
   .rw[I d,I d]
def Afe{a c:Int}:∀ {es:List MapEntry}{n:Nat}{p:Nat×Value},(es.map Pc).Nodup->K1 a es n=some p->H3 c (es.eraseIdx (p.1-n))=if c=a then none else H3 c es
 |[],n,p,_,h=>by simp[K1]at h
 |e::r,n,p,g,h=>by
  rw[Br,I2]at g;unfold K1 at h
  split at h
  .rename_i f;cases h;simp only[F4,List.eraseIdx_cons_zero]
   by_cases d:c=a
   .rw[Ab d];cases hf:H3 c r with
    |none=>rfl
    |some v=>
     have⟨e',k,j⟩:=Rs hf;exact absurd (Bc.2 ⟨e',k,by rw[j,d,f]⟩) g.1
   .rw[I d,H3,I (by rw[f];exact λh=>d h.symm)]
  .rename_i f;have l:=(Ny h).2.1;rw[show p.1-n=(p.1-(n+1))+1 by omega];simp only[List.eraseIdx_cons_succ,H3];rw[(Afe (c:=c) g.2 h)]
   by_cases d:c=a
   .rw[Ab d,Ab d,I (by rw[d];exact f)]
   .rw[I d,I d]
def Akl{t e b kt' ty:Nat}{k:IntKind}{m:List (Int×V)}{a:Int}(hx:Enc w N μ x (.mp b k m))(hy:Enc w N μ y (.int k a))(ht:Aa6 P t=some (k,e)):
  ∃w',(Builtin.delete_ #[t,kt'] ty #[x,y]).run P w=.ok (.tuple #[]) w'/\MapTurn w w' b/\x=.map (some b)/\(∀N',¬N' b->Pur w' N' x (.mp b k (Zm a m)))/\w'.os=w.os/\w'.tape=w.tape/\w'.output=w.output:=by
 have⟨kt,ab,hk⟩:=X6 ht;cases hy.pi;cases hx with
 |pur hx=>
 cases hx with
 |mp _ _ _ es l g hN hb ad hs hn hw hh=>
 have s:=St (q:=k) (a:=a) es.toList 0 ad
 have turn:∀f d,MapTurn w {w with heap:=w.heap.setIfInBounds b (.map f d)} b:=λf d=>
  ⟨⟨es,l,hb⟩,by simp,λj hj=>by simp[Le];intro h;exact absurd h.symm hj⟩
 have aa:∀f d,({w with heap:=w.heap.setIfInBounds b (.map f d)}:World).heap[b]?=some (.map f d):=λf d=>by
  have u:=(B3.1 hb).1;simp[u]
 have pur:∀(f:Array MapEntry)N',¬N' b->(f.toList.Sublist es.toList)->(∀c,H3 c f.toList=if c=a then none else H3 c es.toList)->
   Pur {w with heap:=w.heap.setIfInBounds b (.map f l)} N' (.map (some b)) (.mp b k (Zm a m)):=by
  intro f N' r o ae
  refine .mp b k _ f l g r (aa f l) (λe he=>ad e (o.subset he)) (λc v n=>?_) (λc n=>?_) ⟨hw.1.sublist (o.map _),λe he=>hw.2.1 e (o.subset he),hw.2.2.sublist (o.map _)⟩ λc v n=>?_
  .rw[Rt]at n;rw[ae]
   split at n
   .cases n
   .rename_i e;rw[I e];exact hs c v n
  .rw[Rt]at n;rw[ae]
   split at n
   .rename_i e;rw[Ab e]
   .rename_i e;rw[I e];exact hn c n
  .rw[Rt]at n
   split at n
   .cases n
   .exact(hh c v n).of_flat0 (hs c v n).2
 cases hp:K1 a es.toList 0 with
 |none=>
  rw[hp]at s;have z:=MapKept.run_findKey (w:=w) hk s;have hA:=Su.1 hp
  refine⟨_,?_,turn es l,rfl,λN' r=>pur es N' r (List.Sublist.refl _) (λc=>?_),rfl,rfl,rfl⟩
  .simp only[Builtin.delete_,Sem.run_bind,H8,Dy,Hb,run_underlying ab,Result.andThen_ok,MapKept.run_getObj_map hb,MapKept.run_checkKey hk (k:=.int k a) (by simp[MapKept.IsKey]),z,MapKept.run_setObj_map _ hb];rfl
  .by_cases n:c=a
   .rw[Ab n,n];exact hA
   .rw[I n]
 |some p=>
  rw[hp]at s;have⟨hA,_,e0,af,ag,ah⟩:=Ny hp
  have u:p.1<es.size:=by
   have:=(Al.1 af).1;simpa using this
  refine⟨_,?_,turn (es.eraseIdxIfInBounds p.1) l,rfl,λN' r=>pur _ N' r ?_ (λc=>?_),rfl,rfl,rfl⟩
  .simp only[Builtin.delete_,Sem.run_bind,H8,Dy,Hb,run_underlying ab,Result.andThen_ok,MapKept.run_getObj_map hb,MapKept.run_checkKey hk (k:=.int k a) (by simp[MapKept.IsKey]),(MapKept.run_findKey (w:=w) hk s),MapKept.run_setObj_map _ hb];rfl
  .have:(es.eraseIdxIfInBounds p.1).toList=es.toList.eraseIdx p.1:=by simp[Array.eraseIdxIfInBounds,u]
   rw[this];exact List.eraseIdx_sublist ..
  .have:(es.eraseIdxIfInBounds p.1).toList=es.toList.eraseIdx p.1:=by simp[Array.eraseIdxIfInBounds,u]
   rw[this];have:=Afe (c:=c) hw.2.2 hp;simpa using this
def Akm{c:List Oper}{e kt':TypeId}{m x:Operand}{b:Nat}{k:IntKind}{es:List (Int×V)}{a:Int}(hb:w0.free b)(hg:o.guard=none)(hd:o.dst=none)
  (ho:o.op=.call {callee:=.builtin .delete,args:= #[m,x],argTypes:= #[t,kt']})
  (hm:S.evc true m=some (.mp b k es))(hx:S.evc true x=some (.int k a))(ht:Aa6 P t=some (k,e))(y:Aob S.env=true)(hS:({S with env:=Tj (V.mset b k (Zm a es)) S.env}:AS)=S')
  (h:Jb P w0 N0 ops Q (i+1) c S'):Jb P w0 N0 ops Q i (o::c) S:=by
 subst hS;rintro D aa w hD⟨μ,r⟩;refine wpList_plain hg λK hK=>?_
 have⟨w',n,d,g,f,z,ad,s⟩:=Akl (P:=P) (kt':=kt') (ty:=o.type) (r.evc hm rfl) (r.evc hx rfl) ht
 have ab:¬Fp N0 μ S b:=by
  have:=r.evc hm rfl;rw[g]at this;cases this with
  |pur hp=>cases hp with
   |mp _ _ _ _ _ _ hN=>exact hN
 unfold Oper.wp
 have u:(execOp aa.eval o).run P w=.ok (.value (.tuple #[])) w':=by
  unfold execOp;rw[ho];simp[resolve,invoke,builtin,n,Result.andThen]
 rw[u];refine hK _ _ ?_;have l:aa.put o.dst (.tuple #[])=aa:=by rw[hd];rfl
 rw[l];exact h D _ _ (λj hj=>Fx (hD j hj)) ⟨μ,r.mapSet hb (Aq7 y) d g f ab z ad s⟩
end
attribute [simp] Zm
section
def Avi{u:Oper}{g b:Nat}{k:IntKind}{m:List (Int×V)}(g1:o1.guard=none)(p1:o1.op=.alloc t)(q1:o1.dst=some d)(g2:u.guard=none)(p2:u.op=.store t (.tmp d) (.tmp g))(q2:u.dst=none)
  (hz:(P.info? t).bind (·.zero)=some (.map none))(hn:Hz P t=some 1)(hv:S.evc true (.tmp g)=some (.mp b k m))(an:g≠d)(hs:S.putv (some d) (.rm b k m)=some S')
  (h:Jb P w0 N0 ops Q (i+2) l S'):Jb P w0 N0 ops Q i (o1::u::l) S:=by
 rintro D a w hD⟨μ,hr⟩;refine wpList_plain g1 λK hK=>?_
 have⟨ar,ah,aq⟩:=Cf.1 hz;have ao:(zeroValue t).run P w=.ok (.map none) w:=by simp[zeroValue,typeInfo,ah,aq]
 have r:(execOp a.eval o1).run P w=.ok (.value (.pointer (some ⟨w.heap.size,0,none⟩))) (w.alloc (.cells #[.map none] t)):=by
  unfold execOp;rw[p1];simp only[Sem.run_bind,Instr.alloc,ao,Result.andThen_ok,newVar,newRow,run_newObj,World.alloc_eq,Sem.run_pure];rfl
 unfold Oper.wp;rw[r];refine hK _ _ (wpList_plain g2 λK2 ak=>?_);clear hK K;rw[q1];have n:=(K4 hs).2 d rfl
 have ad:a.eval (.tmp g)=.map (some b):=by
  have:=hr.evc hv rfl;generalize a.eval (.tmp g)=y at this;cases this with
  |pur hp=>cases hp;rfl
 obtain⟨o,f⟩:∃o,o=a.put (some d) (.pointer (some ⟨w.heap.size,0,none⟩)):=⟨_,rfl⟩;rw[<-f]
 have ai:o.eval (.tmp d)=.pointer (some ⟨w.heap.size,0,none⟩):=by
  rw[f];show(a.put (some d) _).tmps.getD d undef=_
  rw[Lx a d _ d (by rw[hr.size];exact n),Ab rfl]
 have al:o.eval (.tmp g)=.map (some b):=by
  rw[f,<-ad];show(a.put (some d) _).tmps.getD g undef=a.tmps.getD g undef
  rw[Lx a d _ g (by rw[hr.size];exact n),I (λe=>an e.symm)]
 obtain⟨c,Ec⟩:∃c,c=w.alloc (.cells #[.map none] t):=⟨_,rfl⟩;rw[<-Ec];have ab:c.heap[w.heap.size]?=some (.cells #[.map none] t (0,0)):=by rw[Ec];exact heap_alloc_new w _
 have ag:=run_storeCells_at (P:=P) w.heap.size 0 t (Value.map (some b)).cells.toList 0 #[.map none] c ab (by simp[Value.cells]) (by simp[Value.cells,Value.oneCell']);have am:(Value.map (some b)).cells.size=1:=rfl;have aj:(Value.map (some b)).cells.toList=[Value.map (some b)]:=rfl
 have s:(execOp o.eval u).run P c=.ok .skip (c.setRow w.heap.size #[.map (some b)]):=by
  unfold execOp;rw[p2];simp only[ai,al,Instr.storeAt,Instr.sureAddr,Sem.run_bind,Sem.run_pure,Result.andThen_ok,storeVar,Og hn,am,ne_eq,not_true_eq_false,if_false,Eb]at ag|-;rw[ag];rfl
 unfold Oper.wp;rw[s];refine ak _ _ ?_;have af:o.put u.dst undef=o:=by rw[q2];rfl
 rw[af]
 have aa:Below w.heap.size w (c.setRow w.heap.size #[.map (some b)]):=by
  have h0:Below w.heap.size w c:=by rw[Ec];exact(Below.refl _ _).alloc (A2 _) _
  exact⟨h0.os,h0.tape,h0.output,by simpa using h0.size,λj hj=>(setRow_other c w.heap.size j _ om).trans (h0.block j hj)⟩
 have ae:=hr.later aa;have z:=ae.evc hv rfl;rw[ad]at z;have hR:=ae.putv hs (x:=.pointer (some ⟨w.heap.size,0,none⟩)) (.pur (.rm ⟨w.heap.size,0,none⟩ b k m (by show w.heap.size<_;simp[World.setRow,Ec]) (λhn=>by have:=hr.own_lt _ hn;simp only at this;omega) (by rw[cell_of_row _ w.heap.size 0 #[.map (some b)] t (0,0) (setRow_heap c w.heap.size _ _ t (0,0) ab)];rfl) (by cases z with|pur hp=>exact hp)));rw[<-f]at hR;exact h D _ _ (λj hj=>by have:=hD j hj;omega) ⟨μ,hR⟩
def Aom{c:List Oper}(k:IntKind)(hg:o.guard=none)(z:o.op=.makeMap t none)
  (h:∀b,w0.free b->(∀e b' s r,get S.env e=some (.mp b' s r)\/get S.env e=some (.rm b' s r)->b'≠b)->∃S',S.putv o.dst (.mp b k [])=some S'/\Jb P w0 N0 ops Q (i+1) c S'):Jb P w0 N0 ops Q i (o::c) S:=by
 rintro D a w hD⟨μ,l⟩;refine wpList_plain hg λK hK=>?_
 have⟨S',hs,d⟩:=h w.heap.size (.inl l.below.size) (λe b' s r n=>by
  have ab:b'<w.heap.size:=by
   rcases n with n|n
   .have:=(l.env e _ n).2;generalize a.tmps.getD e undef=y at this;cases this with
    |pur hp=>cases hp with
     |mp _ _ _ es cl g hN f=>exact(B3.1 f).1
   .have:=(l.env e _ n).2;generalize a.tmps.getD e undef=y at this;cases this with
    |pur hp=>cases hp with
     |rm ad _ _ _ ae x aa u=>cases u with
      |mp _ _ _ es cl g hN f=>exact(B3.1 f).1
  omega)
 have f:Below w.heap.size w (w.alloc (.map #[] 0)):=(Below.refl _ _).alloc (A2 _) _;unfold Oper.wp
 have m:(execOp a.eval o).run P w=.ok (.value (.map (some w.heap.size))) (w.alloc (.map #[] 0)):=by
  unfold execOp;rw[z];rfl
 rw[m];refine hK _ _ (d D _ _ (λj hj=>Fx (hD j hj)) ⟨μ,(l.later f).putv hs (.pur ?_)⟩);exact .mp _ k [] #[] 0 (λ_=>undef) (λhn=>by have:=l.own_lt _ hn;omega) (heap_alloc_new w _) sm Gi (by simp[H3]) sm Gi
end
section
variable {H:Type}{enc:TypeId×Value->H}{P:Program}{w:World}{base:Nat}{spare:Nat->Bool}{held:Bool}
end
def A1d{sz:Nat}{o:Ob}(ho:get S.objs k=some o)(he:o.es=[.nils]):S.le {S with objs:=(k,{o with es:=[.ro sz []]})::S.objs}:=by
 rintro w0 N0 a w⟨μ,h⟩;have⟨l,hl,y⟩:=h.objs k o ho;cases l with
 |none=>
  have:o.es=[]:=y;rw[he]at this;cases this
 |some gc=>
  have⟨g,ab⟩:=gc;have⟨o1,o2,o3,o4,aa,o5,o6,o7⟩:=y
  have m:∀b,b<w.heap.size->Fp N0 μ {S with objs:=(k,{o with es:=[.ro sz []]})::S.objs} b->Fp N0 μ S b:=by
   rintro b _(h0|⟨f,q,c,h1,h2⟩)
   .exact .inl h0
   .simp only[Dh k]at h1
    split at h1
    .rename_i e;subst e;cases h1;exact .inr ⟨k,o,c,ho,h2⟩
    .exact .inr ⟨f,q,c,h1,h2⟩
  have hk:=Ex.refl w (Fp N0 μ S);have ae:=o4 .nils (by rw[he];simp)
  refine⟨μ,⟨h.defers,h.size,h.below,h.n0,h.fresh,λf q d=>?_,λf q d2 q2 g1 c1 c2 h1 h2 h3 h4=>?_,λt v hv=>⟨(h.env t v hv).1,(h.env t v hv).2.keep hk m (λ_ _ _ u=>u)⟩⟩⟩
  .simp only[Dh k]at d
   split at d
   .rename_i e;subst e;cases d;refine⟨some (g,ab),hl,o1,by rw[he]at o2;exact o2,o3,λe h'=>by simp at h';subst h';exact⟨by have:=ae.1;simpa[V.cells]using this,λc hc=>by simp[V.cells]at hc;subst hc;rfl⟩,aa,o5,o6,λk' e j c r hj=>?_⟩
    rcases k' with _ |k'
    .simp at r;subst r;simp only[V.cells]at hj
     rcases j with _ |j
     .simp at hj;subst hj;have⟨x,hx,n⟩:=o7 0 .nils 0 .nils (by rw[he];rfl) rfl;refine⟨x,hx,?_⟩;cases n with
      |pur n=>exact(Enc.pur (n.nils_ro sz)).keep hk m (λ_ _ _ u=>u)
     .simp at hj
    .simp at r
   .have⟨l1,ad,z⟩:=h.objs f q d;exact⟨l1,ad,z.keep hk m (λ_ _ _ u=>u) (λ_ _ _=>rfl)⟩
  .have s:∀f q c1,get ((k,({o with es:=[.ro sz []]}:Ob))::S.objs) f=some q->μ f q.v=some (some (g1,c1))->∃q',get S.objs f=some q'/\μ f q'.v=some (some (g1,c1)):=by
    intro f q c1 d hm;rw[Dh k]at d
    split at d
    .rename_i e;subst e;cases d;exact⟨o,ho,hm⟩
    .exact⟨q,d,hm⟩
   have⟨q1,a1,a2⟩:=s f q c1 h1 h3;have⟨q3,b1,b2⟩:=s d2 q2 c2 h2 h4;exact h.inj _ _ _ _ _ _ _ a1 b1 a2 b2
def gt{p:Prop}(h:p:=by simp [Eng.get]):p:=h
section
variable {P:Program}{w0:Bs}{N0:Nat->Prop}{Q:Exit->AS->Prop}{S:AS}{f:FuncId}{fn:Func}{c:Code}{args:List V}
theorem Ai{R:V->Prop}(hf:P.funcs[f]?=some fn)(h:∀w0 N0,AW P w0 N0 c (Wa P fn R) ⟨Nb 0 args,[],0,fn.ntmps⟩)(hb:fn.body=some c:=by exact rfl)(hl:Nat.ble args.length fn.ntmps=true:=by exact rfl):AC P f args R:=Aqy hf hb (Js hl) h
theorem Kf{sz:Nat}{ty:TypeId}{R:(Nat->Nat->V)->List V->Prop}(hf:P.funcs[f]?=some fn)(h:∀w0 N0,AW P w0 N0 c (A42 P fn sz ty R) ⟨Nb 0 args,[],0,fn.ntmps⟩)(hb:fn.body=some c:=by exact rfl)(hl:Nat.ble args.length fn.ntmps=true:=by exact rfl):ACO P f args sz ty R:=A00 hf hb (Js hl) h
theorem Bp{G:Gp}{R:V->Prop}(hf:P.funcs[f]?=some fn)(h:∀w0 N0,Gon G w0->AW P w0 N0 c (Wa P fn R) ⟨Nb 0 args,[],0,fn.ntmps⟩)(hb:fn.body=some c:=by exact rfl)(hl:Nat.ble args.length fn.ntmps=true:=by exact rfl):Jp G P f args R:=A02 hf hb (Js hl) h
theorem Ed{ins:List (Nat×Ob)}{R:V->List (Nat×Ob)->Prop}{E:List PanicEntry->Prop}(hf:P.funcs[f]?=some fn)(h:∀w0 N0 nx,AW P w0 N0 c (Abq P fn R E nx) ⟨Nb 0 args,ins,nx,fn.ntmps⟩)(hb:fn.body=some c:=by exact rfl)(hl:Nat.ble args.length fn.ntmps=true:=by exact rfl):Q0 P f args ins R E:=Aly hf hb (Js hl) h
theorem Ij{G:Gp}{ins:List (Nat×Ob)}{R:V->List (Nat×Ob)->Prop}(hf:P.funcs[f]?=some fn)(h:∀w0 N0 nx,Gon G w0->AW P w0 N0 c (Abq P fn R (fun _=>False) nx) ⟨Nb 0 args,ins,nx,fn.ntmps⟩)(hb:fn.body=some c:=by exact rfl)(hl:Nat.ble args.length fn.ntmps=true:=by exact rfl):U5 G P f args ins R:=Avf hf hb (Js hl) h
end
section
variable {P:Program}{w0:Bs}{N0:Nat->Prop}{Q:Exit->AS->Prop}{S:AS}{G:Gp}
theorem Aw{ops:List Oper}{i:Nat}{o:Oper}{rest:List Oper}{f:Operand}{fid:FuncId}{fn:Func}{args:Array Operand}{ats:Array TypeId}{vs:List V}{res:V}{S':AS}
 (hc:AC P fid vs (fun r=>r=res))(hfn:P.funcs[fid]?=some fn)(h:Jb P w0 N0 ops Q (i+1) rest S')(hb:fn.body.isSome=true:=by exact rfl)(hn:(fn.name== "runtime.NumGoroutine")=false:=by kernel_rfl)
 (hg:o.guard=none:=by exact rfl)(ho:o.op=.call {callee:=.value f,args:=args,argTypes:=ats}:=by exact rfl)(hf:S.evc true f=some (.fn fid):=by exact rfl)
 (ha:S.args true args.toList=some vs:=by simp<;>rfl)(hp:vs.all V.pureV=true:=by simp)(hs:S.putv o.dst res=some S':=by simp<;>rfl):Jb P w0 N0 ops Q i (o::rest) S:=
 Ef hc hfn hb hn hg ho hf ha hp hs h
theorem Dw{ops:List Oper}{i:Nat}{o:Oper}{rest:List Oper}{f:Operand}{fid:FuncId}{fn:Func}{args:Array Operand}{ats:Array TypeId}{vs:List V}{res:V}{S':AS}
 (hG:Gon G w0)(hc:Jp G P fid vs (fun r=>r=res))(hfn:P.funcs[fid]?=some fn)(h:Jb P w0 N0 ops Q (i+1) rest S')(hb:fn.body.isSome=true:=by exact rfl)(hn:(fn.name== "runtime.NumGoroutine")=false:=by kernel_rfl)
 (hlt:i<ops.length:=by simp)(hg:S.gv ops o=some true:=by exact rfl)(ho:o.op=.call {callee:=.value f,args:=args,argTypes:=ats}:=by exact rfl)(hf:S.evc true f=some (.fn fid):=by exact rfl)
 (ha:S.args true args.toList=some vs:=by simp<;>rfl)(hp:vs.all V.pureV=true:=by simp)(hs:S.putv o.dst (Fj o true res)=some S':=by simp<;>rfl):Jb P w0 N0 ops Q i (o::rest) S:=
 Jf hG hc hfn hb hn hlt hg ho hf ha hp hs h
theorem Co{c:Operand}{x y:Code}{t:Bool}(ht:t=true->AW P w0 N0 x Q S)(hf:t=false->AW P w0 N0 y Q S)(hc:S.evc true c=some (.bool t):=by exact rfl):AW P w0 N0 (.cond c x y) Q S:=Lq hc ht hf
end
section
variable {P:Program}{w0:Bs}{N0:Nat->Prop}{Q:Exit->AS->Prop}{S:AS}
theorem A1{c:Operand}{x:Code}{t:Bool}(ht:t=true->AW P w0 N0 x Q S)(hf:t=false->Q .normal S)(hc:S.evc true c=some (.bool t):=by exact rfl):AW P w0 N0 (.cond c x .skip) Q S:=Lq hc ht (fun h=>D9 (hf h))
theorem Bk{c:Operand}{y:Code}{t:Bool}(ht:t=true->Q .normal S)(hf:t=false->AW P w0 N0 y Q S)(hc:S.evc true c=some (.bool t):=by exact rfl):AW P w0 N0 (.cond c .skip y) Q S:=Lq hc (fun h=>D9 (ht h)) hf
theorem Ik{id:Nat}{l:List Oper}{S1:AS}(n:Nat)(h1:Z2 P l 0 (l.take n) S=some S1)(h:Jb P w0 N0 l Q (0+(l.take n).length) (l.drop n) S1):AW P w0 N0 (.region id l.toArray false) Q S:=Cb (C3 n h1 h)
theorem Au{id:Nat}{l:List Oper}{S1:AS}{y:Code}(n:Nat)(h1:Z2 P l 0 (l.take n) S=some S1)(h:Jb P w0 N0 l (Ph (AW P w0 N0 y Q) Q) (0+(l.take n).length) (l.drop n) S1):AW P w0 N0 (.seq (.region id l.toArray false) y) Q S:=J (Cb (C3 n h1 h))
theorem A5{id:Nat}{l:List Oper}{rest:Code}{S':AS}(a:List Nat)(hs:Akd P l (S.env.map (·.1)++a) (S.objs.map (·.1)) S=some S')(h:AW P w0 N0 rest Q S'):AW P w0 N0 (.seq (.region id l.toArray false) rest) Q S:=Y _ _ hs h
theorem Cs{id:Nat}{l:List Oper}{S':AS}(a:List Nat)(hs:Akd P l (S.env.map (·.1)++a) (S.objs.map (·.1)) S=some S')(h:Q .normal S'):AW P w0 N0 (.region id l.toArray false) Q S:=A6 _ _ hs h
theorem B1{ops:List Oper}{i:Nat}{ks:List Nat}{l:List (Nat×List Nat)}{o:Oper}{c:Bool}{f:Operand}{fid:FuncId}{fn:Func}{args:Array Operand}{ats:Array TypeId}{vs:List V}{res:V}{S':AS}
 (hc:c=true->AC P fid vs (fun r=>r=res))(hfn:P.funcs[fid]?=some fn)(h:AWO P 0 w0 ops Q l S')(hb:fn.body.isSome=true:=by exact rfl)(hn:(fn.name== "runtime.NumGoroutine")=false:=by kernel_rfl)(hi:Gz ops i=some o:=by exact rfl)(hks:(ks.all fun d=>(get S.objs (0+d)).isNone)=true:=by exact rfl)
 (hg:S.gv ops o=some c:=by simp<;>rfl)(ho:o.op=.call {callee:=.value f,args:=args,argTypes:=ats}:=by exact rfl)(hf:S.evc c f=some (.fn fid):=by exact rfl)(ha:S.args c args.toList=some vs:=by first|(simp<;>rfl)|(simp [*]<;>rfl))(hp:vs.all V.pureV=true:=by first|simp|simp [*])(hs:S.putv o.dst (Fj o c res)=some S':=by first|(simp<;>rfl)|(simp [*]<;>rfl)):AWO P 0 w0 ops Q ((i,ks)::l) S:=
 D7 hc hfn hb hn hi hks hg ho hf ha hp hs h
theorem Gd{ops:List Oper}{i:Nat}{o:Oper}{rest:List Oper}{c:Bool}{f:Operand}{fid:FuncId}{fn:Func}{args:Array Operand}{ats:Array TypeId}{vs:List V}{res:V}{S':AS}
 (hc:c=true->AC P fid vs (fun r=>r=res))(hfn:P.funcs[fid]?=some fn)(h:Jb P w0 N0 ops Q (i+1) rest S')(hb:fn.body.isSome=true:=by exact rfl)(hn:(fn.name== "runtime.NumGoroutine")=false:=by kernel_rfl)
 (hg:S.gv ops o=some c:=by simp<;>rfl)(ho:o.op=.call {callee:=.value f,args:=args,argTypes:=ats}:=by exact rfl)(hf:S.evc c f=some (.fn fid):=by exact rfl)(ha:S.args c args.toList=some vs:=by first|(simp<;>rfl)|(simp [*]<;>rfl))(hp:vs.all V.pureV=true:=by first|simp|simp [*])(hs:S.putv o.dst (Fj o c res)=some S':=by first|(simp<;>rfl)|(simp [*]<;>rfl)):Jb P w0 N0 ops Q i (o::rest) S:=
 Ff hc hfn hb hn hg ho hf ha hp hs h
theorem Bv{fn:Func}{R:V->Prop}{r:V}(hr:Ko P S fn.results.toList=some r)(h:R r):AW P w0 N0 .ret (Wa P fn R) S:=Aj (Aa hr h)
end
def og(a:Nat):Nat->List (Nat×List Nat)
 |0=>[]
 |n+1=>(a,[])::og (a+1) n
def os:List Nat->List (Nat×List Nat)
 |a::n::l=>og a n++os l
 |_=>[]
attribute [simp] og os
section
variable {P:Program}{w0:Bs}{N0:Nat->Prop}{Q:Exit->AS->Prop}{S:AS}{c:Operand}{x y:Code}{t:Bool}{fn:Func}{id:Nat}{l:List Oper}{S':AS}{r:V}{R:V->Prop}
def Ce(k:Q .normal S)(hc:S.evc true c=some (.bool t):=by exact rfl)(ht:t=false:=by first|rfl|(simp;done)|(simp;omega)|(simp [*];done)|(simp [*];omega)|omega|assumption|(simp_all;done)):AW P w0 N0 (.cond c x .skip) Q S:=Lq hc (fun h=>by simp [ht]at h) (fun _=>D9 k)
def Nf(k:AW P w0 N0 y Q S)(hc:S.evc true c=some (.bool t):=by exact rfl)(ht:t=false:=by first|rfl|(simp;done)|(simp;omega)|(simp [*];done)|(simp [*];omega)|omega|assumption|(simp_all;done)):AW P w0 N0 (.cond c x y) Q S:=Lq hc (fun h=>by simp [ht]at h) (fun _=>k)
def Ek(k:AW P w0 N0 x Q S)(hc:S.evc true c=some (.bool t):=by exact rfl)(ht:t=true:=by first|rfl|(simp;done)|(simp;omega)|(simp [*];done)|(simp [*];omega)|omega|assumption|(simp_all;done)):AW P w0 N0 (.cond c x y) Q S:=Lq hc (fun _=>k) (fun h=>by simp [ht]at h)
def Aff(k:Q .normal S)(hc:S.evc true c=some (.bool t):=by exact rfl)(ht:t=true:=by first|rfl|(simp;done)|(simp;omega)|(simp [*];done)|(simp [*];omega)|omega|assumption|(simp_all;done)):AW P w0 N0 (.cond c .skip y) Q S:=Lq hc (fun _=>D9 k) (fun h=>by simp [ht]at h)
def Qp(M:List Nat)(hs:Akd P l M [] S=some S':=by first|(simp<;>rfl)|(simp [*]<;>rfl))(hr:Ko P S' fn.results.toList=some r:=by simp<;>rfl)(h:R r:=by first|rfl|exact⟨rfl,rfl⟩|(rw [Ab (by simpa using ‹_ =true›)];done)|(rw [I (by simpa using ‹_ =false›)];done)|(simp [*];done)|(split<;>simp_all;done)):AW P w0 N0 (.seq (.region id l.toArray false) .ret) (Wa P fn R) S:=Y M [] hs (Aj (Aa hr h))
def L3{rest:Code}{C:Prop}[Decidable C]{u v:Int}(M:List Nat)(k:AW P w0 N0 rest (Wa P fn (fun r=>r=.i v)) S)(hc:S.evc true c=some (.bool t):=by exact rfl)(h1:t=true->C:=by intro h;first|(simpa using h)|(simpa [or_assoc]using h))(h2:t=false->¬C:=by intro h;first|(simpa using h)|(simpa [or_assoc,and_assoc]using h))(hs:Akd P l M [] S=some S':=by simp<;>rfl)(hr:Ko P S' fn.results.toList=some (.i u):=by simp<;>rfl):
 AW P w0 N0 (.cond c (.seq (.region id l.toArray false) .ret) .skip) (Ph (AW P w0 N0 rest (Wa P fn (fun r=>r=.i (if C then u else v)))) (Wa P fn (fun r=>r=.i (if C then u else v)))) S:=
 Lq hc (fun h=>Y M [] hs (Aj (Aa hr (by rw [Ab (h1 h)])))) (fun h=>D9 (by simp only [Ph];rw [I (h2 h)];exact k))
def Bhl{rest:Code}{C:Prop}[Decidable C]{u v:Int}(M:List Nat)(k:t=false->AW P w0 N0 rest (Wa P fn (fun r=>r=.i v)) S)(hc:S.evc true c=some (.bool t):=by exact rfl)(h1:t=true->C:=by intro h;first|(simpa using h)|(simpa [or_assoc]using h))(h2:t=false->¬C:=by intro h;first|(simpa using h)|(simpa [or_assoc,and_assoc]using h))(hs:Akd P l M [] S=some S':=by simp<;>rfl)(hr:Ko P S' fn.results.toList=some (.i u):=by simp<;>rfl):
 AW P w0 N0 (.cond c (.seq (.region id l.toArray false) .ret) .skip) (Ph (AW P w0 N0 rest (Wa P fn (fun r=>r=.i (if C then u else v)))) (Wa P fn (fun r=>r=.i (if C then u else v)))) S:=
 Lq hc (fun h=>Y M [] hs (Aj (Aa hr (by rw [Ab (h1 h)])))) (fun h=>D9 (by simp only [Ph];rw [I (h2 h)];exact k h))
def Tl{C:Prop}[Decidable C]{u v:Int}{id':Nat}{l':List Oper}{S2:AS}(M M':List Nat)(hc:S.evc true c=some (.bool t):=by exact rfl)(h1:t=true->C:=by intro h;first|(simpa using h)|(simpa [or_assoc]using h))(h2:t=false->¬C:=by intro h;first|(simpa using h)|(simpa [or_assoc,and_assoc]using h))(hs:Akd P l M [] S=some S':=by simp<;>rfl)(hr:Ko P S' fn.results.toList=some (.i u):=by simp<;>rfl)(hs':Akd P l' M' [] S=some S2:=by simp<;>rfl)(hr':Ko P S2 fn.results.toList=some (.i v):=by simp<;>rfl):
 AW P w0 N0 (.cond c (.seq (.region id l.toArray false) .ret) .skip) (Ph (AW P w0 N0 (.seq (.region id' l'.toArray false) .ret) (Wa P fn (fun r=>r=.i (if C then u else v)))) (Wa P fn (fun r=>r=.i (if C then u else v)))) S:=
 L3 M (Y M' [] hs' (Aj (Aa hr' rfl))) hc h1 h2 hs hr
def Avj{α:Type}(v:Nat)(x:α):List (Nat×α)->List (Nat×α)
 |[]=>[]
 |(k,y)::r=>if k=v then(k,x)::r else(k,y)::Avj v x r
def Ho{c:Code}(v:Nat)(Inv:Nat->Prop)(n:Nat)(h0:Inv 0)(round:∀k nx,k<=n->Inv k->AW P w0 N0 c (Ph (fun S'=>k<n/\Inv (k+1)/\∃nx',S'.le ⟨Avj v (.i ((k+1:Nat):Int)) S.env,S.objs,nx',S.nt⟩) Q) ⟨Avj v (.i (k:Nat)) S.env,S.objs,nx,S.nt⟩)(hS:S.le ⟨Avj v (.i ((0:Nat):Int)) S.env,S.objs,S.nx,S.nt⟩:=by exact Z):AW P w0 N0 (.loop c) Q S:=
 H4 (fun k nx=>⟨Avj v (.i (k:Nat)) S.env,S.objs,nx,S.nt⟩) Inv n S.nx h0 hS round
def V0{α:Type}:List (Nat×α)->List (Nat×α)->List (Nat×α)
 |[],l=>l
 |(k,y)::r,l=>V0 r (Avj k y l)
def H5{c:Code}(fe:Nat->List (Nat×V))(fo:Nat->List (Nat×Ob))(Inv:Nat->Prop)(n:Nat)(h0:Inv 0)(hS:S.le ⟨V0 (fe 0) S.env,V0 (fo 0) S.objs,S.nx,S.nt⟩)(round:∀k nx,k<=n->Inv k->AW P w0 N0 c (Ph (fun S'=>k<n/\Inv (k+1)/\∃nx',S'.le ⟨V0 (fe (k+1)) S.env,V0 (fo (k+1)) S.objs,nx',S.nt⟩) Q) ⟨V0 (fe k) S.env,V0 (fo k) S.objs,nx,S.nt⟩):AW P w0 N0 (.loop c) Q S:=
 H4 (fun k nx=>⟨V0 (fe k) S.env,V0 (fo k) S.objs,nx,S.nt⟩) Inv n S.nx h0 hS round
def Gn{c:Code}{α:Type}(fe:α->List (Nat×V))(fo:α->List (Nat×Ob))(fn:α->Nat)(Inv:α->Prop)(m:α->Nat)(x0:α)(h0:Inv x0)(hS:S.le ⟨V0 (fe x0) S.env,V0 (fo x0) S.objs,fn x0,S.nt⟩)(round:∀x,Inv x->AW P w0 N0 c (Ph (fun S'=>∃y,Inv y/\m y<m x/\S'.le ⟨V0 (fe y) S.env,V0 (fo y) S.objs,fn y,S.nt⟩) Q) ⟨V0 (fe x) S.env,V0 (fo x) S.objs,fn x,S.nt⟩):AW P w0 N0 (.loop c) Q S:=
 If (fun x=>⟨V0 (fe x) S.env,V0 (fo x) S.objs,fn x,S.nt⟩) Inv m x0 h0 hS round
def H6{ord:List (Nat×List Nat)}(q:List Nat)(e:os q=ord)(h:AWO P 0 w0 l Q ord S)(hm:P.follows .mixedOrders=true:=by kernel_rfl)(hg:(Jy l (Array.replicate l.length false) ord&&(Wd l&&ord.length==l.length))=true:=by kernel_rfl):AW P w0 N0 (.region id l.toArray true) Q S:=H0 ord hm hg h
def I3{rest:Code}{ord:List (Nat×List Nat)}(q L M:List Nat)(e:os q=ord)(hs:Ava P l ord L M S=some S')(h:AW P w0 N0 rest Q S')(hm:P.follows .mixedOrders=true:=by kernel_rfl)(hg:(Jy l (Array.replicate l.length false) ord&&(Wd l&&ord.length==l.length))=true:=by kernel_rfl):AW P w0 N0 (.seq (.region id l.toArray true) rest) Q S:=Om ord L M hm hg hs h
def Ahm{ord:List (Nat×List Nat)}(q L M:List Nat)(e:os q=ord)(hs:Ava P l ord L M S=some S')(h:Q .normal S')(hm:P.follows .mixedOrders=true:=by kernel_rfl)(hg:(Jy l (Array.replicate l.length false) ord&&(Wd l&&ord.length==l.length))=true:=by kernel_rfl):AW P w0 N0 (.region id l.toArray true) Q S:=Ax7 ord L M hm hg hs h
end
section
variable {P:Program}{w0:Bs}{X:List Nat}{ops:List Oper}{Q:Exit->AS->Prop}{kb:Nat}
def Fk{ord:List (Nat×List Nat)}{done:List Nat}{S S1:AS}(q:List Nat)(e:os q=ord)(hs:Ol P kb ops ord S=some S1)(h:AT P kb w0 X ops Q (Ayc done ord) S1)(hg:Ayb X ops done ord=true:=by kernel_rfl):AT P kb w0 X ops Q done S:=Alu ord hg hs h
end
section
variable {P:Program}{w0:Bs}{N0:Nat->Prop}{Q:Exit->AS->Prop}{S:AS}{G:Gp}{id:Nat}{l:List Oper}{o:Oper}{rest:List Oper}{f:Operand}{fid:FuncId}{fn:Func}{args:Array Operand}{ats:Array TypeId}{vs:List V}{res:V}{S1 S2 S':AS}
def Ge(L M:List Nat){ops:List Oper}{i:Nat}
 (hc:AC P fid vs (fun r=>r=res))(hfn:P.funcs[fid]?=some fn)(h:Q .normal S')(hb:fn.body.isSome=true:=by exact rfl)(hn:(fn.name== "runtime.NumGoroutine")=false:=by kernel_rfl)
 (hg:o.guard=none:=by exact rfl)(ho:o.op=.call {callee:=.value f,args:=args,argTypes:=ats}:=by exact rfl)(hf:S.evc true f=some (.fn fid):=by exact rfl)
 (ha:S.args true args.toList=some vs:=by simp<;>rfl)(hp:vs.all V.pureV=true:=by simp)(h2:S.putv o.dst res=some S2:=by simp<;>rfl)
 (hs:(match Z2 P ops (i+1) rest S2 with|some S1=>some ((S1.bump (i+1+rest.length)).keep L M)|none=>none)=some S':=by simp<;>rfl):Jb P w0 N0 ops Q i (o::rest) S:=
 Aw hc hfn (Ak L M hs h) hb hn hg ho hf ha hp h2
def Jk(L M:List Nat){ops:List Oper}{i:Nat}
 (hG:Gon G w0)(hc:Jp G P fid vs (fun r=>r=res))(hfn:P.funcs[fid]?=some fn)(h:Q .normal S')(hb:fn.body.isSome=true:=by exact rfl)(hn:(fn.name== "runtime.NumGoroutine")=false:=by kernel_rfl)
 (hlt:i<ops.length:=by simp)(hg:S.gv ops o=some true:=by exact rfl)(ho:o.op=.call {callee:=.value f,args:=args,argTypes:=ats}:=by exact rfl)(hf:S.evc true f=some (.fn fid):=by exact rfl)
 (ha:S.args true args.toList=some vs:=by simp<;>rfl)(hp:vs.all V.pureV=true:=by simp)(h2:S.putv o.dst (Fj o true res)=some S2:=by simp<;>rfl)
 (hs:(match Z2 P ops (i+1) rest S2 with|some S1=>some ((S1.bump (i+1+rest.length)).keep L M)|none=>none)=some S':=by simp<;>rfl):Jb P w0 N0 ops Q i (o::rest) S:=
 Dw hG hc hfn (Ak L M hs h) hb hn hlt hg ho hf ha hp h2
end
attribute [simp] Avj V0
end Go.Eng
