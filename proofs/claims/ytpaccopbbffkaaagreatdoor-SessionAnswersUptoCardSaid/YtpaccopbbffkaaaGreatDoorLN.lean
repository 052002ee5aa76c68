/- Sessions: SessionAnswers, the given statement (second form). No condition. -/
import Derived.Test.YtpaccopbbffkaaaGreatDoorB6
import Derived.Test.YtpaccopbbffkaaaGreatDoorFN
set_option maxHeartbeats 8000000
set_option linter.all false
open Go.Proofs.Tryz
set_option maxRecDepth 4000
namespace Go.Proofs.YtpaccopbbffkaaaGreatDoor
open Go.Eng Go.Eng.Limb
theorem Aqv(l:List It)(id:Int)(hl:l.length<=4000000):AC prog 23 [.ro 17 (Hg l),.int .i64 id] (fun r=>r=.tup [(Jd (Fr l id)).v,.bool (Fr l id).isSome]):=by
 refine AC.relaxP ?_;have n:=fun(k:Nat)(h:k<l.length)=>Agu h
 have lq:=Fl l;have i:=fun(k:Nat)(h:k<l.length)=>Wf (fun it:It=>decide (it.id=id)) h
 unfold Fr;generalize Hg l=j at*;refine Ay func23 (fun w0 N0=>?_);refine Aa [0,1,4] [4] sr (Ab (Aa [0,1,4,6] [4] sr (Ap (Bq (fun k nx=>⟨[(0,V.ro 17 j),(1,V.int .i64 id),(4,V.bp 4 (0) 17 0 0),(6,V.int .i64 k)],[(4,{ v:=0,sz:=17,ty:=93,es:=[.agg [.int .i64 0,.int .i64 0,.int .i64 0,.str [],.nils,.nils,.int .i64 0,.int .i64 0,.nils,.int .i64 0,.str [],.int .i64 0,.int .i64 0,.int .i64 0,.int .i64 0,.nils,.int .i64 0]]})],nx,25⟩) (fun k=>(l.drop k).find? (fun it=>decide (it.id=id))=l.find? (fun it=>decide (it.id=id))) l.length _ sm (AS.le_refl _) ?_))));intro k nx hk d;refine Ab (Aa [0,1,4,6,10] [4] sr ?_)
 refine Ao (fun h1=>Ae ?_) (fun h1=>?_)
 ·have c:k<l.length:=by simp at h1;omega
  have a:k<j.length:=om;have e:=n k c;have C9:=A7 (k:=k) om;rw [i k c]at d;generalize l[k]=it at*;have g:it.v=V.agg [.int .i64 it.id,.int .i64 it.ver,.int .i64 it.kind,.str it.stem,.ro 1 (D6 it.opts),.ro 1 (As it.ch),.int .i64 it.val,.int .i64 it.tol,.ro 1 (D6 it.txts),.int .i64 it.pts,.str it.code,.int .i64 it.fam,.int .i64 it.set,.int .i64 it.wo,.int .i64 it.se,.ro 1 (As it.ass),.int .i64 it.rub]:=rfl;rw [g]at e;have m:=Ct it.opts;have o:=Af it.ch;have t:=Ct it.txts;have s:=Af it.ass;refine Ab (Ap (Aa [0,1,4,6,19] [4] (by simp [e,a]<;>rfl) ?_))
  refine Ao (fun h2=>?_) (fun h2=>Ae ?_)
  ·refine Aa [4,5] [4] (by simp [e,a]<;>rfl) ?_;exact Ak (Ad (by simp [results23]<;>rfl) (by rw [<- d,if_pos (by simpa using h2)];exact Bl.refl _))
  rw [if_neg (by simpa using h2)]at d;refine A2 [0,1,4,6] [4] (by simp [C9]<;>rfl) ?_;exact⟨c,d,_,AS.le_refl _⟩
 ·refine A9 ?_;have f:k=l.length:=by simp at h1;omega
  rw [f,Ca]at d;exact Aa [4,5] [4] sr (Ak (Ad sr (by rw [<- d];exact Bl.tup (.cons Aki (.cons (Bl.refl _) .nil)))))
def Ma(d:Dl)(a:An):It:=Jd (Fr d.items a.item)
def Gl(d:Dl):List An->List (Int × Int)
 | []=>[]
 |a::l=>(if(Ma d a).kind=6 then []else [(a.item,(F7 (Ma d a) a).1)])++Gl d l
theorem Jo(d:Dl):∀(a b:List An),Gl d (a++b)=Gl d a++Gl d b
 | [],b=>rfl
 |x::a,b=>by rw [Ce,Gl,Gl,Jo d a b,Cz]
structure Fth(d:Dl)(s:Se):Prop where
 sh:∀a∈s.ans,a.item≠s.sh
 nd:(s.ans.map An.item).Nodup
 fd:∀a∈s.ans,(Fr d.items a.item).isSome=true
 ok:∀a∈s.ans,(Ma d a).kind≠6->(F7 (Ma d a) a).2=0
 st:s.t.steps=Gl d s.ans
def S4(d:Dl)(l:List An)(k:Nat):Nat:=(Gl d (l.take k)).length
theorem A5i{d:Dl}{l:List An}{k:Nat}(h:k<l.length)(a:(Ma d l[k]).kind=6):S4 d l (k+1)=S4 d l k:=by
 unfold S4;rw [A3 h,Jo,Gl,if_pos a];simp [Gl]
theorem A5j{d:Dl}{l:List An}{k:Nat}(h:k<l.length)(a:(Ma d l[k]).kind≠6):
  S4 d l (k+1)=S4 d l k+1/\(Gl d l)[S4 d l k]? =some (l[k].item,(F7 (Ma d l[k]) l[k]).1):=by
 refine⟨?_,?_⟩
 ·unfold S4;rw [A3 h,Jo,Gl,if_neg a];simp [Gl]
 ·have e:Gl d l=Gl d (l.take k)++((l[k].item,(F7 (Ma d l[k]) l[k]).1)::Gl d (l.drop (k+1))):=by
   have h1:Gl d (l[k]::l.drop (k+1))=(l[k].item,(F7 (Ma d l[k]) l[k]).1)::Gl d (l.drop (k+1)):=by rw [Gl,if_neg a];rfl
   rw [<- h1,<- Jo,<- Bu h,Fe]
  rw [e];unfold S4;simp
theorem Ams(hS:Ic)(d:Dl)(s:Se)(hd:DlOk d)(hs:SeOk s)(hf:Fth d s):Hm gv prog 13 [d.v,s.v] (fun r=>r=.bool true):=by
 have bl:=hs.al;have bi:=hs.t.sl;have bc:=fun id=>Aqv d.items id hd.il
 have az:=fun(k:Nat)(h:k<s.ans.length)=>Akg hS (Ma d s.ans[k]) s.ans[k] (Ag0 hd.is _) (hs.ac _ (Aw h)) (hs.ac _ (Aw h)).ch
 have qa:=fun(k:Nat)(h:k<s.ans.length)=>Sw h
 have be:=fun(k:Nat)(h:k<s.ans.length)=>hf.sh _ (Aw h)
 have a3:=fun(k:Nat)(h:k<s.ans.length)=>hf.fd _ (Aw h)
 have ax:∀(j k:Nat)(hk:k<s.ans.length)(hj:j<k),s.ans[k].item≠(s.ans[j]'(by omega)).item:=fun j k hk hj e=>by
  have h:=hf.nd;rw [List.nodup_iff_pairwise_ne,G6]at h;refine h j k so so hj ?_;simp only [List.getElem_map];exact e.symm
 have h6:∀(k:Nat)(h:k<s.ans.length),(Ma d s.ans[k]).kind=6->S4 d s.ans (k+1)=S4 d s.ans k:=fun k h e=>A5i h e
 have a6:∀(k:Nat)(h:k<s.ans.length),(Ma d s.ans[k]).kind≠6->(F7 (Ma d s.ans[k]) s.ans[k]).2=0/\S4 d s.ans (k+1)=S4 d s.ans k+1/\S4 d s.ans k<s.t.steps.length/\Hs (A0 s.t.steps) (S4 d s.ans k)=some (.agg [.int .i64 s.ans[k].item,.int .i64 (F7 (Ma d s.ans[k]) s.ans[k]).1]):=fun k h e=>by
  obtain⟨e1,e2⟩:=A5j h e;have hl:S4 d s.ans k<s.t.steps.length:=by rw [hf.st];exact(Aq.1 e2).1
  refine⟨hf.ok _ (Aw h) e,e1,hl,?_⟩;rw [Hu hl];have e3:s.t.steps[S4 d s.ans k]? =some (s.ans[k].item,(F7 (Ma d s.ans[k]) s.ans[k]).1):=by rw [hf.st];exact e2
  rw [Al hl]at e3;injection e3 with e3;rw [e3]
 have a5:S4 d s.ans 0=0:=rfl;have bf:S4 d s.ans s.ans.length=s.t.steps.length:=by rw [hf.st];unfold S4;rw [Bo]
 have m:=Dq s.t.steps;generalize S4 d s.ans=cn at*;have ay:s.v=V.agg [.int .i64 s.st,.int .i64 s.us,.int .i64 s.la,.int .i64 s.sh,.ro 1 (As s.t.elig),.ro 2 (A0 s.t.steps),.int .i64 s.t.pend,.ro 1 (Bv s.t.w),.int .u64 s.t.draw,.int .i64 s.t.stop,.ro 5 (E7 s.ans),.ro 4 (Dc s.inc)]:=rfl;have ba:d.v=V.agg [.int .i64 d.ses,.int .i64 d.cand,.int .i64 d.p.len,.ro 5 (Ee d.p.rules),.ro 1 (As d.p.g.pts),.ro 1 (As d.p.g.pri),.ro 2 (A0 d.p.en),.int .i64 d.p.mn,.bool d.p.var.num.neg,.ro 1 (Au d.p.var.num.mag),.ro 1 (Au d.p.var.den),.int .i64 d.p.cut,.bool d.p.lvl.num.neg,.ro 1 (Au d.p.lvl.num.mag),.ro 1 (Au d.p.lvl.den),.int .i64 d.p.top,.bool d.p.rate.num.neg,.ro 1 (Au d.p.rate.num.mag),.ro 1 (Au d.p.rate.den),.int .i64 d.p.slack,.ro 9 (B8 d.pool),.ro 17 (Hg d.items),.ro 1 (As d.ess),.ro 2 (A0 d.uses),.int .i64 d.served,.int .i64 d.sec,.int .i64 d.nu,.int .i64 d.de,.int .i64 d.ex,.int .u64 d.seed]:=rfl;rw [ay];rw [ba];have d0:=Cq d.p.rules;have d1:=Af d.p.g.pts;have d2:=Af d.p.g.pri;have d3:=A4 d.p.en;have d4:=Ah d.p.var.num.mag;have d5:=Ah d.p.var.den;have d6:=Ah d.p.lvl.num.mag;have d7:=Ah d.p.lvl.den;have d8:=Ah d.p.rate.num.mag;have d9:=Ah d.p.rate.den;have o:=B4 d.pool;have f:=Eu d.items;have n:=Af d.ess;have u:=A4 d.uses;generalize Ee d.p.rules=rv,As d.p.g.pts=pt,As d.p.g.pri=pr,A0 d.p.en=ev,Au d.p.var.num.mag=vm,Au d.p.var.den=vd,Au d.p.lvl.num.mag=lm,Au d.p.lvl.den=ld,Au d.p.rate.num.mag=rm,Au d.p.rate.den=rd at*;have bh:=Da d.pool;have i:=Fl d.items;have bj:=A5 d.ess;generalize B8 d.pool=lv,Hg d.items=ag,As d.ess=aq,A0 d.uses=uv at*;have z1:=Af s.t.elig;have z2:=A4 s.t.steps;have z3:=Br s.t.w;have z4:=D0 s.ans;have z5:=Dh s.inc;have c:=Fz s.ans;have l:=Ey s.inc;generalize As s.t.elig=ti,A0 s.t.steps=ts,Bv s.t.w=tw,E7 s.ans=x,Dc s.inc=am at*;refine Bx func13 (fun w0 N0 hG=>?_);refine Aa [2,3] [2,3] sr (Aa [2,3,5] [2,3] sr (Ab (Aa [2,3,5,15,16,17] [2,3] (by simp [c]<;>rfl) (Ap (Bq (fun k nx=>⟨[(2,V.bp 2 0 30 0 0),(3,V.bp 3 1 12 0 0),(5,V.int .i64 (cn k)),(15,V.ro 5 x),(16,V.int .i64 s.ans.length),(17,V.int .i64 k)],[(2,⟨0,30,44,[V.agg [.int .i64 d.ses,.int .i64 d.cand,.int .i64 d.p.len,.ro 5 rv,.ro 1 pt,.ro 1 pr,.ro 2 ev,.int .i64 d.p.mn,.bool d.p.var.num.neg,.ro 1 vm,.ro 1 vd,.int .i64 d.p.cut,.bool d.p.lvl.num.neg,.ro 1 lm,.ro 1 ld,.int .i64 d.p.top,.bool d.p.rate.num.neg,.ro 1 rm,.ro 1 rd,.int .i64 d.p.slack,.ro 9 lv,.ro 17 ag,.ro 1 aq,.ro 2 uv,.int .i64 d.served,.int .i64 d.sec,.int .i64 d.nu,.int .i64 d.de,.int .i64 d.ex,.int .u64 d.seed]]⟩),(3,⟨1,12,58,[V.agg [.int .i64 s.st,.int .i64 s.us,.int .i64 s.la,.int .i64 s.sh,.ro 1 ti,.ro 2 ts,.int .i64 s.t.pend,.ro 1 tw,.int .u64 s.t.draw,.int .i64 s.t.stop,.ro 5 x,.ro 4 am]]⟩)],nx,93⟩) (fun k=>True) s.ans.length _ trivial (by simp only [a5];exact AS.le_refl _) ?_)))));intro k nx hk hI;refine Aa [2,3,5,15,16,17,18] [2,3] sr (Ab ?_)
 refine Ao (fun h1=>Ae ?_) (fun h1=>?_)
 ·have a:k<s.ans.length:=by simp at h1;omega
  have bg:k<x.length:=om;have ga:=qa k a;have C9:=A7 (k:=k) om;have ao:=be k a;have ah:=a3 k a;have ai:=fun j hj=>ax j k a hj
  have ak:=h6 k a;have aa:=a6 k a;have y:=az k a;have ab:=bc s.ans[k].item;have qj:=fun(j:Nat)(hj:j<k)=>qa j om
  have pc:=Af s.ans[k].ch;unfold Ma at y ak aa;have a2:s.ans[k].v=.agg [.int .i64 s.ans[k].item,.ro 1 (As s.ans[k].ch),.int .i64 s.ans[k].val,.str s.ans[k].txt,.bool s.ans[k].om]:=rfl;rw [a2]at ga y;generalize F7 (Jd (Fr d.items s.ans[k].item)) s.ans[k]=sc at*;generalize bk:Jd (Fr d.items s.ans[k].item)=it at*;have a7:it.v=V.agg [.int .i64 it.id,.int .i64 it.ver,.int .i64 it.kind,.str it.stem,.ro 1 (D6 it.opts),.ro 1 (As it.ch),.int .i64 it.val,.int .i64 it.tol,.ro 1 (D6 it.txts),.int .i64 it.pts,.str it.code,.int .i64 it.fam,.int .i64 it.set,.int .i64 it.wo,.int .i64 it.se,.ro 1 (As it.ass),.int .i64 it.rub]:=rfl;have j1:=Ct it.opts;have j2:=Af it.ch;have j3:=Ct it.txts;have j4:=Af it.ass;rw [a7]at ab y;generalize D6 it.opts=ov,As it.ch=cv,D6 it.txts=xv,As it.ass=av,As s.ans[k].ch=hv at*;refine Ab (Ap (Aa [2,3,5,6,7,15,16,17] [2,3,7] (by simp [ga,a,c]<;>rfl) (Ab (Aa [2,3,5,6,7,15,16,17,26] [2,3,7] (by simp<;>rfl) ?_))));refine A6 rfl (fun h2=>absurd (by simpa using h2) ao) (fun h2=>Ae (Ab ?_));have ae:((k:Nat):Int)<=(s.ans.length:Int):=om;have aj:min k s.ans.length=k:=Hi om;have aw:(x.take k).length=k:=by rw [B9,c];omega
  refine Aa [2,3,5,7,15,16,17,30,31,32] [2,3,7] (by simp [ae,aj,c]<;>rfl) (Ap (Bq (fun j ny=>⟨[(2,V.bp 2 0 30 0 0),(3,V.bp 3 1 12 0 0),(5,V.int .i64 (cn k)),(7,V.bp 7 (nx+4) 5 0 0),(15,V.ro 5 x),(16,V.int .i64 s.ans.length),(17,V.int .i64 k),(30,V.ro 5 (x.take k)),(31,V.int .i64 k),(32,V.int .i64 j)],[(2,⟨0,30,44,[V.agg [.int .i64 d.ses,.int .i64 d.cand,.int .i64 d.p.len,.ro 5 rv,.ro 1 pt,.ro 1 pr,.ro 2 ev,.int .i64 d.p.mn,.bool d.p.var.num.neg,.ro 1 vm,.ro 1 vd,.int .i64 d.p.cut,.bool d.p.lvl.num.neg,.ro 1 lm,.ro 1 ld,.int .i64 d.p.top,.bool d.p.rate.num.neg,.ro 1 rm,.ro 1 rd,.int .i64 d.p.slack,.ro 9 lv,.ro 17 ag,.ro 1 aq,.ro 2 uv,.int .i64 d.served,.int .i64 d.sec,.int .i64 d.nu,.int .i64 d.de,.int .i64 d.ex,.int .u64 d.seed]]⟩),(3,⟨1,12,58,[V.agg [.int .i64 s.st,.int .i64 s.us,.int .i64 s.la,.int .i64 s.sh,.ro 1 ti,.ro 2 ts,.int .i64 s.t.pend,.ro 1 tw,.int .u64 s.t.draw,.int .i64 s.t.stop,.ro 5 x,.ro 4 am]]⟩),(7,⟨nx+4,5,62,[V.agg [.int .i64 s.ans[k].item,.ro 1 hv,.int .i64 s.ans[k].val,.str s.ans[k].txt,.bool s.ans[k].om]]⟩)],ny,93⟩) (fun j=>True) k _ trivial (AS.le_refl _) ?_));intro j ny bm bn;refine Aa [2,3,5,7,15,16,17,30,31,32,33] [2,3,7] sr (Ab ?_)
  refine Ao (fun h3=>Ae ?_) (fun h3=>?_)
  ·have z:j<k:=by simp at h3;omega
   have bd:j<s.ans.length:=om;have gj:Hs (x.take k) j=some s.ans[j].v:=by have h:=qj j z;rw [C1]at h|-;rw [List.getElem?_take,if_pos z];exact h
   have Pq:=A7 (k:=j) om;have au:=ai j z;have a8:=Af s.ans[j].ch;unfold An.v at gj;refine Ab (Ap (Aa [2,3,5,7,9,15,16,17,30,31,32] [2,3,7,9] (by simp [gj,z,aw]<;>rfl) (Aa [2,3,5,7,15,16,17,30,31,32,40] [2,3,7] (by simp<;>rfl) ?_)));refine A6 rfl (fun h4=>absurd (by simpa using h4) au) (fun h4=>Ae (A2 [2,3,5,7,15,16,17,30,31,32] [2,3,7] (by simp [Pq]<;>rfl) ?_));exact⟨z,trivial,_,AS.le_refl _⟩
  ·refine A9 ?_;refine Ab (Ac (Am 4 sr ?_));refine Ai ab func23 ?_ (hp:=by simp);refine Ag [2,3,5,7,10,11,15,16,17] [2,3,7,10] (by simp [ah]<;>rfl) ?_;refine Ab (Aa [2,3,5,7,10,15,16,17,51] [2,3,7,10] sr ?_);refine A6 rfl (fun h5=>by simp at h5) (fun h5=>Ae (Ab (Aa [2,3,5,7,10,15,16,17,54] [2,3,7,10] sr ?_)))
   refine A6 rfl (fun ad=>?_) (fun ad=>Ae ?_)
   ·have a0:=ak (by simpa using ad);refine A9 ?_;refine A2 [2,3,5,15,16,17] [2,3] (by simp [C9]<;>rfl) ?_;exact⟨a,trivial,_,by rw [a0];exact AS.le_refl _⟩
   obtain⟨bb,a1,ar,a4⟩:=aa (by simpa using ad);have a9:=A7 (k:=cn k) om;have af:¬((s.t.steps.length:Int)<=(cn k:Int)):=om;refine Ab (Ac (Am 2 sr ?_));refine Be hG y func24 ?_ (hp:=by simp);refine Ag [2,3,5,7,12,13,15,16,17] [2,3,7] sr ?_;refine Ab (Di [(0,[]),(1,[]),(2,[]),(3,[]),(4,[]),(5,[]),(6,[]),(7,[]),(8,[]),(9,[]),(10,[]),(11,[]),(12,[]),(14,[]),(17,[]),(19,[]),(13,[]),(15,[]),(16,[]),(18,[]),(20,[]),(21,[]),(22,[])] [2,3,5,15,16,17,83] [2,3] Dm kr (by simp [bb,ar,a4,af,m]<;>rfl) ?_);refine A6 rfl (fun h7=>by simp at h7) (fun h7=>Ae (A2 [2,3,5,15,16,17] [2,3] (by simp [a9]<;>rfl) (A2 [2,3,5,15,16,17] [2,3] (by simp [C9]<;>rfl) ?_)));exact⟨a,trivial,_,by rw [a1];exact AS.le_refl _⟩
 ·refine A9 ?_;have an:k=s.ans.length:=by simp at h1;omega
  subst an;exact Aa [4] [] (by simp [bf,m]<;>rfl) (Ak (Ad sr sm))
set_option linter.unusedSimpArgs false
structure TimeL(d:Dl)(s n:Se):Prop where
 e1:W6 d.sec d.nu d.de d.ex=0
 e2:Q0 n.inc=0
 e3:Aml d n n.la=0
 u1:s.us<=n.us
 lm:IntKind.i64.wrap (R3 d.sec d.nu d.de d.ex+Ix n.inc d.sec)=Ej d n
 u2:n.us<=Ej d n
 l3:n.st=3->Vj d n n.la=0
 l4:n.st≠3->Vj d n n.la=IntKind.i64.wrap (Ej d n-n.us)
theorem Pl(pool:List Pit)(a:List Int):∀k,k<=pool.length->∀id,N3 (To pool a k) id=true->id∈I3 pool
 |0,_,id,h=>by simp [To,N3]at h
 |k+1,hk,id,h=>by
  have ih:=Pl pool a k om id;rw [To]at h
  split at h
  ·exact ih h
  ·unfold N3 at h ih;rw [Mr,Gu]at h
   rcases h with h|h
   ·have e:(pool.getD k default).id=id:=by simpa using h
    rw [<- e,Cf (by omega)];exact I0 (Aw _)
   ·exact ih h
theorem Aan{pool:List Pit}{a c giv:List Int}(h:Ab1 pool a c giv=0){x:Int}(d:x∈Ah7 pool a c giv):x∈I3 pool/\x∉giv:=by
 unfold Ah7 at d;rw [(M0 _ _).mem_iff,Iv]at d;refine⟨?_,by simpa using d.2⟩;unfold Ab1 at h
 split at h
 ·omega
 ·rename_i f;refine Pl pool a pool.length (A8 _) x ?_
  cases e:N3 (Agj pool a) x
  ·exact absurd (.inl (Dp.2 ⟨x,d.1,by simp [e]⟩)) f
  ·exact e
theorem Aao{p:Po}{pool:List Pit}{t:Te}(h:Q8 p pool t=0){x:Int}(a:x∈K8 p pool t):x∈I3 pool/\x∉Gh t.steps:=by
 have h1:Ab1 (Hv pool t) (Ge p.g t.w (Hv pool t)) (Ac7 p.len p.rules (Hv pool t) p.en (Gh t.steps) (Ge p.g t.w (Hv pool t))) (Gh t.steps)=0:=by
  unfold Q8 at h;split at h
  ·omega
  ·exact h
 obtain⟨h2,c⟩:=Aan h1 a;refine⟨?_,c⟩;unfold I3 at h2|-;rw [Bk]at h2|-;obtain⟨q,d,e⟩:=h2;exact⟨q,(Wg pool t.elig).subset d,e⟩
theorem Pm{p:Po}{pool:List Pit}{t:Te}(hp:t.pend=0)(h:Ua p pool t=0):
  (Mf p pool t).pend∈I3 pool/\(Mf p pool t).pend∉Gh t.steps/\(Mf p pool t).steps=t.steps/\(Mf p pool t).stop=t.stop:=by
 unfold Ua at h;rw [if_neg (c:=t.pend≠0) (by simp [hp])]at h
 have h1:Q8 p pool t=0/\W4 p (K8 p pool t).length≠0:=by
  (repeat' split at h)<;>first|omega|exact⟨by omega,by omega⟩
 obtain⟨h2,h3⟩:=h1;have hl:=We t.draw (n:=W4 p (K8 p pool t).length) om;have hm:W4 p (K8 p pool t).length<=(K8 p pool t).length:=Kk _ _
 have a:(K8 p pool t).getD (Nu t.draw (W4 p (K8 p pool t).length)) 0∈K8 p pool t:=by
  rw [Cf (by omega)];exact Aw _
 obtain⟨d,e⟩:=Aao h2 a;unfold Mf;rw [if_neg (by simp [hp])];exact⟨d,e,rfl,rfl⟩
structure DlI(d:Dl):Prop where
 pool:∀id∈I3 d.pool,(Fr d.items id).isSome=true/\(Jd (Fr d.items id)).kind≠6
 ess:∀id∈d.ess,(Fr d.items id).isSome=true/\(Jd (Fr d.items id)).kind=6
theorem Ql{d:Dl}(h:Gv d=0):DlI d:=by
 unfold Gv at h
 (repeat' split at h)<;>try omega
 rename_i h5 h6 h7 _;have j:Kr (Adc d.items) d.pool=0:=om;have g:Kr (Ade d) (List.range d.ess.length)=0:=om
 refine⟨fun id c=>?_,fun id c=>?_⟩
 ·unfold I3 at c;rw [Bk]at c;obtain⟨q,m,e⟩:=c;have f:=Ka j q m;subst e;unfold Adc at f
  (repeat' split at f)<;>try omega
  rename_i n k;exact⟨by cases e2:(Fr d.items q.id).isSome<;>simp_all,fun a=>k (.inl a)⟩
 ·obtain⟨i,l,e⟩:=Gq.1 c;have f:=Ka g i (by simp [l]);unfold Ade at f;rw [show d.ess.getD i 0=id from by rw [Cf l];exact e]at f
  (repeat' split at f)<;>try omega
  rename_i n k c3;exact⟨by cases e2:(Fr d.items id).isSome<;>simp_all,by omega⟩
def ShI(d:Dl)(s:Se):Prop:=
 (s.t.stop=0/\s.sh=s.t.pend/\s.sh∈I3 d.pool/\s.sh∉Gh s.t.steps)\/(s.t.stop≠0/\s.t.pend=0/\(s.sh=0\/(s.sh∈d.ess/\∀a∈s.ans,a.item≠s.sh)))
structure FaI(d:Dl)(s:Se):Prop where
 nd:(s.ans.map An.item).Nodup
 nz:∀a∈s.ans,a.item≠0
 fd:∀a∈s.ans,(Fr d.items a.item).isSome=true
 ok:∀a∈s.ans,(Ma d a).kind≠6->(F7 (Ma d a) a).2=0
 st:s.t.steps=Gl d s.ans
 run:s.st=1\/s.st=2->ShI d s
 off:¬(s.st=1\/s.st=2)->s.sh=0
 new:s.st=0->s.ans= []
theorem Rp{d:Dl}:∀ {l:List An}{a:An},a∈l->(Ma d a).kind≠6->a.item∈Gh (Gl d l)
 |x::l,a,h,c=>by
  unfold Gh;rw [Gl,Ck,B3]
  rcases Cg.1 h with h|h
  ·subst h;exact .inl (by rw [if_neg c];simp)
  ·exact .inr (Rp h c)
theorem FaI.sh{d:Dl}{s:Se}(h:FaI d s)(j:DlI d):∀a∈s.ans,a.item≠s.sh:=by
 intro a f e
 by_cases g:s.st=1\/s.st=2
 ·rcases h.run g with⟨_,_,h2,i⟩|⟨_,_,h2|h2⟩
  ·by_cases c:(Ma d a).kind=6
   ·have:=(j.pool _ h2).2;unfold Ma at c;rw [e]at c;exact this c
   ·refine i ?_;rw [h.st,<- e];exact Rp f c
  ·exact h.nz a f (e.trans h2)
  ·exact h2.2 a f e
 ·exact h.nz a f (e.trans (h.off g))
theorem FaI.fth{d:Dl}{s:Se}(h:FaI d s)(a:DlI d):Fth d s:=⟨h.sh a,h.nd,h.fd,h.ok,h.st⟩
theorem Rq{c:List Int}{d:List An}:(Pd c d).getD 0=0\/((Pd c d).getD 0∈c/\∀a∈d,a.item≠(Pd c d).getD 0):=by
 cases e:Pd c d with
 |none=>exact .inl rfl
 |some x=>
  right
  unfold Pd at e;refine⟨List.mem_of_find?_eq_some e,fun a g f=>?_⟩;have:=List.find?_some e;simp only [Yd,Hz,D9]at this f;rw [Jq]at this;exact this a g (by simpa using f)
theorem FaI.la{d:Dl}{s:Se}(h:FaI d s)(n u:Int):FaI d { s with la:=n,us:=u}:=⟨h.nd,h.nz,h.fd,h.ok,h.st,h.run,h.off,h.new⟩
theorem Aap(d:Dl):FaI d Vi:=⟨List.nodup_nil,(fun a h=>by cases h),(fun a h=>by cases h),(fun a h=>by cases h),rfl,(fun h=>by rcases h with h|h<;>exact absurd (show(0:Int)=_ from h) dc),fun _ =>rfl,fun _ =>rfl⟩
theorem Aaq{d:Dl}{s:Se}{e:Ev}(hd:DlI d)(h:FaI d s)(hz:Nh d s e=0):FaI d (M1 d s e)/\e.an.item=s.sh:=by
 have h0:s.st=1/\s.sh≠0/\e.an.item=s.sh/\(s.t.pend=s.sh->W7 d s (I4 d s) e.an=0):=by
  unfold Nh at hz
  (repeat' split at hz)<;>first|omega|(refine⟨by omega,by omega,by omega,fun _ =>hz⟩)|(refine⟨by omega,by omega,by omega,fun a=>?_⟩;contradiction)
 obtain⟨h1,h2,w,h4⟩:=h0;have aa:=h.run (.inl h1);have ah:=h.sh hd
 have ai:(Fr d.items s.sh).isSome=true:=by
  rcases aa with⟨_,_,a,_⟩|⟨_,_,a|a⟩
  ·exact(hd.pool _ a).1
  ·exact absurd a h2
  ·exact(hd.ess _ a.1).1
 have r:Ma d e.an=I4 d s:=by unfold Ma I4;rw [w]
 have m:∀a,a∈s.ans++[e.an]->a∈s.ans\/a=e.an:=fun a f=>by
  rcases B3.1 f with f|f
  ·exact .inl f
  ·exact .inr (By.1 f)
 have ad:((s.ans++[e.an]).map An.item).Nodup:=by
  rw [Ck,Io];refine⟨h.nd,by simp,fun x hx y hy=>?_⟩;obtain⟨a,f,rfl⟩:=Bk.1 hx;simp at hy;rw [hy,w];exact ah a f
 have ag:∀a∈s.ans++[e.an],a.item≠0:=fun a f=>by
  rcases m a f with f|f
  ·exact h.nz a f
  ·rw [f,w];exact h2
 have n:∀a∈s.ans++[e.an],(Fr d.items a.item).isSome=true:=fun a f=>by
  rcases m a f with f|f
  ·exact h.fd a f
  ·rw [f,w];exact ai
 refine⟨?_,w⟩;by_cases hp:s.t.pend=s.sh
 ·
  have hr:=h4 hp
  have aj:s.t.stop=0:=by
   rcases aa with⟨a,_⟩|⟨_,a,_⟩
   ·exact a
   ·exact absurd (hp.symm.trans a) h2
  unfold W7 at hr
  have l:(F7 (I4 d s) e.an).2=0/\Ac9 d.p d.pool s.t (F7 (I4 d s) e.an).1=0:=by
   (repeat' split at hr)<;>first|omega|exact⟨by omega,by omega⟩
  have ae:(Mg d.p d.pool s.t (F7 (I4 d s) e.an).1).steps=Gl d (s.ans++[e.an]):=by
   have z:(Ma d e.an).kind≠6:=by
    rw [r];intro z;have:=l.1;unfold F7 at this
    (repeat' split at this)<;>simp_all
   rw [Jo,Gl,if_neg z,r,w];show s.t.steps++[(s.t.pend,_)]=_
   rw [h.st,hp];simp [Gl]
  have o:Hl d s e=Pf d s (F7 (I4 d s) e.an).1:=by unfold Hl;rw [if_pos hp]
  have u:∀a∈s.ans++[e.an],(Ma d a).kind≠6->(F7 (Ma d a) a).2=0:=fun a f z=>by
   rcases m a f with f|f
   ·exact h.ok a f z
   ·rw [f,r];exact l.1
  have af:(Hl d s e).steps=Gl d (s.ans++[e.an])/\ShI d (M1 d s e):=by
   rw [o];unfold Pf
   by_cases hs:(Mg d.p d.pool s.t (F7 (I4 d s) e.an).1).stop=0
   ·rw [if_pos hs]
    have hn:Ua d.p d.pool (Mg d.p d.pool s.t (F7 (I4 d s) e.an).1)=0:=by
     rw [if_neg (by simp [l.1]),if_neg (by simp [l.2]),if_pos hs]at hr;exact hr
    obtain⟨n1,n2,n3,n4⟩:=Pm (t:=Mg d.p d.pool s.t (F7 (I4 d s) e.an).1) rfl hn;have j:Hl d s e=Mf d.p d.pool (Mg d.p d.pool s.t (F7 (I4 d s) e.an).1):=by rw [o];unfold Pf;rw [if_pos hs]
    have i:(Hl d s e).stop=0:=by rw [j,n4];exact hs
    have g:(M1 d s e).sh=(Hl d s e).pend:=by
     show Oe d s e=_
     unfold Oe;rw [if_neg (by simp [i]),if_pos hp]
    refine⟨n3.trans ae,.inl ⟨i,g,?_,?_⟩⟩
    ·rw [g,j];exact n1
    ·rw [g];show _ ∉Gh (Hl d s e).steps
     rw [j,n3];exact n2
   ·rw [if_neg hs];have j:Hl d s e=Mg d.p d.pool s.t (F7 (I4 d s) e.an).1:=by rw [o];unfold Pf;rw [if_neg hs]
    have i:(Hl d s e).stop≠0:=by rw [j];exact hs
    have g:(M1 d s e).sh=(Pd d.ess (s.ans++[e.an])).getD 0:=by
     show Oe d s e=_
     unfold Oe;rw [if_pos i]
    refine⟨ae,.inr ⟨i,?_,?_⟩⟩
    ·show(Hl d s e).pend=0
     rw [j];rfl
    ·rw [g];exact Rq
  exact⟨ad,ag,n,u,af.1,fun _ =>af.2,fun a=>absurd (.inl h1) a,fun a=>absurd (h1.symm.trans a) dc⟩
 ·
  have k:s.t.stop≠0/\s.t.pend=0/\s.sh∈d.ess:=by
   rcases aa with⟨_,a,_⟩|⟨a,b,c|c⟩
   ·exact absurd a.symm hp
   ·exact absurd c h2
   ·exact⟨a,b,c.1⟩
  have z:(Ma d e.an).kind=6:=by unfold Ma;rw [w];exact(hd.ess _ k.2.2).2
  have o:Hl d s e=s.t:=by unfold Hl;rw [if_neg hp]
  have u:∀a∈s.ans++[e.an],(Ma d a).kind≠6->(F7 (Ma d a) a).2=0:=fun a f ab=>by
   rcases m a f with f|f
   ·exact h.ok a f ab
   ·rw [f]at ab;exact absurd z ab
  have g:(M1 d s e).sh=(Pd d.ess (s.ans++[e.an])).getD 0:=by
   show Oe d s e=_
   unfold Oe;rw [if_pos (by rw [o];exact k.1)]
  refine⟨ad,ag,n,u,?_,fun _ =>.inr ⟨?_,?_,?_⟩,fun a=>absurd (.inl h1) a,fun a=>absurd (h1.symm.trans a) dc⟩
  ·show(Hl d s e).steps=Gl d (s.ans++[e.an])
   rw [o,h.st,Jo,Gl,if_pos z];simp [Gl]
  ·show(Hl d s e).stop≠0
   rw [o];exact k.1
  ·show(Hl d s e).pend=0
   rw [o];exact k.2.1
  ·rw [g];exact Rq
theorem Ws{d:Dl}{s:Se}{e:Ev}(y:Gv d=0)(h:FaI d s)(hp:Gw d (Cx d) s e=0):
  FaI d (H3 d (Cx d) s e)/\(e.kind=2->e.an.item=s.sh/\(H3 d (Cx d) s e).ans.length=s.ans.length+1):=by
 have x:=Ql y
 have c:swE d (Cx d) s e=0:=by
  unfold Gw at hp
  (repeat' split at hp)<;>first|omega
 unfold swE at c;unfold H3 swS
 split at c
 ·rename_i h1;rw [if_pos h1];refine⟨?_,fun a=>absurd (h1.symm.trans a) dc⟩
  have n:s.st=0/\Ua d.p d.pool (Cx d)=0:=by
   unfold Agy at c;split at c
   ·omega
   ·exact⟨by omega,c⟩
  have u:=h.new n.1;obtain⟨n1,z,m,w⟩:=Pm (t:=Cx d) rfl n.2
  have k:FaI d (Ub d (Cx d) s):=by
   refine⟨h.nd,h.nz,h.fd,h.ok,?_,fun _ =>.inl ⟨w,rfl,n1,by show _ ∉Gh (Mf d.p d.pool (Cx d)).steps;rw [m];exact z⟩,fun a=>absurd (.inl rfl) a,fun a=>absurd (show(1:Int)=0 from a) dc⟩;show(Mf d.p d.pool (Cx d)).steps=Gl d s.ans
   rw [m,u];rfl
  exact k.la _ _
 rename_i h1;rw [if_neg h1]
 split at c
 ·rename_i h2;rw [if_pos h2];obtain⟨r,o⟩:=Aaq x h c;exact⟨r.la _ _,fun _ =>⟨o,by show(s.ans++[e.an]).length=_;simp⟩⟩
 rename_i h2;rw [if_neg h2];have f:∀ {P:Prop},e.kind=2->P:=fun a=>absurd a h2
 split at c
 ·rename_i g;rw [if_pos g];have hs:s.st=1:=by unfold Ab5 at c;split at c<;>omega
  exact⟨⟨h.nd,h.nz,h.fd,h.ok,h.st,fun _ =>h.run (.inl hs),fun a=>absurd (.inr rfl) a,fun a=>absurd (show(2:Int)=0 from a) dc⟩,f⟩
 rename_i g;rw [if_neg g]
 split at c
 ·rename_i i;rw [if_pos i];have hs:s.st=2:=by split at c<;>omega
  exact⟨⟨h.nd,h.nz,h.fd,h.ok,h.st,fun _ =>h.run (.inr hs),fun a=>absurd (.inl rfl) a,fun a=>absurd (show(1:Int)=0 from a) dc⟩,f⟩
 rename_i i;rw [if_neg i]
 split at c
 ·rename_i l;rw [if_pos l];exact⟨⟨h.nd,h.nz,h.fd,h.ok,h.st,h.run,h.off,h.new⟩,f⟩
 rename_i l;rw [if_neg l]
 split at c
 ·rename_i j;rw [if_pos j];refine⟨⟨h.nd,h.nz,h.fd,h.ok,?_,fun a=>by rcases a with a|a<;>exact absurd (show(3:Int)=_ from a) dc,fun _ =>rfl,fun a=>absurd (show(3:Int)=0 from a) dc⟩,f⟩;show(Pe s.t).steps=Gl d s.ans
  unfold Pe;split<;>exact h.st
 rename_i j;rw [if_neg j];exact⟨h.la _ _,f⟩
theorem Adh(hS:Ic)(hW:Hm gv prog 9 [] (fun r=>r=.bool true))(d:Dl)(l:List Ev)(hd:DlOk d)(hb:d.p.rules.length<=4000000/\d.pool.length<=4000000/\d.items.length<=4000000/\d.p.en.length<=4000000/\d.uses.length<=4000000)
  (hl:l.length<=4000000)(ha:∀e∈l,e.an.small):Hm gv prog 3 [d.v,.ro 11 (F0 l)] (fun r=>r=.bool true):=by
 have c7:=Ph d hb;have c8:=O0 hS d hd;have c9:=hW;have am:=Ad6;have a3:=Ath l hl;have ax:∀e∈l.take 14,e.an.small:=fun e he=>ha e (Bz he)
 have bf:(l.take 14).length<=14:=Dy 14 l;have c:=F8 l;generalize F0 l=bd,l.take 14=m at*
 have aa:∀k,(Gc d (m.take k)).2.length<=k/\SeB k (Gc d (m.take k)).1:=fun k=>by
  obtain⟨h1,h2,_⟩:=Aai hd (l:=m.take k) (by have:=Dy k m;have:=List.length_take_le' k m;omega) (fun e he=>ax e (Bz he));have hk:=Dy k m;exact⟨Aj h1 hk,SeB.mk' (Q3 h2.te hk) (Aj h2.al hk) h2.ac (Aj h2.il hk)⟩
 have ad:=fun(k:Nat)(h:k<m.length)=>Qk d h
 have ao:Gc d (m.take 0)=(Vi,[]):=by rw [H0];rfl
 have av:∀k(h:k<m.length),Hm gv prog 12 [d.v,(Gc d (m.take k)).1.v,m[k].v] (fun r=>r=.tup [(if K9 d (Gc d (m.take k)).1 m[k]=0 then Sx d (Gc d (m.take k)).1 m[k]else Vi).v,.int .i64 (K9 d (Gc d (m.take k)).1 m[k])]):=fun k h=>
  Qj hS d _ _ hd (ax _ (Aw h)) ((aa k).2.ok om) ((aa k).2.w998 om) (Aj (aa k).2.st om)
 have ae:Gv d=0->∀k(h:k<m.length),K9 d (Gc d (m.take k)).1 m[k]=0->(m[k].kind=2->m[k].an.item=(Gc d (m.take k)).1.sh/\(Gc d (m.take (k+1))).1.ans.length=(Gc d (m.take k)).1.ans.length+1)/\Fth d (Gc d (m.take (k+1))).1:=fun h0=>by
  have hp:∀k(hk:k<m.length),K9 d (Gc d (m.take k)).1 m[k]=0->Gw d (Cx d) (Gc d (m.take k)).1 m[k]=0:=fun k hk hz=>by unfold K9 at hz;rwa [if_neg (by simp [h0])]at hz
  have hT:∀k,k<=m.length->FaI d (Gc d (m.take k)).1:=by
   intro k
   induction k with
   |zero=>exact fun _ =>by rw [ao];exact Aap d
   |succ k ih=>
    intro hk;rw [ad k (by omega)];unfold Vl
    split
    ·rename_i hz;exact(Ws h0 (ih om) (hp k om hz)).1
    ·exact ih om
  intro k hk hz;obtain⟨h2,h3⟩:=Ws h0 (hT k om) (hp k hk hz);have e1:(Gc d (m.take (k+1))).1=H3 d (Cx d) (Gc d (m.take k)).1 m[k]:=by rw [ad k hk];unfold Vl;rw [if_pos hz];rfl
  rw [e1];exact⟨h3,h2.fth (Ql h0)⟩
 generalize hA:(fun k=>Gc d (m.take k))=A;have a4:∀k,Gc d (m.take k)=A k:=fun k=>by rw [<- hA]
 clear hA;simp only [a4]at*;have lm:=Kx m;have pm:=F8 m;have qm:=fun(k:Nat)(h:k<m.length)=>Q4 h
 generalize F0 m=mv at*;have y1:=fun x:Se=>Af x.t.elig
 have y2:=fun x:Se=>A4 x.t.steps
 have y:=fun x:Se=>Br x.t.w
 have o:=fun x:Se=>D0 x.ans
 have y5:=fun x:Se=>Dh x.inc
 have y6:=fun x:Se=>Ey x.inc
 have y7:=fun x:Se=>Fz x.ans
 have ai:∀x:Se,x.v=V.agg [.int .i64 x.st,.int .i64 x.us,.int .i64 x.la,.int .i64 x.sh,.ro 1 (As x.t.elig),.ro 2 (A0 x.t.steps),.int .i64 x.t.pend,.ro 1 (Bv x.t.w),.int .u64 x.t.draw,.int .i64 x.t.stop,.ro 5 (E7 x.ans),.ro 4 (Dc x.inc)]:=fun x=>rfl
 have a0:∀e:Ev,e.v=V.agg [.int .i64 e.kind,.int .i64 e.time,.int .i64 e.an.item,.ro 1 (As e.an.ch),.int .i64 e.an.val,.str e.an.txt,.bool e.an.om,.int .i64 e.inc.ki,.int .i64 e.inc.ti,.int .i64 e.inc.lo,.int .i64 e.inc.gr]:=fun e=>rfl
 have af:d.v=V.agg [.int .i64 d.ses,.int .i64 d.cand,.int .i64 d.p.len,.ro 5 (Ee d.p.rules),.ro 1 (As d.p.g.pts),.ro 1 (As d.p.g.pri),.ro 2 (A0 d.p.en),.int .i64 d.p.mn,.bool d.p.var.num.neg,.ro 1 (Au d.p.var.num.mag),.ro 1 (Au d.p.var.den),.int .i64 d.p.cut,.bool d.p.lvl.num.neg,.ro 1 (Au d.p.lvl.num.mag),.ro 1 (Au d.p.lvl.den),.int .i64 d.p.top,.bool d.p.rate.num.neg,.ro 1 (Au d.p.rate.num.mag),.ro 1 (Au d.p.rate.den),.int .i64 d.p.slack,.ro 9 (B8 d.pool),.ro 17 (Hg d.items),.ro 1 (As d.ess),.ro 2 (A0 d.uses),.int .i64 d.served,.int .i64 d.sec,.int .i64 d.nu,.int .i64 d.de,.int .i64 d.ex,.int .u64 d.seed]:=rfl;rw [ai]at am;rw [af]at c7 c8;simp only [af,ai,a0]at av qm;rw [af];have ag:=fun(x:Se)(h1:SeOk x)(h2:Fth d x)=>Ams hS d x hd h1 h2
 simp only [af,ai]at ag;have d0:=Cq d.p.rules;have d1:=Af d.p.g.pts;have d2:=Af d.p.g.pri;have d3:=A4 d.p.en;have d4:=Ah d.p.var.num.mag;have d5:=Ah d.p.var.den;have z:=Ah d.p.lvl.num.mag;have d7:=Ah d.p.lvl.den;have u:=Ah d.p.rate.num.mag;have d9:=Ah d.p.rate.den;have i:=B4 d.pool;have a:=Eu d.items;have f:=Af d.ess;have j:=A4 d.uses;generalize Ee d.p.rules=rv,As d.p.g.pts=pt,As d.p.g.pri=pr,A0 d.p.en=ev,Au d.p.var.num.mag=vm,Au d.p.var.den=vd,Au d.p.lvl.num.mag=lm,Au d.p.lvl.den=ld,Au d.p.rate.num.mag=rm,Au d.p.rate.den=rd at*;have ba:=Da d.pool;have bb:=Fl d.items;have bc:=A5 d.ess;generalize B8 d.pool=lv,Hg d.items=a2,As d.ess=a9,A0 d.uses=uv at*;refine Bx func3 (fun w0 N0 hG=>?_);refine Aa [1,2] [2] sr (Ab (Ab (Ac (Am 1 sr ?_))));refine Ai c7 func7 ?_ (hp:=by simp);refine Ag [1,2,12] [2] sr ?_
 refine Ao (fun h1=>?_) (fun h1=>Ae ?_)
 ·exact Aa [4] [] sr (Ak (Ad sr rf))
 refine Ab (Ab (Ac (Am 1 sr ?_)));refine Be hG c8 func8 ?_ (hp:=by simp);refine Ag [1,2,15] [2] sr ?_
 refine Ao (fun h2=>?_) (fun h2=>Ae ?_)
 ·refine Ab (Ac (Be hG c9 func9 ?_));refine Ag [4] [] sr ?_;exact Ak (Ad sr (rfl))
 have h0:Gv d=0:=by simpa using h2
 have a5:=ae h0;refine Ab (Ac (Ai am func10 ?_));refine Ag [1,2,5] [2,5] sr ?_;refine Ab (Ab (Ac (Am 1 (by simp<;>rfl) ?_)));refine Jk a3 func11 rfl kr rfl rfl rfl (by simp<;>rfl) (by simp) (by simp<;>rfl) ?_;refine Ag [2,5,19,20,21] [2,5] sr ?_;refine Ap (Bq (fun k nx=>⟨[(2,V.bp 2 0 30 0 0),(5,V.bp 5 9 12 0 0),(19,V.ro 11 mv),(20,V.int .i64 mv.length),(21,V.int .i64 k)],[(2,⟨0,30,44,[V.agg [.int .i64 d.ses,.int .i64 d.cand,.int .i64 d.p.len,.ro 5 rv,.ro 1 pt,.ro 1 pr,.ro 2 ev,.int .i64 d.p.mn,.bool d.p.var.num.neg,.ro 1 vm,.ro 1 vd,.int .i64 d.p.cut,.bool d.p.lvl.num.neg,.ro 1 lm,.ro 1 ld,.int .i64 d.p.top,.bool d.p.rate.num.neg,.ro 1 rm,.ro 1 rd,.int .i64 d.p.slack,.ro 9 lv,.ro 17 a2,.ro 1 a9,.ro 2 uv,.int .i64 d.served,.int .i64 d.sec,.int .i64 d.nu,.int .i64 d.de,.int .i64 d.ex,.int .u64 d.seed]]⟩),(5,⟨9,12,58,[V.agg [.int .i64 (A k).1.st,.int .i64 (A k).1.us,.int .i64 (A k).1.la,.int .i64 (A k).1.sh,.ro 1 (As (A k).1.t.elig),.ro 2 (A0 (A k).1.t.steps),.int .i64 (A k).1.t.pend,.ro 1 (Bv (A k).1.t.w),.int .u64 (A k).1.t.draw,.int .i64 (A k).1.t.stop,.ro 5 (E7 (A k).1.ans),.ro 4 (Dc (A k).1.inc)]]⟩)],nx,62⟩) (fun k=>True) m.length _ trivial (by simp only [ao];exact AS.le_refl _) ?_);intro k nx hk hI;refine Aa [2,5,19,20,21,22] [2,5] sr (Ab ?_)
 refine Ao (fun h3=>Ae ?_) (fun h3=>?_)
 ·have ab:k<m.length:=by simp at h3;omega
  have ar:k<mv.length:=om;have ga:=qm k ab;have C9:=A7 (k:=k) om;have aj:=av k ab;have aq:=ad k ab;have a8:=a5 k ab;have a7:=(aa k).2;have pc:=Af m[k].an.ch;generalize bg:m[k]=e at*;generalize As e.an.ch=hv at*;have aw:=(aa (k+1)).2;refine Ab (Ap (Aa [2,5,7,19,20,21] [2,5,7] (by simp [ga,ar]<;>rfl) (Ab (Ac (Am 3 sr ?_)))));refine Be hG aj func12 ?_ (hp:=by simp);refine Ag [2,5,7,8,9,19,20,21] [2,5,7,8] sr ?_;refine Ab (Aa [2,5,7,8,19,20,21,33] [2,5,7,8] sr ?_)
  refine Ao (fun h4=>?_) (fun h4=>Ae ?_)
  ·have az:¬K9 d (A k).1 e=0:=by simpa using h4
   have e1:A (k+1)=A k:=by rw [aq];unfold Vl;rw [if_neg az]
   refine A9 ?_;refine A2 [2,5,19,20,21] [2,5] (by simp [C9]<;>rfl) ?_;exact⟨ab,trivial,_,by rw [e1];exact AS.le_refl _⟩
  have hz:K9 d (A k).1 e=0:=by simpa using h4
  have e1:(A (k+1)).1=Sx d (A k).1 e:=by rw [aq];unfold Vl;rw [if_pos hz]
  obtain⟨a1,ay⟩:=a8 hz;have ak:=ag _ (aw.ok om) ay;rw [if_pos hz,<- e1];have be:=a7.al;generalize(A (k+1)).1=n,(A k).1=s at*;have Pq:=A7 (k:=s.ans.length) om;refine Ab ?_
  by_cases ah:e.kind=2
  ·obtain⟨q1,q2⟩:=a1 ah;have au:(n.ans.length:Int)=(s.ans.length:Int)+1:=om;have a6:IntKind.i64.wrap ((s.ans.length:Int)+1)=(s.ans.length:Int)+1:=by rw [Pq];omega
   refine Aa [2,5,8,19,20,21,54] [2,5,8] (by simp [ah,q1,au,a6,y7]<;>rfl) ?_;refine A6 rfl (fun h5=>by simp at h5) (fun h5=>Ae (Aa [2,5,19,20,21] [2,5] (by simp<;>rfl) (Ab (Ac (Am 2 (by simp<;>rfl) ?_)))));refine Be hG ak func13 ?_ (hp:=by simp) (hs:=by simp<;>rfl);refine Ag [2,5,19,20,21,59] [2,5] (by simp<;>rfl) ?_;refine A6 rfl (fun h6=>by simp at h6) (fun h6=>Ae (A2 [2,5,19,20,21] [2,5] (by simp [C9]<;>rfl) ?_));exact⟨ab,trivial,_,AS.le_refl _⟩
  refine Aa [2,5,8,19,20,21,54] [2,5,8] (by simp [ah,y7]<;>rfl) ?_;refine A6 rfl (fun h5=>by simp at h5) (fun h5=>Ae (Aa [2,5,19,20,21] [2,5] (by simp<;>rfl) (Ab (Ac (Am 2 (by simp<;>rfl) ?_)))));refine Be hG ak func13 ?_ (hp:=by simp) (hs:=by simp<;>rfl);refine Ag [2,5,19,20,21,59] [2,5] (by simp<;>rfl) ?_;refine A6 rfl (fun h6=>by simp at h6) (fun h6=>Ae (A2 [2,5,19,20,21] [2,5] (by simp [C9]<;>rfl) ?_));exact⟨ab,trivial,_,AS.le_refl _⟩
 ·refine A9 ?_;refine Ab (Ac (Be hG c9 func9 ?_));refine Ag [4] [] sr ?_;exact Ak (Ad sr (rfl))
theorem Adi(d:Dl)(l:List Ev)(hb:d.p.rules.length<=4000000/\d.pool.length<=4000000/\d.items.length<=4000000/\d.p.en.length<=4000000/\d.uses.length<=4000000)(hs:Adf d=false):Hm gv prog 3 [d.v,.ro 11 (F0 l)] (fun r=>r=.bool true):=by
 have i:=Ph d hb;rw [hs]at i;have pl:=F8 l;generalize F0 l=y at*;have h:d.v=V.agg [.int .i64 d.ses,.int .i64 d.cand,.int .i64 d.p.len,.ro 5 (Ee d.p.rules),.ro 1 (As d.p.g.pts),.ro 1 (As d.p.g.pri),.ro 2 (A0 d.p.en),.int .i64 d.p.mn,.bool d.p.var.num.neg,.ro 1 (Au d.p.var.num.mag),.ro 1 (Au d.p.var.den),.int .i64 d.p.cut,.bool d.p.lvl.num.neg,.ro 1 (Au d.p.lvl.num.mag),.ro 1 (Au d.p.lvl.den),.int .i64 d.p.top,.bool d.p.rate.num.neg,.ro 1 (Au d.p.rate.num.mag),.ro 1 (Au d.p.rate.den),.int .i64 d.p.slack,.ro 9 (B8 d.pool),.ro 17 (Hg d.items),.ro 1 (As d.ess),.ro 2 (A0 d.uses),.int .i64 d.served,.int .i64 d.sec,.int .i64 d.nu,.int .i64 d.de,.int .i64 d.ex,.int .u64 d.seed]:=rfl;rw [h]at i|-;have t:=Cq d.p.rules;have w:=Af d.p.g.pts;have x:=Af d.p.g.pri;have j:=A4 d.p.en;have m:=Ah d.p.var.num.mag;have o:=Ah d.p.var.den;have s:=Ah d.p.lvl.num.mag;have n:=Ah d.p.lvl.den;have k:=Ah d.p.rate.num.mag;have u:=Ah d.p.rate.den;have e:=B4 d.pool;have a:=Eu d.items;have f:=Af d.ess;have c:=A4 d.uses;generalize Ee d.p.rules=rv,As d.p.g.pts=pt,As d.p.g.pri=pr,A0 d.p.en=ev,Au d.p.var.num.mag=vm,Au d.p.var.den=vd,Au d.p.lvl.num.mag=lm,Au d.p.lvl.den=ld,Au d.p.rate.num.mag=rm,Au d.p.rate.den=rd at*;have z:=Da d.pool;have ab:=Fl d.items;have ad:=A5 d.ess;generalize B8 d.pool=lv,Hg d.items=ae,As d.ess=aa,A0 d.uses=uv at*;refine Bx func3 (fun w0 N0 hG=>?_);refine Aa [1,2] [2] (by simp [ntmps3]<;>rfl) (Ab (Ab (Ac (Am 1 sr ?_))));refine Ai i func7 ?_ (hp:=by simp);refine Ag [1,2,12] [2] sr ?_
 refine A6 rfl (fun h1=>?_) (fun h1=>by simp at h1)
 ·exact Aa [4] [] sr (Ak (Ad sr rf))
end Go.Proofs.YtpaccopbbffkaaaGreatDoor
set_option linter.unusedSimpArgs false
set_option maxRecDepth 10000
namespace Go.Proofs.YtpaccopbbffkaaaGreatDoor
open Go.Eng Go.Eng.Limb Go.ChangeShapes Go.WideShapes Go.ChangeAt Go.RowKit
theorem Amv(os:Os){H:Type}(enc:TypeId × Value->H):∃ds places,DataW.whole enc prog ((Kf os).forCall (fun _ _ =>0) ⟨#[],#[zd,zl],[]⟩).memory Tryz.f3.params.toList Rows.sessionAnswersSpec.vars false #[zd,zl].toList 8=some (ds,[],places)/\Rows.uptoSmall H (ds++[])=true:=
 ⟨[dD,.nil],[],by kernel_rfl,by kernel_rfl⟩
set_option maxRecDepth 100000 in
theorem Aid(os:Os)(started:os.Started)(H:Type)(enc:TypeId × Value->H)(F:Stop.Interp):
  ReturnsInHanded {} Tryz.checked os 3 .any ((Rows.OpenSpec.upto Rows.sessionAnswersSpec).preRow enc prog Tryz.f3 Rows.sessionAnswersUptoRow.domain false Rows.sessionAnswersUptoRow.laid) (((Rows.OpenSpec.upto Rows.sessionAnswersSpec).at F).post enc prog Tryz.f3 false true false false):=by
 obtain⟨ds,places,hx,hsm⟩:=Amv os enc
 refine returnsInHanded_of_row (C:=Tryz.checked) (s:=Rows.OpenSpec.upto Rows.sessionAnswersSpec) (kr:ownKnob prog.godebug=none) started kr func3
  (witness_row_at (enc:=enc) (C:=Tryz.checked) false (Kf os) #[zd,zl] rfl kr kr kr
   (OpenSpec.preRow_of_cond 8 hx kr (fun k hk=>by cases hk;exact hsm) kr (Akk os))) ?_
 intro W base args ds gs before hval hW _ hcond _ hL hS _
 refine Qr (s:=Rows.sessionAnswersSpec) (L:=[44,36,24,22,86,27,25,28,368,34,32,30,149,37,115,113,111,38,93,91,39,240,41,42,45,66,62,64,79,3,9,4]) (tb:=4) (ts:=[44,45]) (by rw [params3]) kr kr Ad8 rfl underlying4 rfl (fun ds hl=>?_) (fun vs hvs hsm=>?_) (Av9 hS) (Amp H) (fun d hd=>Tu (hcond _ rfl) d (E4 _ hd)) hval hW
 ·match ds,hl with
  | [d0,d1],_ =>rfl
 ·obtain⟨v0,r0,rfl,h0,v1,r1,rfl,h1,rfl⟩:=hvs;obtain⟨d,rfl,hlim⟩:=P8 h0;obtain⟨l,rfl⟩:=Tt h1;have hd:=Amo (hsm d.v sm);obtain⟨hl,ha⟩:=Ad9 (hsm (.ro 11 (F0 l)) sm);cases hs:Adf d with
  |false=>exact Adi d l hd.b hs
  |true=>exact Adh Ro (Wr Ro) d l (Aea hlim hd hs) hd.b hl ha
theorem Yh:Rows.SessionAnswersUptoSaid:=
 OpenClaim.holds_of_cond 3 Tryz.f3 rfl rfl rfl rfl rfl rfl rfl ⟨rfl,rfl,rfl,rfl,rfl⟩ rfl rfl rfl rfl rfl Aar func3 Amu
  (of_decide_eq_true kr) (by unfold Func.isWrapper;first|(rw [if_pos (by decide+kernel)];kernel_rfl)|(rw [if_neg (by decide+kernel)];exact⟨rfl,rfl⟩))
  (fun os started H enc _ F=>by rw [OpenClaim.pre_eq_preRow];exact Aid os started H enc F)
theorem Amw(f:FuncId)(fn:Func)(hf:Tryz.pinned.checked.prog.funcNamed "examboard/examboardlaw51.SessionAnswers" =some f)(hfn:Tryz.pinned.checked.prog.funcs[f]? =some fn):
  false=Tryz.pinned.checked.prog.looks []/\∀(j:Nat)t,fn.params[j]? =some t->Tryz.pinned.checked.prog.wantsStandIn t=false:=by
 obtain rfl:f=3:=Fh (Aar.symm.trans hf)|>.symm;obtain rfl:fn=Tryz.f3:=(Fh (func3.symm.trans hfn)).symm;refine⟨Amt,fun j t ht=>?_⟩;rw [params3]at ht
 have h3:t=44\/t=45:=by
  have:=Array.mem_of_getElem? ht;simp at this;omega
 rcases h3 with rfl|rfl
 ·exact(show prog.wantsStandIn 44=false by kernel_rfl)
 ·exact(show prog.wantsStandIn 45=false by kernel_rfl)
theorem sessionAnswersProved:Rows.SessionAnswersUptoCardSaid:=
 Claim7.holds_tied_plain_at .later [] _ _ _ _ Yh (fun _ h=>by cases h) At8 (fun _ h=>by cases h) sessionAnswersUpto_row_tie rfl ⟨rfl,rfl⟩ Aqw rfl Amw Aqx
end Go.Proofs.YtpaccopbbffkaaaGreatDoor
