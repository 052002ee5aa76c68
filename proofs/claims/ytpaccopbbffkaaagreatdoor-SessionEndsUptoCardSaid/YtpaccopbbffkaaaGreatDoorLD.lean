/- Sessions: SessionEnds, the given statement (second form). No condition. -/
import Derived.Test.YtpaccopbbffkaaaGreatDoorB6
import Derived.Test.YtpaccopbbffkaaaGreatDoorFD
set_option maxHeartbeats 8000000
set_option linter.all false
open Go.Proofs.Tryz
set_option maxRecDepth 4000
namespace Go.Proofs.YtpaccopbbffkaaaGreatDoor
open Go.Eng Go.Eng.Limb
theorem Pn(l:List Int)(hl:l.length<=4000000):AC prog 52 [.ro 1 (As l),.ro 1 (As l)] (fun r=>r=.bool true):=by
 have q:=fun(k:Nat)(h:k<l.length)=>Dj h
 have ll:=A5 l;have p1:=Af l;generalize As l=d at*;refine Ay func52 (fun w0 N0=>?_);refine Aa [0,1] [] sr (Ab (Aa [0,1,10] [] sr ?_));refine A6 rfl (fun h1=>by simp at h1) (fun h1=>Ae (Ab (Aa [0,1,5] [] sr (Ap (Bq (fun k nx=>⟨[(0,V.ro 1 d),(1,V.ro 1 d),(5,V.int .i64 k)],[],nx,26⟩) (fun k=>True) l.length _ trivial (AS.le_refl _) ?_)))));intro k nx hk hI;refine Ab (Aa [0,1,5,14] [] sr ?_)
 refine Ao (fun h2=>Ae ?_) (fun h2=>?_)
 ·have c:k<l.length:=by simp at h2;omega
  have a:k<d.length:=om;have f:=q k c;have C9:=A7 (k:=k) om;refine Ab (Ap (Di [(0,[]),(1,[]),(2,[]),(4,[]),(5,[]),(6,[]),(3,[]),(7,[]),(8,[])] [0,1,5,25] [] Dm kr (by simp [f,a]<;>rfl) ?_));refine A6 rfl (fun e=>by simp at e) (fun e=>Ae (A2 [0,1,5] [] (by simp [C9]<;>rfl) ?_));exact⟨c,trivial,_,AS.le_refl _⟩
 ·refine A9 ?_;exact Aa [4] [] sr (Ak (Ad sr rf))
theorem Amx(n:Nat)(hl:(Fo n).length<=4000000):∃f:Nat->Int,∀k:Nat,AC prog 84 [.ro 1 (Fo n),.int .i64 k] (fun r=>r=.int .u64 (f k)):=by
 have p1:=Ex n
 have q:∀k:Nat,k<(Fo n).length->∃x,Hs (Fo n) k=some (.int .u32 x):=fun k h=>by
  unfold Fo Au at h|-;exact⟨_,by rw [C1,Bd,Al (by simpa using h)];rfl⟩
 generalize Fo n=c at*
 have e:∀k:Nat,∃x,k<c.length->Hs c k=some (.int .u32 x):=fun k=>by
  by_cases h:k<c.length
  ·obtain⟨x,e⟩:=q k h;exact⟨x,fun _ =>e⟩
  ·exact⟨0,fun a=>absurd a h⟩
 obtain⟨g,i⟩:=Classical.axiomOfChoice e;refine⟨fun k=>if k<c.length then IntKind.u64.wrap (g k)else 0,fun k=>?_⟩;refine Ay func84 (fun w0 N0=>?_);refine Aa [0,1] [] sr (Ab (Aa [0,1,8] [] sr ?_))
 refine Ao (fun h1=>?_) (fun h1=>Ae ?_)
 ·have d:k<c.length:=by simp at h1;omega
  have j:=i k d;exact Aa [4] [] (by simp [j,d]<;>rfl) (Ak (Ad sr (by show _ =V.int IntKind.u64 (if k<c.length then IntKind.u64.wrap (g k)else 0);rw [if_pos d])))
 exact Aa [4] [] sr (Ak (Ad sr (by show _ =V.int IntKind.u64 (if k<c.length then IntKind.u64.wrap (g k)else 0);rw [if_neg (by simp at h1;omega)])))
theorem Yi(n:Nat)(j:(Fo n).length<=4000000):AC prog 53 [.ro 1 (Fo n),.ro 1 (Fo n)] (fun r=>r=.int .i64 0):=by
 have h:=Ex n;obtain⟨f,d⟩:=Amx n j;generalize Fo n=a at*;refine Ay func53 (fun w0 N0=>?_);refine Aa [0,1] [] sr (Ab ?_);have hw0:IntKind.i64.wrap ((a.length:Int)-1)=(a.length:Int)-1:=Bb om om;refine Aa [0,1,5] [] (by simp [hw0]<;>rfl) (Ap (Bq (fun k nx=>⟨[(0,V.ro 1 a),(1,V.ro 1 a),(5,V.int .i64 ((a.length:Int)-1-k))],[],nx,30⟩) (fun k=>True) a.length _ trivial (by simp<;>exact AS.le_refl _) ?_));intro k nx hk hI;refine Ab (Aa [0,1,5,15] [] sr ?_)
 refine Ao (fun h1=>Ae ?_) (fun h1=>?_)
 ·have e:k<a.length:=by simp at h1;omega
  have i:((a.length:Int)-1-k)=((a.length-1-k:Nat):Int):=om;have c:=d (a.length-1-k);rw [<- i]at c;have C9:IntKind.i64.wrap ((a.length:Int)-1-k-1)=(a.length:Int)-1-((k+1:Nat):Int):=by rw [Bb om (by omega)];omega
  generalize f (a.length-1-k)=fx at*;refine Ab (Ap (Ab (Ac (Am 2 sr ?_))));refine Ai c func84 ?_ (hp:=by simp);refine Am 2 sr ?_;refine Ai c func84 ?_ (hp:=by simp);refine Ag [0,1,5,6,7] [] sr ?_;refine Ab (Aa [0,1,5,6,7,26] [] sr ?_);refine A6 rfl (fun h2=>by simp at h2) (fun h2=>Ae (Aa [0,1,5,29] [] sr ?_));refine A6 rfl (fun g=>by simp at g) (fun g=>Ae (A2 [0,1,5] [] (by simp [C9]<;>rfl) ?_));exact⟨e,trivial,_,AS.le_refl _⟩
 ·refine A9 ?_;exact Aa [4] [] sr (Ak (Ad sr rf))
theorem Yj(a:An)(f:a.ch.length<=4000000):AC prog 26 [a.v,a.v] (fun r=>r=.bool true):=by
 have e:=Pn a.ch f;have d:a.v=V.agg [.int .i64 a.item,.ro 1 (As a.ch),.int .i64 a.val,.str a.txt,.bool a.om]:=rfl;rw [d];have g:=Af a.ch;have h:=A5 a.ch;generalize As a.ch=hv at*;refine Ay func26 (fun w0 N0=>?_);refine Aa [2,3] [2,3] sr (Ab (Ac (Am 10 sr ?_)));refine De (c:=True) (fun hg=>e) func52 rfl kr sr rfl rfl sr (by simp) sr ?_;refine Ag [4] [] sr ?_;exact Ak (Ad sr (rfl))
theorem Aca(t:Te)(g:teOk t):AC prog 25 [t.v,t.v] (fun r=>r=.bool true):=by
 have aa:=g.el;have ab:=g.sl;have ad:=g.wl;have o:=Pn t.elig om;have j:=fun(k:Nat)(h:k<t.w.length)=>Yi t.w[k] (by have:=g.wd _ (Aw h);simp [Fo,Au];omega)
 have qs:=fun(k:Nat)(h:k<t.steps.length)=>Hu h
 have u:=fun(k:Nat)(h:k<t.w.length)=>Kb h
 have s:∀n,Au (B1 n)=Fo n:=fun n=>rfl
 simp only [s]at u;have af:=Dq t.steps;have ae:=H2 t.w;have i:=Af t.elig;have y2:=A4 t.steps;have y:=Br t.w;have y4:=Ex;have l:t.v=.agg [.ro 1 (As t.elig),.ro 2 (A0 t.steps),.int .i64 t.pend,.ro 1 (Bv t.w),.int .u64 t.draw,.int .i64 t.stop]:=rfl;rw [l];generalize As t.elig=f,A0 t.steps=ts,Bv t.w=e at*;refine Ay func25 (fun w0 N0=>?_);refine Aa [2,3] [2,3] sr (Ab (Ab (Ac (Am 4 sr ?_))));refine Ai o func52 ?_ (hp:=by simp);refine Ag [2,3,51] [2,3] sr ?_;refine A6 rfl (fun h1=>by simp at h1) (fun h1=>Ae (Ab (Aa [2,3,5] [2,3] sr (Ap (Bq (fun k nx=>⟨[(2,V.bp 2 0 6 0 0),(3,V.bp 3 1 6 0 0),(5,V.int .i64 k)],[(2,⟨0,6,54,[V.agg [.ro 1 f,.ro 2 ts,.int .i64 t.pend,.ro 1 e,.int .u64 t.draw,.int .i64 t.stop]]⟩),(3,⟨1,6,54,[V.agg [.ro 1 f,.ro 2 ts,.int .i64 t.pend,.ro 1 e,.int .u64 t.draw,.int .i64 t.stop]]⟩)],nx,89⟩) (fun k=>True) t.steps.length _ trivial (AS.le_refl _) ?_)))));intro k nx hk hI;refine Ab (Aa [2,3,5,56] [2,3] sr ?_)
 refine Ao (fun h2=>Ae ?_) (fun h2=>?_)
 ·have a:k<t.steps.length:=by simp at h2;omega
  have c:k<ts.length:=om;have m:=qs k a;have C9:=A7 (k:=k) om;generalize t.steps[k]=p at*;refine Ab (Ap (Di [(0,[]),(2,[]),(5,[]),(7,[]),(1,[]),(3,[]),(4,[]),(6,[]),(8,[]),(9,[]),(10,[])] [2,3,5,69] [2,3] Dm kr (by simp [m,c]<;>rfl) ?_));refine A6 rfl (fun h3=>by simp at h3) (fun h3=>Ae (A2 [2,3,5] [2,3] (by simp [C9]<;>rfl) ?_));exact⟨a,trivial,_,AS.le_refl _⟩
 ·refine A9 ?_;refine Ab (Aa [2,3,6] [2,3] sr (Ap (Bq (fun k nx=>⟨[(2,V.bp 2 0 6 0 0),(3,V.bp 3 1 6 0 0),(6,V.int .i64 k)],[(2,⟨0,6,54,[V.agg [.ro 1 f,.ro 2 ts,.int .i64 t.pend,.ro 1 e,.int .u64 t.draw,.int .i64 t.stop]]⟩),(3,⟨1,6,54,[V.agg [.ro 1 f,.ro 2 ts,.int .i64 t.pend,.ro 1 e,.int .u64 t.draw,.int .i64 t.stop]]⟩)],nx,89⟩) (fun k=>True) t.w.length _ trivial (AS.le_refl _) ?_)));intro k nx hk hI;refine Ab (Aa [2,3,6,74] [2,3] sr ?_)
  refine Ao (fun x=>Ae ?_) (fun x=>?_)
  ·have a:k<t.w.length:=by simp at x;omega
   have c:k<e.length:=om;have m:=u k a;have C9:=A7 (k:=k) om;have d:=j k a;generalize t.w[k]=n at*;have pn:=y4 n;refine Ab (Ap (Ab (C4 [(0,[]),(2,[]),(5,[]),(7,[]),(1,[]),(3,[]),(4,[]),(6,[]),(8,[]),(9,[]),(10,[]),(11,[])] Dm kr ?_)));refine Ch 10 (by simp [m,c]<;>rfl) ?_;refine Bw (fun hg=>d) func53 rfl kr rfl rfl sr rfl rfl sr (by simp) sr ?_;refine C5 [2,3,6,88] [2,3] sr ?_;refine A6 rfl (fun z=>by simp at z) (fun z=>Ae (A2 [2,3,6] [2,3] (by simp [C9]<;>rfl) ?_));exact⟨a,trivial,_,AS.le_refl _⟩
  ·refine A9 ?_;exact Aa [4] [] sr (Ak (Ad sr rf))
theorem Vo(s:Se)(h:SeOk s):AC prog 16 [s.v,s.v] (fun r=>r=.bool true):=by
 have af:=h.al;have ae:=h.il;have m:=Aca s.t h.t;have aa:=fun(k:Nat)(z:k<s.ans.length)=>Yj s.ans[k] (Aj (h.ac _ (Aw z)).ch dc)
 have qa:=fun(k:Nat)(h:k<s.ans.length)=>Sw h
 have qi:=fun(k:Nat)(h:k<s.inc.length)=>Wn h
 have ad:s.t.v=.agg [.ro 1 (As s.t.elig),.ro 2 (A0 s.t.steps),.int .i64 s.t.pend,.ro 1 (Bv s.t.w),.int .u64 s.t.draw,.int .i64 s.t.stop]:=rfl;rw [ad]at m;have ab:s.v=V.agg [.int .i64 s.st,.int .i64 s.us,.int .i64 s.la,.int .i64 s.sh,.ro 1 (As s.t.elig),.ro 2 (A0 s.t.steps),.int .i64 s.t.pend,.ro 1 (Bv s.t.w),.int .u64 s.t.draw,.int .i64 s.t.stop,.ro 5 (E7 s.ans),.ro 4 (Dc s.inc)]:=rfl;rw [ab];have z1:=Af s.t.elig;have y:=A4 s.t.steps;have z3:=Br s.t.w;have z4:=D0 s.ans;have x:=Dh s.inc;have j:=Fz s.ans;have i:=Ey s.inc;generalize As s.t.elig=o,A0 s.t.steps=ts,Bv s.t.w=u,E7 s.ans=f,Dc s.inc=e at*;refine Ay func16 (fun w0 N0=>?_);refine Aa [2,3] [2,3] sr (Ab (Ab (Ac (Am 31 sr ?_))));refine De (c:=True) (fun hg=>m) func25 rfl kr sr rfl rfl sr (by simp) sr ?_;refine Ag [2,3,58] [2,3] sr ?_;refine A6 rfl (fun h1=>by simp at h1) (fun h1=>Ae (Ab (Aa [2,3,5] [2,3] sr (Ap (Bq (fun k nx=>⟨[(2,V.bp 2 0 12 0 0),(3,V.bp 3 1 12 0 0),(5,V.int .i64 k)],[(2,⟨0,12,58,[V.agg [.int .i64 s.st,.int .i64 s.us,.int .i64 s.la,.int .i64 s.sh,.ro 1 o,.ro 2 ts,.int .i64 s.t.pend,.ro 1 u,.int .u64 s.t.draw,.int .i64 s.t.stop,.ro 5 f,.ro 4 e]]⟩),(3,⟨1,12,58,[V.agg [.int .i64 s.st,.int .i64 s.us,.int .i64 s.la,.int .i64 s.sh,.ro 1 o,.ro 2 ts,.int .i64 s.t.pend,.ro 1 u,.int .u64 s.t.draw,.int .i64 s.t.stop,.ro 5 f,.ro 4 e]]⟩)],nx,96⟩) (fun k=>True) s.ans.length _ trivial (AS.le_refl _) ?_)))));intro k nx z hI;refine Ab (Aa [2,3,5,63] [2,3] sr ?_)
 refine Ao (fun h2=>Ae ?_) (fun h2=>?_)
 ·have d:k<s.ans.length:=by simp at h2;omega
  have n:k<f.length:=om;have l:=qa k d;have C9:=A7 (k:=k) om;have g:=aa k d;have pc:=Af s.ans[k].ch;unfold An.v at l g;generalize s.ans[k]=a at*;refine Ab (Ap (Ab (C4 [(0,[]),(2,[]),(5,[]),(7,[]),(1,[]),(3,[]),(4,[]),(6,[]),(8,[]),(9,[]),(10,[]),(11,[])] Dm kr ?_)));refine Ch 10 (by simp [l,d,j]<;>rfl) ?_;refine Bw (fun hg=>g) func26 rfl kr rfl rfl sr rfl rfl sr (by simp) sr ?_;refine C5 [2,3,5,77] [2,3] sr ?_;refine A6 rfl (fun h3=>by simp at h3) (fun h3=>Ae (A2 [2,3,5] [2,3] (by simp [C9]<;>rfl) ?_));exact⟨d,trivial,_,AS.le_refl _⟩
 ·refine A9 ?_;refine Ab (Aa [2,3,6] [2,3] sr (Ap (Bq (fun k nx=>⟨[(2,V.bp 2 0 12 0 0),(3,V.bp 3 1 12 0 0),(6,V.int .i64 k)],[(2,⟨0,12,58,[V.agg [.int .i64 s.st,.int .i64 s.us,.int .i64 s.la,.int .i64 s.sh,.ro 1 o,.ro 2 ts,.int .i64 s.t.pend,.ro 1 u,.int .u64 s.t.draw,.int .i64 s.t.stop,.ro 5 f,.ro 4 e]]⟩),(3,⟨1,12,58,[V.agg [.int .i64 s.st,.int .i64 s.us,.int .i64 s.la,.int .i64 s.sh,.ro 1 o,.ro 2 ts,.int .i64 s.t.pend,.ro 1 u,.int .u64 s.t.draw,.int .i64 s.t.stop,.ro 5 f,.ro 4 e]]⟩)],nx,96⟩) (fun k=>True) s.inc.length _ trivial (AS.le_refl _) ?_)));intro k nx z hI;refine Ab (Aa [2,3,6,82] [2,3] sr ?_)
  refine Ao (fun h4=>Ae ?_) (fun h4=>?_)
  ·have d:k<s.inc.length:=by simp at h4;omega
   have n:k<e.length:=om;have l:=qi k d;have C9:=A7 (k:=k) om;unfold In4.v at l;generalize s.inc[k]=a at*;refine Ab (Ap (Di [(0,[]),(2,[]),(5,[]),(7,[]),(1,[]),(3,[]),(4,[]),(6,[]),(8,[]),(9,[]),(10,[])] [2,3,6,95] [2,3] Dm kr (by simp [l,d,i]<;>rfl) ?_));refine A6 rfl (fun h5=>by simp at h5) (fun h5=>Ae (A2 [2,3,6] [2,3] (by simp [C9]<;>rfl) ?_));exact⟨d,trivial,_,AS.le_refl _⟩
  ·refine A9 ?_;exact Aa [4] [] sr (Ak (Ad sr rf))
def Ma(d:Dl)(a:An):It:=Jd (Fr d.items a.item)
def Gl(d:Dl):List An->List (Int × Int)
 | []=>[]
 |a::l=>(if(Ma d a).kind=6 then []else [(a.item,(F7 (Ma d a) a).1)])++Gl d l
theorem Jo(d:Dl):∀(a b:List An),Gl d (a++b)=Gl d a++Gl d b
 | [],b=>rfl
 |x::a,b=>by rw [Ce,Gl,Gl,Jo d a b,Cz]
set_option linter.unusedSimpArgs false
theorem N4{l:List In4}(h:∀i∈l,Ib i=0)(c:l.length<=301):∀k,k<=l.length->0<=Hj l k/\Hj l k<=86400*k
 |0,_ =>by simp [Hj]
 |k+1,hk=>by
  obtain⟨h1,h2⟩:=N4 h c k om;have a:Ib (l.getD k ⟨0,0,0,0⟩)=0:=by rw [Cf (by omega)];exact h _ (Aw _)
  have hb:0<=(l.getD k ⟨0,0,0,0⟩).lo/\(l.getD k ⟨0,0,0,0⟩).lo<=86400:=by
   unfold Ib at a
   (repeat' split at a)<;>first|(exact absurd a dc)|omega
  unfold Hj
  split
  ·rw [Bb om (by omega)];omega
  ·omega
theorem Pk{l:List In4}(x:In4):∀k,k<=l.length->Hj (l++[x]) k=Hj l k
 |0,_ =>rfl
 |k+1,hk=>by
  have e:(l++[x]).getD k ⟨0,0,0,0⟩=l.getD k ⟨0,0,0,0⟩:=by
   simp only [Cv];rw [Bj (by omega)]
  unfold Hj;rw [e,Pk x k (by omega)]
theorem Aal{l:List In4}{x:In4}(h:∀i∈l++[x],Ib i=0)(c:(l++[x]).length<=301):Hj l l.length<=Hj (l++[x]) (l++[x]).length:=by
 have h1:=N4 h c l.length sm;have e:(l++[x]).length=l.length+1:=sm;rw [e,<- Pk x l.length (A8 _)];have a:Ib ((l++[x]).getD l.length ⟨0,0,0,0⟩)=0:=by rw [Cf (by simp)];exact h _ (Aw _)
 have hb:0<=((l++[x]).getD l.length ⟨0,0,0,0⟩).lo/\((l++[x]).getD l.length ⟨0,0,0,0⟩).lo<=86400:=by
  unfold Ib at a
  (repeat' split at a)<;>first|(exact absurd a dc)|omega
 have d:l.length<=300:=by rw [e]at c;omega
 show _ <=(if _ then _ else _)
 split
 ·rw [Bb om (by omega)];omega
 ·omega
theorem Lb{l:List In4}(h:∀i∈l,Ib i=0)(hl:l.length<=300):Q0 l=0:=by
 unfold Q0;rw [if_neg (by omega)];exact U6 h
structure TimeI(d:Dl)(s:Se):Prop where
 us:0<=s.us/\s.us<=Ej d s
 la:0<=s.la/\s.la<=1099511627776
 ic:∀i∈s.inc,Ib i=0
 il:s.inc.length<=300
structure DlT(d:Dl):Prop where
 sec:1<=d.sec/\d.sec<=9999999
 lim:W6 d.sec d.nu d.de d.ex=0
theorem Kg{d:Dl}(h:Gv d=0):DlT d:=by
 unfold Gv at h
 (repeat' split at h)<;>try omega
 rename_i h1 _ _ _ _ _ _ h8
 have hs:1<=d.sec/\d.sec<=9999999:=by
  have:Jj d.sec 1 9999999=true:=by
   cases e:Jj d.sec 1 9999999
   ·exact absurd (.inr (.inr e)) h1
   ·rfl
  unfold Jj at this;simp at this;exact this
 refine⟨hs,?_⟩;unfold W6;rw [if_neg (by omega)]
theorem Aam(l:List In4)(m:Int)(hm:0<=m)(h:∀i∈l,Ib i=0)(a:l.length<=300):0<=Ix l m/\Ix l m<=m:=by
 unfold Ix;rw [if_neg (by simp [Lb h a])];have:=N4 h om l.length (A8 _);have e:Lf m=m:=by unfold Lf;rw [if_neg (by omega)]
 rw [e];split<;>omega
theorem Kt{d:Dl}{s:Se}(a:DlT d)(h:∀i∈s.inc,Ib i=0)(f:s.inc.length<=300):
  Ej d s=R3 d.sec d.nu d.de d.ex+Ix s.inc d.sec/\0<=Ej d s/\Ej d s<=5000000000:=by
 obtain⟨b1,b2,b3,b4,b5,b6,b7⟩:=Amf a.lim;obtain⟨b8,b9⟩:=a.sec;obtain⟨c1,c2⟩:=Aam s.inc d.sec om h f;have c:R3 d.sec d.nu d.de d.ex=(d.sec*d.nu+d.de-1)/d.de+d.ex:=by unfold R3;rw [if_neg (by simp [a.lim])]
 have e:Ej d s=R3 d.sec d.nu d.de d.ex+Ix s.inc d.sec:=by
  unfold Ej;rw [c];exact Bb om om
 refine⟨e,?_,?_⟩<;>rw [e,c]<;>omega
theorem Sz{l:List In4}{x:In4}{m:Int}(hm:0<=m)(h:∀i∈l++[x],Ib i=0)(f:(l++[x]).length<=300):Ix l m<=Ix (l++[x]) m:=by
 have j:∀i∈l,Ib i=0:=fun i g=>h i (E4 _ g)
 have d:l.length<=300:=by simp at f;omega
 have hu:=Aal h om;unfold Ix;rw [if_neg (c:=Q0 l≠0) (by simp [Lb j d]),if_neg (c:=Q0 (l++[x])≠0) (by simp [Lb h f])];have e:Lf m=m:=by unfold Lf;rw [if_neg (by omega)]
 rw [e];generalize Hj l l.length=a,Hj (l++[x]) (l++[x]).length=b at*
 split
 ·split<;>omega
 ·split<;>omega
theorem Vm{d:Dl}{s:Se}{n:Int}(h:TimeI d s)(c:DlT d)(a:Hw s n=true):s.us<=Gk s n/\Gk s n<=2000000000000:=by
 obtain⟨h1,h2⟩:=h.us;obtain⟨h3,h4⟩:=h.la;have h5:=(Kt c h.ic h.il).2.2;unfold Hw at a;simp at a;unfold Gk
 split
 ·rw [Bb (x:=s.us+n) om om,Bb om (by omega)];omega
 ·omega
theorem Ag4{d:Dl}{s:Se}{n:Int}(h:TimeI d s)(a:DlT d)(c:Hw s n=true):s.us<=Kl (Gk s n) (Ej d s)/\Kl (Gk s n) (Ej d s)<=Ej d s:=by
 have h1:=Vm h a c;have h2:=h.us;unfold Kl;split<;>omega
theorem S0{d:Dl}{t:Te}{s:Se}{e:Ev}(l:DlT d)(h:TimeI d s)(hp:Gw d t s e=0):TimeI d (H3 d t s e)/\s.us<=(H3 d t s e).us:=by
 have n:Hw s e.time=true/\swE d t s e=0:=by
  unfold Gw at hp
  (repeat' split at hp)<;>try omega
  rename_i h2;exact⟨by cases e1:Hw s e.time<;>simp_all,hp⟩
 obtain⟨r,f⟩:=n;have u:0<=e.time/\e.time<=1099511627776:=by unfold Hw at r;simp at r;omega
 have a:∀s':Se,(s.us<=s'.us/\s'.us<=Ej d s')->(∀i∈s'.inc,Ib i=0)->s'.inc.length<=300->TimeI d { s' with la:=e.time}/\s.us<=s'.us:=fun s' h1 h2 o=>
  ⟨⟨⟨by have:=h.us;show 0<=s'.us;omega,h1.2⟩,u,h2,o⟩,h1.1⟩
 have x:=Ag4 h l r;have hu:=Vm h l r;have g:=h.us;unfold H3;unfold swE at f;unfold swS
 split at f
 ·rename_i h1;rw [if_pos h1];exact a _ ⟨Ft _,g.2⟩ h.ic h.il
 rename_i h1;rw [if_neg h1]
 split at f
 ·rename_i h2;rw [if_pos h2]
  have aa:¬Ej d s<Gk s e.time:=by
   unfold Nh at f
   (repeat' split at f)<;>first|omega|assumption
  exact a _ ⟨hu.1,by show Gk s e.time<=Ej d s;omega⟩ h.ic h.il
 rename_i h2;rw [if_neg h2]
 split at f
 ·rename_i o;rw [if_pos o];exact a _ x h.ic h.il
 rename_i o;rw [if_neg o]
 split at f
 ·rename_i w;rw [if_pos w];exact a _ ⟨Ft _,g.2⟩ h.ic h.il
 rename_i w;rw [if_neg w]
 split at f
 ·rename_i y;rw [if_pos y]
  have hi:Ib e.inc=0/\s.inc.length<300:=by
   unfold Agz at f
   (repeat' split at f)<;>try omega
  have k:∀i∈s.inc++[e.inc],Ib i=0:=fun i c=>by
   rcases B3.1 c with c|c
   ·exact h.ic i c
   ·rw [By.1 c];exact hi.1
  have j:(s.inc++[e.inc]).length<=300:=by simp;omega
  refine a _ ⟨x.1,?_⟩ k j;show Kl (Gk s e.time) (Ej d s)<=Ej d (Pt d s e)
  have e1:=(Kt l h.ic h.il).1;have e2:=(Kt (s:=Pt d s e) l k j).1;have e3:=Sz (m:=d.sec) (by have:=l.sec;omega) k j;have e4:(Pt d s e).inc=s.inc++[e.inc]:=rfl;rw [e4]at e2;omega
 rename_i y;rw [if_neg y]
 split at f
 ·rename_i z;rw [if_pos z];exact a _ x h.ic h.il
 rename_i z;rw [if_neg z];exact a _ ⟨Ft _,g.2⟩ h.ic h.il
theorem Vn{d:Dl}(c:DlT d):TimeI d Vi:=by
 have h:=(Kt (s:=Vi) c (fun i a=>by cases a) dc).2.1;exact⟨⟨Ft _,h⟩,⟨Ft _,by decide⟩,(fun i a=>by cases a),by decide⟩
structure TimeL(d:Dl)(s n:Se):Prop where
 e1:W6 d.sec d.nu d.de d.ex=0
 e2:Q0 n.inc=0
 e3:Aml d n n.la=0
 u1:s.us<=n.us
 lm:IntKind.i64.wrap (R3 d.sec d.nu d.de d.ex+Ix n.inc d.sec)=Ej d n
 u2:n.us<=Ej d n
 l3:n.st=3->Vj d n n.la=0
 l4:n.st≠3->Vj d n n.la=IntKind.i64.wrap (Ej d n-n.us)
theorem Ag5{d:Dl}{s n:Se}(f:Gv d=0)(a:TimeI d n)(j:s.us<=n.us):TimeL d s n:=by
 have i:=Kg f;obtain⟨l1,l2,l3⟩:=Kt i a.ic a.il;obtain⟨u1,l⟩:=a.us;obtain⟨a1,a2⟩:=a.la;have h:Hw n n.la=true:=by unfold Hw;simp;omega
 have c:Gk n n.la=n.us:=by
  unfold Gk;split
  ·rw [Bb (x:=n.us+n.la) om om,Bb om (by omega)];omega
  ·rfl
 have g:Vj d n n.la=if n.st=3 then 0 else Ada (Ej d n) n.us:=by
  unfold Vj;rw [if_neg (by simp [f,h]),c]
 have o:Ada (Ej d n) n.us=IntKind.i64.wrap (Ej d n-n.us):=by
  unfold Ada;have k:Lf (Ej d n)=Ej d n:=by unfold Lf;rw [if_neg (by omega)]
  have m:Lf n.us=n.us:=by unfold Lf;rw [if_neg (by omega)]
  rw [k,m,Bb om (by omega)];unfold Lf;rw [if_neg (by omega)]
 refine⟨i.lim,Lb a.ic a.il,?_,j,rfl,l,fun e=>by rw [g,if_pos e],fun e=>by rw [g,if_neg e,o]⟩;unfold Aml;rw [if_neg (by simp [f]),if_neg (by simp [h])]
theorem Pl(pool:List Pit)(a:List Int):∀k,k<=pool.length->∀id,N3 (To pool a k) id=true->id∈I3 pool
 |0,_,id,h=>by simp [To,N3]at h
 |k+1,hk,id,h=>by
  have ih:=Pl pool a k om id;rw [To]at h
  split at h
  ·exact ih h
  ·unfold N3 at h ih;rw [Mr,Gu]at h
   rcases h with h|h
   ·have e:(pool.getD k default).id=id:=by simpa using h
    rw [<- e,Cf (by omega)];exact I0 (Aw _)
   ·exact ih h
theorem Aan{pool:List Pit}{a c giv:List Int}(h:Ab1 pool a c giv=0){x:Int}(d:x∈Ah7 pool a c giv):x∈I3 pool/\x∉giv:=by
 unfold Ah7 at d;rw [(M0 _ _).mem_iff,Iv]at d;refine⟨?_,by simpa using d.2⟩;unfold Ab1 at h
 split at h
 ·omega
 ·rename_i f;refine Pl pool a pool.length (A8 _) x ?_
  cases e:N3 (Agj pool a) x
  ·exact absurd (.inl (Dp.2 ⟨x,d.1,by simp [e]⟩)) f
  ·exact e
theorem Aao{p:Po}{pool:List Pit}{t:Te}(h:Q8 p pool t=0){x:Int}(a:x∈K8 p pool t):x∈I3 pool/\x∉Gh t.steps:=by
 have h1:Ab1 (Hv pool t) (Ge p.g t.w (Hv pool t)) (Ac7 p.len p.rules (Hv pool t) p.en (Gh t.steps) (Ge p.g t.w (Hv pool t))) (Gh t.steps)=0:=by
  unfold Q8 at h;split at h
  ·omega
  ·exact h
 obtain⟨h2,c⟩:=Aan h1 a;refine⟨?_,c⟩;unfold I3 at h2|-;rw [Bk]at h2|-;obtain⟨q,d,e⟩:=h2;exact⟨q,(Wg pool t.elig).subset d,e⟩
theorem Pm{p:Po}{pool:List Pit}{t:Te}(hp:t.pend=0)(h:Ua p pool t=0):
  (Mf p pool t).pend∈I3 pool/\(Mf p pool t).pend∉Gh t.steps/\(Mf p pool t).steps=t.steps/\(Mf p pool t).stop=t.stop:=by
 unfold Ua at h;rw [if_neg (c:=t.pend≠0) (by simp [hp])]at h
 have h1:Q8 p pool t=0/\W4 p (K8 p pool t).length≠0:=by
  (repeat' split at h)<;>first|omega|exact⟨by omega,by omega⟩
 obtain⟨h2,h3⟩:=h1;have hl:=We t.draw (n:=W4 p (K8 p pool t).length) om;have hm:W4 p (K8 p pool t).length<=(K8 p pool t).length:=Kk _ _
 have a:(K8 p pool t).getD (Nu t.draw (W4 p (K8 p pool t).length)) 0∈K8 p pool t:=by
  rw [Cf (by omega)];exact Aw _
 obtain⟨d,e⟩:=Aao h2 a;unfold Mf;rw [if_neg (by simp [hp])];exact⟨d,e,rfl,rfl⟩
structure DlI(d:Dl):Prop where
 pool:∀id∈I3 d.pool,(Fr d.items id).isSome=true/\(Jd (Fr d.items id)).kind≠6
 ess:∀id∈d.ess,(Fr d.items id).isSome=true/\(Jd (Fr d.items id)).kind=6
theorem Ql{d:Dl}(h:Gv d=0):DlI d:=by
 unfold Gv at h
 (repeat' split at h)<;>try omega
 rename_i h5 h6 h7 _;have j:Kr (Adc d.items) d.pool=0:=om;have g:Kr (Ade d) (List.range d.ess.length)=0:=om
 refine⟨fun id c=>?_,fun id c=>?_⟩
 ·unfold I3 at c;rw [Bk]at c;obtain⟨q,m,e⟩:=c;have f:=Ka j q m;subst e;unfold Adc at f
  (repeat' split at f)<;>try omega
  rename_i n k;exact⟨by cases e2:(Fr d.items q.id).isSome<;>simp_all,fun a=>k (.inl a)⟩
 ·obtain⟨i,l,e⟩:=Gq.1 c;have f:=Ka g i (by simp [l]);unfold Ade at f;rw [show d.ess.getD i 0=id from by rw [Cf l];exact e]at f
  (repeat' split at f)<;>try omega
  rename_i n k c3;exact⟨by cases e2:(Fr d.items id).isSome<;>simp_all,by omega⟩
def ShI(d:Dl)(s:Se):Prop:=
 (s.t.stop=0/\s.sh=s.t.pend/\s.sh∈I3 d.pool/\s.sh∉Gh s.t.steps)\/(s.t.stop≠0/\s.t.pend=0/\(s.sh=0\/(s.sh∈d.ess/\∀a∈s.ans,a.item≠s.sh)))
structure FaI(d:Dl)(s:Se):Prop where
 nd:(s.ans.map An.item).Nodup
 nz:∀a∈s.ans,a.item≠0
 fd:∀a∈s.ans,(Fr d.items a.item).isSome=true
 ok:∀a∈s.ans,(Ma d a).kind≠6->(F7 (Ma d a) a).2=0
 st:s.t.steps=Gl d s.ans
 run:s.st=1\/s.st=2->ShI d s
 off:¬(s.st=1\/s.st=2)->s.sh=0
 new:s.st=0->s.ans= []
theorem Rp{d:Dl}:∀ {l:List An}{a:An},a∈l->(Ma d a).kind≠6->a.item∈Gh (Gl d l)
 |x::l,a,h,c=>by
  unfold Gh;rw [Gl,Ck,B3]
  rcases Cg.1 h with h|h
  ·subst h;exact .inl (by rw [if_neg c];simp)
  ·exact .inr (Rp h c)
theorem FaI.sh{d:Dl}{s:Se}(h:FaI d s)(j:DlI d):∀a∈s.ans,a.item≠s.sh:=by
 intro a f e
 by_cases g:s.st=1\/s.st=2
 ·rcases h.run g with⟨_,_,h2,i⟩|⟨_,_,h2|h2⟩
  ·by_cases c:(Ma d a).kind=6
   ·have:=(j.pool _ h2).2;unfold Ma at c;rw [e]at c;exact this c
   ·refine i ?_;rw [h.st,<- e];exact Rp f c
  ·exact h.nz a f (e.trans h2)
  ·exact h2.2 a f e
 ·exact h.nz a f (e.trans (h.off g))
theorem Rq{c:List Int}{d:List An}:(Pd c d).getD 0=0\/((Pd c d).getD 0∈c/\∀a∈d,a.item≠(Pd c d).getD 0):=by
 cases e:Pd c d with
 |none=>exact .inl rfl
 |some x=>
  right
  unfold Pd at e;refine⟨List.mem_of_find?_eq_some e,fun a g f=>?_⟩;have:=List.find?_some e;simp only [Yd,Hz,D9]at this f;rw [Jq]at this;exact this a g (by simpa using f)
theorem FaI.la{d:Dl}{s:Se}(h:FaI d s)(n u:Int):FaI d { s with la:=n,us:=u}:=⟨h.nd,h.nz,h.fd,h.ok,h.st,h.run,h.off,h.new⟩
theorem Aap(d:Dl):FaI d Vi:=⟨List.nodup_nil,(fun a h=>by cases h),(fun a h=>by cases h),(fun a h=>by cases h),rfl,(fun h=>by rcases h with h|h<;>exact absurd (show(0:Int)=_ from h) dc),fun _ =>rfl,fun _ =>rfl⟩
theorem Aaq{d:Dl}{s:Se}{e:Ev}(hd:DlI d)(h:FaI d s)(hz:Nh d s e=0):FaI d (M1 d s e)/\e.an.item=s.sh:=by
 have h0:s.st=1/\s.sh≠0/\e.an.item=s.sh/\(s.t.pend=s.sh->W7 d s (I4 d s) e.an=0):=by
  unfold Nh at hz
  (repeat' split at hz)<;>first|omega|(refine⟨by omega,by omega,by omega,fun _ =>hz⟩)|(refine⟨by omega,by omega,by omega,fun a=>?_⟩;contradiction)
 obtain⟨h1,h2,w,h4⟩:=h0;have aa:=h.run (.inl h1);have ah:=h.sh hd
 have ai:(Fr d.items s.sh).isSome=true:=by
  rcases aa with⟨_,_,a,_⟩|⟨_,_,a|a⟩
  ·exact(hd.pool _ a).1
  ·exact absurd a h2
  ·exact(hd.ess _ a.1).1
 have r:Ma d e.an=I4 d s:=by unfold Ma I4;rw [w]
 have m:∀a,a∈s.ans++[e.an]->a∈s.ans\/a=e.an:=fun a f=>by
  rcases B3.1 f with f|f
  ·exact .inl f
  ·exact .inr (By.1 f)
 have ad:((s.ans++[e.an]).map An.item).Nodup:=by
  rw [Ck,Io];refine⟨h.nd,by simp,fun x hx y hy=>?_⟩;obtain⟨a,f,rfl⟩:=Bk.1 hx;simp at hy;rw [hy,w];exact ah a f
 have ag:∀a∈s.ans++[e.an],a.item≠0:=fun a f=>by
  rcases m a f with f|f
  ·exact h.nz a f
  ·rw [f,w];exact h2
 have n:∀a∈s.ans++[e.an],(Fr d.items a.item).isSome=true:=fun a f=>by
  rcases m a f with f|f
  ·exact h.fd a f
  ·rw [f,w];exact ai
 refine⟨?_,w⟩;by_cases hp:s.t.pend=s.sh
 ·
  have hr:=h4 hp
  have aj:s.t.stop=0:=by
   rcases aa with⟨a,_⟩|⟨_,a,_⟩
   ·exact a
   ·exact absurd (hp.symm.trans a) h2
  unfold W7 at hr
  have l:(F7 (I4 d s) e.an).2=0/\Ac9 d.p d.pool s.t (F7 (I4 d s) e.an).1=0:=by
   (repeat' split at hr)<;>first|omega|exact⟨by omega,by omega⟩
  have ae:(Mg d.p d.pool s.t (F7 (I4 d s) e.an).1).steps=Gl d (s.ans++[e.an]):=by
   have z:(Ma d e.an).kind≠6:=by
    rw [r];intro z;have:=l.1;unfold F7 at this
    (repeat' split at this)<;>simp_all
   rw [Jo,Gl,if_neg z,r,w];show s.t.steps++[(s.t.pend,_)]=_
   rw [h.st,hp];simp [Gl]
  have o:Hl d s e=Pf d s (F7 (I4 d s) e.an).1:=by unfold Hl;rw [if_pos hp]
  have u:∀a∈s.ans++[e.an],(Ma d a).kind≠6->(F7 (Ma d a) a).2=0:=fun a f z=>by
   rcases m a f with f|f
   ·exact h.ok a f z
   ·rw [f,r];exact l.1
  have af:(Hl d s e).steps=Gl d (s.ans++[e.an])/\ShI d (M1 d s e):=by
   rw [o];unfold Pf
   by_cases hs:(Mg d.p d.pool s.t (F7 (I4 d s) e.an).1).stop=0
   ·rw [if_pos hs]
    have hn:Ua d.p d.pool (Mg d.p d.pool s.t (F7 (I4 d s) e.an).1)=0:=by
     rw [if_neg (by simp [l.1]),if_neg (by simp [l.2]),if_pos hs]at hr;exact hr
    obtain⟨n1,n2,n3,n4⟩:=Pm (t:=Mg d.p d.pool s.t (F7 (I4 d s) e.an).1) rfl hn;have j:Hl d s e=Mf d.p d.pool (Mg d.p d.pool s.t (F7 (I4 d s) e.an).1):=by rw [o];unfold Pf;rw [if_pos hs]
    have i:(Hl d s e).stop=0:=by rw [j,n4];exact hs
    have g:(M1 d s e).sh=(Hl d s e).pend:=by
     show Oe d s e=_
     unfold Oe;rw [if_neg (by simp [i]),if_pos hp]
    refine⟨n3.trans ae,.inl ⟨i,g,?_,?_⟩⟩
    ·rw [g,j];exact n1
    ·rw [g];show _ ∉Gh (Hl d s e).steps
     rw [j,n3];exact n2
   ·rw [if_neg hs];have j:Hl d s e=Mg d.p d.pool s.t (F7 (I4 d s) e.an).1:=by rw [o];unfold Pf;rw [if_neg hs]
    have i:(Hl d s e).stop≠0:=by rw [j];exact hs
    have g:(M1 d s e).sh=(Pd d.ess (s.ans++[e.an])).getD 0:=by
     show Oe d s e=_
     unfold Oe;rw [if_pos i]
    refine⟨ae,.inr ⟨i,?_,?_⟩⟩
    ·show(Hl d s e).pend=0
     rw [j];rfl
    ·rw [g];exact Rq
  exact⟨ad,ag,n,u,af.1,fun _ =>af.2,fun a=>absurd (.inl h1) a,fun a=>absurd (h1.symm.trans a) dc⟩
 ·
  have k:s.t.stop≠0/\s.t.pend=0/\s.sh∈d.ess:=by
   rcases aa with⟨_,a,_⟩|⟨a,b,c|c⟩
   ·exact absurd a.symm hp
   ·exact absurd c h2
   ·exact⟨a,b,c.1⟩
  have z:(Ma d e.an).kind=6:=by unfold Ma;rw [w];exact(hd.ess _ k.2.2).2
  have o:Hl d s e=s.t:=by unfold Hl;rw [if_neg hp]
  have u:∀a∈s.ans++[e.an],(Ma d a).kind≠6->(F7 (Ma d a) a).2=0:=fun a f ab=>by
   rcases m a f with f|f
   ·exact h.ok a f ab
   ·rw [f]at ab;exact absurd z ab
  have g:(M1 d s e).sh=(Pd d.ess (s.ans++[e.an])).getD 0:=by
   show Oe d s e=_
   unfold Oe;rw [if_pos (by rw [o];exact k.1)]
  refine⟨ad,ag,n,u,?_,fun _ =>.inr ⟨?_,?_,?_⟩,fun a=>absurd (.inl h1) a,fun a=>absurd (h1.symm.trans a) dc⟩
  ·show(Hl d s e).steps=Gl d (s.ans++[e.an])
   rw [o,h.st,Jo,Gl,if_pos z];simp [Gl]
  ·show(Hl d s e).stop≠0
   rw [o];exact k.1
  ·show(Hl d s e).pend=0
   rw [o];exact k.2.1
  ·rw [g];exact Rq
theorem Ws{d:Dl}{s:Se}{e:Ev}(y:Gv d=0)(h:FaI d s)(hp:Gw d (Cx d) s e=0):
  FaI d (H3 d (Cx d) s e)/\(e.kind=2->e.an.item=s.sh/\(H3 d (Cx d) s e).ans.length=s.ans.length+1):=by
 have x:=Ql y
 have c:swE d (Cx d) s e=0:=by
  unfold Gw at hp
  (repeat' split at hp)<;>first|omega
 unfold swE at c;unfold H3 swS
 split at c
 ·rename_i h1;rw [if_pos h1];refine⟨?_,fun a=>absurd (h1.symm.trans a) dc⟩
  have n:s.st=0/\Ua d.p d.pool (Cx d)=0:=by
   unfold Agy at c;split at c
   ·omega
   ·exact⟨by omega,c⟩
  have u:=h.new n.1;obtain⟨n1,z,m,w⟩:=Pm (t:=Cx d) rfl n.2
  have k:FaI d (Ub d (Cx d) s):=by
   refine⟨h.nd,h.nz,h.fd,h.ok,?_,fun _ =>.inl ⟨w,rfl,n1,by show _ ∉Gh (Mf d.p d.pool (Cx d)).steps;rw [m];exact z⟩,fun a=>absurd (.inl rfl) a,fun a=>absurd (show(1:Int)=0 from a) dc⟩;show(Mf d.p d.pool (Cx d)).steps=Gl d s.ans
   rw [m,u];rfl
  exact k.la _ _
 rename_i h1;rw [if_neg h1]
 split at c
 ·rename_i h2;rw [if_pos h2];obtain⟨r,o⟩:=Aaq x h c;exact⟨r.la _ _,fun _ =>⟨o,by show(s.ans++[e.an]).length=_;simp⟩⟩
 rename_i h2;rw [if_neg h2];have f:∀ {P:Prop},e.kind=2->P:=fun a=>absurd a h2
 split at c
 ·rename_i g;rw [if_pos g];have hs:s.st=1:=by unfold Ab5 at c;split at c<;>omega
  exact⟨⟨h.nd,h.nz,h.fd,h.ok,h.st,fun _ =>h.run (.inl hs),fun a=>absurd (.inr rfl) a,fun a=>absurd (show(2:Int)=0 from a) dc⟩,f⟩
 rename_i g;rw [if_neg g]
 split at c
 ·rename_i i;rw [if_pos i];have hs:s.st=2:=by split at c<;>omega
  exact⟨⟨h.nd,h.nz,h.fd,h.ok,h.st,fun _ =>h.run (.inr hs),fun a=>absurd (.inl rfl) a,fun a=>absurd (show(1:Int)=0 from a) dc⟩,f⟩
 rename_i i;rw [if_neg i]
 split at c
 ·rename_i l;rw [if_pos l];exact⟨⟨h.nd,h.nz,h.fd,h.ok,h.st,h.run,h.off,h.new⟩,f⟩
 rename_i l;rw [if_neg l]
 split at c
 ·rename_i j;rw [if_pos j];refine⟨⟨h.nd,h.nz,h.fd,h.ok,?_,fun a=>by rcases a with a|a<;>exact absurd (show(3:Int)=_ from a) dc,fun _ =>rfl,fun a=>absurd (show(3:Int)=0 from a) dc⟩,f⟩;show(Pe s.t).steps=Gl d s.ans
  unfold Pe;split<;>exact h.st
 rename_i j;rw [if_neg j];exact⟨h.la _ _,f⟩
theorem Baa{d:Dl}{s:Se}(e:Ev)(h:s.st=3):K9 d s e≠0:=by
 intro a;have c:Aqf s=false:=by unfold Aqf;simp [h]
 unfold K9 at a
 split at a
 ·omega
 unfold Gw at a
 (repeat' split at a)<;>try omega
 unfold swE at a;unfold Agy Nh Ab5 Agz Aib at a;simp [h,c]at a
 (repeat' split at a)<;>omega
def Aas(s:Se):Ev:=⟨6,s.la,⟨0,[],0,[],false⟩,⟨0,0,0,0⟩⟩
theorem Awa{d:Dl}{s:Se}(i:Gv d=0)(j:TimeI d s)(f:s.st=1\/s.st=2):K9 d s (Aas s)=0/\(Sx d s (Aas s)).st=3:=by
 have e:=j.la;have g:Hw s s.la=true:=by unfold Hw;simp;omega
 have a:Aqf s=true:=by unfold Aqf;rcases f with h|h<;>simp [h]
 refine⟨?_,rfl⟩;unfold K9;rw [if_neg (by simp [i])];unfold Gw;have c:Hw s (Aas s).time=true:=g;rw [if_neg (by show¬((6:Int)<1\/6<(6:Int));decide),if_neg (by simp [c])];show Aib s=0
 unfold Aib;rw [if_neg (by simp [a])]
theorem Lp{d:Dl}{t:Te}{K:List Ev}(r:List Ev):∀j,j<=K.length->Ec d t (K++r) j=Ec d t K j
 |0,_ =>rfl
 |j+1,h=>by
  have e:(K++r).getD j ev0=K.getD j ev0:=by simp only [Cv];rw [Bj (by omega)]
  rw [Ec,Ec,Lp r j om,e]
theorem S7{d:Dl}{t:Te}{K:List Ev}{q:Nat}:∀j,j<=q->q<=K.length->Ec d t (K.take q) j=Ec d t K j:=fun j h1 h2=>by
 have:=Lp (d:=d) (t:=t) (K:=K.take q) (K.drop q) j (by rw [B9];omega);rw [Fe]at this;exact this.symm
def Nf(d:Dl)(K:List Ev):Prop:=∀j(h:j<K.length),Gw d (Cx d) (Ec d (Cx d) K j) K[j]=0
theorem Ky{d:Dl}{t:Te}{K:List Ev}{j:Nat}(h:j<K.length):Ec d t K (j+1)=H3 d t (Ec d t K j) K[j]:=by
 rw [Ec,Cf h]
theorem Nf.take{d:Dl}{K:List Ev}(h:Nf d K){q:Nat}(a:q<=K.length):Nf d (K.take q):=fun j c=>by
 have e:j<q:=by rw [B9]at c;omega
 rw [S7 j om a,List.getElem_take];exact h j om
theorem Aat {d : Dl} (h0 : Gv d = 0) : ∀ (n : Nat) (m : List Ev), m.length = n -> Ec d (Cx d) (Gc d m).2 (Gc d m).2.length = (Gc d m).1 /\ Nf d (Gc d m).2
  | 0, m, hm => by
    have := Ar.1 hm
    subst this
    exact ⟨rfl, fun j h => absurd h (by simp [Gc])⟩
  | n + 1, m, hm => by
    have hn : n < m.length := by omega
    have e : Gc d m = Vl d (Gc d (m.take n)) m[n] := by
      have := Qk d hn
      rwa [Bf (show m.length <= n + 1 by omega)] at this
    obtain ⟨i1, i2⟩ := Aat h0 n (m.take n) (by rw [B9]; omega)
    rw [e]
    unfold Vl
    split
    · rename_i hz
      generalize Gc d (m.take n) = x at *
      have hp : Gw d (Cx d) x.1 m[n] = 0 := by unfold K9 at hz; rwa [if_neg (by simp [h0])] at hz
      have hl : (x.2 ++ [m[n]]).length = x.2.length + 1 := by simp
      have hlast : ((x.2 ++ [m[n]])[x.2.length]'(by simp)) = m[n] := by simp
      refine ⟨?_, fun j hj => ?_⟩
      · show Ec d (Cx d) (x.2 ++ [m[n]]) (x.2 ++ [m[n]]).length = Sx d x.1 m[n]
        rw [hl, Ky (by simp), Lp _ _ (A8 _), i1, hlast]; rfl
      · by_cases hj' : j < x.2.length
        · rw [Lp _ j (by omega), List.getElem_append_left hj']; exact i2 j hj'
        · have hje : j = x.2.length := by have : j < x.2.length + 1 := by simpa using hj
                                          omega
          subst hje
          rw [Lp _ _ (A8 _), i1, hlast]; exact hp
    · exact ⟨i1, i2⟩
theorem Vp{d:Dl}{K:List Ev}(h:Nf d K):∀n k,k+n=K.length->Yf d (Cx d) (Ec d (Cx d) K k) k (K.drop k)=(Ec d (Cx d) K K.length,K.length,0)
 |0,k,c=>by
  have:k=K.length:=om;subst this;rw [Ca];rfl
 |n+1,k,c=>by
  have a:k<K.length:=om;rw [Bu a,Yf,if_neg (by simp [h k a]),<- Ky a];exact Vp h n (k+1) om
theorem Aau{d:Dl}{K:List Ev}(a:Gv d=0)(h:Nf d K):Pg d K=(Ec d (Cx d) K K.length,K.length,0):=by
 unfold Pg;rw [if_neg (by simp [a])];exact Vp h K.length 0 om
theorem Acb{d:Dl}{K:List Ev}(c:Gv d=0)(h:Nf d K){q:Nat}(a:q<=K.length):Pg d (K.take q)=(Ec d (Cx d) K q,q,0):=by
 have e:(K.take q).length=q:=by rw [B9];omega
 have:=Aau c (h.take a);rw [e,S7 q (A8 _) a]at this;exact this
theorem Aav{d:Dl}{K:List Ev}(g:DlOk d)(a:Gv d=0)(h:Nf d K)(f:∀e∈K,e.an.small)(i:K.length<=700):∀j,j<=K.length->SeB j (Ec d (Cx d) K j)/\TimeI d (Ec d (Cx d) K j)/\FaI d (Ec d (Cx d) K j)
 |0,_ =>⟨SeB.new,Vn (Kg a),Aap d⟩
 |j+1,hj=>by
  obtain⟨l,k,m⟩:=Aav g a h f i j om;obtain⟨h1,h2,_⟩:=Ab6 a g;have c:=h j om;rw [Ky (by omega)];exact⟨Amk h1 h2 (f _ (Aw _)) c l om,(S0 (Kg a) k c).1,(Ws a m c).1⟩
theorem Amy(hS:Ic)(hW:Hm gv prog 9 [] (fun r=>r=.bool true))(d:Dl)(l:List Ev)(e:Ev)(ab:Int)(hd:DlOk d)(hb:d.p.rules.length<=4000000/\d.pool.length<=4000000/\d.items.length<=4000000/\d.p.en.length<=4000000/\d.uses.length<=4000000)
  (hl:l.length<=4000000)(ha:∀e∈l,e.an.small)(bl:e.an.small):Hm gv prog 5 [d.v,.ro 11 (F0 l),V.agg [.int .i64 e.kind,.int .i64 e.time,.int .i64 e.an.item,.ro 1 (As e.an.ch),.int .i64 e.an.val,.str e.an.txt,.bool e.an.om,.int .i64 e.inc.ki,.int .i64 e.inc.ti,.int .i64 e.inc.lo,.int .i64 e.inc.gr,.int .i64 ab]] (fun r=>r=.bool true):=by
 have c7:=Ph d hb;have c8:=O0 hS d hd;have c9:=hW;have ak:=Aaj hS d l hd hl ha;have bh:∀e∈l.take 14,e.an.small:=fun e he=>ha e (Bz he)
 have b3:(l.take 14).length<=14:=Dy 14 l;have i:=F8 l;generalize F0 l=b2,l.take 14=m at*;have aa:=fun h0=>Aat (d:=d) h0 m.length m rfl
 obtain⟨br,ah,bg⟩:=Aai hd (l:=m) om bh;generalize Gc d m=x at*;obtain⟨s,K⟩:=x;simp only at aa br ah bg ak;have av:∀e∈K,e.an.small:=fun e he=>bh e (bg e he)
 have b5:K.length<=14:=om;have af:=fun h0=>Aav hd h0 (aa h0).2 av om
 have au:=fun q=>Ad7 hS d (K.take q) hd (by rw [B9];omega) (fun e he=>av e (Bz he))
 have bo:=fun h0(q:Nat)(hq:q<=K.length)=>Acb h0 (aa h0).2 hq
 have aq:SeOk s:=ah.ok om;have bf:=Vo s aq
 have am:∀(h0:Gv d=0)j(h:j<K.length),Hm gv prog 12 [d.v,(Ec d (Cx d) K j).v,K[j].v] (fun r=>r=.tup [(Ec d (Cx d) K (j+1)).v,.int .i64 0]):=fun h0 j h=>by
  obtain⟨b1,_,_⟩:=af h0 j om;have c:=Qj hS d _ K[j] hd (av _ (Aw h)) (b1.ok om) (b1.w998 om) (Aj b1.st om);have e1:K9 d (Ec d (Cx d) K j) K[j]=0:=by unfold K9;rw [if_neg (by simp [h0])];exact(aa h0).2 j h
  have e2:Sx d (Ec d (Cx d) K j) K[j]=Ec d (Cx d) K (j+1):=(Ky h).symm;rw [e1,e2]at c;exact c
 have ar:∀(h0:Gv d=0)(ho:s.st=1\/s.st=2),Hm gv prog 12 [d.v,s.v,V.agg [.int .i64 6,.int .i64 s.la,.int .i64 0,.nils,.int .i64 0,.str [],.bool false,.int .i64 0,.int .i64 0,.int .i64 0,.int .i64 0]] (fun r=>r=.tup [(Sx d s (Aas s)).v,.int .i64 0]):=fun h0 ho=>by
  have hT:=(af h0 K.length (A8 _)).2.1;rw [(aa h0).1]at hT;have c:=Qj hS d s (Aas s) hd ⟨B6 _,B6 _⟩ aq (ah.w998 om) (Aj ah.st om);rw [(Awa h0 hT ho).1]at c;refine Hm.argsR c (.cons (Bl.refl _) (.cons (Bl.refl _) (.cons ?_ .nil)));have r:=fun x:V=>Bl.refl x
  exact Bl.agg (.cons (r _) (.cons (r _) (.cons (r _) (.cons (Bl.nils 1) (.cons (r _) (.cons (r _) (.cons (r _) (.cons (r _) (.cons (r _) (.cons (r _) (.cons (r _) .nil)))))))))))
 have a8:∀(h0:Gv d=0)(ho:s.st=1\/s.st=2),(Sx d s (Aas s)).st=3/\SeB (m.length+1) (Sx d s (Aas s)):=fun h0 ho=>by
  have hT:=(af h0 K.length (A8 _)).2.1;rw [(aa h0).1]at hT;have h:=Awa h0 hT ho;exact⟨h.2,A44 hd (e:=Aas s) ⟨B6 _,B6 _⟩ h.1 ah om⟩
 have aj:∀(x:Se)(n:Nat),x.st=3->SeB n x->n<=100->∃ae:Int,ae≠0/\Hm gv prog 12 [d.v,x.v,e.v] (fun r=>r=.tup [Vi.v,.int .i64 ae]):=fun x n h3 hx hn=>by
  have c:=Qj hS d x e hd bl (hx.ok om) (hx.w998 om) (Aj hx.st om);have a3:=Baa (d:=d) e h3;unfold seR at c;rw [if_neg a3]at c;exact⟨_,a3,c⟩
 have hR:=fun h0=>(aa h0).1
 obtain⟨q,bu,bv,bt⟩:∃q:Nat,q<=K.length/\((ab<0\/(K.length:Int)<ab)->IntKind.i64.wrap ((K.length:Int)/2)=(q:Int))/\(¬(ab<0\/(K.length:Int)<ab)->ab=(q:Int)):=by
  by_cases h:ab<0\/(K.length:Int)<ab
  ·refine⟨K.length/2,by omega,fun _ =>?_,fun a=>absurd h a⟩;rw [Bb om (by omega)];omega
  ·exact⟨ab.toNat,by omega,fun a=>absurd a h,fun _ =>by omega⟩
 have lk:=Kx K;have pk:=F8 K;have qk:=fun(k:Nat)(h:k<K.length)=>Q4 h
 have a4:∀q,F0 (K.take q)=(F0 K).take q:=fun q=>Jz
 have y1:=fun x:Se=>Af x.t.elig
 have y2:=fun x:Se=>A4 x.t.steps
 have y3:=fun x:Se=>Br x.t.w
 have y4:=fun x:Se=>D0 x.ans
 have y5:=fun x:Se=>Dh x.inc
 have y6:=fun x:Se=>Ey x.inc
 have y7:=fun x:Se=>Fz x.ans
 have y8:=fun x:Ev=>Af x.an.ch
 have a6:∀x:Se,x.v=V.agg [.int .i64 x.st,.int .i64 x.us,.int .i64 x.la,.int .i64 x.sh,.ro 1 (As x.t.elig),.ro 2 (A0 x.t.steps),.int .i64 x.t.pend,.ro 1 (Bv x.t.w),.int .u64 x.t.draw,.int .i64 x.t.stop,.ro 5 (E7 x.ans),.ro 4 (Dc x.inc)]:=fun x=>rfl
 have bm:∀e:Ev,e.v=V.agg [.int .i64 e.kind,.int .i64 e.time,.int .i64 e.an.item,.ro 1 (As e.an.ch),.int .i64 e.an.val,.str e.an.txt,.bool e.an.om,.int .i64 e.inc.ki,.int .i64 e.inc.ti,.int .i64 e.inc.lo,.int .i64 e.inc.gr]:=fun e=>rfl
 simp only [a4]at au;generalize F0 K=kv at*;have bk:∀q,(kv.take q).all V.pureE=true:=fun q=>by rw [<- a4];exact F8 _
 have al:d.v=V.agg [.int .i64 d.ses,.int .i64 d.cand,.int .i64 d.p.len,.ro 5 (Ee d.p.rules),.ro 1 (As d.p.g.pts),.ro 1 (As d.p.g.pri),.ro 2 (A0 d.p.en),.int .i64 d.p.mn,.bool d.p.var.num.neg,.ro 1 (Au d.p.var.num.mag),.ro 1 (Au d.p.var.den),.int .i64 d.p.cut,.bool d.p.lvl.num.neg,.ro 1 (Au d.p.lvl.num.mag),.ro 1 (Au d.p.lvl.den),.int .i64 d.p.top,.bool d.p.rate.num.neg,.ro 1 (Au d.p.rate.num.mag),.ro 1 (Au d.p.rate.den),.int .i64 d.p.slack,.ro 9 (B8 d.pool),.ro 17 (Hg d.items),.ro 1 (As d.ess),.ro 2 (A0 d.uses),.int .i64 d.served,.int .i64 d.sec,.int .i64 d.nu,.int .i64 d.de,.int .i64 d.ex,.int .u64 d.seed]:=rfl;rw [al]at c7 c8 ak;simp only [al,a6,bm]at am qk ar aj ak bf;simp only [al]at au;rw [al];have px:=Af e.an.ch;generalize As e.an.ch=hx at*;have d0:=Cq d.p.rules;have d1:=Af d.p.g.pts;have d2:=Af d.p.g.pri;have d3:=A4 d.p.en;have d4:=Ah d.p.var.num.mag;have d5:=Ah d.p.var.den;have d6:=Ah d.p.lvl.num.mag;have d7:=Ah d.p.lvl.den;have d8:=Ah d.p.rate.num.mag;have d9:=Ah d.p.rate.den;have u:=B4 d.pool;have f:=Eu d.items;have o:=Af d.ess;have z:=A4 d.uses;generalize Ee d.p.rules=rv,As d.p.g.pts=pt,As d.p.g.pri=pr,A0 d.p.en=ev,Au d.p.var.num.mag=vm,Au d.p.var.den=vd,Au d.p.lvl.num.mag=lm,Au d.p.lvl.den=ld,Au d.p.rate.num.mag=rm,Au d.p.rate.den=rd at*;have bx:=Da d.pool;have bz:=Fl d.items;have b0:=A5 d.ess;generalize B8 d.pool=lv,Hg d.items=a9,As d.ess=bi,A0 d.uses=uv at*;refine Bx func5 (fun w0 N0 hG=>?_);refine Aa [1,3,5] [3,5] (by simp [ntmps5]<;>rfl) (Ab (V6 (.take 0 [] (.take 2 [] (.take 1 [7] (.alt 3 (.take 4 [] (.take 5 [] (.take 6 [] .done))) (.alt 4 (.alt 3 (.take 5 [] (.take 6 [] .done)) (.alt 5 (.take 3 [] (.take 6 [] .done)) .stop)) .stop))))) Dm kr ?_));refine Py (L:=[1,3,7,8]) (M:=[3,7]) (by simp<;>rfl) ?_;intro T hT;have bn:=(show T=_ by simpa using hT);subst bn;refine Ab (Ab (Ac (Am 1 sr ?_)));refine Ai c7 func7 ?_ (hp:=by simp);refine Ag [1,3,7,8,24] [3,7] sr ?_
 refine Ao (fun h1=>?_) (fun h1=>Ae ?_)
 ·exact Aa [6] [] sr (Ak (Ad sr rf))
 refine Ab (Ab (Ac (Am 1 sr ?_)));refine Be hG c8 func8 ?_ (hp:=by simp);refine Ag [1,3,7,8,27] [3,7] sr ?_
 refine Ao (fun h2=>?_) (fun h2=>Ae ?_)
 ·refine Ab (Ac (Be hG c9 func9 ?_));refine Ag [6] [] sr ?_;exact Ak (Ad sr (rfl))
 have h0:Gv d=0:=by simpa using h2
 refine Ab (Ac (Am 2 sr ?_));refine Be hG ak func14 ?_ (hp:=by simp);refine Ag [3,7,8,9,10] [3,7,9] (by simp<;>rfl) ?_;refine O8 ⟨[(3,V.bp 3 0 30 0 0),(7,V.bp 7 7 11 0 0),(8,V.int .i64 q),(9,V.bp 9 22 12 0 0),(10,V.ro 11 kv)],[(3,⟨0,30,44,[V.agg [.int .i64 d.ses,.int .i64 d.cand,.int .i64 d.p.len,.ro 5 rv,.ro 1 pt,.ro 1 pr,.ro 2 ev,.int .i64 d.p.mn,.bool d.p.var.num.neg,.ro 1 vm,.ro 1 vd,.int .i64 d.p.cut,.bool d.p.lvl.num.neg,.ro 1 lm,.ro 1 ld,.int .i64 d.p.top,.bool d.p.rate.num.neg,.ro 1 rm,.ro 1 rd,.int .i64 d.p.slack,.ro 9 lv,.ro 17 a9,.ro 1 bi,.ro 2 uv,.int .i64 d.served,.int .i64 d.sec,.int .i64 d.nu,.int .i64 d.de,.int .i64 d.ex,.int .u64 d.seed]]⟩),(7,⟨7,11,66,[V.agg [.int .i64 e.kind,.int .i64 e.time,.int .i64 e.an.item,.ro 1 hx,.int .i64 e.an.val,.str e.an.txt,.bool e.an.om,.int .i64 e.inc.ki,.int .i64 e.inc.ti,.int .i64 e.inc.lo,.int .i64 e.inc.gr]]⟩),(9,⟨22,12,58,[V.agg [.int .i64 s.st,.int .i64 s.us,.int .i64 s.la,.int .i64 s.sh,.ro 1 (As s.t.elig),.ro 2 (A0 s.t.steps),.int .i64 s.t.pend,.ro 1 (Bv s.t.w),.int .u64 s.t.draw,.int .i64 s.t.stop,.ro 5 (E7 s.ans),.ro 4 (Dc s.inc)]]⟩)],37,116⟩ ?h1 ?_
 case h1=>
  refine Aa [3,7,8,9,10,42] [3,7,9] (by simp [lk]<;>rfl) ?_
  refine Ao (fun h3=>?_) (fun h3=>Ae ?_)
  ·have hq:=bv (by simpa [lk]using h3);refine A2 [3,7,8,9,10] [3,7,9] (by simp [hq,lk]<;>rfl) ?_;exact⟨rfl,Aew rfl rfl rfl sm⟩
  ·have hq:=bt (by simpa [lk]using h3);subst hq;exact⟨rfl,O9 [3,7,8,9,10] [3,7,9] rfl rfl rfl sm⟩
 have bd:(q:Int)<=(K.length:Int):=om;have bs:(kv.drop q).take (K.length-q)=kv.drop q:=Bf (by rw [F9];omega);have ag:=au q;rw [bo h0 q bu]at ag;unfold Atg at ag;simp only [a6]at ag;have pq:=bk q;have am:=am h0;have hR:=hR h0;have b4:=fun j hj=>(af h0 j hj).1
 generalize Ec d (Cx d) K=R at*;refine Ab (C4 [(1,[]),(2,[]),(3,[]),(0,[11]),(4,[]),(5,[]),(6,[]),(7,[]),(8,[]),(9,[]),(10,[]),(11,[]),(12,[])] Dm kr ?_);refine Ch 4 (by simp [bd,lk]<;>rfl) ?_;refine Sc hG (fun hg=>ag) func15 rfl kr rfl rfl sr rfl rfl sr (by simp) (by simp<;>rfl) ?_;refine C5 [3,7,8,9,10,11,12,13] [3,7,9,11] (by simp<;>rfl) ?_;refine Ab (Aa [3,7,8,9,10,11,61] [3,7,9,11] (by simp<;>rfl) ?_);refine A6 rfl (fun a2=>by simp at a2) (fun a2=>Ae (Ab (Aa [3,7,9,11,64,65,66] [3,7,9,11] (by simp [bd,bs,lk]<;>rfl) (Ap (Bq (fun k nx=>⟨[(3,V.bp 3 0 30 0 0),(7,V.bp 7 7 11 0 0),(9,V.bp 9 22 12 0 0),(11,V.bp 11 46 12 0 0),(64,V.ro 11 (kv.drop q)),(65,V.int .i64 ((K.length-q:Nat):Int)),(66,V.int .i64 k)],[(3,⟨0,30,44,[V.agg [.int .i64 d.ses,.int .i64 d.cand,.int .i64 d.p.len,.ro 5 rv,.ro 1 pt,.ro 1 pr,.ro 2 ev,.int .i64 d.p.mn,.bool d.p.var.num.neg,.ro 1 vm,.ro 1 vd,.int .i64 d.p.cut,.bool d.p.lvl.num.neg,.ro 1 lm,.ro 1 ld,.int .i64 d.p.top,.bool d.p.rate.num.neg,.ro 1 rm,.ro 1 rd,.int .i64 d.p.slack,.ro 9 lv,.ro 17 a9,.ro 1 bi,.ro 2 uv,.int .i64 d.served,.int .i64 d.sec,.int .i64 d.nu,.int .i64 d.de,.int .i64 d.ex,.int .u64 d.seed]]⟩),(7,⟨7,11,66,[V.agg [.int .i64 e.kind,.int .i64 e.time,.int .i64 e.an.item,.ro 1 hx,.int .i64 e.an.val,.str e.an.txt,.bool e.an.om,.int .i64 e.inc.ki,.int .i64 e.inc.ti,.int .i64 e.inc.lo,.int .i64 e.inc.gr]]⟩),(9,⟨22,12,58,[V.agg [.int .i64 s.st,.int .i64 s.us,.int .i64 s.la,.int .i64 s.sh,.ro 1 (As s.t.elig),.ro 2 (A0 s.t.steps),.int .i64 s.t.pend,.ro 1 (Bv s.t.w),.int .u64 s.t.draw,.int .i64 s.t.stop,.ro 5 (E7 s.ans),.ro 4 (Dc s.inc)]]⟩),(11,⟨46,12,58,[V.agg [.int .i64 (R (q+k)).st,.int .i64 (R (q+k)).us,.int .i64 (R (q+k)).la,.int .i64 (R (q+k)).sh,.ro 1 (As (R (q+k)).t.elig),.ro 2 (A0 (R (q+k)).t.steps),.int .i64 (R (q+k)).t.pend,.ro 1 (Bv (R (q+k)).t.w),.int .u64 (R (q+k)).t.draw,.int .i64 (R (q+k)).t.stop,.ro 5 (E7 (R (q+k)).ans),.ro 4 (Dc (R (q+k)).inc)]]⟩)],nx,116⟩) (fun k=>True) (K.length-q) _ trivial (AS.le_refl _) ?_)))));intro k nx hk hI;refine Aa [3,7,9,11,64,65,66,67] [3,7,9,11] sr (Ab ?_)
 refine Ao (fun aw=>Ae ?_) (fun aw=>?_)
 ·have a1:k<K.length-q:=by simp at aw;omega
  have ao:q+k<K.length:=om;have ga:Hs (kv.drop q) k=some (V.agg [.int .i64 K[q+k].kind,.int .i64 K[q+k].time,.int .i64 K[q+k].an.item,.ro 1 (As K[q+k].an.ch),.int .i64 K[q+k].an.val,.str K[q+k].an.txt,.bool K[q+k].an.om,.int .i64 K[q+k].inc.ki,.int .i64 K[q+k].inc.ti,.int .i64 K[q+k].inc.lo,.int .i64 K[q+k].inc.gr]):=by have h:=qk (q+k) ao;rw [C1]at h|-;rw [Cy];exact h
  have C9:=A7 (k:=k) om;have be:=am (q+k) ao;have pc:=y8 K[q+k];generalize K[q+k]=y at*;generalize As y.an.ch=hv at*;refine Ab (Ap (Aa [3,7,9,11,15,64,65,66] [3,7,9,11,15] (by simp [ga,a1,lk]<;>rfl) (Ab (Ac (Am 3 sr ?_)))));refine Be hG be func12 ?_ (hp:=by simp);refine Ag [3,7,9,11,13,64,65,66] [3,7,9,11] (by simp<;>rfl) ?_;refine Aa [3,7,9,11,64,65,66,78] [3,7,9,11] (by simp<;>rfl) ?_;refine A6 rfl (fun a7=>by simp at a7) (fun a7=>Ae (A2 [3,7,9,11,64,65,66] [3,7,9,11] (by simp [C9]<;>rfl) ?_));exact⟨a1,trivial,_,AS.le_refl _⟩
 ·refine A9 ?_;have bw:q+k=K.length:=by simp at aw;omega
  rw [bw,hR];refine Ab (Ab (Ac (Am 2 (by simp<;>rfl) ?_)));refine Ai bf func16 ?_ (hp:=by simp);refine Ag [3,7,9,83] [3,7,9] sr ?_;refine A6 rfl (fun bb=>by simp at bb) (fun bb=>Ae (Ab (Aa [3,7,9,91] [3,7,9] (by simp<;>rfl) ?_)))
  refine Ao (fun az=>?_) (fun az=>Ae ?_)
  ·have ho:s.st=1\/s.st=2:=by simpa using az
   have ba:=ar h0 ho;obtain⟨ai,bq⟩:=a8 h0 ho;generalize Sx d s (Aas s)=n at*;obtain⟨ae,ax,ad⟩:=aj n _ ai bq om;rw [ai]at ad;refine Ab (Ac (Am 5 (by simp<;>rfl) ?_));refine Be hG ba func12 ?_ (hp:=by simp);refine Ag [3,7,9,13] [3,7,9] (by simp<;>rfl) ?_;refine Aa [3,7,9,102] [3,7,9] (by simp<;>rfl) ?_;refine A6 rfl (fun a5=>by simp at a5) (fun a5=>Ae (Ab (Aa [3,7,9,105] [3,7,9] (by simp [ai]<;>rfl) ?_)))
   refine A6 rfl (fun bc=>?_) (fun bc=>by simp at bc)
   ·refine Ab (Ac (Am 3 (by simp<;>rfl) ?_));refine Be hG ad func12 ?_ (hp:=by simp);refine Ag [17] [] (by simp<;>rfl) ?_;refine Aa [114] [] (by simp<;>rfl) ?_;refine A6 rfl (fun a0=>absurd (by simpa using a0) ax) (fun a0=>Ae (Ab (Ac (Be hG c9 func9 ?_))));refine Ag [6] [] sr ?_;exact Ak (Ad sr (rfl))
  refine Ab (Aa [3,7,9,105] [3,7,9] (by simp<;>rfl) ?_)
  refine Ao (fun bj=>?_) (fun bj=>Ae ?_)
  ·have ai:s.st=3:=by simpa using bj
   obtain⟨ae,ax,ad⟩:=aj s _ ai ah om;refine Ab (Ac (Am 3 (by simp<;>rfl) ?_));refine Be hG ad func12 ?_ (hp:=by simp);refine Ag [17] [] (by simp<;>rfl) ?_;refine Aa [114] [] (by simp<;>rfl) ?_;refine A6 rfl (fun ay=>absurd (by simpa using ay) ax) (fun ay=>Ae (Ab (Ac (Be hG c9 func9 ?_))));refine Ag [6] [] sr ?_;exact Ak (Ad sr (rfl))
  refine Ab (Ac (Be hG c9 func9 ?_));refine Ag [6] [] sr ?_;exact Ak (Ad sr (rfl))
theorem Amz(d:Dl)(l:List Ev)(e:Ev)(n:Int)(hb:d.p.rules.length<=4000000/\d.pool.length<=4000000/\d.items.length<=4000000/\d.p.en.length<=4000000/\d.uses.length<=4000000)(hs:Adf d=false):Hm gv prog 5 [d.v,.ro 11 (F0 l),V.agg [.int .i64 e.kind,.int .i64 e.time,.int .i64 e.an.item,.ro 1 (As e.an.ch),.int .i64 e.an.val,.str e.an.txt,.bool e.an.om,.int .i64 e.inc.ki,.int .i64 e.inc.ti,.int .i64 e.inc.lo,.int .i64 e.inc.gr,.int .i64 n]] (fun r=>r=.bool true):=by
 have y:=Ph d hb;rw [hs]at y;have pl:=F8 l;generalize F0 l=aa at*;have px:=Af e.an.ch;generalize As e.an.ch=hx at*;have j:d.v=V.agg [.int .i64 d.ses,.int .i64 d.cand,.int .i64 d.p.len,.ro 5 (Ee d.p.rules),.ro 1 (As d.p.g.pts),.ro 1 (As d.p.g.pri),.ro 2 (A0 d.p.en),.int .i64 d.p.mn,.bool d.p.var.num.neg,.ro 1 (Au d.p.var.num.mag),.ro 1 (Au d.p.var.den),.int .i64 d.p.cut,.bool d.p.lvl.num.neg,.ro 1 (Au d.p.lvl.num.mag),.ro 1 (Au d.p.lvl.den),.int .i64 d.p.top,.bool d.p.rate.num.neg,.ro 1 (Au d.p.rate.num.mag),.ro 1 (Au d.p.rate.den),.int .i64 d.p.slack,.ro 9 (B8 d.pool),.ro 17 (Hg d.items),.ro 1 (As d.ess),.ro 2 (A0 d.uses),.int .i64 d.served,.int .i64 d.sec,.int .i64 d.nu,.int .i64 d.de,.int .i64 d.ex,.int .u64 d.seed]:=rfl;rw [j]at y|-;have w:=Cq d.p.rules;have z:=Af d.p.g.pts;have d2:=Af d.p.g.pri;have k:=A4 d.p.en;have o:=Ah d.p.var.num.mag;have t:=Ah d.p.var.den;have u:=Ah d.p.lvl.num.mag;have s:=Ah d.p.lvl.den;have m:=Ah d.p.rate.num.mag;have x:=Ah d.p.rate.den;have f:=B4 d.pool;have a:=Eu d.items;have h:=Af d.ess;have c:=A4 d.uses;generalize Ee d.p.rules=rv,As d.p.g.pts=pt,As d.p.g.pri=pr,A0 d.p.en=ev,Au d.p.var.num.mag=vm,Au d.p.var.den=vd,Au d.p.lvl.num.mag=lm,Au d.p.lvl.den=ld,Au d.p.rate.num.mag=rm,Au d.p.rate.den=rd at*;have ab:=Da d.pool;have ae:=Fl d.items;have af:=A5 d.ess;generalize B8 d.pool=lv,Hg d.items=ag,As d.ess=ad,A0 d.uses=uv at*;refine Bx func5 (fun w0 N0 hG=>?_);refine Aa [1,3,5] [3,5] (by simp [ntmps5]<;>rfl) (Ab (V6 (.take 0 [] (.take 2 [] (.take 1 [7] (.alt 3 (.take 4 [] (.take 5 [] (.take 6 [] .done))) (.alt 4 (.alt 3 (.take 5 [] (.take 6 [] .done)) (.alt 5 (.take 3 [] (.take 6 [] .done)) .stop)) .stop))))) Dm kr ?_));refine Py (L:=[1,3,7,8]) (M:=[3,7]) (by simp<;>rfl) ?_;intro T hT;have i:=(show T=_ by simpa using hT);subst i;refine Ab (Ab (Ac (Am 1 sr ?_)));refine Ai y func7 ?_ (hp:=by simp);refine Ag [1,3,7,8,24] [3,7] sr ?_
 refine A6 rfl (fun h1=>?_) (fun h1=>by simp at h1)
 ·exact Aa [6] [] sr (Ak (Ad sr rf))
end Go.Proofs.YtpaccopbbffkaaaGreatDoor
set_option linter.unusedSimpArgs false
set_option maxRecDepth 10000
namespace Go.Proofs.YtpaccopbbffkaaaGreatDoor
open Go.Eng Go.Eng.Limb Go.ChangeShapes Go.WideShapes Go.ChangeAt Go.RowKit
theorem Acd(os:Os):laidMet prog Av8 ((Kf os).forCall (fun _ _ =>0) ⟨#[],#[zd,zl,zm],[]⟩).memory:=
 laidMet_of_run' 8 kr kr
theorem A5m{e:Ev}{k:Int}(h:SmlV 1048576 (.agg [.int .i64 e.kind,.int .i64 e.time,.int .i64 e.an.item,.ro 1 (As e.an.ch),.int .i64 e.an.val,.str e.an.txt,.bool e.an.om,.int .i64 e.inc.ki,.int .i64 e.inc.ti,.int .i64 e.inc.lo,.int .i64 e.inc.gr,.int .i64 k])):e.an.small:=by
 cases h with
 |agg h=>
  have h1:=h (.ro 1 (As e.an.ch)) sm;have h2:=h (.str e.an.txt) sm;cases h1 with
  |ro h1 _ =>cases h2 with
   |str h2=>rw [A5]at h1;exact⟨by omega,by omega⟩
theorem Azn(os:Os){H:Type}(enc:TypeId × Value->H):∃ds places,DataW.whole enc prog ((Kf os).forCall (fun _ _ =>0) ⟨#[],#[zd,zl,zm],[]⟩).memory Tryz.f5.params.toList Rows.sessionEndsSpec.vars false #[zd,zl,zm].toList 8=some (ds,[],places)/\Rows.uptoSmall H (ds++[])=true:=
 ⟨[dD,.nil,dM],[],by kernel_rfl,by kernel_rfl⟩
set_option maxRecDepth 100000 in
theorem At9(os:Os)(started:os.Started)(H:Type)(enc:TypeId × Value->H)(F:Stop.Interp):
  ReturnsInHanded {} Tryz.checked os 5 .any ((Rows.OpenSpec.upto Rows.sessionEndsSpec).preRow enc prog Tryz.f5 Rows.sessionEndsUptoRow.domain false Rows.sessionEndsUptoRow.laid) (((Rows.OpenSpec.upto Rows.sessionEndsSpec).at F).post enc prog Tryz.f5 false true false false):=by
 obtain⟨ds,places,hx,hsm⟩:=Azn os enc
 refine returnsInHanded_of_row (C:=Tryz.checked) (s:=Rows.OpenSpec.upto Rows.sessionEndsSpec) (kr:ownKnob prog.godebug=none) started kr func5
  (witness_row_at (enc:=enc) (C:=Tryz.checked) false (Kf os) #[zd,zl,zm] rfl kr kr kr
   (OpenSpec.preRow_of_cond 8 hx kr (fun k hk=>by cases hk;exact hsm) kr (Acd os))) ?_
 intro W base args ds gs before hval hW _ hcond _ hL hS _
 refine Qr (s:=Rows.sessionEndsSpec) (L:=[44,36,24,22,86,27,25,28,368,34,32,30,149,37,115,113,111,38,93,91,39,240,41,42,45,66,62,64,79,3,9,4]) (tb:=4) (ts:=[44,45,79]) (by rw [params5]) kr kr Ad8 rfl underlying4 rfl (fun ds hl=>?_) (fun vs hvs hsm=>?_) (Av9 hS) (Amp H) (fun d hd=>Tu (hcond _ rfl) d (E4 _ hd)) hval hW
 ·match ds,hl with
  | [d0,d1,d2],_ =>rfl
 ·obtain⟨v0,r0,rfl,h0,v1,r1,rfl,h1,v2,r2,rfl,h2,rfl⟩:=hvs;obtain⟨d,rfl,hlim⟩:=P8 h0;obtain⟨l,rfl⟩:=Tt h1;obtain⟨e,k,rfl⟩:=A5d h2;have he:=A5m (hsm (.agg [.int .i64 e.kind,.int .i64 e.time,.int .i64 e.an.item,.ro 1 (As e.an.ch),.int .i64 e.an.val,.str e.an.txt,.bool e.an.om,.int .i64 e.inc.ki,.int .i64 e.inc.ti,.int .i64 e.inc.lo,.int .i64 e.inc.gr,.int .i64 k]) sm);have hd:=Amo (hsm d.v sm);obtain⟨hl,ha⟩:=Ad9 (hsm (.ro 11 (F0 l)) sm);cases hs:Adf d with
  |false=>exact Amz d l e k hd.b hs
  |true=>exact Amy Ro (Wr Ro) d l e k (Aea hlim hd hs) hd.b hl ha he
theorem Adj:Rows.SessionEndsUptoSaid:=
 OpenClaim.holds_of_cond 5 Tryz.f5 rfl rfl rfl rfl rfl rfl rfl ⟨rfl,rfl,rfl,rfl,rfl⟩ rfl rfl rfl rfl rfl Akm func5 Azm
  (of_decide_eq_true kr) (by unfold Func.isWrapper;first|(rw [if_pos (by decide+kernel)];kernel_rfl)|(rw [if_neg (by decide+kernel)];exact⟨rfl,rfl⟩))
  (fun os started H enc _ F=>by rw [OpenClaim.pre_eq_preRow];exact At9 os started H enc F)
theorem Azo(f:FuncId)(fn:Func)(hf:Tryz.pinned.checked.prog.funcNamed "examboard/examboardlaw51.SessionEnds" =some f)(hfn:Tryz.pinned.checked.prog.funcs[f]? =some fn):
  false=Tryz.pinned.checked.prog.looks []/\∀(j:Nat)t,fn.params[j]? =some t->Tryz.pinned.checked.prog.wantsStandIn t=false:=by
 obtain rfl:f=5:=Fh (Akm.symm.trans hf)|>.symm;obtain rfl:fn=Tryz.f5:=(Fh (func5.symm.trans hfn)).symm;refine⟨Azl,fun j t ht=>?_⟩;rw [params5]at ht
 have h3:t=44\/t=45\/t=79:=by
  have:=Array.mem_of_getElem? ht;simp at this;omega
 rcases h3 with rfl|rfl|rfl
 ·exact(show prog.wantsStandIn 44=false by kernel_rfl)
 ·exact(show prog.wantsStandIn 45=false by kernel_rfl)
 ·exact(show prog.wantsStandIn 79=false by kernel_rfl)
theorem sessionEndsProved:Rows.SessionEndsUptoCardSaid:=
 Claim7.holds_tied_plain_at .later [] _ _ _ _ Adj (fun _ h=>by cases h) Bax (fun _ h=>by cases h) sessionEndsUpto_row_tie rfl ⟨rfl,rfl⟩ A5k rfl Azo A5l
end Go.Proofs.YtpaccopbbffkaaaGreatDoor
