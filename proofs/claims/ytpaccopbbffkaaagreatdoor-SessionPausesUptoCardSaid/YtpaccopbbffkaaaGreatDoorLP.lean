/- Sessions: SessionPauses, the given statement (second form). No condition. -/
import Derived.Test.YtpaccopbbffkaaaGreatDoorP6
import Derived.Test.YtpaccopbbffkaaaGreatDoorFP
set_option maxHeartbeats 8000000
set_option linter.all false
open Go.Proofs.Tryz
set_option maxRecDepth 4000
namespace Go.Proofs.YtpaccopbbffkaaaGreatDoor
open Go.Eng Go.Eng.Limb
theorem Aa3(l:List Int)(hl:l.length<=4000000):AC prog 52 [.ro 1 (As l),.ro 1 (As l)] (fun r=>r=.bool true):=by
 have q:=fun(k:Nat)(h:k<l.length)=>Dd h
 have ll:=A4 l;have p1:=Ag l;generalize As l=d at*;refine Ax func52 fun w0 N0=>?_;refine Aa [0,1] [] sr (Ab (Aa [0,1,10] [] sr ?_));refine A7 rfl (fun h1=>by simp at h1) (fun h1=>Ae (Ab (Aa [0,1,5] [] sr (Ar (Br (fun k nx=>⟨[(0,V.ro 1 d),(1,V.ro 1 d),(5,V.int .i64 k)],[],nx,26⟩) (fun k=>True) l.length _ trivial (AS.le_refl _) ?_)))));intro k nx hk hI;refine Ab (Aa [0,1,5,14] [] sr ?_)
 refine Ao (fun h2=>Ae ?_) fun h2=>?_
 ·have c:k<l.length:=by simp at h2;omega
  have a:k<d.length:=om;have f:=q k c;have Dg:=A6 (k:=k) om;refine Ab (Ar (Dq [(0,[]),(1,[]),(2,[]),(4,[]),(5,[]),(6,[]),(3,[]),(7,[]),(8,[])] [0,1,5,25] [] Ds kr (by simp [f,a]<;>rfl) ?_));refine A7 rfl (fun e=>by simp at e) (fun e=>Ae (A3 [0,1,5] [] (by simp [Dg]<;>rfl) ?_));exact⟨c,trivial,_,AS.le_refl _⟩
 ·refine Bb ?_;exact Aa [4] [] sr (Aj (Ac sr rf))
theorem A6v(n:Nat)(hl:(F5 n).length<=4000000):∃f:Nat->Int,∀k:Nat,AC prog 84 [.ro 1 (F5 n),.int .i64 k] (fun r=>r=.int .u64 (f k)):=by
 have p1:=Ff n
 have q:∀k:Nat,k<(F5 n).length->∃x,G8 (F5 n) k=some (.int .u32 x):=fun k h=>by
  unfold F5 Av at h|-;exact⟨_,by rw [C0,Bc,Al (by simpa using h)];rfl⟩
 generalize F5 n=c at*
 have e:∀k:Nat,∃x,k<c.length->G8 c k=some (.int .u32 x):=fun k=>by
  by_cases h:k<c.length
  ·obtain⟨x,e⟩:=q k h;exact⟨x,fun _ =>e⟩
  ·exact⟨0,fun a=>absurd a h⟩
 obtain⟨g,i⟩:=Classical.axiomOfChoice e;refine⟨fun k=>if k<c.length then IntKind.u64.wrap (g k)else 0,fun k=>?_⟩;refine Ax func84 fun w0 N0=>?_;refine Aa [0,1] [] sr (Ab (Aa [0,1,8] [] sr ?_))
 refine Ao (fun h1=>?_) fun h1=>Ae ?_
 ·have d:k<c.length:=by simp at h1;omega
  have j:=i k d;exact Aa [4] [] (by simp [j,d]<;>rfl) (Aj (Ac sr (by show _ =V.int IntKind.u64 (if k<c.length then IntKind.u64.wrap (g k)else 0);rw [if_pos d])))
 exact Aa [4] [] sr (Aj (Ac sr (by show _ =V.int IntKind.u64 (if k<c.length then IntKind.u64.wrap (g k)else 0);rw [if_neg (by simp at h1;omega)])))
theorem Arf(n:Nat)(j:(F5 n).length<=4000000):AC prog 53 [.ro 1 (F5 n),.ro 1 (F5 n)] (fun r=>r=.int .i64 0):=by
 have h:=Ff n;obtain⟨f,d⟩:=A6v n j;generalize F5 n=a at*;refine Ax func53 fun w0 N0=>?_;refine Aa [0,1] [] sr (Ab ?_);have hw0:IntKind.i64.wrap ((a.length:Int)-1)=(a.length:Int)-1:=Bh om om;refine Aa [0,1,5] [] (by simp [hw0]<;>rfl) (Ar (Br (fun k nx=>⟨[(0,V.ro 1 a),(1,V.ro 1 a),(5,V.int .i64 ((a.length:Int)-1-k))],[],nx,30⟩) (fun k=>True) a.length _ trivial (by simp<;>exact AS.le_refl _) ?_));intro k nx hk hI;refine Ab (Aa [0,1,5,15] [] sr ?_)
 refine Ao (fun h1=>Ae ?_) fun h1=>?_
 ·have e:k<a.length:=by simp at h1;omega
  have i:((a.length:Int)-1-k)=((a.length-1-k:Nat):Int):=om;have c:=d (a.length-1-k);rw [<- i]at c;have Dg:IntKind.i64.wrap ((a.length:Int)-1-k-1)=(a.length:Int)-1-((k+1:Nat):Int):=by rw [Bh om Go.om];omega
  generalize f (a.length-1-k)=fx at*;refine Ab (Ar (Ab (Ad (Am 2 sr ?_))));refine Ah c func84 ?_;refine Am 2 sr ?_;refine Ah c func84 ?_;refine Af [0,1,5,6,7] [] sr ?_;refine Ab (Aa [0,1,5,6,7,26] [] sr ?_);refine A7 rfl (fun h2=>by simp at h2) fun h2=>Ae (Aa [0,1,5,29] [] sr ?_);refine A7 rfl (fun g=>by simp at g) (fun g=>Ae (A3 [0,1,5] [] (by simp [Dg]<;>rfl) ?_));exact⟨e,trivial,_,AS.le_refl _⟩
 ·refine Bb ?_;exact Aa [4] [] sr (Aj (Ac sr rf))
theorem Arg(a:An)(f:a.ch.length<=4000000):AC prog 26 [a.v,a.v] (fun r=>r=.bool true):=by
 have e:=Aa3 a.ch f;have d:a.v=V.agg [.int .i64 a.item,.ro 1 (As a.ch),.int .i64 a.val,.str a.txt,.bool a.om]:=rfl;rw [d];have g:=Ag a.ch;have h:=A4 a.ch;generalize As a.ch=hv at*;refine Ax func26 fun w0 N0=>?_;refine Aa [2,3] [2,3] sr (Ab (Ad (Am 10 sr ?_)));refine Db (c:=True) (fun hg=>e) func52 rfl kr sr rfl rfl sr (by simp) sr ?_;refine Af [4] [] sr ?_;exact Aj (Ac sr (rfl))
theorem Awq(t:Te)(g:teOk t):AC prog 25 [t.v,t.v] (fun r=>r=.bool true):=by
 have aa:=g.el;have ab:=g.sl;have ad:=g.wl;have o:=Aa3 t.elig om;have j:=fun(k:Nat)(h:k<t.w.length)=>Arf t.w[k] (by have:=g.wd _ (Az h);simp [F5,Av];omega)
 have qs:=fun(k:Nat)(h:k<t.steps.length)=>H3 h
 have u:=fun(k:Nat)(h:k<t.w.length)=>Kc h
 have s:∀n,Av (B1 n)=F5 n:=fun n=>rfl
 simp only [s]at u;have af:=Du t.steps;have ae:=Hk t.w;have i:=Ag t.elig;have y2:=A5 t.steps;have y:=Bv t.w;have y4:=Ff;have l:t.v=.agg [.ro 1 (As t.elig),.ro 2 (A2 t.steps),.int .i64 t.pend,.ro 1 (Bw t.w),.int .u64 t.draw,.int .i64 t.stop]:=rfl;rw [l];generalize As t.elig=f,A2 t.steps=ts,Bw t.w=e at*;refine Ax func25 fun w0 N0=>?_;refine Aa [2,3] [2,3] sr (Ab (Ab (Ad (Am 4 sr ?_))));refine Ah o func52 ?_;refine Af [2,3,51] [2,3] sr ?_;refine A7 rfl (fun h1=>by simp at h1) (fun h1=>Ae (Ab (Aa [2,3,5] [2,3] sr (Ar (Br (fun k nx=>⟨[(2,V.bp 2 0 6 0 0),(3,V.bp 3 1 6 0 0),(5,V.int .i64 k)],[(2,⟨0,6,54,[V.agg [.ro 1 f,.ro 2 ts,.int .i64 t.pend,.ro 1 e,.int .u64 t.draw,.int .i64 t.stop]]⟩),(3,⟨1,6,54,[V.agg [.ro 1 f,.ro 2 ts,.int .i64 t.pend,.ro 1 e,.int .u64 t.draw,.int .i64 t.stop]]⟩)],nx,89⟩) (fun k=>True) t.steps.length _ trivial (AS.le_refl _) ?_)))));intro k nx hk hI;refine Ab (Aa [2,3,5,56] [2,3] sr ?_)
 refine Ao (fun h2=>Ae ?_) fun h2=>?_
 ·have a:k<t.steps.length:=by simp at h2;omega
  have c:k<ts.length:=om;have m:=qs k a;have Dg:=A6 (k:=k) om;generalize t.steps[k]=p at*;refine Ab (Ar (Dq [(0,[]),(2,[]),(5,[]),(7,[]),(1,[]),(3,[]),(4,[]),(6,[]),(8,[]),(9,[]),(10,[])] [2,3,5,69] [2,3] Ds kr (by simp [m,c]<;>rfl) ?_));refine A7 rfl (fun h3=>by simp at h3) (fun h3=>Ae (A3 [2,3,5] [2,3] (by simp [Dg]<;>rfl) ?_));exact⟨a,trivial,_,AS.le_refl _⟩
 ·refine Bb ?_;refine Ab (Aa [2,3,6] [2,3] sr (Ar (Br (fun k nx=>⟨[(2,V.bp 2 0 6 0 0),(3,V.bp 3 1 6 0 0),(6,V.int .i64 k)],[(2,⟨0,6,54,[V.agg [.ro 1 f,.ro 2 ts,.int .i64 t.pend,.ro 1 e,.int .u64 t.draw,.int .i64 t.stop]]⟩),(3,⟨1,6,54,[V.agg [.ro 1 f,.ro 2 ts,.int .i64 t.pend,.ro 1 e,.int .u64 t.draw,.int .i64 t.stop]]⟩)],nx,89⟩) (fun k=>True) t.w.length _ trivial (AS.le_refl _) ?_)));intro k nx hk hI;refine Ab (Aa [2,3,6,74] [2,3] sr ?_)
  refine Ao (fun x=>Ae ?_) fun x=>?_
  ·have a:k<t.w.length:=by simp at x;omega
   have c:k<e.length:=om;have m:=u k a;have Dg:=A6 (k:=k) om;have d:=j k a;generalize t.w[k]=n at*;have pn:=y4 n;refine Ab (Ar (Ab (C5 [(0,[]),(2,[]),(5,[]),(7,[]),(1,[]),(3,[]),(4,[]),(6,[]),(8,[]),(9,[]),(10,[]),(11,[])] Ds kr ?_)));refine Cf 10 (by simp [m,c]<;>rfl) ?_;refine Bu (fun hg=>d) func53 rfl kr rfl rfl sr rfl rfl sr (by simp) sr ?_;refine C6 [2,3,6,88] [2,3] sr ?_;refine A7 rfl (fun z=>by simp at z) (fun z=>Ae (A3 [2,3,6] [2,3] (by simp [Dg]<;>rfl) ?_));exact⟨a,trivial,_,AS.le_refl _⟩
  ·refine Bb ?_;exact Aa [4] [] sr (Aj (Ac sr rf))
theorem Aoi(s:Se)(h:SeOk s):AC prog 16 [s.v,s.v] (fun r=>r=.bool true):=by
 have af:=h.al;have ae:=h.il;have m:=Awq s.t h.t;have aa:=fun(k:Nat)(z:k<s.ans.length)=>Arg s.ans[k] (Ai (h.ac _ (Az z)).ch dc)
 have qa:=fun(k:Nat)(h:k<s.ans.length)=>Yv h
 have qi:=fun(k:Nat)(h:k<s.inc.length)=>Z8 h
 have ad:s.t.v=.agg [.ro 1 (As s.t.elig),.ro 2 (A2 s.t.steps),.int .i64 s.t.pend,.ro 1 (Bw s.t.w),.int .u64 s.t.draw,.int .i64 s.t.stop]:=rfl;rw [ad]at m;have ab:s.v=V.agg [.int .i64 s.st,.int .i64 s.us,.int .i64 s.la,.int .i64 s.sh,.ro 1 (As s.t.elig),.ro 2 (A2 s.t.steps),.int .i64 s.t.pend,.ro 1 (Bw s.t.w),.int .u64 s.t.draw,.int .i64 s.t.stop,.ro 5 (Fu s.ans),.ro 4 (Dt s.inc)]:=rfl;rw [ab];have z1:=Ag s.t.elig;have y:=A5 s.t.steps;have z3:=Bv s.t.w;have z4:=Ew s.ans;have x:=Ec s.inc;have j:=Gy s.ans;have i:=F6 s.inc;generalize As s.t.elig=o,A2 s.t.steps=ts,Bw s.t.w=u,Fu s.ans=f,Dt s.inc=e at*;refine Ax func16 fun w0 N0=>?_;refine Aa [2,3] [2,3] sr (Ab (Ab (Ad (Am 31 sr ?_))));refine Db (c:=True) (fun hg=>m) func25 rfl kr sr rfl rfl sr (by simp) sr ?_;refine Af [2,3,58] [2,3] sr ?_;refine A7 rfl (fun h1=>by simp at h1) (fun h1=>Ae (Ab (Aa [2,3,5] [2,3] sr (Ar (Br (fun k nx=>⟨[(2,V.bp 2 0 12 0 0),(3,V.bp 3 1 12 0 0),(5,V.int .i64 k)],[(2,⟨0,12,58,[V.agg [.int .i64 s.st,.int .i64 s.us,.int .i64 s.la,.int .i64 s.sh,.ro 1 o,.ro 2 ts,.int .i64 s.t.pend,.ro 1 u,.int .u64 s.t.draw,.int .i64 s.t.stop,.ro 5 f,.ro 4 e]]⟩),(3,⟨1,12,58,[V.agg [.int .i64 s.st,.int .i64 s.us,.int .i64 s.la,.int .i64 s.sh,.ro 1 o,.ro 2 ts,.int .i64 s.t.pend,.ro 1 u,.int .u64 s.t.draw,.int .i64 s.t.stop,.ro 5 f,.ro 4 e]]⟩)],nx,96⟩) (fun k=>True) s.ans.length _ trivial (AS.le_refl _) ?_)))));intro k nx z hI;refine Ab (Aa [2,3,5,63] [2,3] sr ?_)
 refine Ao (fun h2=>Ae ?_) fun h2=>?_
 ·have d:k<s.ans.length:=by simp at h2;omega
  have n:k<f.length:=om;have l:=qa k d;have Dg:=A6 (k:=k) om;have g:=aa k d;have pc:=Ag s.ans[k].ch;unfold An.v at l g;generalize s.ans[k]=a at*;refine Ab (Ar (Ab (C5 [(0,[]),(2,[]),(5,[]),(7,[]),(1,[]),(3,[]),(4,[]),(6,[]),(8,[]),(9,[]),(10,[]),(11,[])] Ds kr ?_)));refine Cf 10 (by simp [l,d,j]<;>rfl) ?_;refine Bu (fun hg=>g) func26 rfl kr rfl rfl sr rfl rfl sr (by simp) sr ?_;refine C6 [2,3,5,77] [2,3] sr ?_;refine A7 rfl (fun h3=>by simp at h3) (fun h3=>Ae (A3 [2,3,5] [2,3] (by simp [Dg]<;>rfl) ?_));exact⟨d,trivial,_,AS.le_refl _⟩
 ·refine Bb ?_;refine Ab (Aa [2,3,6] [2,3] sr (Ar (Br (fun k nx=>⟨[(2,V.bp 2 0 12 0 0),(3,V.bp 3 1 12 0 0),(6,V.int .i64 k)],[(2,⟨0,12,58,[V.agg [.int .i64 s.st,.int .i64 s.us,.int .i64 s.la,.int .i64 s.sh,.ro 1 o,.ro 2 ts,.int .i64 s.t.pend,.ro 1 u,.int .u64 s.t.draw,.int .i64 s.t.stop,.ro 5 f,.ro 4 e]]⟩),(3,⟨1,12,58,[V.agg [.int .i64 s.st,.int .i64 s.us,.int .i64 s.la,.int .i64 s.sh,.ro 1 o,.ro 2 ts,.int .i64 s.t.pend,.ro 1 u,.int .u64 s.t.draw,.int .i64 s.t.stop,.ro 5 f,.ro 4 e]]⟩)],nx,96⟩) (fun k=>True) s.inc.length _ trivial (AS.le_refl _) ?_)));intro k nx z hI;refine Ab (Aa [2,3,6,82] [2,3] sr ?_)
  refine Ao (fun h4=>Ae ?_) fun h4=>?_
  ·have d:k<s.inc.length:=by simp at h4;omega
   have n:k<e.length:=om;have l:=qi k d;have Dg:=A6 (k:=k) om;unfold In4.v at l;generalize s.inc[k]=a at*;refine Ab (Ar (Dq [(0,[]),(2,[]),(5,[]),(7,[]),(1,[]),(3,[]),(4,[]),(6,[]),(8,[]),(9,[]),(10,[])] [2,3,6,95] [2,3] Ds kr (by simp [l,d,i]<;>rfl) ?_));refine A7 rfl (fun h5=>by simp at h5) (fun h5=>Ae (A3 [2,3,6] [2,3] (by simp [Dg]<;>rfl) ?_));exact⟨d,trivial,_,AS.le_refl _⟩
  ·refine Bb ?_;exact Aa [4] [] sr (Aj (Ac sr rf))
def itA(d:Dl)(a:An):It:=Ki (Hz d.items a.item)
def Sw(d:Dl):List An->List (Int × Int)
 | []=>[]
 |a::l=>(if(itA d a).kind=6 then []else [(a.item,(J6 (itA d a) a).1)])++Sw d l
theorem Aey(d:Dl):∀(a b:List An),Sw d (a++b)=Sw d a++Sw d b
 | [],b=>rfl
 |x::a,b=>by rw [Ch,Sw,Sw,Aey d a b,C3]
set_option linter.unusedSimpArgs false
theorem Akj{l:List In4}(h:∀i∈l,O3 i=0)(c:l.length<=301):∀k,k<=l.length->0<=Mn l k/\Mn l k<=86400*k
 |0,_ =>by simp [Mn]
 |k+1,hk=>by
  obtain⟨h1,h2⟩:=Akj h c k om;have a:O3 (l.getD k ⟨0,0,0,0⟩)=0:=by rw [Cp Go.om];exact h _ (Az _)
  have hb:0<=(l.getD k ⟨0,0,0,0⟩).lo/\(l.getD k ⟨0,0,0,0⟩).lo<=86400:=by
   unfold O3 at a
   (repeat' split at a)<;>first|(exact absurd a dc)|omega
  unfold Mn
  split
  ·rw [Bh om Go.om];omega
  ·omega
theorem Aoj{l:List In4}(x:In4):∀k,k<=l.length->Mn (l++[x]) k=Mn l k
 |0,_ =>rfl
 |k+1,hk=>by
  have e:(l++[x]).getD k ⟨0,0,0,0⟩=l.getD k ⟨0,0,0,0⟩:=by
   simp only [Df];rw [Bn Go.om]
  unfold Mn;rw [e,Aoj x k Go.om]
theorem A6w{l:List In4}{x:In4}(h:∀i∈l++[x],O3 i=0)(c:(l++[x]).length<=301):Mn l l.length<=Mn (l++[x]) (l++[x]).length:=by
 have h1:=Akj h c l.length sm;have e:(l++[x]).length=l.length+1:=sm;rw [e,<- Aoj x l.length (A9 _)];have a:O3 ((l++[x]).getD l.length ⟨0,0,0,0⟩)=0:=by rw [Cp (by simp)];exact h _ (Az _)
 have hb:0<=((l++[x]).getD l.length ⟨0,0,0,0⟩).lo/\((l++[x]).getD l.length ⟨0,0,0,0⟩).lo<=86400:=by
  unfold O3 at a
  (repeat' split at a)<;>first|(exact absurd a dc)|omega
 have d:l.length<=300:=by rw [e]at c;omega
 show _ <=(if _ then _ else _)
 split
 ·rw [Bh om Go.om];omega
 ·omega
theorem Ab2{l:List In4}(h:∀i∈l,O3 i=0)(hl:l.length<=300):Aba l=0:=by
 unfold Aba;rw [if_neg Go.om];exact Ado h
structure TimeI(d:Dl)(s:Se):Prop where
 us:0<=s.us/\s.us<=Ig d s
 la:0<=s.la/\s.la<=1099511627776
 ic:∀i∈s.inc,O3 i=0
 il:s.inc.length<=300
structure DlT(d:Dl):Prop where
 sec:1<=d.sec/\d.sec<=9999999
 lim:Aj7 d.sec d.nu d.de d.ex=0
theorem Y0{d:Dl}(h:I8 d=0):DlT d:=by
 unfold I8 at h
 (repeat' split at h)<;>try omega
 rename_i h1 _ _ _ _ _ _ h8
 have hs:1<=d.sec/\d.sec<=9999999:=by
  have:Jv d.sec 1 9999999=true:=by
   cases e:Jv d.sec 1 9999999
   ·exact absurd (.inr (.inr e)) h1
   ·rfl
  unfold Jv at this;simp at this;exact this
 refine⟨hs,?_⟩;unfold Aj7;rw [if_neg Go.om]
theorem A6x(l:List In4)(m:Int)(hm:0<=m)(h:∀i∈l,O3 i=0)(a:l.length<=300):0<=Rl l m/\Rl l m<=m:=by
 unfold Rl;rw [if_neg (by simp [Ab2 h a])];have:=Akj h om l.length (A9 _);have e:N9 m=m:=by unfold N9;rw [if_neg Go.om]
 rw [e];split<;>omega
theorem Wv{d:Dl}{s:Se}(a:DlT d)(h:∀i∈s.inc,O3 i=0)(f:s.inc.length<=300):
  Ig d s=Aj8 d.sec d.nu d.de d.ex+Rl s.inc d.sec/\0<=Ig d s/\Ig d s<=5000000000:=by
 obtain⟨b1,b2,b3,b4,b5,b6,b7⟩:=A1w a.lim;obtain⟨b8,b9⟩:=a.sec;obtain⟨c1,c2⟩:=A6x s.inc d.sec om h f;have c:Aj8 d.sec d.nu d.de d.ex=(d.sec*d.nu+d.de-1)/d.de+d.ex:=by unfold Aj8;rw [if_neg (by simp [a.lim])]
 have e:Ig d s=Aj8 d.sec d.nu d.de d.ex+Rl s.inc d.sec:=by
  unfold Ig;rw [c];exact Bh om om
 refine⟨e,?_,?_⟩<;>rw [e,c]<;>omega
theorem Awr{l:List In4}{x:In4}{m:Int}(hm:0<=m)(h:∀i∈l++[x],O3 i=0)(f:(l++[x]).length<=300):Rl l m<=Rl (l++[x]) m:=by
 have j:∀i∈l,O3 i=0:=fun i g=>h i (I2 _ g)
 have d:l.length<=300:=by simp at f;omega
 have hu:=A6w h om;unfold Rl;rw [if_neg (c:=Aba l≠0) (by simp [Ab2 j d]),if_neg (c:=Aba (l++[x])≠0) (by simp [Ab2 h f])];have e:N9 m=m:=by unfold N9;rw [if_neg Go.om]
 rw [e];generalize Mn l l.length=a,Mn (l++[x]) (l++[x]).length=b at*
 split
 ·split<;>omega
 ·split<;>omega
theorem A2p{d:Dl}{s:Se}{n:Int}(h:TimeI d s)(c:DlT d)(a:Kx s n=true):s.us<=H9 s n/\H9 s n<=2000000000000:=by
 obtain⟨h1,h2⟩:=h.us;obtain⟨h3,h4⟩:=h.la;have h5:=(Wv c h.ic h.il).2.2;unfold Kx at a;simp at a;unfold H9
 split
 ·rw [Bh (x:=s.us+n) om om,Bh om Go.om];omega
 ·omega
theorem A9j{d:Dl}{s:Se}{n:Int}(h:TimeI d s)(a:DlT d)(c:Kx s n=true):s.us<=L0 (H9 s n) (Ig d s)/\L0 (H9 s n) (Ig d s)<=Ig d s:=by
 have h1:=A2p h a c;have h2:=h.us;unfold L0;split<;>omega
theorem A2q{d:Dl}{t:Te}{s:Se}{e:Ev}(l:DlT d)(h:TimeI d s)(hp:Hl d t s e=0):TimeI d (I9 d t s e)/\s.us<=(I9 d t s e).us:=by
 have n:Kx s e.time=true/\swE d t s e=0:=by
  unfold Hl at hp
  (repeat' split at hp)<;>try omega
  rename_i h2;exact⟨by cases e1:Kx s e.time<;>simp_all,hp⟩
 obtain⟨r,f⟩:=n;have u:0<=e.time/\e.time<=1099511627776:=by unfold Kx at r;simp at r;omega
 have a:∀s':Se,(s.us<=s'.us/\s'.us<=Ig d s')->(∀i∈s'.inc,O3 i=0)->s'.inc.length<=300->TimeI d { s' with la:=e.time}/\s.us<=s'.us:=fun s' h1 h2 o=>
  ⟨⟨⟨by have:=h.us;show 0<=s'.us;omega,h1.2⟩,u,h2,o⟩,h1.1⟩
 have x:=A9j h l r;have hu:=A2p h l r;have g:=h.us;unfold I9;unfold swE at f;unfold swS
 split at f
 ·rename_i h1;rw [if_pos h1];exact a _ ⟨Kz _,g.2⟩ h.ic h.il
 rename_i h1;rw [if_neg h1]
 split at f
 ·rename_i h2;rw [if_pos h2]
  have aa:¬Ig d s<H9 s e.time:=by
   unfold Px at f
   (repeat' split at f)<;>first|omega|assumption
  exact a _ ⟨hu.1,by show H9 s e.time<=Ig d s;omega⟩ h.ic h.il
 rename_i h2;rw [if_neg h2]
 split at f
 ·rename_i o;rw [if_pos o];exact a _ x h.ic h.il
 rename_i o;rw [if_neg o]
 split at f
 ·rename_i w;rw [if_pos w];exact a _ ⟨Kz _,g.2⟩ h.ic h.il
 rename_i w;rw [if_neg w]
 split at f
 ·rename_i y;rw [if_pos y]
  have hi:O3 e.inc=0/\s.inc.length<300:=by
   unfold An5 at f
   (repeat' split at f)<;>try omega
  have k:∀i∈s.inc++[e.inc],O3 i=0:=fun i c=>by
   rcases Cc.1 c with c|c
   ·exact h.ic i c
   ·rw [Bz.1 c];exact hi.1
  have j:(s.inc++[e.inc]).length<=300:=by simp;omega
  refine a _ ⟨x.1,?_⟩ k j;show L0 (H9 s e.time) (Ig d s)<=Ig d (R7 d s e)
  have e1:=(Wv l h.ic h.il).1;have e2:=(Wv (s:=R7 d s e) l k j).1;have e3:=Awr (m:=d.sec) (by have:=l.sec;omega) k j;have e4:(R7 d s e).inc=s.inc++[e.inc]:=rfl;rw [e4]at e2;omega
 rename_i y;rw [if_neg y]
 split at f
 ·rename_i z;rw [if_pos z];exact a _ x h.ic h.il
 rename_i z;rw [if_neg z];exact a _ ⟨Kz _,g.2⟩ h.ic h.il
theorem A2r{d:Dl}(c:DlT d):TimeI d se0:=by
 have h:=(Wv (s:=se0) c (fun i a=>by cases a) dc).2.1;exact⟨⟨Kz _,h⟩,⟨Kz _,by decide⟩,(fun i a=>by cases a),by decide⟩
structure TimeL(d:Dl)(s n:Se):Prop where
 e1:Aj7 d.sec d.nu d.de d.ex=0
 e2:Aba n.inc=0
 e3:Baq d n n.la=0
 u1:s.us<=n.us
 lm:IntKind.i64.wrap (Aj8 d.sec d.nu d.de d.ex+Rl n.inc d.sec)=Ig d n
 u2:n.us<=Ig d n
 l3:n.st=3->A6g d n n.la=0
 l4:n.st≠3->A6g d n n.la=IntKind.i64.wrap (Ig d n-n.us)
theorem Baw{d:Dl}{s n:Se}(f:I8 d=0)(a:TimeI d n)(j:s.us<=n.us):TimeL d s n:=by
 have i:=Y0 f;obtain⟨l1,l2,l3⟩:=Wv i a.ic a.il;obtain⟨u1,l⟩:=a.us;obtain⟨a1,a2⟩:=a.la;have h:Kx n n.la=true:=by unfold Kx;simp;omega
 have c:H9 n n.la=n.us:=by
  unfold H9;split
  ·rw [Bh (x:=n.us+n.la) om om,Bh om Go.om];omega
  ·rfl
 have g:A6g d n n.la=if n.st=3 then 0 else A5v (Ig d n) n.us:=by
  unfold A6g;rw [if_neg (by simp [f,h]),c]
 have o:A5v (Ig d n) n.us=IntKind.i64.wrap (Ig d n-n.us):=by
  unfold A5v;have k:N9 (Ig d n)=Ig d n:=by unfold N9;rw [if_neg Go.om]
  have m:N9 n.us=n.us:=by unfold N9;rw [if_neg Go.om]
  rw [k,m,Bh om Go.om];unfold N9;rw [if_neg Go.om]
 refine⟨i.lim,Ab2 a.ic a.il,?_,j,rfl,l,fun e=>by rw [g,if_pos e],fun e=>by rw [g,if_neg e,o]⟩;unfold Baq;rw [if_neg (by simp [f]),if_neg (by simp [h])]
theorem Aok(pool:List Pit)(a:List Int):∀k,k<=pool.length->∀id,Qt (Z4 pool a k) id=true->id∈Ly pool
 |0,_,id,h=>by simp [Z4,Qt]at h
 |k+1,hk,id,h=>by
  have ih:=Aok pool a k om id;rw [Z4]at h
  split at h
  ·exact ih h
  ·unfold Qt at h ih;rw [Qy,Hc]at h
   rcases h with h|h
   ·have e:(pool.getD k default).id=id:=by simpa using h
    rw [<- e,Cp Go.om];exact Ls (Az _)
   ·exact ih h
theorem A6y{pool:List Pit}{a c giv:List Int}(h:Aqs pool a c giv=0){x:Int}(d:x∈Avv pool a c giv):x∈Ly pool/\x∉giv:=by
 unfold Avv at d;rw [(Pu _ _).mem_iff,J8]at d;refine⟨?_,by simpa using d.2⟩;unfold Aqs at h
 split at h
 ·omega
 ·rename_i f;refine Aok pool a pool.length (A9 _) x ?_
  cases e:Qt (Ajx pool a) x
  ·exact absurd (.inl (Dz.2 ⟨x,d.1,by simp [e]⟩)) f
  ·exact e
theorem A6z{p:Po}{pool:List Pit}{t:Te}(h:Vh p pool t=0){x:Int}(a:x∈Qu p pool t):x∈Ly pool/\x∉Hn t.steps:=by
 have h1:Aqs (H5 pool t) (Gn p.g t.w (H5 pool t)) (Af0 p.len p.rules (H5 pool t) p.en (Hn t.steps) (Gn p.g t.w (H5 pool t))) (Hn t.steps)=0:=by
  unfold Vh at h;split at h
  ·omega
  ·exact h
 obtain⟨h2,c⟩:=A6y h1 a;refine⟨?_,c⟩;unfold Ly at h2|-;rw [Bm]at h2|-;obtain⟨q,d,e⟩:=h2;exact⟨q,(Ahe pool t.elig).subset d,e⟩
theorem Aol{p:Po}{pool:List Pit}{t:Te}(hp:t.pend=0)(h:Af3 p pool t=0):
  (T7 p pool t).pend∈Ly pool/\(T7 p pool t).pend∉Hn t.steps/\(T7 p pool t).steps=t.steps/\(T7 p pool t).stop=t.stop:=by
 unfold Af3 at h;rw [if_neg (c:=t.pend≠0) (by simp [hp])]at h
 have h1:Vh p pool t=0/\Anm p (Qu p pool t).length≠0:=by
  (repeat' split at h)<;>first|omega|exact⟨by omega,by omega⟩
 obtain⟨h2,h3⟩:=h1;have hl:=Ag7 t.draw (n:=Anm p (Qu p pool t).length) om;have hm:Anm p (Qu p pool t).length<=(Qu p pool t).length:=N5 _ _
 have a:(Qu p pool t).getD (Ol t.draw (Anm p (Qu p pool t).length)) 0∈Qu p pool t:=by
  rw [Cp Go.om];exact Az _
 obtain⟨d,e⟩:=A6z h2 a;unfold T7;rw [if_neg (by simp [hp])];exact⟨d,e,rfl,rfl⟩
structure DlI(d:Dl):Prop where
 pool:∀id∈Ly d.pool,(Hz d.items id).isSome=true/\(Ki (Hz d.items id)).kind≠6
 ess:∀id∈d.ess,(Hz d.items id).isSome=true/\(Ki (Hz d.items id)).kind=6
theorem Aws{d:Dl}(h:I8 d=0):DlI d:=by
 unfold I8 at h
 (repeat' split at h)<;>try omega
 rename_i h5 h6 h7 _;have j:Kt (Anx d.items) d.pool=0:=om;have g:Kt (Anz d) (List.range d.ess.length)=0:=om
 refine⟨fun id c=>?_,fun id c=>?_⟩
 ·unfold Ly at c;rw [Bm]at c;obtain⟨q,m,e⟩:=c;have f:=Nu j q m;subst e;unfold Anx at f
  (repeat' split at f)<;>try omega
  rename_i n k;exact⟨by cases e2:(Hz d.items q.id).isSome<;>simp_all,fun a=>k (.inl a)⟩
 ·obtain⟨i,l,e⟩:=Hu.1 c;have f:=Nu g i (by simp [l]);unfold Anz at f;rw [show d.ess.getD i 0=id from by rw [Cp l];exact e]at f
  (repeat' split at f)<;>try omega
  rename_i n k c3;exact⟨by cases e2:(Hz d.items id).isSome<;>simp_all,by omega⟩
def ShI(d:Dl)(s:Se):Prop:=
 (s.t.stop=0/\s.sh=s.t.pend/\s.sh∈Ly d.pool/\s.sh∉Hn s.t.steps)\/(s.t.stop≠0/\s.t.pend=0/\(s.sh=0\/(s.sh∈d.ess/\∀a∈s.ans,a.item≠s.sh)))
structure FaI(d:Dl)(s:Se):Prop where
 nd:(s.ans.map An.item).Nodup
 nz:∀a∈s.ans,a.item≠0
 fd:∀a∈s.ans,(Hz d.items a.item).isSome=true
 ok:∀a∈s.ans,(itA d a).kind≠6->(J6 (itA d a) a).2=0
 st:s.t.steps=Sw d s.ans
 run:s.st=1\/s.st=2->ShI d s
 off:¬(s.st=1\/s.st=2)->s.sh=0
 new:s.st=0->s.ans= []
theorem Atj{d:Dl}:∀ {l:List An}{a:An},a∈l->(itA d a).kind≠6->a.item∈Hn (Sw d l)
 |x::l,a,h,c=>by
  unfold Hn;rw [Sw,Cr,Cc]
  rcases Cj.1 h with h|h
  ·subst h;exact .inl (by rw [if_neg c];simp)
  ·exact .inr (Atj h c)
theorem FaI.sh{d:Dl}{s:Se}(h:FaI d s)(j:DlI d):∀a∈s.ans,a.item≠s.sh:=by
 intro a f e
 by_cases g:s.st=1\/s.st=2
 ·rcases h.run g with⟨_,_,h2,i⟩|⟨_,_,h2|h2⟩
  ·by_cases c:(itA d a).kind=6
   ·have:=(j.pool _ h2).2;unfold itA at c;rw [e]at c;exact this c
   ·refine i ?_;rw [h.st,<- e];exact Atj f c
  ·exact h.nz a f (e.trans h2)
  ·exact h2.2 a f e
 ·exact h.nz a f (e.trans (h.off g))
theorem Atk{c:List Int}{d:List An}:(Abc c d).getD 0=0\/((Abc c d).getD 0∈c/\∀a∈d,a.item≠(Abc c d).getD 0):=by
 cases e:Abc c d with
 |none=>exact .inl rfl
 |some x=>
  right
  unfold Abc at e;refine⟨List.mem_of_find?_eq_some e,fun a g f=>?_⟩;have:=List.find?_some e;simp only [Aes,I3,En]at this f;rw [Na]at this;exact this a g (by simpa using f)
theorem FaI.la{d:Dl}{s:Se}(h:FaI d s)(n u:Int):FaI d { s with la:=n,us:=u}:=⟨h.nd,h.nz,h.fd,h.ok,h.st,h.run,h.off,h.new⟩
theorem A60(d:Dl):FaI d se0:=⟨List.nodup_nil,(fun a h=>by cases h),(fun a h=>by cases h),(fun a h=>by cases h),rfl,(fun h=>by rcases h with h|h<;>exact absurd (show(0:Int)=_ from h) dc),fun _ =>rfl,fun _ =>rfl⟩
theorem A61{d:Dl}{s:Se}{e:Ev}(hd:DlI d)(h:FaI d s)(hz:Px d s e=0):FaI d (Qw d s e)/\e.an.item=s.sh:=by
 have h0:s.st=1/\s.sh≠0/\e.an.item=s.sh/\(s.t.pend=s.sh->Abd d s (On d s) e.an=0):=by
  unfold Px at hz
  (repeat' split at hz)<;>first|omega|(refine⟨by omega,by omega,by omega,fun _ =>hz⟩)|(refine⟨by omega,by omega,by omega,fun a=>?_⟩;contradiction)
 obtain⟨h1,h2,w,h4⟩:=h0;have aa:=h.run (.inl h1);have ah:=h.sh hd
 have ai:(Hz d.items s.sh).isSome=true:=by
  rcases aa with⟨_,_,a,_⟩|⟨_,_,a|a⟩
  ·exact(hd.pool _ a).1
  ·exact absurd a h2
  ·exact(hd.ess _ a.1).1
 have r:itA d e.an=On d s:=by unfold itA On;rw [w]
 have m:∀a,a∈s.ans++[e.an]->a∈s.ans\/a=e.an:=fun a f=>by
  rcases Cc.1 f with f|f
  ·exact .inl f
  ·exact .inr (Bz.1 f)
 have ad:((s.ans++[e.an]).map An.item).Nodup:=by
  rw [Cr,Kl];refine⟨h.nd,by simp,fun x hx y hy=>?_⟩;obtain⟨a,f,rfl⟩:=Bm.1 hx;simp at hy;rw [hy,w];exact ah a f
 have ag:∀a∈s.ans++[e.an],a.item≠0:=fun a f=>by
  rcases m a f with f|f
  ·exact h.nz a f
  ·rw [f,w];exact h2
 have n:∀a∈s.ans++[e.an],(Hz d.items a.item).isSome=true:=fun a f=>by
  rcases m a f with f|f
  ·exact h.fd a f
  ·rw [f,w];exact ai
 refine⟨?_,w⟩;by_cases hp:s.t.pend=s.sh
 ·
  have hr:=h4 hp
  have aj:s.t.stop=0:=by
   rcases aa with⟨a,_⟩|⟨_,a,_⟩
   ·exact a
   ·exact absurd (hp.symm.trans a) h2
  unfold Abd at hr
  have l:(J6 (On d s) e.an).2=0/\Af4 d.p d.pool s.t (J6 (On d s) e.an).1=0:=by
   (repeat' split at hr)<;>first|omega|exact⟨by omega,by omega⟩
  have ae:(Qv d.p d.pool s.t (J6 (On d s) e.an).1).steps=Sw d (s.ans++[e.an]):=by
   have z:(itA d e.an).kind≠6:=by
    rw [r];intro z;have:=l.1;unfold J6 at this
    (repeat' split at this)<;>simp_all
   rw [Aey,Sw,if_neg z,r,w];show s.t.steps++[(s.t.pend,_)]=_
   rw [h.st,hp];simp [Sw]
  have o:Lo d s e=Sv d s (J6 (On d s) e.an).1:=by unfold Lo;rw [if_pos hp]
  have u:∀a∈s.ans++[e.an],(itA d a).kind≠6->(J6 (itA d a) a).2=0:=fun a f z=>by
   rcases m a f with f|f
   ·exact h.ok a f z
   ·rw [f,r];exact l.1
  have af:(Lo d s e).steps=Sw d (s.ans++[e.an])/\ShI d (Qw d s e):=by
   rw [o];unfold Sv
   by_cases hs:(Qv d.p d.pool s.t (J6 (On d s) e.an).1).stop=0
   ·rw [if_pos hs]
    have hn:Af3 d.p d.pool (Qv d.p d.pool s.t (J6 (On d s) e.an).1)=0:=by
     rw [if_neg (by simp [l.1]),if_neg (by simp [l.2]),if_pos hs]at hr;exact hr
    obtain⟨n1,n2,n3,n4⟩:=Aol (t:=Qv d.p d.pool s.t (J6 (On d s) e.an).1) rfl hn;have j:Lo d s e=T7 d.p d.pool (Qv d.p d.pool s.t (J6 (On d s) e.an).1):=by rw [o];unfold Sv;rw [if_pos hs]
    have i:(Lo d s e).stop=0:=by rw [j,n4];exact hs
    have g:(Qw d s e).sh=(Lo d s e).pend:=by
     show Vl d s e=_
     unfold Vl;rw [if_neg (by simp [i]),if_pos hp]
    refine⟨n3.trans ae,.inl ⟨i,g,?_,?_⟩⟩
    ·rw [g,j];exact n1
    ·rw [g];show _ ∉Hn (Lo d s e).steps
     rw [j,n3];exact n2
   ·rw [if_neg hs];have j:Lo d s e=Qv d.p d.pool s.t (J6 (On d s) e.an).1:=by rw [o];unfold Sv;rw [if_neg hs]
    have i:(Lo d s e).stop≠0:=by rw [j];exact hs
    have g:(Qw d s e).sh=(Abc d.ess (s.ans++[e.an])).getD 0:=by
     show Vl d s e=_
     unfold Vl;rw [if_pos i]
    refine⟨ae,.inr ⟨i,?_,?_⟩⟩
    ·show(Lo d s e).pend=0
     rw [j];rfl
    ·rw [g];exact Atk
  exact⟨ad,ag,n,u,af.1,fun _ =>af.2,fun a=>absurd (.inl h1) a,fun a=>absurd (h1.symm.trans a) dc⟩
 ·
  have k:s.t.stop≠0/\s.t.pend=0/\s.sh∈d.ess:=by
   rcases aa with⟨_,a,_⟩|⟨a,b,c|c⟩
   ·exact absurd a.symm hp
   ·exact absurd c h2
   ·exact⟨a,b,c.1⟩
  have z:(itA d e.an).kind=6:=by unfold itA;rw [w];exact(hd.ess _ k.2.2).2
  have o:Lo d s e=s.t:=by unfold Lo;rw [if_neg hp]
  have u:∀a∈s.ans++[e.an],(itA d a).kind≠6->(J6 (itA d a) a).2=0:=fun a f ab=>by
   rcases m a f with f|f
   ·exact h.ok a f ab
   ·rw [f]at ab;exact absurd z ab
  have g:(Qw d s e).sh=(Abc d.ess (s.ans++[e.an])).getD 0:=by
   show Vl d s e=_
   unfold Vl;rw [if_pos (by rw [o];exact k.1)]
  refine⟨ad,ag,n,u,?_,fun _ =>.inr ⟨?_,?_,?_⟩,fun a=>absurd (.inl h1) a,fun a=>absurd (h1.symm.trans a) dc⟩
  ·show(Lo d s e).steps=Sw d (s.ans++[e.an])
   rw [o,h.st,Aey,Sw,if_pos z];simp [Sw]
  ·show(Lo d s e).stop≠0
   rw [o];exact k.1
  ·show(Lo d s e).pend=0
   rw [o];exact k.2.1
  ·rw [g];exact Atk
theorem A62{d:Dl}{s:Se}{e:Ev}(y:I8 d=0)(h:FaI d s)(hp:Hl d (Dp d) s e=0):
  FaI d (I9 d (Dp d) s e)/\(e.kind=2->e.an.item=s.sh/\(I9 d (Dp d) s e).ans.length=s.ans.length+1):=by
 have x:=Aws y
 have c:swE d (Dp d) s e=0:=by
  unfold Hl at hp
  (repeat' split at hp)<;>first|omega
 unfold swE at c;unfold I9 swS
 split at c
 ·rename_i h1;rw [if_pos h1];refine⟨?_,fun a=>absurd (h1.symm.trans a) dc⟩
  have n:s.st=0/\Af3 d.p d.pool (Dp d)=0:=by
   unfold An4 at c;split at c
   ·omega
   ·exact⟨by omega,c⟩
  have u:=h.new n.1;obtain⟨n1,z,m,w⟩:=Aol (t:=Dp d) rfl n.2
  have k:FaI d (Vk d (Dp d) s):=by
   refine⟨h.nd,h.nz,h.fd,h.ok,?_,fun _ =>.inl ⟨w,rfl,n1,by show _ ∉Hn (T7 d.p d.pool (Dp d)).steps;rw [m];exact z⟩,fun a=>absurd (.inl rfl) a,fun a=>absurd (show(1:Int)=0 from a) dc⟩;show(T7 d.p d.pool (Dp d)).steps=Sw d s.ans
   rw [m,u];rfl
  exact k.la _ _
 rename_i h1;rw [if_neg h1]
 split at c
 ·rename_i h2;rw [if_pos h2];obtain⟨r,o⟩:=A61 x h c;exact⟨r.la _ _,fun _ =>⟨o,by show(s.ans++[e.an]).length=_;simp⟩⟩
 rename_i h2;rw [if_neg h2];have f:∀ {P:Prop},e.kind=2->P:=fun a=>absurd a h2
 split at c
 ·rename_i g;rw [if_pos g];have hs:s.st=1:=by unfold Af6 at c;split at c<;>omega
  exact⟨⟨h.nd,h.nz,h.fd,h.ok,h.st,fun _ =>h.run (.inl hs),fun a=>absurd (.inr rfl) a,fun a=>absurd (show(2:Int)=0 from a) dc⟩,f⟩
 rename_i g;rw [if_neg g]
 split at c
 ·rename_i i;rw [if_pos i];have hs:s.st=2:=by split at c<;>omega
  exact⟨⟨h.nd,h.nz,h.fd,h.ok,h.st,fun _ =>h.run (.inr hs),fun a=>absurd (.inl rfl) a,fun a=>absurd (show(1:Int)=0 from a) dc⟩,f⟩
 rename_i i;rw [if_neg i]
 split at c
 ·rename_i l;rw [if_pos l];exact⟨⟨h.nd,h.nz,h.fd,h.ok,h.st,h.run,h.off,h.new⟩,f⟩
 rename_i l;rw [if_neg l]
 split at c
 ·rename_i j;rw [if_pos j];refine⟨⟨h.nd,h.nz,h.fd,h.ok,?_,fun a=>by rcases a with a|a<;>exact absurd (show(3:Int)=_ from a) dc,fun _ =>rfl,fun a=>absurd (show(3:Int)=0 from a) dc⟩,f⟩;show(P5 s.t).steps=Sw d s.ans
  unfold P5;split<;>exact h.st
 rename_i j;rw [if_neg j];exact⟨h.la _ _,f⟩
theorem Ub{d:Dl}{t:Te}{K:List Ev}(r:List Ev):∀j,j<=K.length->Fl d t (K++r) j=Fl d t K j
 |0,_ =>rfl
 |j+1,h=>by
  have e:(K++r).getD j ev0=K.getD j ev0:=by simp only [Df];rw [Bn Go.om]
  rw [Fl,Fl,Ub r j om,e]
theorem Aid{d:Dl}{t:Te}{K:List Ev}{q:Nat}:∀j,j<=q->q<=K.length->Fl d t (K.take q) j=Fl d t K j:=fun j h1 h2=>by
 have:=Ub (d:=d) (t:=t) (K:=K.take q) (K.drop q) j (by rw [Cs];omega);rw [Gi]at this;exact this.symm
def Uc(d:Dl)(K:List Ev):Prop:=∀j(h:j<K.length),Hl d (Dp d) (Fl d (Dp d) K j) K[j]=0
theorem Pz{d:Dl}{t:Te}{K:List Ev}{j:Nat}(h:j<K.length):Fl d t K (j+1)=I9 d t (Fl d t K j) K[j]:=by
 rw [Fl,Cp h]
theorem Uc.take{d:Dl}{K:List Ev}(h:Uc d K){q:Nat}(a:q<=K.length):Uc d (K.take q):=fun j c=>by
 have e:j<q:=by rw [Cs]at c;omega
 rw [Aid j om a,List.getElem_take];exact h j om
theorem Atl {d : Dl} (h0 : I8 d = 0) : ∀ (n : Nat) (m : List Ev), m.length = n -> Fl d (Dp d) (L9 d m).2 (L9 d m).2.length = (L9 d m).1 /\ Uc d (L9 d m).2
  | 0, m, hm => by
    have := Aq.1 hm
    subst this
    exact ⟨rfl, fun j h => absurd h (by simp [L9])⟩
  | n + 1, m, hm => by
    have hn : n < m.length := by omega
    have e : L9 d m = Aq9 d (L9 d (m.take n)) m[n] := by
      have := Aac d hn
      rwa [Bg (show m.length <= n + 1 by omega)] at this
    obtain ⟨i1, i2⟩ := Atl h0 n (m.take n) (by rw [Cs]; omega)
    rw [e]
    unfold Aq9
    split
    · rename_i hz
      generalize L9 d (m.take n) = x at *
      have hp : Hl d (Dp d) x.1 m[n] = 0 := by unfold Vm at hz; rwa [if_neg (by simp [h0])] at hz
      have hl : (x.2 ++ [m[n]]).length = x.2.length + 1 := by simp
      have hlast : ((x.2 ++ [m[n]])[x.2.length]'(by simp)) = m[n] := by simp
      refine ⟨?_, fun j hj => ?_⟩
      · show Fl d (Dp d) (x.2 ++ [m[n]]) (x.2 ++ [m[n]]).length = Akd d x.1 m[n]
        rw [hl, Pz (by simp), Ub _ _ (A9 _), i1, hlast]; rfl
      · by_cases hj' : j < x.2.length
        · rw [Ub _ j Go.om, List.getElem_append_left hj']; exact i2 j hj'
        · have hje : j = x.2.length := by have : j < x.2.length + 1 := by simpa using hj
                                          omega
          subst hje
          rw [Ub _ _ (A9 _), i1, hlast]; exact hp
    · exact ⟨i1, i2⟩
theorem Aom{d:Dl}{K:List Ev}(h:Uc d K):∀n k,k+n=K.length->Aab d (Dp d) (Fl d (Dp d) K k) k (K.drop k)=(Fl d (Dp d) K K.length,K.length,0)
 |0,k,c=>by
  have:k=K.length:=om;subst this;rw [Cd];rfl
 |n+1,k,c=>by
  have a:k<K.length:=om;rw [Bt a,Aab,if_neg (by simp [h k a]),<- Pz a];exact Aom h n (k+1) om
theorem Aon{d:Dl}{K:List Ev}(a:I8 d=0)(h:Uc d K):Py d K=(Fl d (Dp d) K K.length,K.length,0):=by
 unfold Py;rw [if_neg (by simp [a])];exact Aom h K.length 0 om
theorem Awt{d:Dl}{K:List Ev}(c:I8 d=0)(h:Uc d K){q:Nat}(a:q<=K.length):Py d (K.take q)=(Fl d (Dp d) K q,q,0):=by
 have e:(K.take q).length=q:=by rw [Cs];omega
 have:=Aon c (h.take a);rw [e,Aid q (A9 _) a]at this;exact this
theorem Atm{d:Dl}{K:List Ev}(g:DlOk d)(a:I8 d=0)(h:Uc d K)(f:∀e∈K,e.an.small)(i:K.length<=700):∀j,j<=K.length->SeB j (Fl d (Dp d) K j)/\TimeI d (Fl d (Dp d) K j)/\FaI d (Fl d (Dp d) K j)
 |0,_ =>⟨SeB.new,A2r (Y0 a),A60 d⟩
 |j+1,hj=>by
  obtain⟨l,k,m⟩:=Atm g a h f i j om;obtain⟨h1,h2,_⟩:=Aeu a g;have c:=h j om;rw [Pz Go.om];exact⟨Aq8 h1 h2 (f _ (Az _)) c l om,(A2q (Y0 a) k c).1,(A62 a m c).1⟩
def sfE(p:Int)(e:Ev):Ev:={ e with time:=e.time+p}
def Sm(p:Int)(s:Se):Se:={ s with la:=s.la+p}
theorem Ab3{d:Dl}{t:Te}{s:Se}{e:Ev}(h:Hl d t s e=0):Kx s e.time=true/\swE d t s e=0/\¬(e.kind<1\/6<e.kind):=by
 unfold Hl at h
 (repeat' split at h)<;>try omega
 rename_i h1 h2;exact⟨by cases e1:Kx s e.time<;>simp_all,h,h1⟩
theorem A9k{s:Se}{n p:Int}(hu:0<=s.us/\s.us<=5000000000)(hl:0<=s.la/\s.la<=1099511627776)(hn:0<=n/\n<=1099511627776)(hp:0<=p/\p<=100000):H9 (Sm p s) (n+p)=H9 s n:=by
 unfold H9 Sm;show(if s.st=1 then IntKind.i64.wrap (IntKind.i64.wrap (s.us+(n+p))-(s.la+p))else s.us)=_
 split
 ·rw [Bh (x:=s.us+(n+p)) om om,Bh (x:=s.us+n) om om,Bh om om,Bh om Go.om];omega
 ·rfl
theorem A9l{d:Dl}{s:Se}{e:Ev}{p:Int}(hd:DlT d)(l:TimeI d s)(hp:0<=p/\p<=100000)(he:e.time<=1099511527776)(i:e.kind≠5)(h:Hl d (Dp d) s e=0):
  Hl d (Dp d) (Sm p s) (sfE p e)=0/\I9 d (Dp d) (Sm p s) (sfE p e)=Sm p (I9 d (Dp d) s e):=by
 obtain⟨z,hw,hk⟩:=Ab3 h;have m:=l.la;have r:=l.us;have aa:=(Wv hd l.ic l.il).2.2;have j:0<=e.time/\s.la<=e.time/\e.time<=1099511627776:=by unfold Kx at z;simp at z;omega
 have f:=A9k (s:=s) (n:=e.time) (p:=p) ⟨r.1,by omega⟩ m ⟨j.1,j.2.2⟩ hp
 have x:Kx (Sm p s) (sfE p e).time=true:=by
  unfold Kx Sm sfE;simp;omega
 have a:Ig d (Sm p s)=Ig d s:=rfl;have o:Lo d (Sm p s) (sfE p e)=Lo d s e:=rfl
 have y:swE d (Dp d) (Sm p s) (sfE p e)=swE d (Dp d) s e:=by
  have g:(sfE p e).kind=e.kind:=rfl;have k:(Sm p s).st=s.st:=rfl
  have ha:Px d (Sm p s) (sfE p e)=Px d s e:=by
   have h1:H9 (Sm p s) (sfE p e).time=H9 s e.time:=f;have h2:(sfE p e).an=e.an:=rfl;have h3:(Sm p s).sh=s.sh:=rfl;have h4:(Sm p s).t=s.t:=rfl;have i:On d (Sm p s)=On d s:=rfl;have h6:∀it,Abd d (Sm p s) it e.an=Abd d s it e.an:=fun it=>rfl
   unfold Px;rw [k,a,h1,h2,h3,h4,i,h6]
  have hr:An5 (Sm p s) (sfE p e)=An5 (Sm p s) (sfE p e):=rfl;unfold swE;rw [g,ha,k];have hb:An4 d (Dp d) (Sm p s)=An4 d (Dp d) s:=rfl;have u:Af6 (Sm p s)=Af6 s:=rfl;have hf:Aq2 (Sm p s)=Aq2 s:=rfl;rw [hb,u,hf,if_neg (c:=e.kind=5) i,if_neg (c:=e.kind=5) i]
 have w:swS d (Dp d) (Sm p s) (sfE p e)=Sm p (swS d (Dp d) s e):=by
  have g:(sfE p e).kind=e.kind:=rfl;have h1:H9 (Sm p s) (sfE p e).time=H9 s e.time:=f;unfold swS;rw [g,if_neg (c:=e.kind=5) i,if_neg (c:=e.kind=5) i]
  split
  ·rfl
  split
  ·have hH:Vl d (Sm p s) (sfE p e)=Vl d s e:=rfl;unfold Qw;rw [h1,o,hH];rfl
  split
  ·unfold Su;rw [h1,a];rfl
  split
  ·rfl
  split
  ·unfold T8;rw [h1,a];rfl
  ·rfl
 refine⟨?_,?_⟩
 ·unfold Hl;rw [if_neg (show¬((sfE p e).kind<1\/6<(sfE p e).kind)from hk),if_neg (by simp [x]),y];exact hw
 ·unfold I9;rw [w];rfl
def Sn(n:Int):Ev:=⟨3,n,⟨0,[],0,[],false⟩,⟨0,0,0,0⟩⟩
def Aa4(n:Int):Ev:=⟨4,n,⟨0,[],0,[],false⟩,⟨0,0,0,0⟩⟩
theorem A63{d:Dl}{t:Te}{s:Se}{p:Int}(l:DlT d)(e:TimeI d s)(hp:0<=p/\p<=100000)(hl:s.la<=1099511527776)(h1:s.st=1):
  Hl d t s (Sn s.la)=0/\Hl d t (I9 d t s (Sn s.la)) (Aa4 (s.la+p))=0/\I9 d t (I9 d t s (Sn s.la)) (Aa4 (s.la+p))=Sm p s:=by
 have g:=e.la;have j:=e.us;have m:=(Wv l e.ic e.il).2.2;have i:Kx s s.la=true:=by unfold Kx;simp;omega
 have h:H9 s s.la=s.us:=by
  unfold H9;rw [if_pos h1,Bh (x:=s.us+s.la) om om,Bh om Go.om];omega
 have k:L0 (H9 s s.la) (Ig d s)=s.us:=by rw [h];unfold L0;rw [if_neg Go.om]
 have a:I9 d t s (Sn s.la)= { s with st:=2}:=by
  show { s with st:=2,us:=L0 (H9 s s.la) (Ig d s),la:=s.la}=_
  rw [k]
 refine⟨?_,?_,?_⟩
 ·unfold Hl;rw [if_neg (c:=(Sn s.la).kind<1\/6<(Sn s.la).kind) (by show¬((3:Int)<1\/(6:Int)<3);decide),if_neg (c:=Kx s (Sn s.la).time=false) (by show¬Kx s s.la=false;simp [i])];show Af6 s=0
  unfold Af6;rw [if_neg (by simp [h1])]
 ·rw [a];unfold Hl;have f:Kx { s with st:=2} (s.la+p)=true:=by unfold Kx;simp;omega
  rw [if_neg (c:=(Aa4 (s.la+p)).kind<1\/6<(Aa4 (s.la+p)).kind) (by show¬((4:Int)<1\/(6:Int)<4);decide),if_neg (by show¬Kx { s with st:=2} (s.la+p)=false;simp [f])];rfl
 ·rw [a];show { s with st:=1,la:=s.la+p}=Sm p s
  unfold Sm;rw [h1]
def Vn(K:List Ev)(q:Nat)(la p:Int):List Ev:=K.take q++[Sn la,Aa4 (la+p)]++(K.drop q).map (sfE p)
theorem Akk {d : Dl} {K : List Ev} (h : Uc d K) : ∀ n j, j + n = K.length -> (Fl d (Dp d) K j).la <= (Fl d (Dp d) K K.length).la
  | 0, j, hj => by have : j = K.length := by omega
                   rw [this]; exact Kz _
  | n + 1, j, hj => by
    have ih := Akk h n (j + 1) Go.om
    have ht := (Ab3 (h j Go.om)).1
    rw [Pz Go.om] at ih
    have h2 : (Fl d (Dp d) K j).la <= K[j].time := by unfold Kx at ht; simp at ht; omega
    have h3 : (I9 d (Dp d) (Fl d (Dp d) K j) K[j]).la = K[j].time := rfl
    omega
theorem A2s{d:Dl}{K:List Ev}{q:Nat}{p:Int}(z:DlT d)(n:Uc d K)(hT:∀j,j<=K.length->TimeI d (Fl d (Dp d) K j))(s:q<=K.length)(hp:0<=p/\p<=100000)
  (hl:(Fl d (Dp d) K K.length).la<=1099511527776)(h1:(Fl d (Dp d) K q).st=1)(h5:∀e∈K,e.kind≠5):
  Uc d (Vn K q (Fl d (Dp d) K q).la p)/\Fl d (Dp d) (Vn K q (Fl d (Dp d) K q).la p) (Vn K q (Fl d (Dp d) K q).la p).length=Sm p (Fl d (Dp d) K K.length)/\(Vn K q (Fl d (Dp d) K q).la p).length=K.length+2:=by
 have f:=fun j(g:j<=K.length)=>Int.le_trans (Akk n (K.length-j) j om) hl
 obtain⟨a1,a2,a3⟩:=A63 (t:=Dp d) z (hT q s) hp (f q s) h1;generalize k:Vn K q (Fl d (Dp d) K q).la p=L;have m:L.length=K.length+2:=by rw [<- k];unfold Vn;simp;omega
 have u:∀j(g:j<q),L[j]? =K[j]? :=fun j g=>by
  rw [<- k];unfold Vn;rw [C3,Bn (by rw [Cs];omega),List.getElem?_take,if_pos g]
 have l:(K.take q).length=q:=by rw [Cs];omega
 have g2:L[q]? =some (Sn (Fl d (Dp d) K q).la):=by
  rw [<- k];unfold Vn;rw [C3,Be om,l];simp
 have g3:L[q+1]? =some (Aa4 ((Fl d (Dp d) K q).la+p)):=by
  rw [<- k];unfold Vn;rw [C3,Be om,l,show q+1-q=1 by omega];simp
 have g4:∀i(c:q+i<K.length),L[q+2+i]? =some (sfE p K[q+i]):=fun i c=>by
  rw [<- k];unfold Vn;rw [Be (by simp;omega)];have e:q+2+i-(List.take q K++[Sn (Fl d (Dp d) K q).la,Aa4 ((Fl d (Dp d) K q).la+p)]).length=i:=by simp;omega
  rw [e,Bc,Cy,Al c];rfl
 have r:∀j x,L[j]? =some x->L.getD j ev0=x:=fun j x h=>by rw [Df,h];rfl
 have o:∀j,j<=q->Fl d (Dp d) L j=Fl d (Dp d) K j:=by
  intro j
  induction j with
  |zero=>exact fun _ =>rfl
  |succ j ih=>
   intro g;rw [Fl,Fl,ih om,Df,Df,u j Go.om]
 have r2:Fl d (Dp d) L (q+1)=I9 d (Dp d) (Fl d (Dp d) K q) (Sn (Fl d (Dp d) K q).la):=by rw [Fl,o q (A9 _),r _ _ g2]
 have r3:Fl d (Dp d) L (q+2)=Sm p (Fl d (Dp d) K q):=by rw [Fl,r2,r _ _ g3,a3]
 have w:∀i(c:q+i<K.length),Hl d (Dp d) (Sm p (Fl d (Dp d) K (q+i))) (sfE p K[q+i])=0/\I9 d (Dp d) (Sm p (Fl d (Dp d) K (q+i))) (sfE p K[q+i])=Sm p (Fl d (Dp d) K (q+i+1)):=fun i c=>by
  have ht:=(Ab3 (n (q+i) c)).1;have y:=f (q+i+1) om;rw [Pz c]at y;have h:=A9l z (hT (q+i) om) hp (show K[q+i].time<=1099511527776 from y) (h5 _ (Az c)) (n (q+i) c);exact⟨h.1,by rw [h.2,Pz c]⟩
 have r4:∀i,q+i<=K.length->Fl d (Dp d) L (q+2+i)=Sm p (Fl d (Dp d) K (q+i)):=by
  intro i
  induction i with
  |zero=>exact fun _ =>r3
  |succ i ih=>
   intro c;rw [show q+2+(i+1)=(q+2+i)+1 by omega,Fl,ih om,r _ _ (g4 i om),(w i om).2];rfl
 refine⟨fun j g=>?_,?_,m⟩
 ·have a:L[j]? =some L[j]:=Al g
  by_cases c1:j<q
  ·have h:=u j c1;rw [a,Al Go.om]at h;injection h with h;rw [h,o j Go.om];exact n j om
  by_cases c2:j=q
  ·subst c2;rw [g2]at a;injection a with a;rw [<- a,o j (A9 _)];exact a1
  by_cases c3:j=q+1
  ·subst c3;rw [g3]at a;injection a with a;rw [<- a,r2];exact a2
  ·obtain⟨i,c⟩:∃i,j=q+2+i:=⟨j-q-2,by omega⟩;subst c;rw [g4 i Go.om]at a;injection a with a;rw [<- a,r4 i Go.om];exact(w i om).1
 ·have e:L.length=q+2+(K.length-q):=om;rw [e,r4 (K.length-q) om,show q+(K.length-q)=K.length by omega]
def Ma(e:Ev):Bool:= !decide (e.kind=5)
theorem Awu{l:List Ev}{k:Nat}(h:k<l.length):(l.take (k+1)).filter Ma=if l[k].kind=5 then(l.take k).filter Ma else(l.take k).filter Ma++[l[k]]:=by
 rw [A1 h,Md]
 split
 ·rename_i a;rw [Ju (by simp [Ma,a])];simp
 ·rename_i a;rw [Jt (by simp [Ma,a])];rfl
def Vo(a:List V)(q:Nat)(n p:Int)(r:List Ev):List V:=a.take q++[V.agg [.int .i64 3,.int .i64 n,.int .i64 0,.nils,.int .i64 0,.str [],.bool false,.int .i64 0,.int .i64 0,.int .i64 0,.int .i64 0],V.agg [.int .i64 4,.int .i64 (n+p),.int .i64 0,.nils,.int .i64 0,.str [],.bool false,.int .i64 0,.int .i64 0,.int .i64 0,.int .i64 0]]++He (r.map (sfE p))
theorem Bax(e:V):∀(j:Nat)c c',e.cells[j]? =some c->e.cells[j]? =some c'->Bi c c':=fun j c c' h1 h2=>by rw [h1]at h2;injection h2 with h2;rw [h2];exact Bi.refl _
theorem RelaxL.app{a c b b':List V}(h1:RelaxL a c)(h2:RelaxL b b'):RelaxL (a++b) (c++b'):=by
 induction h1 with
 |nil=>exact h2
 |cons h _ ih=>exact .cons h ih
theorem Aa5(k n:Int):Bi (V.agg [.int .i64 k,.int .i64 n,.int .i64 0,.nils,.int .i64 0,.str [],.bool false,.int .i64 0,.int .i64 0,.int .i64 0,.int .i64 0]) (Ev.v ⟨k,n,⟨0,[],0,[],false⟩,⟨0,0,0,0⟩⟩):=by
 have r:=fun x:V=>Bi.refl x
 exact Bi.agg (.cons (r _) (.cons (r _) (.cons (r _) (.cons (Bi.nils 1) (.cons (r _) (.cons (r _) (.cons (r _) (.cons (r _) (.cons (r _) (.cons (r _) (.cons (r _) .nil)))))))))))
theorem Arh(K:List Ev)(q:Nat)(n p:Int):Bi (.ro 11 (Vo (He K) q n p (K.drop q))) (.ro 11 (He (Vn K q n p))):=by
 have e:He (Vn K q n p)=(He K).take q++[Ev.v (Sn n),Ev.v (Aa4 (n+p))]++He ((K.drop q).map (sfE p)):=by
  unfold Vn He;rw [Cr,Cr,Ke];rfl
 rw [e];unfold Vo;refine Bi.ro (RelaxL.app (RelaxL.app (RelaxL.refl _) (.cons (Aa5 3 n) (.cons (Aa5 4 (n+p)) .nil))) (RelaxL.refl _)) fun k a b f d=>?_
 have g:∀(o:Int)m(c:Nat)x y,(V.agg [.int .i64 o,.int .i64 m,.int .i64 0,.nils,.int .i64 0,.str [],.bool false,.int .i64 0,.int .i64 0,.int .i64 0,.int .i64 0]).cells[c]? =some x->(Ev.v ⟨o,m,⟨0,[],0,[],false⟩,⟨0,0,0,0⟩⟩).cells[c]? =some y->Bi x y:=fun o m c x y i l=>by
  have s:c<11:=(Ap.1 i).1;have:c=0\/c=1\/c=2\/c=3\/c=4\/c=5\/c=6\/c=7\/c=8\/c=9\/c=10:=om;rcases this with rfl|rfl|rfl|rfl|rfl|rfl|rfl|rfl|rfl|rfl|rfl<;>(injection i with i;injection l with l;subst i;subst l;first|exact Bi.refl _ |exact Bi.nils 1)
 have hl:((He K).take q).length=min q K.length:=by rw [Cs,M6]
 generalize(He K).take q=A at*
 by_cases r:k<A.length
 ·rw [C3,Bn r]at f d;rw [f]at d;injection d with d;subst d;exact⟨rfl,fun j c c' h1 h2=>Bax a j c c' h1 h2⟩
 by_cases c2:k<A.length+2
 ·rw [C3,Be Go.om]at f d;have:k-A.length=0\/k-A.length=1:=om
  rcases this with h|h
  ·rw [h]at f d;simp only [Ch,Da,Au]at f d;subst f;subst d;exact⟨rfl,g 3 n⟩
  ·rw [h]at f d;simp only [Ch,Fy,Da,Au]at f d;subst f;subst d;exact⟨rfl,g 4 (n+p)⟩
 ·rw [Be (by simp;omega)]at f d;simp only [Bf,Ba,Bx]at f d;rw [f]at d;injection d with d;subst d;exact⟨rfl,fun j c c' h1 h2=>Bax a j c c' h1 h2⟩
theorem Aez(hS:Jh)(hW:Hp gv prog 9 [] (fun r=>r=.bool true))(d:Dl)(l:List Ev)(a0 a1:Int)(hd:DlOk d)(hb:d.p.rules.length<=4000000/\d.pool.length<=4000000/\d.items.length<=4000000/\d.p.en.length<=4000000/\d.uses.length<=4000000)
  (hl:l.length<=4000000)(ha:∀e∈l,e.an.small):Hp gv prog 4 [d.v,.ro 11 (He l),.agg [.int .i64 a0,.int .i64 a1]] (fun r=>r=.bool true):=by
 have c7:=Aob d hb;have c8:=Aer hS d hd;have c9:=hW;have a7:∀e∈l.filter Ma,e.an.small:=fun e he=>ha e (J8.1 he).1
 have ae:∀e∈l.filter Ma,e.kind≠5:=fun e he=>by have:=(J8.1 he).2;simpa [Ma]using this
 have bl:(l.filter Ma).length<=4000000:=Ai (Ft _ _) hl;have af:=Akg hS d (l.filter Ma) hd bl a7;have i:=Jr l;have o:=M6 l;have ql:=fun(k:Nat)(h:k<l.length)=>Yx h
 have a9:=fun(k:Nat)(h:k<l.length)=>Awu h
 have b7:=fun k=>Ai (Ft Ma (l.take k)) (Ic k l)
 have cx:(l.take 0).filter Ma= []:=rfl;have au:(l.take l.length).filter Ma=l.filter Ma:=by rw [Bl]
 rw [<- au]at af;have bq:∀e∈(l.filter Ma).take 14,e.an.small:=fun e he=>a7 e (B8 he)
 have ce:∀e∈(l.filter Ma).take 14,e.kind≠5:=fun e he=>ae e (B8 he)
 have cy:((l.filter Ma).take 14).length<=14:=Ic 14 _;rw [au]at af;have bu:∀k,He ((l.take k).filter Ma)=He ((l.take k).filter Ma):=fun k=>rfl
 have lF:=fun k=>M6 ((l.take k).filter Ma)
 have pF:=fun k=>Jr ((l.take k).filter Ma)
 have cf:He ((l.take 0).filter Ma)= []:=rfl;have bx:∀k(h:k<l.length),l[k].kind=5->He ((l.take (k+1)).filter Ma)=He ((l.take k).filter Ma):=fun k h h5=>by rw [a9 k h,if_pos h5]
 have bo:∀k(h:k<l.length),¬l[k].kind=5->He ((l.take (k+1)).filter Ma)=He ((l.take k).filter Ma)++[l[k].v]:=fun k h h5=>by rw [a9 k h,if_neg h5];simp [He]
 have cn:He ((l.take l.length).filter Ma)=He (l.filter Ma):=by rw [au]
 rw [<- cn]at af;clear a9 au bu a7 ae bl;generalize(l.filter Ma).take 14=m at*;generalize br:(fun k=>He ((l.take k).filter Ma))=F;have cd:∀k,He ((l.take k).filter Ma)=F k:=fun k=>by rw [<- br]
 clear br;simp only [cd]at*;generalize He l=b6 at*;have ab:=fun h0=>Atl (d:=d) h0 m.length m rfl
 obtain⟨cj,bf,bc⟩:=Atg hd (l:=m) om bq;generalize L9 d m=x at*;obtain⟨s,K⟩:=x;simp only at ab cj bf bc af;have ar:∀e∈K,e.an.small:=fun e he=>bq e (bc e he)
 have bv:∀e∈K,e.kind≠5:=fun e he=>ce e (bc e he)
 have c0:K.length<=14:=om;have ao:=fun h0=>Atm hd h0 (ab h0).2 ar om
 have a6:=fun q=>Akf hS d (K.take q) hd (by rw [Cs];omega) (fun e he=>ar e (B8 he))
 have cc:=fun h0(q:Nat)(hq:q<=K.length)=>Awt h0 (ab h0).2 hq
 have ag:SeOk s:=bf.ok om
 have aa:∀(h0:I8 d=0)(q:Nat)(p:Int),q<=K.length->0<=p/\p<=100000->s.la<=1099511527776->(Fl d (Dp d) K q).st=1->
   Hp gv prog 15 [d.v,.ro 11 (Vo (He K) q (Fl d (Dp d) K q).la p (K.drop q))] (fun r=>r=.tup [(Sm p s).v,.int .i64 ((K.length:Int)+2),.int .i64 0]):=fun h0 q p hq hp ci h1=>by
  obtain⟨b1,b2⟩:=ab h0;obtain⟨e1,e2,e3⟩:=A2s (Y0 h0) b2 (fun j hj=>(ao h0 j hj).2.1) hq hp (by rw [b1];exact ci) h1 bv;rw [b1]at e2
  have b8:∀e∈Vn K q (Fl d (Dp d) K q).la p,e.an.small:=fun e he=>by
   unfold Vn at he
   rcases Cc.1 he with he|he
   ·rcases Cc.1 he with he|he
    ·exact ar e (B8 he)
    ·simp only [Cj,F9,or_false]at he;rcases he with rfl|rfl<;>exact⟨B4 _,B4 _⟩
   ·obtain⟨y,hy,rfl⟩:=Bm.1 he;have:=ar y (Cx hy);exact⟨this.ch,this.txt⟩
  have c:=Akf hS d (Vn K q (Fl d (Dp d) K q).la p) hd om b8;rw [Aon h0 e1,e2,e3]at c;unfold Awf at c;refine Hp.argsR (c.mono fun r hr=>?_) (.cons (Bi.refl _) (.cons (Arh K q _ p) .nil));rw [hr];simp
 have bn:=fun p=>Aoi (Sm p s) ⟨ag.t,ag.al,ag.ac,ag.il⟩
 have hR:=fun h0=>(ab h0).1
 obtain⟨q,aq,co,cl⟩:∃q:Nat,q<=K.length/\((a0<0\/(K.length:Int)<=a0)->IntKind.i64.wrap ((K.length:Int)/2)=(q:Int))/\(¬(a0<0\/(K.length:Int)<=a0)->a0=(q:Int)):=by
  by_cases h:a0<0\/(K.length:Int)<=a0
  ·refine⟨K.length/2,by omega,fun _ =>?_,fun a=>absurd h a⟩;rw [Bh om Go.om];omega
  ·exact⟨a0.toNat,by omega,fun a=>absurd a h,fun _ =>by omega⟩
 have lk:=M6 K;have pk:=Jr K;have qk:=fun(k:Nat)(h:k<K.length)=>Yx h
 have bh:∀q,He (K.take q)=(He K).take q:=fun q=>Ke
 have y1:=fun x:Se=>Ag x.t.elig
 have y2:=fun x:Se=>A5 x.t.steps
 have y3:=fun x:Se=>Bv x.t.w
 have y4:=fun x:Se=>Ew x.ans
 have y5:=fun x:Se=>Ec x.inc
 have y6:=fun x:Se=>F6 x.inc
 have y7:=fun x:Se=>Gy x.ans
 have y8:=fun x:Ev=>Ag x.an.ch
 have bj:∀x:Se,x.v=V.agg [.int .i64 x.st,.int .i64 x.us,.int .i64 x.la,.int .i64 x.sh,.ro 1 (As x.t.elig),.ro 2 (A2 x.t.steps),.int .i64 x.t.pend,.ro 1 (Bw x.t.w),.int .u64 x.t.draw,.int .i64 x.t.stop,.ro 5 (Fu x.ans),.ro 4 (Dt x.inc)]:=fun x=>rfl
 have b4:∀e:Ev,e.v=V.agg [.int .i64 e.kind,.int .i64 e.time,.int .i64 e.an.item,.ro 1 (As e.an.ch),.int .i64 e.an.val,.str e.an.txt,.bool e.an.om,.int .i64 e.inc.ki,.int .i64 e.inc.ti,.int .i64 e.inc.lo,.int .i64 e.inc.gr]:=fun e=>rfl
 have cz:=fun e=>Ake e
 simp only [bh]at a6;generalize cv:He K=kv at*;have bw:∀q,(kv.take q).all V.pureE=true:=fun q=>by rw [<- bh];exact Jr _
 have aw:d.v=V.agg [.int .i64 d.ses,.int .i64 d.cand,.int .i64 d.p.len,.ro 5 (Ey d.p.rules),.ro 1 (As d.p.g.pts),.ro 1 (As d.p.g.pri),.ro 2 (A2 d.p.en),.int .i64 d.p.mn,.bool d.p.var.num.neg,.ro 1 (Av d.p.var.num.mag),.ro 1 (Av d.p.var.den),.int .i64 d.p.cut,.bool d.p.lvl.num.neg,.ro 1 (Av d.p.lvl.num.mag),.ro 1 (Av d.p.lvl.den),.int .i64 d.p.top,.bool d.p.rate.num.neg,.ro 1 (Av d.p.rate.num.mag),.ro 1 (Av d.p.rate.den),.int .i64 d.p.slack,.ro 9 (Ce d.pool),.ro 17 (Ip d.items),.ro 1 (As d.ess),.ro 2 (A2 d.uses),.int .i64 d.served,.int .i64 d.sec,.int .i64 d.nu,.int .i64 d.de,.int .i64 d.ex,.int .u64 d.seed]:=rfl;rw [aw]at c7 c8 af;simp only [aw,bj,b4]at qk ql bo af bn aa;simp only [aw]at a6;rw [aw];have d0:=C2 d.p.rules;have d1:=Ag d.p.g.pts;have d2:=Ag d.p.g.pri;have d3:=A5 d.p.en;have d4:=Ak d.p.var.num.mag;have d5:=Ak d.p.var.den;have d6:=Ak d.p.lvl.num.mag;have d7:=Ak d.p.lvl.den;have d8:=Ak d.p.rate.num.mag;have d9:=Ak d.p.rate.den;have u:=Ca d.pool;have f:=Gh d.items;have n:=Ag d.ess;have z:=A5 d.uses;generalize Ey d.p.rules=rv,As d.p.g.pts=pt,As d.p.g.pri=pr,A2 d.p.en=ev,Av d.p.var.num.mag=vm,Av d.p.var.den=vd,Av d.p.lvl.num.mag=lm,Av d.p.lvl.den=ld,Av d.p.rate.num.mag=rm,Av d.p.rate.den=rd at*;have cq:=Dx d.pool;have cr:=Hj d.items;have cw:=A4 d.ess;generalize Ce d.pool=lv,Ip d.items=a8,As d.ess=bd,A2 d.uses=uv at*;refine By func4 fun w0 N0 hG=>?_;refine Aa [1,3,5] [3,5] (by simp [ntmps4]<;>rfl) ?_;refine Dq [(0,[]),(2,[]),(1,[]),(4,[]),(3,[]),(5,[])] [1,3,7,8] [3] Ds kr Go.sr ?_;refine Ab (Ab (Ad (Am 1 sr ?_)));refine Ah c7 func7 ?_;refine Af [1,3,7,8,28] [3] sr ?_
 refine Ao (fun h1=>?_) fun h1=>Ae ?_
 ·exact Aa [6] [] sr (Aj (Ac sr rf))
 refine Ab (Ab (Ad (Am 1 sr ?_)));refine Bq hG c8 func8 ?_;refine Af [1,3,7,8,31] [3] sr ?_
 refine Ao (fun h2=>?_) fun h2=>Ae ?_
 ·refine Ab (Ad (Bq hG c9 func9 ?_));refine Af [6] [] sr ?_;exact Aj (Ac sr (rfl))
 have h0:I8 d=0:=by simpa using h2
 refine Aa [1,3,7,8,9] [3] Go.sr (Ab (Aa [3,7,8,9,33,34,35] [3] (by simp [o]<;>rfl) ?_));refine Fp 9 100 11 66 [3,7,8,9,33,34,35] [3,100] Go.sr Go.sr ?_;refine Ar (Di (fun x:Nat × Nat × Nat=>⟨[(3,V.bp 3 0 30 0 0),(7,V.int .i64 a0),(8,V.int .i64 a1),(9,V.sl 100 x.2.1 11 (F x.1).length),(33,V.ro 11 b6),(34,V.int .i64 l.length),(35,V.int .i64 x.1)],[(3,⟨0,30,44,[V.agg [.int .i64 d.ses,.int .i64 d.cand,.int .i64 d.p.len,.ro 5 rv,.ro 1 pt,.ro 1 pr,.ro 2 ev,.int .i64 d.p.mn,.bool d.p.var.num.neg,.ro 1 vm,.ro 1 vd,.int .i64 d.p.cut,.bool d.p.lvl.num.neg,.ro 1 lm,.ro 1 ld,.int .i64 d.p.top,.bool d.p.rate.num.neg,.ro 1 rm,.ro 1 rd,.int .i64 d.p.slack,.ro 9 lv,.ro 17 a8,.ro 1 bd,.ro 2 uv,.int .i64 d.served,.int .i64 d.sec,.int .i64 d.nu,.int .i64 d.de,.int .i64 d.ex,.int .u64 d.seed]]⟩),(100,⟨x.2.1,11,66,F x.1⟩)],x.2.2,159⟩) (fun x=>x.1<=l.length) (fun x=>l.length-x.1) (0,_,_) (B4 _) (by simp only [cf];exact AS.le_refl _) ?_);rintro⟨k,qv,nx⟩hk;simp only at hk|-;refine Aa [3,7,8,9,33,34,35,36] [3,100] sr (Ab ?_)
 refine Ao (fun h3=>Ae ?_) fun h3=>?_
 ·have ad:k<l.length:=by simp at h3;omega
  have ga:=ql k ad;have Dg:=A6 (k:=k) om;have b0:=bx k ad;have bs:=bo k ad;have pc:=y8 l[k];generalize l[k]=e at*;generalize As e.an.ch=hv at*;have cb:=b7 k;rw [<- lF k]at cb;have aj:(F k).length+1<=maxLen/\((F k).length+1)*112<=140737488355328:=⟨Ai (show(F k).length+1<=4000001 by omega) dc,by omega⟩;refine Ab (Ar (Aa [3,7,8,9,11,33,34,35] [3,11,100] (by simp [ga,ad,o]<;>rfl) (Aa [3,7,8,9,11,33,34,35,41] [3,11,100] Go.sr ?_)))
  refine Ao (fun h4=>?_) fun h4=>Ae ?_
  ·have g1:=bs (by simpa using h4);refine A3 [3,7,8,9,33,34,35] [3,45,100] (by simp [aj]<;>rfl) (A3 [3,7,8,9,33,34,35] [3,45,100] (by simp [Dg]<;>rfl) ?_);exact⟨(k+1,_,_),ad,by simp only;omega,by simp only [g1,Bf,List.length_singleton];exact AS.le_refl _⟩
  have g1:=b0 (by simpa using h4);refine A3 [3,7,8,9,33,34,35] [3,100] (by simp [Dg]<;>rfl) ?_;exact⟨(k+1,_,_),ad,by simp only;omega,by simp only [g1];exact AS.le_refl _⟩
 ·refine Bb ?_;have be:k=l.length:=by simp at h3;omega
  subst be;have ae:=pF l.length;refine Bp 100 [3,7,8,9] [3] (by simp [ae]<;>rfl) (Ab (Ad (Am 2 Go.sr ?_)));refine Gt hG af func14 rfl kr sm rfl rfl rfl Go.sr (by simp) Go.sr ?_;refine Af [3,7,8,12,13] [3,12] Go.sr ?_;refine Ab (Aa [3,7,8,12,13,63] [3,12] Go.sr ?_)
  refine Ao (fun h5=>?_) fun h5=>Ae ?_
  ·exact Aa [6] [] sr (Aj (Ac sr rf))
  refine Ph ⟨[(3,V.bp 3 0 30 0 0),(7,V.int .i64 q),(8,V.int .i64 a1),(12,V.bp 12 (nx+7) 12 0 0),(13,V.ro 11 kv)],[(3,⟨0,30,44,[V.agg [.int .i64 d.ses,.int .i64 d.cand,.int .i64 d.p.len,.ro 5 rv,.ro 1 pt,.ro 1 pr,.ro 2 ev,.int .i64 d.p.mn,.bool d.p.var.num.neg,.ro 1 vm,.ro 1 vd,.int .i64 d.p.cut,.bool d.p.lvl.num.neg,.ro 1 lm,.ro 1 ld,.int .i64 d.p.top,.bool d.p.rate.num.neg,.ro 1 rm,.ro 1 rd,.int .i64 d.p.slack,.ro 9 lv,.ro 17 a8,.ro 1 bd,.ro 2 uv,.int .i64 d.served,.int .i64 d.sec,.int .i64 d.nu,.int .i64 d.de,.int .i64 d.ex,.int .u64 d.seed]]⟩),(12,⟨nx+7,12,58,[V.agg [.int .i64 s.st,.int .i64 s.us,.int .i64 s.la,.int .i64 s.sh,.ro 1 (As s.t.elig),.ro 2 (A2 s.t.steps),.int .i64 s.t.pend,.ro 1 (Bw s.t.w),.int .u64 s.t.draw,.int .i64 s.t.stop,.ro 5 (Fu s.ans),.ro 4 (Dt s.inc)]]⟩)],nx+33,159⟩ ?h1 ?_
  case h1=>
   refine Aa [3,7,8,12,13,71] [3,12] (by simp [lk]<;>rfl) ?_
   refine Ao (fun h6=>?_) fun h6=>Ae ?_
   ·have hq:=co (by simpa [lk]using h6);refine A3 [3,7,8,12,13] [3,12] (by simp [hq,lk]<;>rfl) ?_;exact⟨rfl,Agm rfl rfl rfl sm⟩
   ·have hq:=cl (by simpa [lk]using h6);subst hq;exact⟨rfl,Oo [3,7,8,12,13] [3,12] rfl rfl rfl sm⟩
  have a5:(0<=a1/\a1<=100000)/\s.la<=1099511527776:=by simp at h5;omega
  have av:(q:Int)<=(K.length:Int):=om;have ck:(kv.drop q).take (K.length-q)=kv.drop q:=Bg (by rw [F7];omega);have ah:=a6 q;rw [cc h0 q aq]at ah;unfold Awf at ah;simp only [bj]at ah;have pq:=bw q;have aa:=aa h0 q a1 aq a5.1 a5.2;have hR:=hR h0;have bt:=(ao h0 q aq).2.1;have cm:=fun j hj=>(ao h0 j hj).2.1
  have ax:=fun j(hj:j<=K.length)=>Int.le_trans (Akk (ab h0).2 (K.length-j) j om) (by rw [hR];exact a5.2)
  have bk:∀j(h:j<K.length),0<=K[j].time/\K[j].time<=1099511527776:=fun j h=>by
   have h1:=(Ab3 ((ab h0).2 j h)).1;have h2:=ax (j+1) om;rw [Pz h]at h2;have h3:(I9 d (Dp d) (Fl d (Dp d) K j) K[j]).la=K[j].time:=rfl;unfold Kx at h1;simp at h1;omega
  have cu:=ax q aq;have cp:=bt.la;generalize Fl d (Dp d) K q=b at*;refine Ab (C5 [(1,[]),(2,[]),(3,[]),(0,[14]),(4,[]),(5,[]),(6,[]),(7,[]),(8,[]),(9,[]),(10,[]),(11,[]),(12,[])] Ds kr ?_);refine Cf 4 (by simp [av,lk]<;>rfl) ?_;refine Ut hG (fun hg=>ah) func15 rfl kr rfl rfl sr rfl rfl sr (by simp) Go.sr ?_;refine C6 [3,7,8,12,13,14,16] [3,12,14] Go.sr ?_;refine Ab (Aa [3,7,8,12,13,14,16,90] [3,12,14] Go.sr ?_)
  refine Ao (fun h9=>?_) fun h9=>Ae ?_
  ·refine Ab (Ad (Am 3 Go.sr ?_));refine Np hG (c:=True) (fun hg=>c9) func9 rfl kr sr rfl rfl sr sm sr ?_;refine Af [6] [] Go.sr ?_;exact Aj (Ac sr (rfl))
  have ca:b.st=1:=by simpa using h9
  have aa:=aa ca;have a4:min q K.length=q:=Hb aq;have bi:q<=maxLen/\q*112<=140737488355328:=⟨Ai (show q<=14 by omega) dc,by omega⟩;have bm:q+2<=maxLen/\(q+2)*112<=140737488355328:=⟨Ai (show q+2<=16 by omega) dc,by omega⟩;have b9:IntKind.i64.wrap (b.la+a1)=b.la+a1:=by rw [Bh om Go.om]
  refine Aa [3,7,8,12,13,14,17] [3,12,14,96] (by simp [av,a4,bi,lk]<;>rfl) (Aa [3,7,8,12,13,17] [3,12,96] (by simp [a4,bm,b9,lk]<;>rfl) (Ab (Aa [3,8,12,13,17,114,115,116] [3,12,96] (by simp [av,ck,lk]<;>rfl) ?_)));have a3:Vo kv q b.la a1 ((K.drop q).take 0)=kv.take q++[V.agg [.int .i64 3,.int .i64 b.la,.int .i64 0,.nils,.int .i64 0,.str [],.bool false,.int .i64 0,.int .i64 0,.int .i64 0,.int .i64 0],V.agg [.int .i64 4,.int .i64 (b.la+a1),.int .i64 0,.nils,.int .i64 0,.str [],.bool false,.int .i64 0,.int .i64 0,.int .i64 0,.int .i64 0]]:=by unfold Vo;simp [He]
  have am:∀k,k<=K.length-q->(Vo kv q b.la a1 ((K.drop q).take k)).length=q+2+k:=fun k hk=>by unfold Vo;simp [lk];omega
  have a2:∀k,(Vo kv q b.la a1 ((K.drop q).take k)).all V.pureE=true:=fun k=>by unfold Vo;rw [H8,H8,pq,Jr];rfl
  have ay:∀k(h:q+k<K.length),Vo kv q b.la a1 ((K.drop q).take (k+1))=Vo kv q b.la a1 ((K.drop q).take k)++[V.agg [.int .i64 K[q+k].kind,.int .i64 (K[q+k].time+a1),.int .i64 K[q+k].an.item,.ro 1 (As K[q+k].an.ch),.int .i64 K[q+k].an.val,.str K[q+k].an.txt,.bool K[q+k].an.om,.int .i64 K[q+k].inc.ki,.int .i64 K[q+k].inc.ti,.int .i64 K[q+k].inc.lo,.int .i64 K[q+k].inc.gr]]:=fun k h=>by
   unfold Vo;rw [A1 (by rw [F7];omega),Cr];simp [He,Ev.v,sfE]
  have bg:Vo kv q b.la a1 ((K.drop q).take (K.length-q))=Vo kv q b.la a1 (K.drop q):=by rw [Bg (by rw [F7];omega)]
  rw [<- bg]at aa;generalize az:(fun k=>Vo kv q b.la a1 ((K.drop q).take k))=RW;have bz:∀k,Vo kv q b.la a1 ((K.drop q).take k)=RW k:=fun k=>by rw [<- az]
  clear az;simp only [bz]at a3 am a2 ay aa;refine Ar (Di (fun x:Nat × Nat × Nat=>⟨[(3,V.bp 3 0 30 0 0),(8,V.int .i64 a1),(12,V.bp 12 (nx+7) 12 0 0),(13,V.ro 11 kv),(17,V.sl 96 x.2.1 11 (q+2+x.1)),(114,V.ro 11 (kv.drop q)),(115,V.int .i64 ((K.length-q:Nat):Int)),(116,V.int .i64 x.1)],[(3,⟨0,30,44,[V.agg [.int .i64 d.ses,.int .i64 d.cand,.int .i64 d.p.len,.ro 5 rv,.ro 1 pt,.ro 1 pr,.ro 2 ev,.int .i64 d.p.mn,.bool d.p.var.num.neg,.ro 1 vm,.ro 1 vd,.int .i64 d.p.cut,.bool d.p.lvl.num.neg,.ro 1 lm,.ro 1 ld,.int .i64 d.p.top,.bool d.p.rate.num.neg,.ro 1 rm,.ro 1 rd,.int .i64 d.p.slack,.ro 9 lv,.ro 17 a8,.ro 1 bd,.ro 2 uv,.int .i64 d.served,.int .i64 d.sec,.int .i64 d.nu,.int .i64 d.de,.int .i64 d.ex,.int .u64 d.seed]]⟩),(12,⟨nx+7,12,58,[V.agg [.int .i64 s.st,.int .i64 s.us,.int .i64 s.la,.int .i64 s.sh,.ro 1 (As s.t.elig),.ro 2 (A2 s.t.steps),.int .i64 s.t.pend,.ro 1 (Bw s.t.w),.int .u64 s.t.draw,.int .i64 s.t.stop,.ro 5 (Fu s.ans),.ro 4 (Dt s.inc)]]⟩),(96,⟨x.2.1,11,66,RW x.1⟩)],x.2.2,159⟩) (fun x=>x.1<=K.length-q) (fun x=>K.length-q-x.1) (0,_,_) (B4 _) (by simp only [a3];exact AS.le_refl _) ?_);rintro⟨k,qv,ny⟩hk;simp only at hk|-;refine Aa [3,8,12,13,17,114,115,116,117] [3,12,96] sr (Ab ?_)
  refine Ao (fun bb=>Ae ?_) fun bb=>?_
  ·have ad:k<K.length-q:=by simp at bb;omega
   have ak:q+k<K.length:=om;have ga:G8 (kv.drop q) k=some (V.agg [.int .i64 K[q+k].kind,.int .i64 K[q+k].time,.int .i64 K[q+k].an.item,.ro 1 (As K[q+k].an.ch),.int .i64 K[q+k].an.val,.str K[q+k].an.txt,.bool K[q+k].an.om,.int .i64 K[q+k].inc.ki,.int .i64 K[q+k].inc.ti,.int .i64 K[q+k].inc.lo,.int .i64 K[q+k].inc.gr]):=by have h:=qk (q+k) ak;rw [C0]at h|-;rw [Cy];exact h
   have Dg:=A6 (k:=k) om;have g1:=ay k ak;have ba:=am k om;have ct:=bk (q+k) ak;have b5:IntKind.i64.wrap (K[q+k].time+a1)=K[q+k].time+a1:=by rw [Bh om Go.om]
   have pc:=y8 K[q+k];generalize K[q+k]=y at*;generalize As y.an.ch=hv at*;have aj:q+2+k+1<=maxLen/\(q+2+k+1)*112<=140737488355328:=⟨Ai (show q+2+k+1<=100 by omega) dc,by omega⟩;refine Ab (Ar (Aa [3,8,12,13,17,19,114,115,116] [3,12,19,96] (by simp [ga,ad,lk]<;>rfl) (Aa [3,8,12,13,17,19,114,115,116] [3,12,19,96] (by simp [b5]<;>rfl) (A3 [3,8,12,13,17,114,115,116] [3,12,96] (by simp [aj,ba]<;>rfl) (A3 [3,8,12,13,17,114,115,116] [3,12,96] (by simp [Dg]<;>rfl) ?_)))));exact⟨(k+1,_,_),ad,by simp only;omega,by simp only [g1];exact AS.le_refl _⟩
  ·refine Bb ?_;have be:k=K.length-q:=by simp at bb;omega
   subst be;have ae:=a2 (K.length-q);have ba:=am (K.length-q) (A9 _);have Pm:IntKind.i64.wrap (s.la+a1)=s.la+a1:=by rw [Bh (by have:=(cm K.length (A9 _)).la;rw [hR]at this;omega) Go.om]
   have cg:IntKind.i64.wrap ((K.length:Int)+2)=(K.length:Int)+2:=by rw [Bh om Go.om]
   have ai:=bn a1;have b3:Sm a1 s= { s with la:=s.la+a1}:=rfl;rw [b3]at ai aa;simp only at ai aa;refine Bp 96 [3,8,12,13,17] [3,12] (by simp [ae,ba]<;>rfl) (Ab (Ad (Am 2 Go.sr ?_)));refine Bq hG aa func15 ?_;refine Af [8,12,13,16,20,21] [12,20] Go.sr ?_;refine Aa [12,13,16,20,21] [12,20] (by simp [Pm]<;>rfl) (Ab (Ad (Am 12 (by simp [cg,lk]<;>rfl) ?_)));refine Db (c:=True) (fun hg=>ai) func16 rfl kr sr rfl rfl sr (by simp) sr ?_;refine Am 2 Go.sr ?_;refine Np hG (c:=True) (fun hg=>c9) func9 rfl kr sr rfl rfl sr sm sr ?_;refine Af [6] [] Go.sr ?_;exact Aj (Ac sr (rfl))
theorem Ae0(d:Dl)(l:List Ev)(a0 y:Int)(hb:d.p.rules.length<=4000000/\d.pool.length<=4000000/\d.items.length<=4000000/\d.p.en.length<=4000000/\d.uses.length<=4000000)(hs:Awg d=false):Hp gv prog 4 [d.v,.ro 11 (He l),.agg [.int .i64 a0,.int .i64 y]] (fun r=>r=.bool true):=by
 have u:=Aob d hb;rw [hs]at u;have pl:=Jr l;generalize He l=z at*;have h:d.v=V.agg [.int .i64 d.ses,.int .i64 d.cand,.int .i64 d.p.len,.ro 5 (Ey d.p.rules),.ro 1 (As d.p.g.pts),.ro 1 (As d.p.g.pri),.ro 2 (A2 d.p.en),.int .i64 d.p.mn,.bool d.p.var.num.neg,.ro 1 (Av d.p.var.num.mag),.ro 1 (Av d.p.var.den),.int .i64 d.p.cut,.bool d.p.lvl.num.neg,.ro 1 (Av d.p.lvl.num.mag),.ro 1 (Av d.p.lvl.den),.int .i64 d.p.top,.bool d.p.rate.num.neg,.ro 1 (Av d.p.rate.num.mag),.ro 1 (Av d.p.rate.den),.int .i64 d.p.slack,.ro 9 (Ce d.pool),.ro 17 (Ip d.items),.ro 1 (As d.ess),.ro 2 (A2 d.uses),.int .i64 d.served,.int .i64 d.sec,.int .i64 d.nu,.int .i64 d.de,.int .i64 d.ex,.int .u64 d.seed]:=rfl;rw [h]at u|-;have s:=C2 d.p.rules;have w:=Ag d.p.g.pts;have x:=Ag d.p.g.pri;have i:=A5 d.p.en;have k:=Ak d.p.var.num.mag;have n:=Ak d.p.var.den;have o:=Ak d.p.lvl.num.mag;have m:=Ak d.p.lvl.den;have j:=Ak d.p.rate.num.mag;have t:=Ak d.p.rate.den;have e:=Ca d.pool;have a:=Gh d.items;have f:=Ag d.ess;have c:=A5 d.uses;generalize Ey d.p.rules=rv,As d.p.g.pts=pt,As d.p.g.pri=pr,A2 d.p.en=ev,Av d.p.var.num.mag=vm,Av d.p.var.den=vd,Av d.p.lvl.num.mag=lm,Av d.p.lvl.den=ld,Av d.p.rate.num.mag=rm,Av d.p.rate.den=rd at*;have aa:=Dx d.pool;have ad:=Hj d.items;have ae:=A4 d.ess;generalize Ce d.pool=lv,Ip d.items=af,As d.ess=ab,A2 d.uses=uv at*;refine By func4 fun w0 N0 hG=>?_;refine Aa [1,3,5] [3,5] (by simp [ntmps4]<;>rfl) ?_;refine Dq [(0,[]),(2,[]),(1,[]),(4,[]),(3,[]),(5,[])] [1,3,7,8] [3] Ds kr Go.sr ?_;refine Ab (Ab (Ad (Am 1 sr ?_)));refine Ah u func7 ?_;refine Af [1,3,7,8,28] [3] sr ?_
 refine A7 rfl (fun h1=>?_) (fun h1=>by simp at h1)
 ·exact Aa [6] [] sr (Aj (Ac sr rf))
end Go.Proofs.YtpaccopbbffkaaaGreatDoor
set_option linter.unusedSimpArgs false
namespace Go.Eng
open Go.RowKit Go.ChangeShapes Go.WideShapes Go.ChangeAt
def A2t(P:Program)(t:TypeId):Bool:=match P.underlying t with
 |some (.array n e)=>(P.cellsOf t==n)&&(P.cellsOf e==1)&&(match P.underlying e with|some (.int _)=>true|_ =>false)
 |_ =>false
def RdA(P:Program)(t:TypeId)(v:V):Prop:=match P.underlying t with
 |some (.array n e)=>∃k,∃is:List Int,P.underlying e=some (.int k)/\is.length=n/\(∀i∈is,(Lit.int k i).wf=true)/\v=.agg (is.map (.int k))
 |_ =>RdW P t v
section
variable {H:Type}{enc:TypeId × Value->H}{P:Program}{w:World}{base:Nat}{spare:Nat->Bool}{held:Bool}
theorem A2u{r:Reach}{b0:Nat}{t e:TypeId}{k:IntKind}{n:Nat}{v:Value}{d:DataW H}{ps:List MemPlace}(hu:P.underlying t=some (.array n e))(hk:P.underlying e=some (.int k))(s:P.cellsOf e=1)(l:P.cellsOf t=n)(f:Value.okWide P w r b0 t v)(hd:DataW.Trod enc P w base spare held t v d ps):
  ∃is:List Int,is.length=n/\(∀i∈is,(Lit.int k i).wf=true)/\Pur w (fun _ =>False) v (.agg (is.map (.int k))):=by
 obtain⟨fuel,a⟩:=hd;simp only [Value.okWide,hu]at f;obtain⟨cs,rfl,aa,_⟩:=f;cases fuel with
 |zero=>simp [DataW.trod]at a
 |succ fuel=>
 unfold DataW.trod at a;rw [hu]at a;replace a:(if cs.toList.length=P.cellsOf t then((List.range n).mapM fun i=>DataW.trod enc P w base spare held fuel e ((cs.toList.drop (i*P.cellsOf e)).take (P.cellsOf e))).map fun xs=>(DataW.agg (xs.map (·.1)),xs.flatMap (·.2))else none)=some (d,ps):=a;split at a
 case isFalse=>cases a
 rename_i g;simp only [A0]at a;obtain⟨xs,h,_⟩:=a;have m:cs.toList.length=n:=g.trans l
 have u:∀i,i<n->∃x:Int,(Lit.int k x).wf=true/\cs.toList[i]? =some (.int k x):=by
  intro i o;have h1:=mapM_some_get h i i (by simp [o]);have hl:xs.length=n:=by simpa using mapM_some_length h
  rw [Al Go.om]at h1;rw [s,F0]at h1
  have h2:(cs.toList.drop i).take 1= [cs.toList[i]'(by omega)]:=by
   rw [Bt Go.om];rfl
  rw [h2]at h1;rw [Al Go.om];generalize cs.toList[i]'(by omega)=c at h1;cases fuel with
  |zero=>simp [DataW.trod]at h1
  |succ fuel=>
  unfold DataW.trod at h1;rw [hk]at h1;split at h1<;>simp_all
 obtain⟨is,h1,h2⟩:=Ail u
 refine⟨is,h1,fun i o=>?_,?_⟩
 ·obtain⟨j,hj⟩:=Co o;exact(h2 j i hj).1
 ·have:=Pur.agg (w:=w) (N:=fun _ =>False) cs.toList (is.map (.int k)) (by simp [h1,m]) (by simp [V.isCell]) (fun j x y hx hy=>by
   simp only [Bc,A0]at hy;obtain⟨z,hz,rfl⟩:=hy;rw [(h2 j z hz).2]at hx;cases hx
   exact .int _ _)
  simpa using this
theorem A2v{L:List TypeId}{B:DataW H->Nat}{N:Nat}(hB:BulkOk B)(m:okL P L=true){r:Reach}{b0:Nat}{t:TypeId}{v:Value}{d:DataW H}{ps:List MemPlace}(f:(L.contains t||A2t P t)=true)(a:Value.okWide P w r b0 t v)(o:DataW.Trod enc P w base spare held t v d ps)(x:B d<=N):
  ∃u,Pur w (fun _ =>False) v u/\RdA P t u/\SmlV N u:=by
 by_cases h:t∈L
 ·obtain⟨u,h1,h2,g⟩:=Ax4 hB m h a o x;refine⟨u,h1,?_,g⟩;have j:=Aw.1 m t h;unfold Axz at j;unfold RdA;generalize P.underlying t=u at j|-
  split
  ·simp at j
  ·exact h2
 ·have l:L.contains t=false:=by simpa using h
  rw [l,Oa]at f;unfold A2t at f;unfold RdA;generalize s:P.underlying t=u at f|-;split at f
  case h_2=>cases f
  rename_i n e;simp only [Bk,beq_iff_eq]at f;obtain⟨⟨h1,h2⟩,g⟩:=f;generalize hk:P.underlying e=ue at g;split at g
  case h_2=>cases g
  rename_i k;obtain⟨is,y,z,h6⟩:=A2u s hk h2 h1 a o;exact⟨_,h6,⟨k,is,rfl,y,z,rfl⟩,.agg (fun c h=>by obtain⟨i,_,rfl⟩:=Bm.1 h;exact .int _ _)⟩
end
def Ari(P:Program):List TypeId->List V->Prop
 | [],vs=>vs= []
 |t::ts,vs=>∃u us,vs=u::us/\RdA P t u/\Ari P ts us
theorem Aie{H:Type}{B:DataW H->Nat}{N:Nat}(k:BulkOk B){i:TypeId × Value->H}{P:Program}{L:List TypeId}{W:World}{r:Reach}{b0:Nat}{sp:Nat->Bool}{c:Bool}(m:okL P L=true):∀ {ts:List TypeId}{vs:List Value}{a:List (DataW H)}{ps:List MemPlace},(∀t∈ts,(L.contains t||A2t P t)=true)->
  (∀(j:Nat)t v,ts[j]? =some t->vs[j]? =some v->Value.okWide P W r b0 t v)->DataW.TrodAll i P W 0 sp c ts vs a ps->(∀d∈a,B d<=N)->∃us,Ari P ts us/\Sp W (fun _ =>False) vs us/\∀u∈us,SmlV N u
 | [],vs,a,ps,_,_,h,_ =>by
  obtain⟨rfl,rfl,rfl⟩:=trodAll_nil h;exact⟨[],rfl,⟨rfl,by simp⟩,by simp⟩
 |t::ts,vs,a,ps,l,o,h,n=>by
  obtain⟨v,s,d,aa,p,q,rfl,rfl,rfl,h1,h2⟩:=trodAll_cons h;obtain⟨u,y,g2,g5⟩:=A2v k m (l t sm) (o 0 t v rfl rfl) h1 (n d sm);obtain⟨us,g3,g4,g6⟩:=Aie k m (fun t f=>l t (by simp [f])) (fun j w z f g=>o (j+1) w z f g) h2 (fun d c=>n d (by simp [c]));exact⟨u::us,⟨u,us,rfl,g2,g3⟩,(Sp.one y).append g4,fun x hx=>(Cj.1 hx).elim (fun e=>e▸g5) (g6 x)⟩
theorem Ae1{G:Gp}{H:Type}{o:TypeId × Value->H}{P:Program}{f:FuncId}{fn:Func}{s:ChangeSpec}{L:List TypeId}{tb:TypeId}{ts:List TypeId}(i:fn.params.toList=ts)(hL:okL P L=true)(ab:(ts.all fun t=>(L.contains t||A2t P t)&&P.readableRec t&&decide (t<P.types.size))=true)(u:laidOutB P=true)(z:fn.resultTypes= #[tb])(aa:P.underlying tb=some .bool)
  (c:s.vars= [])(hs:∀a:List (DataW H),a.length=ts.length->s.fn H a= { results:=[.lit (.bool true)],args:=a})(hc:∀vs,Ari P ts vs->(∀v∈vs,SmlV 1048576 v)->Hp G P f vs (fun r=>r=.bool true))
  {W:World}{y:Nat}{args:Array Value}{a gs:List (DataW H)}{k:List MemPlace}
  (hG:G.P W){B:DataW H->Nat}(hB:BulkOk B)(ad:∀d∈a,B d<=1048576)(w:∀(j:Nat)t v,fn.params[j]? =some t->args[j]? =some v->Value.okWide P W .any y t v)(hW:DataW.Whole o P fn.params.toList s.vars false W args.toList a gs k):
  Calls P f args W fun e W'=>∃v,e=.returned v/\s.post o P fn false true false false W args v W':=by
 have ae:=hW;obtain⟨p,q,hA,hV,rfl,ah,ag⟩:=hW;rw [c]at hV;obtain⟨rfl,rfl⟩:=trodVars_none hV
 have n:a.length=ts.length:=by
  have:∀(ts:List TypeId)(vs:List Value)(a:List (DataW H))(ps:List MemPlace),DataW.TrodAll o P W 0 (fun _ =>true) true ts vs a ps->a.length=ts.length:=by
   intro ts
   induction ts with
   |nil=>intro vs a ps h;obtain⟨_,rfl,_⟩:=trodAll_nil h;rfl
   |cons t ts ih=>intro vs a ps h;obtain⟨v,af,d,ai,p,q,rfl,rfl,rfl,_,h2⟩:=trodAll_cons h;simp [ih _ _ _ h2]
  rw [<- i];exact this _ _ _ _ hA
 have m:∀t∈ts,(L.contains t||A2t P t)=true/\P.readableRec t=true/\t<P.types.size:=by
  intro t l;have:=Aw.1 ab t l;simp only [Bk,decide_eq_true_eq]at this;exact⟨this.1.1,this.1.2,this.2⟩
 obtain⟨us,h1,h2,h9⟩:=Aie hB (L:=L) hL (ts:=ts) (fun t l=>(m t l).1) (fun j t v l hv=>w j t v (by rw [<- i]at l;simpa using l) (by simpa using hv)) (i▸hA) ad;have g:=hc us h1 h9 W (fun _ =>False) args.toList hG (fun _ hb=>hb.elim) h2.1 h2.2;rw [show args.toList.toArray=args by simp]at g;refine g.mono ?_;rintro e W1⟨x,r,rfl,rfl,hp,hb⟩;obtain rfl:x=.bool true:=by cases hp;rfl
 refine⟨_,rfl,a,[],p++[],[],p,[],ae,?_,?_,?_,hb.frame _,fun h=>by cases h⟩
 ·rw [Eo,hs a n,z];exact trodAll_mk1 (shut_bool aa true)
 ·rw [Eo,hs a n];exact Vq u hb (fun t l=>(m t (i▸l)).2) hA
 ·rw [Eo,hs a n,c];exact rfl
end Go.Eng
set_option linter.unusedSimpArgs false
set_option maxRecDepth 10000
namespace Go.Proofs.YtpaccopbbffkaaaGreatDoor
open Go.Eng Go.Eng.Limb Go.ChangeShapes Go.WideShapes Go.ChangeAt Go.RowKit
theorem Axi(os:Os):laidMet prog A7h ((Aag os).forCall (fun _ _ =>0) ⟨#[],#[zd,zl,zp],[]⟩).memory:=
 laidMet_of_run' 8 kr kr
theorem rda_w{t:TypeId}{u:TypeDesc}{v:V}(h:RdA prog t v)(hu:prog.underlying t=some u)(hn:∀n e,u≠ .array n e):RdW prog t v:=by
 unfold RdA at h;rw [hu]at h;split at h
 ·rename_i e;injection e with e;exact absurd e (hn _ _)
 ·exact h
theorem A64{v:V}(h:RdA prog 71 v):∃a b:Int,v=.agg [.int .i64 a,.int .i64 b]:=by
 unfold RdA at h;rw [underlying71]at h;obtain⟨k,is,hk,hl,hw,rfl⟩:=h;rw [underlying3]at hk;cases hk
 match is,hl with
 | [a,b],_ =>exact⟨a,b,rfl⟩
theorem Aoq(os:Os){H:Type}(enc:TypeId × Value->H):∃ds places,DataW.whole enc prog ((Aag os).forCall (fun _ _ =>0) ⟨#[],#[zd,zl,zp],[]⟩).memory Tryz.f4.params.toList Rows.sessionPausesSpec.vars false #[zd,zl,zp].toList 8=some (ds,[],places)/\Rows.uptoSmall H (ds++[])=true:=
 ⟨[dD,.nil,dP],[],by kernel_rfl,by kernel_rfl⟩
set_option maxRecDepth 100000 in
theorem Akl(os:Os)(started:os.Started)(H:Type)(enc:TypeId × Value->H)(F:Stop.Interp):
  ReturnsInHanded {} Tryz.checked os 4 .any ((Rows.OpenSpec.upto Rows.sessionPausesSpec).preRow enc prog Tryz.f4 Rows.sessionPausesUptoRow.domain false Rows.sessionPausesUptoRow.laid) (((Rows.OpenSpec.upto Rows.sessionPausesSpec).at F).post enc prog Tryz.f4 false true false false):=by
 obtain⟨ds,places,hx,hsm⟩:=Aoq os enc
 refine returnsInHanded_of_row (C:=Tryz.checked) (s:=Rows.OpenSpec.upto Rows.sessionPausesSpec) (kr:ownKnob prog.godebug=none) started kr func4
  (witness_row_at (enc:=enc) (C:=Tryz.checked) false (Aag os) #[zd,zl,zp] rfl kr kr kr
   (OpenSpec.preRow_of_cond 8 hx kr (fun k hk=>by cases hk;exact hsm) kr (Axi os))) ?_
 intro W base args ds gs before hval hW _ hcond _ hL hS _
 refine Ae1 (s:=Rows.sessionPausesSpec) (L:=[44,36,24,22,86,27,25,28,368,34,32,30,149,37,115,113,111,38,93,91,39,240,41,42,45,66,62,64,79,3,9,4]) (tb:=4) (ts:=[44,45,71]) (by rw [params4]) kr kr A6m rfl underlying4 rfl (fun ds hl=>?_) (fun vs hvs hsm=>?_) (Bau hS) (A9h H) (fun d hd=>Are (hcond _ rfl) d (I2 _ hd)) hval hW
 ·match ds,hl with
  | [d0,d1,d2],_ =>rfl
 ·obtain⟨v0,r0,rfl,h0,v1,r1,rfl,h1,v2,r2,rfl,h2,rfl⟩:=hvs;replace h0:=rda_w h0 underlying44 (by intro _ _ h;cases h);replace h1:=rda_w h1 underlying45 (by intro _ _ h;cases h);obtain⟨d,rfl,hlim⟩:=Aki h0;obtain⟨l,rfl⟩:=Ard h1;obtain⟨a0,a1,rfl⟩:=A64 h2;have hd:=A9g (hsm d.v sm);obtain⟨hl,ha⟩:=A6t (hsm (.ro 11 (He l)) sm);cases hs:Awg d with
  |false=>exact Ae0 d l a0 a1 hd.b hs
  |true=>exact Aez Ath (Awj Ath) d l a0 a1 (A6u hlim hd hs) hd.b hl ha
theorem Y1:Rows.SessionPausesUptoSaid:=
 OpenClaim.holds_of_cond 4 Tryz.f4 rfl rfl rfl rfl rfl rfl rfl ⟨rfl,rfl,rfl,rfl,rfl⟩ rfl rfl rfl rfl rfl Aa6 func4 Aop
  (of_decide_eq_true kr) (by unfold Func.isWrapper;first|(rw [if_pos (by decide+kernel)];kernel_rfl)|(rw [if_neg (by decide+kernel)];exact⟨rfl,rfl⟩))
  (fun os started H enc _ F=>by rw [OpenClaim.pre_eq_preRow];exact Akl os started H enc F)
theorem Aor(f:FuncId)(fn:Func)(hf:Tryz.pinned.checked.prog.funcNamed "examboard/examboardlaw51.SessionPauses" =some f)(hfn:Tryz.pinned.checked.prog.funcs[f]? =some fn):
  false=Tryz.pinned.checked.prog.looks []/\∀(j:Nat)t,fn.params[j]? =some t->Tryz.pinned.checked.prog.wantsStandIn t=false:=by
 obtain rfl:f=4:=Ix (Aa6.symm.trans hf)|>.symm;obtain rfl:fn=Tryz.f4:=(Ix (func4.symm.trans hfn)).symm;refine⟨Aoo,fun j t ht=>?_⟩;rw [params4]at ht
 have h3:t=44\/t=45\/t=71:=by
  have:=Array.mem_of_getElem? ht;simp at this;omega
 rcases h3 with rfl|rfl|rfl
 ·exact(show prog.wantsStandIn 44=false by kernel_rfl)
 ·exact(show prog.wantsStandIn 45=false by kernel_rfl)
 ·exact(show prog.wantsStandIn 71=false by kernel_rfl)
theorem sessionPausesProved:Rows.SessionPausesUptoCardSaid:=
 Claim7.holds_tied_plain_at .later [] _ _ _ _ Y1 (fun _ h=>by cases h) Axh (fun _ h=>by cases h) sessionPausesUpto_row_tie rfl ⟨rfl,rfl⟩ Arj rfl Aor Ark
end Go.Proofs.YtpaccopbbffkaaaGreatDoor
