import Derived.Below
import Derived.Tactics
import Derived.Laws.Rows
import Derived.Maps.AppendAt
import Derived.Laws.Strings
import Derived.Laws.Concat
import Derived.Laws.StructEq
import Derived.Laws.Slices
import Derived.WalkKit
import Derived.MapKept
import Derived.Laws.Small
import Derived.Laws.BytesString
set_option linter.all false
namespace Go.Eng
open Go.RowKit
def nth {α : Type} : List α → Nat → Option α
  | [], _ => none
  | x :: _, 0 => some x
  | _ :: r, n + 1 => nth r n
theorem nth_eq {α : Type} : ∀ (l : List α) (k : Nat), nth l k = l[k]?
  | [], _ => by simp [nth]
  | _ :: _, 0 => by simp [nth]
  | _ :: r, n + 1 => by simp [nth, nth_eq r n]
inductive V where
  | bool (b : Bool)
  | int (k : IntKind) (n : Int)
  | str (l : List UInt8)
  | agg (cs : List V)
  | tup (vs : List V)
  | ro (sz : Nat) (es : List V)
  | nils
  | rp (e : V)
  | fn (f : FuncId)
  | sl (d v sz len : Nat)
  | ss (d v sz off len : Nat)
  | bp (d v sz k off : Nat)
  | whn (b : Bool) (v : V)
  | mp (b : Nat) (k : IntKind) (m : List (Int × V))
  | nilp
  | nili
  | nilf
  | ifc (t : TypeId) (v : V)
  | clo (f : FuncId) (first caps : List V)
  | fc (f : FuncId) (first caps : List V)
  | dm (t : TypeId) (cs : List V)
  | rm (b : Nat) (k : IntKind) (m : List (Int × V))
  | mr (d v : Nat)
def V.still : V → Bool
  | .mp .. | .rm .. | .fc .. | .tup _ | .whn .. | .mr .. => false
  | _ => true
def V.isCell : V → Bool
  | .agg _ | .tup _ | .whn _ _ | .mp .. | .rm .. | .mr .. => false
  | .fc _ us vs => us.all V.still && vs.all V.still
  | _ => true
def V.cells : V → List V
  | .agg cs => cs
  | v => [v]
def V.fits (sz : Nat) (e : V) : Prop := e.cells.length = sz ∧ ∀ c ∈ e.cells, c.isCell = true
def assoc (a : Int) : List (Int × V) → Option V
  | [] => none
  | (x, v) :: r => if x = a then some v else assoc a r
def keyI (e : MapEntry) : Int := match e.key with | .int _ a => a | _ => 0
def findA (a : Int) : List MapEntry → Option Value
  | [] => none
  | e :: r => if keyI e = a then some e.val else findA a r
def V.flat0 : V → Bool
  | .bool _ | .int _ _ | .str _ => true
  | _ => false
def V.flat1 : V → Bool
  | .bool _ | .int _ _ | .str _ | .nils | .fn _ | .nilp | .nili | .nilf => true
  | _ => false
def V.flat2 : V → Bool
  | .agg cs => cs.all V.flat1
  | v => v.flat1
inductive Pur (w : World) (N : Nat → Prop) : Value → V → Prop
  | bool (b : Bool) : Pur w N (.bool b) (.bool b)
  | int (k : IntKind) (n : Int) : Pur w N (.int k n) (.int k n)
  | str (l : List UInt8) : Pur w N (.string ⟨l.toArray⟩) (.str l)
  | agg (xs : List Value) (cs : List V) (hl : xs.length = cs.length) (hc : ∀ c ∈ cs, c.isCell = true)
      (h : ∀ (i : Nat) x c, xs[i]? = some x → cs[i]? = some c → Pur w N x c) : Pur w N (.agg xs.toArray) (.agg cs)
  | tup (xs : List Value) (cs : List V) (hl : xs.length = cs.length)
      (h : ∀ (i : Nat) x c, xs[i]? = some x → cs[i]? = some c → Pur w N x c) : Pur w N (.tuple xs.toArray) (.tup cs)
  | ro (A : Option Addr) (ad : Addr) (n cap sz : Nat) (es : List V) (g : Nat → Nat → Value) (hn : es.length = n) (hcap : n ≤ cap) (hmax : cap ≤ maxLen)
      (hA : 0 < n → A = some ad ∧ ad.block < w.heap.size ∧ ¬ N ad.block) (hf : ∀ e ∈ es, e.fits sz)
      (hc : ∀ (k : Nat) e (j : Nat) c, es[k]? = some e → e.cells[j]? = some c → w.cell? (ad.add (k * sz + j)) = some (g k j))
      (h : ∀ (k : Nat) e (j : Nat) c, es[k]? = some e → e.cells[j]? = some c → Pur w N (g k j) c) : Pur w N (.slice A n cap) (.ro sz es)
  | nils (A : Option Addr) : Pur w N (.slice A 0 0) .nils
  | rp (ad : Addr) (sz : Nat) (e : V) (g : Nat → Value) (hb : ad.block < w.heap.size) (hN : ¬ N ad.block) (hf : e.fits sz)
      (hc : ∀ (j : Nat) c, e.cells[j]? = some c → w.cell? (ad.add j) = some (g j))
      (h : ∀ (j : Nat) c, e.cells[j]? = some c → Pur w N (g j) c) : Pur w N (.pointer (some ad)) (.rp e)
  | fn (f : FuncId) : Pur w N (.func (.func f) #[] #[]) (.fn f)
  | nilp : Pur w N (.pointer none) .nilp
  | nili : Pur w N .nilIface .nili
  | nilf : Pur w N .nilFunc .nilf
  | ifc (t : TypeId) (x : Value) (v : V) (hf : v.flat2 = true) (h : Pur w N x v) : Pur w N (.iface t x) (.ifc t v)
  | mp (b : Nat) (k : IntKind) (m : List (Int × V)) (es : Array MapEntry) (clock : Nat) (g : Int → Value) (hN : ¬ N b) (hb : w.heap[b]? = some (.map es clock)) (hk : ∀ e ∈ es.toList, ∃ a, e.key = .int k a)
      (hs : ∀ a v, assoc a m = some v → findA a es.toList = some (g a) ∧ v.flat0 = true) (hn : ∀ a, assoc a m = none → findA a es.toList = none)
      (hw : (es.toList.map (·.born)).Nodup ∧ (∀ e ∈ es.toList, e.born < clock) ∧ (es.toList.map keyI).Nodup)
      (h : ∀ a v, assoc a m = some v → Pur w N (g a) v) : Pur w N (.map (some b)) (.mp b k m)
  | fc (f : FuncId) (xs ys : List Value) (us vs : List V) (hl : xs.length = us.length) (hm : ys.length = vs.length) (h : ∀ (i : Nat) x c, xs[i]? = some x → us[i]? = some c → Pur w N x c)
      (k : ∀ (i : Nat) x c, ys[i]? = some x → vs[i]? = some c → Pur w N x c) : Pur w N (.func (.func f) xs.toArray ys.toArray) (.fc f us vs)
  | dm (t : TypeId) (xs : List Value) (cs : List V) (hl : xs.length = cs.length) (hc : ∀ c ∈ cs, c.isCell = true)
      (h : ∀ (i : Nat) x c, xs[i]? = some x → cs[i]? = some c → Pur w N x c) : Pur w N (.iface t (.agg xs.toArray)) (.dm t cs)
  | rm (ad : Addr) (b : Nat) (k : IntKind) (m : List (Int × V)) (hb : ad.block < w.heap.size) (hN : ¬ N ad.block) (hc : w.cell? ad = some (.map (some b)))
      (h : Pur w N (.map (some b)) (.mp b k m)) : Pur w N (.pointer (some ad)) (.rm b k m)
def Keeps (w : World) (N : Nat → Prop) (w' : World) : Prop :=
  w.heap.size ≤ w'.heap.size ∧ ∀ b, b < w.heap.size → ¬ N b → w'.heap[b]? = w.heap[b]?
theorem Keeps.refl (w : World) (N : Nat → Prop) : Keeps w N w := ⟨Nat.le_refl _, fun _ _ _ => rfl⟩
theorem Keeps.of_below {w w' : World} (h : Below w.heap.size w w') (N : Nat → Prop) : Keeps w N w' := ⟨h.size, fun b hb _ => h.block b hb⟩
theorem Keeps.alloc (w : World) (N : Nat → Prop) (o : Obj) : Keeps w N (w.alloc o) := ⟨by simp, fun b hb _ => Below.heap_alloc w o b hb⟩
theorem Keeps.trans {w w1 w2 : World} {N : Nat → Prop} (h : Keeps w N w1) (k : Keeps w1 N w2) : Keeps w N w2 :=
  ⟨Nat.le_trans h.1 k.1, fun b hb hN => (k.2 b (Nat.lt_of_lt_of_le hb h.1) hN).trans (h.2 b hb hN)⟩
theorem add_block (a : Addr) (n : Nat) : (a.add n).block = a.block := by unfold Addr.add; split <;> rfl
theorem add_add' (a : Addr) (i j : Nat) : (a.add i).add j = a.add (i + j) := by
  unfold Addr.add
  by_cases hi : i = 0 <;> by_cases hj : j = 0 <;> simp [hi, hj, Nat.add_assoc]
theorem Pur.keep {w w' : World} {N N' : Nat → Prop} (hk : Keeps w N w') (hN : ∀ b, b < w.heap.size → N' b → N b) {x : Value} {v : V} (h : Pur w N x v) : Pur w' N' x v := by
  induction h with
  | bool b => exact .bool b
  | int k n => exact .int k n
  | str l => exact .str l
  | agg xs cs hl hc _ ih => exact .agg xs cs hl hc ih
  | tup xs cs hl _ ih => exact .tup xs cs hl ih
  | ro A ad n cap sz es g hn hcap hmax hA hf hc _ ih =>
    refine .ro A ad n cap sz es g hn hcap hmax (fun h0 => ?_) hf (fun k e j c he hj => ?_) ih
    · obtain ⟨h1, h2, h3⟩ := hA h0
      exact ⟨h1, Nat.lt_of_lt_of_le h2 hk.1, fun hh => h3 (hN _ h2 hh)⟩
    · have h0 : 0 < n := by
        have := (List.getElem?_eq_some_iff.1 he).1
        omega
      obtain ⟨_, h2, h3⟩ := hA h0
      rw [World.cell?_of_block (w := w) (hk.2 _ (by rw [add_block]; exact h2) (by rw [add_block]; exact h3))]
      exact hc k e j c he hj
  | nils A => exact .nils A
  | rp ad sz e g hb hN' hf hc _ ih =>
    refine .rp ad sz e g (Nat.lt_of_lt_of_le hb hk.1) (fun hh => hN' (hN _ hb hh)) hf (fun j c hj => ?_) ih
    rw [World.cell?_of_block (w := w) (hk.2 _ (by rw [add_block]; exact hb) (by rw [add_block]; exact hN'))]
    exact hc j c hj
  | fn f => exact .fn f
  | nilp => exact .nilp
  | nili => exact .nili
  | nilf => exact .nilf
  | ifc t x v hf _ ih => exact .ifc t x v hf ih
  | mp b k m es clock g hN' hb hk' hs hn hw _ ih =>
    have hlt : b < w.heap.size := (Array.getElem?_eq_some_iff.1 hb).1
    exact .mp b k m es clock g (fun hh => hN' (hN _ hlt hh)) ((hk.2 b hlt hN').trans hb) hk' hs hn hw ih
  | fc f xs ys us vs hl hm _ _ ih ik => exact .fc f xs ys us vs hl hm ih ik
  | dm t xs cs hl hc _ ih => exact .dm t xs cs hl hc ih
  | rm ad b k m hb hN' hc _ ih =>
    refine .rm ad b k m (Nat.lt_of_lt_of_le hb hk.1) (fun hh => hN' (hN _ hb hh)) ?_ ih
    rw [World.cell?_of_block (w := w) (hk.2 _ hb hN')]
    exact hc
def V.flat : V → Bool
  | .bool _ | .int _ _ | .str _ | .nils | .fn _ | .nilp | .nili | .nilf => true
  | .ifc _ v => v.flat2
  | _ => false
theorem Pur.of_flat1 {w w' : World} {N N' : Nat → Prop} {x : Value} {v : V} (h : Pur w N x v) (hf : v.flat1 = true) : Pur w' N' x v := by
  cases h with
  | bool b => exact .bool b
  | int k n => exact .int k n
  | str l => exact .str l
  | nils A => exact .nils A
  | fn f => exact .fn f
  | nilp => exact .nilp
  | nili => exact .nili
  | nilf => exact .nilf
  | agg | tup | ro | rp | mp | ifc | fc | dm | rm => simp [V.flat1] at hf
theorem Pur.of_flat2 {w w' : World} {N N' : Nat → Prop} {x : Value} {v : V} (h : Pur w N x v) (hf : v.flat2 = true) : Pur w' N' x v := by
  cases h with
  | agg xs cs hl hc h => exact .agg xs cs hl hc (fun i x c h1 h2 => (h i x c h1 h2).of_flat1 (List.all_eq_true.1 hf c (List.mem_of_getElem? h2)))
  | bool b => exact .bool b
  | int k n => exact .int k n
  | str l => exact .str l
  | nils A => exact .nils A
  | fn f => exact .fn f
  | nilp => exact .nilp
  | nili => exact .nili
  | nilf => exact .nilf
  | tup | ro | rp | mp | ifc | fc | dm | rm => simp [V.flat2, V.flat1] at hf
theorem Pur.of_flat {w w' : World} {N N' : Nat → Prop} {x : Value} {v : V} (h : Pur w N x v) (hf : v.flat = true) : Pur w' N' x v := by
  cases h with
  | bool b => exact .bool b
  | int k n => exact .int k n
  | str l => exact .str l
  | nils A => exact .nils A
  | fn f => exact .fn f
  | nilp => exact .nilp
  | nili => exact .nili
  | nilf => exact .nilf
  | ifc t x v h1 h2 => exact .ifc t x v h1 (h2.of_flat2 h1)
  | agg | tup | ro | rp | mp | fc | dm | rm => simp [V.flat] at hf
theorem Pur.cell_oneCell {w : World} {N : Nat → Prop} {x : Value} {v : V} (h : Pur w N x v) (hc : v.isCell = true) : x.oneCell' = true := by
  cases h <;> first | rfl | simp [V.isCell] at hc
end Go.Eng

namespace Go.Eng
open Go.RowKit
abbrev Mu := Nat → Nat → Option (Option (Nat × Nat))
inductive Enc (w : World) (N : Nat → Prop) (μ : Mu) : Value → V → Prop
  | pur {x : Value} {v : V} (h : Pur w N x v) : Enc w N μ x v
  | slr (d v sz len g cap : Nat) (hμ : μ d v = some (some (g, cap))) (h : len ≤ cap) (hmax : cap ≤ maxLen) : Enc w N μ (.slice (some ⟨g, 0, none⟩) len cap) (.sl d v sz len)
  | slv (d v sz : Nat) (A : Option Addr) (hμ : μ d v = some none) : Enc w N μ (.slice A 0 0) (.sl d v sz 0)
  | ss (d v sz off len g c cap : Nat) (A : Option Addr) (h : len ≤ c) (hc : c ≤ maxLen) (hA : 0 < len → μ d v = some (some (g, cap)) ∧ A = some ⟨g, off * sz, none⟩) : Enc w N μ (.slice A len c) (.ss d v sz off len)
  | bp (d v sz k off g cap : Nat) (hμ : μ d v = some (some (g, cap))) : Enc w N μ (.pointer (some ⟨g, k * sz + off, none⟩)) (.bp d v sz k off)
  | agg (xs : List Value) (cs : List V) (hl : xs.length = cs.length) (hc : ∀ c ∈ cs, c.isCell = true)
      (h : ∀ (i : Nat) x c, xs[i]? = some x → cs[i]? = some c → Enc w N μ x c) : Enc w N μ (.agg xs.toArray) (.agg cs)
  | tup (xs : List Value) (cs : List V) (hl : xs.length = cs.length)
      (h : ∀ (i : Nat) x c, xs[i]? = some x → cs[i]? = some c → Enc w N μ x c) : Enc w N μ (.tuple xs.toArray) (.tup cs)
  | ifc (t : TypeId) (x : Value) (v : V) (hc : v.isCell = true) (h : Enc w N μ x v) : Enc w N μ (.iface t x) (.ifc t v)
  | clo (f : FuncId) (xs ys : List Value) (cs ds : List V) (hl : xs.length = cs.length) (hm : ys.length = ds.length) (hc : ∀ c, c ∈ cs ∨ c ∈ ds → c.isCell = true)
      (h : ∀ (i : Nat) x c, xs[i]? = some x → cs[i]? = some c → Enc w N μ x c) (k : ∀ (i : Nat) x c, ys[i]? = some x → ds[i]? = some c → Enc w N μ x c) : Enc w N μ (.func (.func f) xs.toArray ys.toArray) (.clo f cs ds)
  | whn (x : Value) (b : Bool) (v : V) (h : b = true → Enc w N μ x v) (hu : b = false → x = undef) : Enc w N μ x (.whn b v)
  | mr (d v g cap : Nat) (hμ : μ d v = some (some (g, cap))) : Enc w N μ (.map (some g)) (.mr d v)
structure Ob where
  v : Nat
  sz : Nat
  ty : TypeId
  es : List V
def get {α : Type} : List (Nat × α) → Nat → Option α
  | [], _ => none
  | (k, x) :: r, t => if k = t then some x else get r t
structure AS where
  env : List (Nat × V)
  objs : List (Nat × Ob)
  nx : Nat
  nt : Nat
structure Bs where
  w : World
  X : Nat → Prop
  M : Mu
  df : List Deferred
def Bs.free (B : Bs) (g : Nat) : Prop := B.w.heap.size ≤ g ∨ B.X g
structure Bs.Below (B : Bs) (w' : World) : Prop where
  os : w'.os = B.w.os
  tape : w'.tape = B.w.tape
  output : w'.output = B.w.output
  size : B.w.heap.size ≤ w'.heap.size
  block : ∀ k, k < B.w.heap.size → ¬ B.X k → w'.heap[k]? = B.w.heap[k]?
theorem Bs.Below.refl (B : Bs) : B.Below B.w := ⟨rfl, rfl, rfl, Nat.le_refl _, fun _ _ _ => rfl⟩
theorem Bs.Below.trans {B : Bs} {a c : World} (h : B.Below a) (k : Go.RowKit.Below B.w.heap.size a c) : B.Below c :=
  ⟨k.os.trans h.os, k.tape.trans h.tape, k.output.trans h.output, Nat.le_trans h.size k.size, fun i hi hx => (k.block i hi).trans (h.block i hi hx)⟩
theorem Bs.Below.alloc {B : Bs} {w : World} (h : B.Below w) (hB : B.w.heap.size ≤ w.heap.size) (o : Obj) : B.Below (w.alloc o) :=
  h.trans ((Go.RowKit.Below.refl _ _).alloc hB o)
theorem Bs.Below.drew {B : Bs} {w : World} (h : B.Below w) : B.Below w.drew := ⟨h.os, h.tape, h.output, h.size, h.block⟩
theorem Bs.Below.grown {B : Bs} {w w' : World} {row : Option Nat} (h : B.Below w) (hg : w.grownBy w' row) (hB : B.w.heap.size ≤ w.heap.size) (hr : ∀ k, row = some k → B.free k) : B.Below w' :=
  ⟨hg.os.trans h.os, hg.tape.trans h.tape, hg.output.trans h.output, Nat.le_trans h.size hg.size, fun k hk hx =>
    (hg.block k (by omega) (fun e => by rcases hr k e.symm with h | h; omega; exact hx h)).trans (h.block k hk hx)⟩
theorem Bs.Below.plain {w w' : World} (h : (Bs.mk w (fun _ => False) (fun _ _ => none) []).Below w') : Go.RowKit.Below w.heap.size w w' := ⟨h.os, h.tape, h.output, h.size, fun k hk => h.block k hk (fun h => h)⟩
def ObEnc (w : World) (N : Nat → Prop) (μ : Mu) (base : Bs) (o : Ob) : Option (Nat × Nat) → Prop
  | none => o.es = []
  | some (g, cap) => base.free g ∧ o.es.length ≤ cap ∧ cap ≤ maxLen ∧ (∀ e ∈ o.es, e.fits o.sz) ∧
      ∃ arr, w.heap[g]? = some (.cells arr o.ty (0, 0)) ∧ arr.size = cap * o.sz ∧
        ∀ (k : Nat) e (j : Nat) c, o.es[k]? = some e → e.cells[j]? = some c → ∃ x, arr[k * o.sz + j]? = some x ∧ Enc w N μ x c
def Own (N0 : Nat → Prop) (μ : Mu) (S : AS) (b : Nat) : Prop := N0 b ∨ ∃ d o cap, get S.objs d = some o ∧ μ d o.v = some (some (b, cap))
structure RelM (D : Nat → Prop) (w0 : Bs) (N0 : Nat → Prop) (μ : Mu) (S : AS) (a : Act) (w : World) : Prop where
  defers : a.defers = w0.df
  size : a.tmps.size = S.nt
  below : w0.Below w
  n0 : (∀ b, N0 b → b < w0.w.heap.size ∧ ¬ w0.X b) ∧ ∀ d v l, w0.M d v = some l → μ d v = some l
  fresh : ∀ d v, μ d v ≠ none → v < S.nx ∨ ∃ j, D j ∧ v = S.nx + j
  objs : ∀ d o, get S.objs d = some o → ∃ l, μ d o.v = some l ∧ ObEnc w (Own N0 μ S) μ w0 o l
  inj : ∀ d o d' o' g c c', get S.objs d = some o → get S.objs d' = some o' → μ d o.v = some (some (g, c)) → μ d' o'.v = some (some (g, c')) → d = d'
  env : ∀ t v, get S.env t = some v → t < S.nt ∧ Enc w (Own N0 μ S) μ (a.tmps.getD t undef) v
def RelD (D : Nat → Prop) (w0 : Bs) (N0 : Nat → Prop) (S : AS) (a : Act) (w : World) : Prop := ∃ μ, RelM D w0 N0 μ S a w
def Rel (w0 : Bs) (N0 : Nat → Prop) (S : AS) (a : Act) (w : World) : Prop := RelD (fun _ => False) w0 N0 S a w
theorem Enc.keep {w w' : World} {N N' : Nat → Prop} {μ μ' : Mu} (hk : Keeps w N w') (hN : ∀ b, b < w.heap.size → N' b → N b)
    (hμ : ∀ d v l, μ d v = some l → μ' d v = some l) {x : Value} {v : V} (h : Enc w N μ x v) : Enc w' N' μ' x v := by
  induction h with
  | pur h => exact .pur (h.keep hk hN)
  | slr d v sz len g cap h1 h2 h3 => exact .slr d v sz len g cap (hμ _ _ _ h1) h2 h3
  | slv d v sz A h1 => exact .slv d v sz A (hμ _ _ _ h1)
  | ss d v sz off len g c cap A h2 h3 h4 => exact .ss d v sz off len g c cap A h2 h3 (fun h0 => ⟨hμ _ _ _ (h4 h0).1, (h4 h0).2⟩)
  | bp d v sz k off g cap h1 => exact .bp d v sz k off g cap (hμ _ _ _ h1)
  | agg xs cs hl hc _ ih => exact .agg xs cs hl hc ih
  | tup xs cs hl _ ih => exact .tup xs cs hl ih
  | ifc t x v hc _ ih => exact .ifc t x v hc ih
  | clo f xs ys cs ds hl hm hc _ _ ih ik => exact .clo f xs ys cs ds hl hm hc ih ik
  | whn x b v _ hu ih => exact .whn x b v ih hu
  | mr d v g cap h1 => exact .mr d v g cap (hμ _ _ _ h1)
theorem Enc.cell_oneCell {w : World} {N : Nat → Prop} {μ : Mu} {x : Value} {v : V} (h : Enc w N μ x v) (hc : v.isCell = true) : x.oneCell' = true := by
  cases h with
  | pur h => exact h.cell_oneCell hc
  | agg => simp [V.isCell] at hc
  | tup => simp [V.isCell] at hc
  | whn => simp [V.isCell] at hc
  | mr => simp [V.isCell] at hc
  | _ => rfl
theorem Enc.cells_one {w : World} {N : Nat → Prop} {μ : Mu} {x : Value} {v : V} (h : Enc w N μ x v) (hc : v.isCell = true) : x.cells = #[x] := by
  have := h.cell_oneCell hc
  cases x <;> first | rfl | simp [Value.oneCell'] at this
theorem V.cells_one {v : V} (hc : v.isCell = true) : v.cells = [v] := by cases v <;> first | rfl | simp [V.isCell] at hc
theorem Enc.cells_at {w : World} {N : Nat → Prop} {μ : Mu} {x : Value} {v : V} {sz : Nat} (h : Enc w N μ x v) (hv : v.fits sz) :
    x.cells.size = sz ∧ ∀ (i : Nat) c, v.cells[i]? = some c → ∃ y, x.cells[i]? = some y ∧ Enc w N μ y c ∧ y.oneCell' = true := by
  obtain ⟨h1, h2⟩ := hv
  by_cases hc : v.isCell = true
  · rw [V.cells_one hc] at h1 ⊢
    rw [h.cells_one hc]
    refine ⟨by simpa using h1, fun i c hi => ?_⟩
    rcases i with _ | i
    · simp only [List.getElem?_cons_zero, Option.some.injEq] at hi
      subst hi
      exact ⟨x, by simp, h, h.cell_oneCell hc⟩
    · simp at hi
  · cases v with
    | agg cs =>
      have key : ∀ (xs : List Value), xs.length = cs.length → (∀ (i : Nat) x c, xs[i]? = some x → cs[i]? = some c → Enc w N μ x c) → (∀ c ∈ cs, c.isCell = true) →
          (Value.agg xs.toArray).cells.size = sz ∧ ∀ (i : Nat) c, cs[i]? = some c → ∃ y, (Value.agg xs.toArray).cells[i]? = some y ∧ Enc w N μ y c ∧ y.oneCell' = true := by
        intro xs hl hx hcs
        refine ⟨by simpa [Value.cells, V.cells, hl] using h1, fun i c hi => ?_⟩
        have hi' : i < xs.length := by rw [hl]; exact (List.getElem?_eq_some_iff.1 hi).1
        have he := hx i xs[i] c (List.getElem?_eq_getElem hi') hi
        exact ⟨xs[i], by simp [Value.cells, hi'], he, he.cell_oneCell (hcs c (List.mem_of_getElem? hi))⟩
      cases h with
      | pur h =>
        cases h with
        | agg xs _ hl hcs hh => exact key xs hl (fun i x c h3 h4 => .pur (hh i x c h3 h4)) hcs
      | agg xs _ hl hcs hh => exact key xs hl hh hcs
    | tup vs => exact absurd (h2 (.tup vs) (by simp [V.cells])) (by simp [V.isCell])
    | whn b v => exact absurd (h2 (.whn b v) (by simp [V.cells])) (by simp [V.isCell])
    | mp b k m => exact absurd (h2 (.mp b k m) (by simp [V.cells])) (by simp [V.isCell])
    | rm b k m => exact absurd (h2 (.rm b k m) (by simp [V.cells])) (by simp [V.isCell])
    | mr d v => exact absurd (h2 (.mr d v) (by simp [V.cells])) (by simp [V.isCell])
    | fc f us vs => exact absurd (h2 (.fc f us vs) (by simp [V.cells])) hc
    | _ => simp [V.isCell] at hc
theorem get_cons {α : Type} (k : Nat) (x : α) (r : List (Nat × α)) (t : Nat) : get ((k, x) :: r) t = if k = t then some x else get r t := rfl
theorem tmps_put (a : Act) (d : Nat) (x : Value) (t : Nat) (hd : d < a.tmps.size) : (a.put (some d) x).tmps.getD t undef = if d = t then x else a.tmps.getD t undef := by
  simp only [Act.put, Array.getD_eq_getD_getElem?, Array.getElem?_setIfInBounds]
  by_cases h : d = t
  · subst h; simp [hd]
  · simp [h]
section
variable {D : Nat → Prop} {w0 : Bs} {w : World} {N0 : Nat → Prop} {μ : Mu} {S : AS} {a : Act}
theorem RelM.put (h : RelM D w0 N0 μ S a w) {d : Nat} {x : Value} {v : V} (hd : d < S.nt) (he : Enc w (Own N0 μ S) μ x v) :
    RelM D w0 N0 μ { S with env := (d, v) :: S.env } (a.put (some d) x) w := by
  refine ⟨h.defers, by simp [Act.put, h.size], h.below, h.n0, h.fresh, h.objs, h.inj, fun t u hu => ?_⟩
  rw [tmps_put a d x t (by rw [h.size]; exact hd)]
  rw [get_cons] at hu
  by_cases hdt : d = t
  · subst hdt
    simp only [if_true, Option.some.injEq] at hu
    subst hu
    simp only [if_true]
    exact ⟨hd, he⟩
  · simp only [hdt, if_false] at hu ⊢
    exact h.env t u hu
theorem RelM.more (h : RelM D w0 N0 μ S a w) {D' : Nat → Prop} (hD : ∀ j, D j → D' j) : RelM D' w0 N0 μ S a w :=
  ⟨h.defers, h.size, h.below, h.n0, fun d v hv => (h.fresh d v hv).imp id (fun ⟨j, hj, e⟩ => ⟨j, hD j hj, e⟩), h.objs, h.inj, h.env⟩
theorem RelM.block_lt (h : RelM D w0 N0 μ S a w) {d : Nat} {o : Ob} {g c : Nat} (hd : get S.objs d = some o) (hm : μ d o.v = some (some (g, c))) : g < w.heap.size := by
  obtain ⟨l, hl, hob⟩ := h.objs d o hd
  rw [hm] at hl
  injection hl with hl
  subst hl
  obtain ⟨_, _, _, _, arr, harr, _⟩ := hob
  exact (Array.getElem?_eq_some_iff.1 harr).1
theorem RelM.drew (h : RelM D w0 N0 μ S a w) : RelM D w0 N0 μ S a w.drew := by
  have hk : Keeps w (Own N0 μ S) w.drew := ⟨Nat.le_refl _, fun _ _ _ => rfl⟩
  refine ⟨h.defers, h.size, h.below.drew, h.n0, h.fresh, fun d o hd => ?_, h.inj, fun t u hu => ⟨(h.env t u hu).1, (h.env t u hu).2.keep hk (fun _ _ hb => hb) (fun _ _ _ hh => hh)⟩⟩
  obtain ⟨l, hl, hob⟩ := h.objs d o hd
  refine ⟨l, hl, ?_⟩
  cases l with
  | none => exact hob
  | some gc =>
    obtain ⟨h1, h2, h3, h4, arr, h5, h6, h7⟩ := hob
    exact ⟨h1, h2, h3, h4, arr, h5, h6, fun k e j c he hj => by
      obtain ⟨x, hx, hex⟩ := h7 k e j c he hj
      exact ⟨x, hx, hex.keep hk (fun _ _ hb => hb) (fun _ _ _ hh => hh)⟩⟩
theorem ObEnc.keep {w w' : World} {N N' : Nat → Prop} {μ μ' : Mu} {base : Bs} {o : Ob} {l : Option (Nat × Nat)} (h : ObEnc w N μ base o l) (hk : Keeps w N w') (hN : ∀ b, b < w.heap.size → N' b → N b)
    (hμ : ∀ d v l, μ d v = some l → μ' d v = some l) (hb : ∀ g c, l = some (g, c) → w'.heap[g]? = w.heap[g]?) : ObEnc w' N' μ' base o l := by
  cases l with
  | none => exact h
  | some gc =>
    obtain ⟨g, cap⟩ := gc
    obtain ⟨h1, h2, h3, h4, arr, h5, h6, h7⟩ := h
    exact ⟨h1, h2, h3, h4, arr, (hb g cap rfl).trans h5, h6, fun k e j c he hj => by
      obtain ⟨x, hx, hex⟩ := h7 k e j c he hj
      exact ⟨x, hx, hex.keep hk hN hμ⟩⟩
theorem RelM.update (h : RelM D w0 N0 μ S a w) {D' : Nat → Prop} {d : Nat} {o' : Ob} {l' : Option (Nat × Nat)} {w' : World} {μ' : Mu}
    (hμ : ∀ d v l, μ d v = some l → μ' d v = some l) (hfresh : ∀ d v, μ' d v ≠ none → v < S.nx ∨ ∃ j, D' j ∧ v = S.nx + j) (hd : μ' d o'.v = some l')
    (hbelow : w0.Below w') (hkeep : Keeps w (Own N0 μ S) w')
    (hothers : ∀ d1 o1 g c, d1 ≠ d → get S.objs d1 = some o1 → μ d1 o1.v = some (some (g, c)) → w'.heap[g]? = w.heap[g]?)
    (hnew : ∀ g c, l' = some (g, c) → w.heap.size ≤ g ∨ ∃ o c0, get S.objs d = some o ∧ μ d o.v = some (some (g, c0)))
    (hob : ∀ N', (∀ b, b < w.heap.size → N' b → Own N0 μ S b) → ObEnc w' N' μ' w0 o' l') :
    RelM D' w0 N0 μ' { S with objs := (d, o') :: S.objs } a w' ∧ ∀ b, b < w.heap.size → Own N0 μ' { S with objs := (d, o') :: S.objs } b → Own N0 μ S b := by
  have hsame : ∀ d1 o1, get S.objs d1 = some o1 → μ' d1 o1.v = μ d1 o1.v := by
    intro d1 o1 h1
    obtain ⟨l, hl, _⟩ := h.objs d1 o1 h1
    rw [hμ _ _ _ hl, hl]
  have hsub : ∀ b, b < w.heap.size → Own N0 μ' { S with objs := (d, o') :: S.objs } b → Own N0 μ S b := by
    rintro b hb (h0 | ⟨d1, o1, c, h1, h2⟩)
    · exact .inl h0
    · simp only [get_cons] at h1
      by_cases e : d = d1
      · subst e
        simp only [if_true, Option.some.injEq] at h1
        subst h1
        rw [hd] at h2
        injection h2 with h2
        rcases hnew _ _ h2 with h3 | ⟨o, c0, h3, h4⟩
        · omega
        · exact .inr ⟨d, o, c0, h3, h4⟩
      · simp only [e, if_false] at h1
        rw [hsame d1 o1 h1] at h2
        exact .inr ⟨d1, o1, c, h1, h2⟩
  refine ⟨⟨h.defers, h.size, hbelow, ⟨h.n0.1, fun d v l hl => hμ _ _ _ (h.n0.2 d v l hl)⟩, hfresh, fun d1 o1 h1 => ?_, fun d1 o1 d2 o2 g c c' h1 h2 h3 h4 => ?_, fun t u hu => ⟨(h.env t u hu).1, (h.env t u hu).2.keep hkeep hsub hμ⟩⟩, hsub⟩
  · simp only [get_cons] at h1
    by_cases e : d = d1
    · subst e
      simp only [if_true, Option.some.injEq] at h1
      subst h1
      exact ⟨l', hd, hob _ hsub⟩
    · simp only [e, if_false] at h1
      obtain ⟨l, hl, ho⟩ := h.objs d1 o1 h1
      refine ⟨l, hμ _ _ _ hl, ho.keep hkeep hsub hμ (fun g c hgc => hothers d1 o1 g c (Ne.symm e) h1 (by rw [hl, hgc]))⟩
  · simp only [get_cons] at h1 h2
    by_cases e1 : d = d1 <;> by_cases e2 : d = d2
    · rw [← e1, ← e2]
    · subst e1
      simp only [if_true, Option.some.injEq] at h1
      simp only [e2, if_false] at h2
      subst h1
      rw [hd] at h3
      injection h3 with h3
      rw [hsame d2 o2 h2] at h4
      rcases hnew _ _ h3 with h5 | ⟨o, c0, h5, h6⟩
      · have := h.block_lt h2 h4
        omega
      · exact h.inj _ _ _ _ _ _ _ h5 h2 h6 h4
    · subst e2
      simp only [if_true, Option.some.injEq] at h2
      simp only [e1, if_false] at h1
      subst h2
      rw [hd] at h4
      injection h4 with h4
      rw [hsame d1 o1 h1] at h3
      rcases hnew _ _ h4 with h5 | ⟨o, c0, h5, h6⟩
      · have := h.block_lt h1 h3
        omega
      · exact h.inj _ _ _ _ _ _ _ h1 h5 h3 h6
    · simp only [e1, if_false] at h1
      simp only [e2, if_false] at h2
      rw [hsame d1 o1 h1] at h3
      rw [hsame d2 o2 h2] at h4
      exact h.inj _ _ _ _ _ _ _ h1 h2 h3 h4
def muSet (μ : Mu) (d v : Nat) (l : Option (Nat × Nat)) : Mu := fun d1 v1 => if d1 = d ∧ v1 = v then some l else μ d1 v1
theorem muSet_same (μ : Mu) (d v : Nat) (l : Option (Nat × Nat)) : muSet μ d v l d v = some l := by simp [muSet]
theorem RelM.fresh_at (h : RelM D w0 N0 μ S a w) {i : Nat} (hi : ¬ D i) (d : Nat) : μ d (S.nx + i) = none := by
  cases hm : μ d (S.nx + i) with
  | none => rfl
  | some l =>
    rcases h.fresh d (S.nx + i) (by rw [hm]; simp) with h1 | ⟨j, hj, e⟩
    · omega
    · have : i = j := by omega
      subst this
      exact absurd hj hi
theorem RelM.muSet_mono (h : RelM D w0 N0 μ S a w) {i : Nat} (hi : ¬ D i) (d : Nat) (l : Option (Nat × Nat)) : ∀ d1 v1 l1, μ d1 v1 = some l1 → muSet μ d (S.nx + i) l d1 v1 = some l1 := by
  intro d1 v1 l1 h1
  unfold muSet
  by_cases e : d1 = d ∧ v1 = S.nx + i
  · rw [e.1, e.2, h.fresh_at hi d] at h1
    cases h1
  · rw [if_neg e]; exact h1
theorem RelM.muSet_fresh (h : RelM D w0 N0 μ S a w) (i d : Nat) (l : Option (Nat × Nat)) : ∀ d1 v1, muSet μ d (S.nx + i) l d1 v1 ≠ none → v1 < S.nx ∨ ∃ j, (D j ∨ j = i) ∧ v1 = S.nx + j := by
  intro d1 v1 h1
  unfold muSet at h1
  by_cases e : d1 = d ∧ v1 = S.nx + i
  · exact .inr ⟨i, .inr rfl, e.2⟩
  · rw [if_neg e] at h1
    exact (h.fresh d1 v1 h1).imp id (fun ⟨j, hj, e⟩ => ⟨j, .inl hj, e⟩)
theorem RelM.alloc (h : RelM D w0 N0 μ S a w) {i : Nat} (hi : ¬ D i) (d : Nat) (arr : Array Value) (ty : TypeId) (sz cap : Nat) (es : List V)
    (hsz : arr.size = cap * sz) (hes : es.length ≤ cap) (hcap : cap ≤ maxLen) (hfit : ∀ e ∈ es, e.fits sz)
    (hcells : ∀ (k : Nat) e (j : Nat) c, es[k]? = some e → e.cells[j]? = some c → ∃ x, arr[k * sz + j]? = some x ∧ Enc w (Own N0 μ S) μ x c) :
    RelM (fun j => D j ∨ j = i) w0 N0 (muSet μ d (S.nx + i) (some (w.heap.size, cap))) { S with objs := (d, ⟨S.nx + i, sz, ty, es⟩) :: S.objs } a (w.alloc (.cells arr ty)) := by
  have hmono := h.muSet_mono hi d (some (w.heap.size, cap))
  have hk : Keeps w (Own N0 μ S) (w.alloc (.cells arr ty)) := Keeps.alloc w _ _
  refine (h.update (D' := fun j => D j ∨ j = i) (o' := ⟨S.nx + i, sz, ty, es⟩) (l' := some (w.heap.size, cap)) hmono (h.muSet_fresh i d _) (muSet_same _ _ _ _) (h.below.alloc h.below.size _) hk
    (fun d1 o1 g c _ h1 h2 => Below.heap_alloc w _ g (h.block_lt h1 h2)) (fun g c e => ?_) (fun N' hN => ?_)).1
  · simp only [Option.some.injEq, Prod.mk.injEq] at e
    exact .inl (by omega)
  · refine ⟨.inl h.below.size, hes, hcap, hfit, arr, heap_alloc_new w _, hsz, fun k e j c he hj => ?_⟩
    obtain ⟨x, hx, hex⟩ := hcells k e j c he hj
    exact ⟨x, hx, hex.keep hk hN hmono⟩
end
def AS.le (S S' : AS) : Prop := ∀ w0 N0 a w, Rel w0 N0 S a w → Rel w0 N0 S' a w
end Go.Eng

namespace Go.Eng
open Go.RowKit
def tsz (P : Program) (t : TypeId) : Option Nat := (P.info? t).map (·.size)
def tagg (P : Program) (t : TypeId) : Option Bool := (P.underlying t).map fun | .struct _ | .array _ _ => true | _ => false
def telem (P : Program) (t : TypeId) : Option TypeId := match P.underlying t with | some (.slice e) => some e | _ => none
def tarr (P : Program) (t : TypeId) : Option (Nat × Nat) := match P.underlying t with | some (.array n e) => (tsz P e).map fun z => (n, z) | _ => none
def tint (P : Program) (t : TypeId) : Option IntKind := match P.underlying t with | some (.int k) => some k | _ => none
def tstr (P : Program) (t : TypeId) : Bool := match P.underlying t with | some .string => true | _ => false
def tfield (P : Program) (t f : Nat) : Option (Nat × Nat × Bool) :=
  match P.underlying t with
  | some (.struct fs) => match fs[f]? with
    | some fd => match tsz P fd.type, tagg P fd.type with
      | some n, some g => if n = 0 then none else some (fd.offset, n, g)
      | _, _ => none
    | none => none
  | _ => none
def constV : Value → Option V
  | .bool b => some (.bool b)
  | .int k n => some (.int k n)
  | .string s => some (.str s.data.toList)
  | .slice none 0 0 => some .nils
  | .pointer none => some .nilp
  | .nilIface => some .nili
  | .nilFunc => some .nilf
  | _ => none
def zeroOf : Value → Option V
  | .agg cs => (cs.toList.mapM constV).map .agg
  | v => constV v
def tzero (P : Program) (t : TypeId) : Option V := (P.info? t).bind fun i => i.zero.bind zeroOf
theorem constV_cell {x : Value} {v : V} (h : constV x = some v) : v.isCell = true := by
  unfold constV at h
  split at h <;> first | (injection h with h; subst h; rfl) | cases h
theorem constV_pur {x : Value} {v : V} (h : constV x = some v) (w : World) (N : Nat → Prop) : Pur w N x v := by
  unfold constV at h
  split at h <;> first | (injection h with h; subst h) | cases h
  · exact .bool _
  · exact .int _ _
  · exact .str _
  · exact .nils _
  · exact .nilp
  · exact .nili
  · exact .nilf
theorem mapM_some {α β : Type} {f : α → Option β} : ∀ {l : List α} {r : List β}, l.mapM f = some r → r.length = l.length ∧ ∀ (i : Nat) x y, l[i]? = some x → r[i]? = some y → f x = some y
  | [], r, h => by simp at h; subst h; simp
  | x :: l, r, h => by
    simp only [List.mapM_cons, Option.bind_eq_bind, Option.bind_eq_some_iff, Option.pure_def, Option.some.injEq] at h
    obtain ⟨y, hy, r', hr, rfl⟩ := h
    obtain ⟨h1, h2⟩ := mapM_some hr
    refine ⟨by simp [h1], fun i a b ha hb => ?_⟩
    rcases i with _ | i
    · simp at ha hb; subst ha; subst hb; exact hy
    · simp at ha hb; exact h2 i a b ha hb
theorem zeroOf_pur {x : Value} {v : V} (h : zeroOf x = some v) (w : World) (N : Nat → Prop) : Pur w N x v := by
  unfold zeroOf at h
  split at h
  · rename_i cs
    simp only [Option.map_eq_some_iff] at h
    obtain ⟨r, hr, rfl⟩ := h
    obtain ⟨h1, h2⟩ := mapM_some hr
    have hcs : cs = cs.toList.toArray := by simp
    rw [hcs]
    refine .agg cs.toList r h1.symm (fun c hc => ?_) (fun i x c hx hc => constV_pur (h2 i x c hx hc) w N)
    obtain ⟨i, hi⟩ := List.getElem?_of_mem hc
    have hlt : i < cs.toList.length := by rw [← h1]; exact (List.getElem?_eq_some_iff.1 hi).1
    exact constV_cell (h2 i _ c (List.getElem?_eq_getElem hlt) hi)
  · exact constV_pur h w N
def AS.ev (S : AS) : Operand → Option V
  | .tmp t => get S.env t
  | .const c => constV c
  | .func f => some (.fn f)
  | .global _ => none
def V.part (e : V) (off n : Nat) (g : Bool) : Option V :=
  if off + n ≤ e.cells.length then (if g then some (.agg ((e.cells.drop off).take n)) else if n = 1 then e.cells[off]? else none) else none
section
variable {D : Nat → Prop} {w0 : Bs} {w : World} {N0 : Nat → Prop} {μ : Mu} {S : AS} {a : Act} {P : Program}
theorem RelM.ev (h : RelM D w0 N0 μ S a w) {x : Operand} {v : V} (hx : S.ev x = some v) : Enc w (Own N0 μ S) μ (a.eval x) v := by
  cases x with
  | tmp t => exact (h.env t v hx).2
  | const c => exact .pur (constV_pur hx _ _)
  | global g => cases hx
  | func f => simp only [AS.ev, Option.some.injEq] at hx; subst hx; exact .pur (.fn f)
theorem run_loadVar {N : Nat → Prop} {t : TypeId} {ad : Addr} {e r : V} {off n sz : Nat} {g : Bool} (hn : tsz P t = some n) (hg : tagg P t = some g) (hf : e.fits sz)
    (hc : ∀ (j : Nat) c, e.cells[j]? = some c → ∃ x, w.cell? (ad.add j) = some x ∧ Enc w N μ x c) (hp : e.part off n g = some r) :
    ∃ x, (loadVar t (ad.add off)).run P w = .ok x w ∧ Enc w N μ x r := by
  unfold V.part at hp
  split at hp
  case isFalse => cases hp
  rename_i hlen
  unfold tsz at hn
  obtain ⟨i, hi, rfl⟩ := Option.map_eq_some_iff.1 hn
  unfold tagg at hg
  obtain ⟨de, hde, hg⟩ := Option.map_eq_some_iff.1 hg
  have hagg : (isAgg t).run P w = .ok g w := by
    simp only [isAgg, Sem.run_bind, run_underlying hde, Result.andThen_ok]
    subst hg
    cases de <;> rfl
  cases g with
  | true =>
    simp only [if_true, Option.some.injEq] at hp
    subst hp
    have hx : ∀ j, j < i.size → ∃ x, w.cell? ((ad.add off).add j) = some x ∧ ∃ c, e.cells[off + j]? = some c ∧ Enc w N μ x c := by
      intro j hj
      have hlt : off + j < e.cells.length := by omega
      obtain ⟨x, hx, hex⟩ := hc (off + j) _ (List.getElem?_eq_getElem hlt)
      exact ⟨x, by rw [add_add']; exact hx, _, List.getElem?_eq_getElem hlt, hex⟩
    let f : Nat → Value := fun j => (w.cell? ((ad.add off).add j)).getD undef
    have hf' : ∀ j, j < i.size → w.cell? ((ad.add off).add j) = some (f j) := by
      intro j hj
      obtain ⟨x, hx, _⟩ := hx j hj
      simp only [f, hx, Option.getD_some]
    refine ⟨.agg ((List.range i.size).map f).toArray, ?_, .agg _ _ (by simp; omega) (fun c hc => ?_) (fun j x c h1 h2 => ?_)⟩
    · simp only [loadVar, Sem.run_bind, hagg, Result.andThen_ok, if_true, sizeOf, typeInfo, run_program, hi, Sem.run_pure, run_loadCells w (ad.add off) i.size f hf']
    · exact hf.2 c (List.mem_of_mem_drop (List.mem_of_mem_take hc))
    · have hj : j < i.size := by have := (List.getElem?_eq_some_iff.1 h1).1; simpa using this
      obtain ⟨y, hy, c', hc', hey⟩ := hx j hj
      rw [hf' j hj] at hy
      simp only [List.getElem?_map, List.getElem?_range hj, Option.map_some, Option.some.injEq] at h1
      rw [List.getElem?_take_of_lt hj, List.getElem?_drop, hc'] at h2
      injection hy with hy
      injection h2 with h2
      subst h1; subst h2
      rw [hy]; exact hey
  | false =>
    simp only [Bool.false_eq_true, if_false] at hp
    split at hp
    case isFalse => cases hp
    obtain ⟨x, hx, hex⟩ := hc off r hp
    refine ⟨x, ?_, hex⟩
    simp only [loadVar, Sem.run_bind, hagg, Result.andThen_ok, Bool.false_eq_true, if_false, run_load, hx]
def AS.place (S : AS) : V → Option (V × Nat)
  | .rp e => some (e, 0)
  | .bp d v sz k off => match get S.objs d with
    | some o => if o.v = v ∧ o.sz = sz then (match nth o.es k with | some e => some (e, off) | none => none) else none
    | none => none
  | _ => none
theorem RelM.place (h : RelM D w0 N0 μ S a w) {x : Value} {p e : V} {off : Nat} (hp : S.place p = some (e, off)) (hx : Enc w (Own N0 μ S) μ x p) :
    ∃ ad sz, x = .pointer (some (Addr.add ad off)) ∧ e.fits sz ∧ ∀ (j : Nat) c, e.cells[j]? = some c → ∃ y, w.cell? (ad.add j) = some y ∧ Enc w (Own N0 μ S) μ y c := by
  cases p <;> simp only [AS.place] at hp <;> try (cases hp; done)
  case rp e0 =>
    simp only [Option.some.injEq, Prod.mk.injEq] at hp
    obtain ⟨rfl, rfl⟩ := hp
    cases hx with
    | pur hx =>
      cases hx with
      | rp ad sz _ g hb hN hf hc hh => exact ⟨ad, sz, by simp [Addr.add], hf, fun j c hj => ⟨g j, hc j c hj, .pur (hh j c hj)⟩⟩
  case bp d v sz k off0 =>
    split at hp
    case h_2 => cases hp
    rename_i o ho
    split at hp
    case isFalse => cases hp
    rename_i hv
    obtain ⟨rfl, rfl⟩ := hv
    split at hp
    case h_2 => cases hp
    rename_i e1 he1
    rw [nth_eq] at he1
    simp only [Option.some.injEq, Prod.mk.injEq] at hp
    obtain ⟨rfl, rfl⟩ := hp
    cases hx with
    | pur hx => cases hx
    | bp _ _ _ _ _ g cap hm =>
      obtain ⟨l, hl, hob⟩ := h.objs d o ho
      rw [hm] at hl
      injection hl with hl
      subst hl
      obtain ⟨_, _, _, h4, arr, h5, h6, h7⟩ := hob
      refine ⟨⟨g, k * o.sz, none⟩, o.sz, by rw [Addr.add_lit], h4 _ (List.mem_of_getElem? he1), fun j c hj => ?_⟩
      obtain ⟨y, hy, hey⟩ := h7 k e1 j c he1 hj
      exact ⟨y, by rw [Addr.add_lit, cell_of_row w g _ arr o.ty (0, 0) h5]; exact hy, hey⟩
def imp (c b : Bool) : Bool := !c || b
@[simp] theorem imp_self (c : Bool) : imp c c = true := by cases c <;> rfl
@[simp] theorem imp_of_false (b : Bool) : imp false b = true := rfl
@[simp] theorem imp_of_true (b : Bool) : imp true b = b := rfl
def AS.evc (S : AS) (c : Bool) (x : Operand) : Option V :=
  match S.ev x with
  | some (.whn b v) => if imp c b = true then some v else none
  | r => r
theorem RelM.evc (h : RelM D w0 N0 μ S a w) {c : Bool} {x : Operand} {v : V} (hx : S.evc c x = some v) (hc : c = true) : Enc w (Own N0 μ S) μ (a.eval x) v := by
  unfold AS.evc at hx
  split at hx
  · rename_i b v' hv
    split at hx
    · rename_i hb
      injection hx with hx
      subst hx
      subst hc
      have hb' : b = true := by simpa [imp] using hb
      have := h.ev hv
      generalize a.eval x = y at this
      cases this with
      | pur hp => cases hp
      | whn _ _ _ hh _ => exact hh hb'
    · cases hx
  · exact h.ev hx
def aint (op : BinOp) (k : IntKind) (a b : Int) : Option V :=
  match op with
  | .add => some (.int k (k.wrap (a + b)))
  | .sub => some (.int k (k.wrap (a - b)))
  | .mul => some (.int k (k.wrap (a * b)))
  | .quo => if b = 0 then none else some (.int k (k.wrap (a.tdiv b)))
  | .rem => if b = 0 then none else some (.int k (a.tmod b))
  | .and => some (.int k (bits .and k a b))
  | .or => some (.int k (bits .or k a b))
  | .xor => some (.int k (bits .xor k a b))
  | .andNot => some (.int k (bits .andNot k a b))
  | .eql => some (.bool (decide (a = b)))
  | .neq => some (.bool (!decide (a = b)))
  | .lss => some (.bool (decide (a < b)))
  | .leq => some (.bool (decide (a ≤ b)))
  | .gtr => some (.bool (decide (b < a)))
  | .geq => some (.bool (decide (b ≤ a)))
  | _ => none
def ashift (op : BinOp) (k : IntKind) (a b : Int) : Option V :=
  if b < 0 then none else
  match op with
  | .shl => some (.int k (k.wrap (a * 2 ^ min b.toNat k.bits)))
  | .shr => some (.int k (a.fdiv (2 ^ min b.toNat k.bits)))
  | _ => none
def astr (op : BinOp) (a b : List UInt8) : Option V :=
  match op with
  | .add => if a.length + b.length ≤ 9223372036854775807 then some (.str (a ++ b)) else none
  | .eql => some (.bool (decide (a = b)))
  | .neq => some (.bool (!decide (a = b)))
  | .lss => some (.bool (Op.bytesLess a b))
  | .leq => some (.bool (Op.bytesLess a b || decide (a = b)))
  | .gtr => some (.bool (!(Op.bytesLess a b || decide (a = b))))
  | .geq => some (.bool (!Op.bytesLess a b))
  | _ => none
def isShift : BinOp → Bool
  | .shl | .shr => true
  | _ => false
def tbool (P : Program) (t : TypeId) : Bool := match P.underlying t with | some .bool => true | _ => false
def fkind (P : Program) (t : TypeId) : Option Nat := match P.underlying t with
  | some (.int _) => some 0
  | some .bool => some 1
  | some .string => some 2
  | _ => none
def fkinds (P : Program) : Nat → List Field → Option (List Nat)
  | _, [] => some []
  | k, f :: fs => match fkind P f.type, fkinds P (k + 1) fs with
    | some q, some qs => if f.offset = k ∧ f.name ≠ "_" then some (q :: qs) else none
    | _, _ => none
def tflat (P : Program) (t : TypeId) : Option (List Nat) := match P.underlying t with
  | some (.struct fs) => if P.stoodInHeld t = false ∧ P.eqGuardType P.depth t = false then fkinds P 0 fs.toList else none
  | _ => none
def eqC : Nat → V → V → Option Bool
  | 0, .int k a, .int k' b => if k = k' then some (decide (a = b)) else none
  | 1, .bool a, .bool b => some (a == b)
  | 2, .str a, .str b => some (decide (a = b))
  | _, _, _ => none
def eqL : List Nat → List V → List V → Option Bool
  | [], [], [] => some true
  | q :: qs, x :: xs, y :: ys => match eqC q x y, eqL qs xs ys with
    | some p, some r => some (p && r)
    | _, _ => none
  | _, _, _ => none
def abin (P : Program) (t : TypeId) (op : BinOp) : V → V → Option V
  | .agg as, .agg bs => match tflat P t with
    | some qs => match eqL qs as bs with
      | some r => (match op with | .eql => some (.bool r) | .neq => some (.bool (!r)) | _ => none)
      | none => none
    | none => none
  | .int k a, .int k' b => if isShift op = true then ashift op k a b else if k = k' then aint op k a b else none
  | .str a, .str b => astr op a b
  | .bool a, .bool b => if tbool P t = true then (match op with | .eql => some (.bool (a == b)) | .neq => some (.bool (!(a == b))) | _ => none) else none
  | _, _ => none
theorem beq_decide {α : Type} [BEq α] [LawfulBEq α] [DecidableEq α] (a b : α) : (a == b) = decide (a = b) := by
  by_cases h : a = b <;> simp [h]
theorem aint_run {op : BinOp} {k : IntKind} {x y : Int} {r : V} (h : aint op k x y = some r) (hs : isShift op = false) (t : TypeId) (w : World) (N : Nat → Prop) :
    ∃ z, (binOp op t (.int k x) (.int k y)).run P w = .ok z w ∧ Pur w N z r := by
  cases op <;> simp only [aint] at h <;> first | (cases h; done) | (simp [isShift] at hs; done) | (injection h with h; subst h) | skip
  case quo =>
    split at h
    · cases h
    · rename_i hy
      injection h with h; subst h
      exact ⟨_, by simp [binOp_quo, Op.intDiv, hy], .int _ _⟩
  case rem =>
    split at h
    · cases h
    · rename_i hy
      injection h with h; subst h
      exact ⟨_, by simp [binOp_rem, Op.intDiv, hy], .int _ _⟩
  all_goals first
    | exact ⟨_, by rw [binOp_add]; rfl, .int _ _⟩
    | exact ⟨_, by rw [binOp_sub]; rfl, .int _ _⟩
    | exact ⟨_, by rw [binOp_mul]; rfl, .int _ _⟩
    | exact ⟨_, by rw [binOp_and, intBits_and]; rfl, .int _ _⟩
    | exact ⟨_, by rw [binOp_or, intBits_or]; rfl, .int _ _⟩
    | exact ⟨_, by rw [binOp_xor, intBits_xor]; rfl, .int _ _⟩
    | exact ⟨_, by rw [binOp_andNot, intBits_andNot]; rfl, .int _ _⟩
    | exact ⟨_, by rw [binOp_eql, beq_decide]; rfl, .bool _⟩
    | exact ⟨_, by rw [binOp_neq, bne, beq_decide]; rfl, .bool _⟩
    | exact ⟨_, by rw [binOp_lss]; rfl, .bool _⟩
    | exact ⟨_, by rw [binOp_leq]; rfl, .bool _⟩
    | exact ⟨_, by rw [binOp_gtr]; rfl, .bool _⟩
    | exact ⟨_, by rw [binOp_geq]; rfl, .bool _⟩
theorem ashift_run {op : BinOp} {k k' : IntKind} {x y : Int} {r : V} (h : ashift op k x y = some r) (t : TypeId) (w : World) (N : Nat → Prop) :
    ∃ z, (binOp op t (.int k x) (.int k' y)).run P w = .ok z w ∧ Pur w N z r := by
  unfold ashift at h
  split at h
  · cases h
  · rename_i hy
    cases op <;> simp only at h <;> first | (cases h; done) | (injection h with h; subst h)
    · exact ⟨_, by rw [binOp_shl]; simp [Op.shift, hy], .int _ _⟩
    · exact ⟨_, by rw [binOp_shr]; simp [Op.shift, hy], .int _ _⟩
theorem astr_run {op : BinOp} {x y : List UInt8} {r : V} (h : astr op x y = some r) (t : TypeId) (w : World) (N : Nat → Prop) :
    ∃ z, (binOp op t (.string ⟨x.toArray⟩) (.string ⟨y.toArray⟩)).run P w = .ok z w ∧ Pur w N z r := by
  cases op <;> simp only [astr] at h <;> first | (cases h; done) | (injection h with h; subst h) | skip
  case add =>
    split at h
    · rename_i hl
      injection h with h; subst h
      refine ⟨_, ?_, .str _⟩
      rw [binOp_string_add, run_string_add_sum w _ _ (by simpa [ByteArray.size] using hl), ByteArray.mk_append_mk]
    · cases h
  all_goals
    refine ⟨_, ?_, .bool _⟩
    simp [binOp, Op.stringOp, ByteArray.toList_mk, beq_decide]
theorem tbool_underlying {t : TypeId} (h : tbool P t = true) : P.underlying t = some .bool := by
  unfold tbool at h
  split at h
  · assumption
  · cases h
theorem run_eql_bools (t : TypeId) (p q : Bool) (h : P.underlying t = some .bool) : (binOp .eql t (.bool p) (.bool q)).run P w = .ok (.bool (p == q)) w := by
  simp only [binOp, Sem.run_bind, Op.equal, Op.maxDepth, run_equalIn_bool' w 9999 t p q h, Result.andThen_ok, Sem.run_pure]
theorem run_neq_bools (t : TypeId) (p q : Bool) (h : P.underlying t = some .bool) : (binOp .neq t (.bool p) (.bool q)).run P w = .ok (.bool (!(p == q))) w := by
  simp only [binOp, Sem.run_bind, Op.equal, Op.maxDepth, run_equalIn_bool' w 9999 t p q h, Result.andThen_ok, Sem.run_pure]
theorem eqC_run {N : Nat → Prop} {q : Nat} {u v : V} {r : Bool} (h : eqC q u v = some r) {x y : Value} (hx : Enc w N μ x u) (hy : Enc w N μ y v) {t : TypeId} (ht : fkind P t = some q) (d : Nat) :
    (Op.equalIn (d + 1) t x y).run P w = .ok r w ∧ u.isCell = true := by
  unfold fkind at ht
  unfold eqC at h
  split at h
  · cases hx with
    | pur hx =>
    cases hx with
    | int =>
    cases hy with
    | pur hy =>
    cases hy with
    | int =>
    split at h
    · rename_i hk
      subst hk
      injection h with h
      subst h
      split at ht <;> first | (simp at ht; done) | skip
      rename_i k' hu
      exact ⟨by rw [run_equalIn_int w d t _ k' _ _ hu, beq_decide], rfl⟩
    · cases h
  · cases hx with
    | pur hx =>
    cases hx with
    | bool =>
    cases hy with
    | pur hy =>
    cases hy with
    | bool =>
    injection h with h
    subst h
    split at ht <;> first | (simp at ht; done) | skip
    rename_i hu
    exact ⟨run_equalIn_bool' w d t _ _ hu, rfl⟩
  · cases hx with
    | pur hx =>
    cases hx with
    | str =>
    cases hy with
    | pur hy =>
    cases hy with
    | str =>
    injection h with h
    subst h
    split at ht <;> first | (simp at ht; done) | skip
    rename_i hu
    exact ⟨by rw [run_equalIn_string w d t _ _ hu, ByteArray.toList_mk, ByteArray.toList_mk, beq_decide], rfl⟩
  · cases h
theorem fkind_agg {t q : Nat} (h : fkind P t = some q) (w : World) : (isAgg t).run P w = .ok false w := by
  unfold fkind at h
  split at h <;> first | (cases h; done) | (rename_i hu; simp [isAgg, run_underlying hu])
theorem eqFields_run {N : Nat → Prop} (d : Nat) (xs ys : List Value) : ∀ (fs : List Field) (k : Nat) (qs : List Nat) (as bs : List V) (r : Bool), fkinds P k fs = some qs → eqL qs as bs = some r →
    (∀ (j : Nat) c, as[j]? = some c → ∃ x, xs[k + j]? = some x ∧ Enc w N μ x c) → (∀ (j : Nat) c, bs[j]? = some c → ∃ y, ys[k + j]? = some y ∧ Enc w N μ y c) → (Op.eqFields (d + 1) xs.toArray ys.toArray fs).run P w = .ok r w
  | [], k, qs, as, bs, r, hq, he, _, _ => by
    simp only [fkinds, Option.some.injEq] at hq
    subst hq
    unfold eqL at he
    split at he <;> first | (injection he with he; subst he; rfl) | skip
    · rename_i h1 _ _; cases h1
    · cases he
  | f :: fs, k, qs, as, bs, r, hq, he, hx, hy => by
    simp only [fkinds] at hq
    split at hq
    case h_2 => cases hq
    rename_i q qs' h1 h2
    split at hq
    case isFalse => cases hq
    rename_i hf
    injection hq with hq
    subst hq
    unfold eqL at he
    split at he
    · exact absurd (by assumption : q :: qs' = []) (by simp)
    · rename_i q0 qs0 x0 as0 y0 bs0 h3 
      injection h3 with h3 h4
      subst h3; subst h4
      split at he
      case h_2 => cases he
      rename_i p r' h5 h6
      injection he with he
      subst he
      obtain ⟨x, hx1, hx2⟩ := hx 0 x0 rfl
      obtain ⟨y, hy1, hy2⟩ := hy 0 y0 rfl
      have ih := eqFields_run d xs ys fs (k + 1) qs' as0 bs0 r' h2 h6 (fun j c hj => by have := hx (j + 1) c (by simpa using hj); rwa [show k + (j + 1) = k + 1 + j by omega] at this) (fun j c hj => by have := hy (j + 1) c (by simpa using hj); rwa [show k + (j + 1) = k + 1 + j by omega] at this)
      have hr := (eqC_run (P := P) h5 hx2 hy2 h1 d).1
      have hpx : (part f.type xs.toArray f.offset).run P w = .ok x w := by
        have : xs[f.offset]? = some x := by rw [hf.1]; simpa using hx1
        simp [part, fkind_agg h1, this]
      have hpy : (part f.type ys.toArray f.offset).run P w = .ok y w := by
        have : ys[f.offset]? = some y := by rw [hf.1]; simpa using hy1
        simp [part, fkind_agg h1, this]
      simp only [Op.eqFields, ne_eq, hf.2, not_false_eq_true, if_true, Sem.run_bind, hpx, Result.andThen_ok, hpy, hr]
      cases p
      · rfl
      · simpa using ih
    · cases he
theorem Enc.agg_cells {N : Nat → Prop} {x : Value} {cs : List V} (h : Enc w N μ x (.agg cs)) : ∃ xs : List Value, x = .agg xs.toArray ∧ ∀ (j : Nat) c, cs[j]? = some c → ∃ y, xs[j]? = some y ∧ Enc w N μ y c := by
  have key : ∀ xs : List Value, xs.length = cs.length → (∀ (i : Nat) x c, xs[i]? = some x → cs[i]? = some c → Enc w N μ x c) → ∀ (j : Nat) c, cs[j]? = some c → ∃ y, xs[j]? = some y ∧ Enc w N μ y c := by
    intro xs hl hh j c hj
    have hlt : j < xs.length := by rw [hl]; exact (List.getElem?_eq_some_iff.1 hj).1
    exact ⟨_, List.getElem?_eq_getElem hlt, hh j _ c (List.getElem?_eq_getElem hlt) hj⟩
  cases h with
  | pur h =>
    cases h with
    | agg xs _ hl hc hh => exact ⟨xs, rfl, key xs hl (fun i x c h1 h2 => .pur (hh i x c h1 h2))⟩
  | agg xs _ hl hc hh => exact ⟨xs, rfl, key xs hl hh⟩
theorem abin_run {op : BinOp} {t : TypeId} {u v r : V} (h : abin P t op u v = some r) {x y : Value} {N : Nat → Prop} (hx : Enc w N μ x u) (hy : Enc w N μ y v) (ox oy : Operand) :
    ∃ z, (do eqGuard op t ox oy x y; binOp op t x y : Sem Value).run P w = .ok z w ∧ Pur w N z r := by
  unfold abin at h
  split at h
  · rename_i as bs
    split at h
    case h_2 => cases h
    rename_i qs hqs
    split at h
    case h_2 => cases h
    rename_i r0 hr0
    unfold tflat at hqs
    split at hqs
    case h_2 => cases hqs
    rename_i fs hfs
    split at hqs
    case isFalse => cases hqs
    rename_i hst
    obtain ⟨xs, rfl, hxs⟩ := hx.agg_cells
    obtain ⟨ys, rfl, hys⟩ := hy.agg_cells
    have hff : P.fieldsOf t = fs := by simp [Program.fieldsOf, hfs]
    have hrun : (Op.equalIn 10000 t (.agg xs.toArray) (.agg ys.toArray)).run P w = .ok r0 w := by
      rw [run_equalIn_struct w 9999 t _ _ (by rw [hff]; exact hfs) hst.1, hff]
      exact eqFields_run 9998 xs ys fs.toList 0 qs as bs r0 hqs hr0 (fun j c hj => by simpa using hxs j c hj) (fun j c hj => by simpa using hys j c hj)
    simp only [Sem.run_bind, run_eqGuard_agg w op t ox oy _ _ hst.2, Result.andThen_ok]
    split at h
    · injection h with h; subst h
      exact ⟨_, by rw [run_eql_struct, hrun]; rfl, .bool _⟩
    · injection h with h; subst h
      exact ⟨_, by rw [run_neq_struct, hrun]; rfl, .bool _⟩
    · cases h
  · rename_i k p k' q
    cases hx with
    | pur hx =>
    cases hx with
    | int =>
    cases hy with
    | pur hy =>
    cases hy with
    | int =>
    simp only [Sem.run_bind, eqGuard_at_int, Sem.run_pure, Result.andThen_ok]
    split at h
    · exact ashift_run h t w N
    · rename_i hs
      split at h
      · rename_i hk; subst hk; exact aint_run h (by simpa using hs) t w N
      · cases h
  · cases hx with
    | pur hx =>
    cases hx with
    | str =>
    cases hy with
    | pur hy =>
    cases hy with
    | str =>
    simp only [Sem.run_bind, eqGuard_at_string, Sem.run_pure, Result.andThen_ok]
    exact astr_run h t w N
  · cases hx with
    | pur hx =>
    cases hx with
    | bool p =>
    cases hy with
    | pur hy =>
    cases hy with
    | bool q =>
    split at h
    case isFalse => cases h
    rename_i ht
    have hu := tbool_underlying ht
    simp only [Sem.run_bind, eqGuard_at_bool, Sem.run_pure, Result.andThen_ok]
    cases op <;> simp only at h <;> first | (cases h; done) | (injection h with h; subst h)
    · exact ⟨_, run_eql_bools t _ _ hu, .bool _⟩
    · exact ⟨_, run_neq_bools t _ _ hu, .bool _⟩
  · cases h
def aun (op : UnOp) : V → Option V
  | .bool b => match op with | .not => some (.bool (!b)) | _ => none
  | .int k n => match op with | .neg => some (.int k (k.wrap (0 - n))) | .xor => some (.int k (bits .xor k (if k.signed = true then -1 else k.max) n)) | _ => none
  | _ => none
theorem aun_run {op : UnOp} {u r : V} (h : aun op u = some r) {x : Value} {N : Nat → Prop} (hx : Enc w N μ x u) : ∃ z, (Op.unary op x).run P w = .ok z w ∧ Pur w N z r := by
  unfold aun at h
  split at h
  · cases hx with
    | pur hx =>
    cases hx with
    | bool p =>
    split at h
    · injection h with h; subst h; exact ⟨_, rfl, .bool _⟩
    · cases h
  · cases hx with
    | pur hx =>
    cases hx with
    | int k n =>
    split at h
    · injection h with h; subst h; exact ⟨_, rfl, .int _ _⟩
    · injection h with h; subst h; exact ⟨_, rfl, .int _ _⟩
    · cases h
  · cases h
end
end Go.Eng

namespace Go.Eng
open Go.RowKit
def abounds (n : Nat) : Option V → Option V → Option (Nat × Nat)
  | none, none => some (0, n)
  | some (.int _ l), none => if 0 ≤ l ∧ l ≤ n then some (l.toNat, n) else none
  | none, some (.int _ h) => if 0 ≤ h ∧ h ≤ n then some (0, h.toNat) else none
  | some (.int _ l), some (.int _ h) => if 0 ≤ l ∧ l ≤ h ∧ h ≤ n then some (l.toNat, h.toNat) else none
  | _, _ => none
def afill (place : Nat → Option (Nat × Nat)) (cells : List V) : List (Nat × V) → Option (List V)
  | [] => some cells
  | (i, v) :: rest =>
    match place i with
    | none => none
    | some (off, size) =>
      if v.cells.length = size ∧ off + size ≤ cells.length then afill place (cells.take off ++ v.cells ++ cells.drop (off + size)) rest else none
def tplace (P : Program) (t i : Nat) : Option (Nat × Nat) := (tfield P t i).map fun p => (p.1, p.2.1)
def AS.evs (S : AS) (c : Bool) : List (Nat × Operand) → Option (List (Nat × V))
  | [] => some []
  | (i, x) :: r => match S.evc c x, S.evs c r with
    | some v, some vs => some ((i, v) :: vs)
    | _, _ => none
def AS.evo (S : AS) (c : Bool) : Option Operand → Option (Option V)
  | none => some none
  | some x => (S.evc c x).map some
def AS.args (S : AS) (c : Bool) : List Operand → Option (List V)
  | [] => some []
  | x :: r => match S.evc c x, S.args c r with
    | some v, some vs => some (v :: vs)
    | _, _ => none
def bytesV : List V → Option (List UInt8)
  | [] => some []
  | .int .u8 n :: r => match bytesV r with
    | some l => if 0 ≤ n ∧ n < 256 then some (UInt8.ofNat n.toNat :: l) else none
    | none => none
  | _ => none
def byV (b : UInt8) : V := .int .u8 b.toNat
def tconc (P : Program) (t : TypeId) : Bool := match P.underlying t with | some (.interface _) | none => false | _ => true
def tbyteS (P : Program) (t : TypeId) : Bool := match telem P t with | some e => tint P e == some .u8 | none => false
def assertV (ok : Bool) (at_ : TypeId) (z : Option V) : V → Option V
  | .ifc t v => if t = at_ then some (if ok then .tup [v, .bool true] else v) else (if ok then z.map fun z => .tup [z, .bool false] else none)
  | .nili => if ok then z.map fun z => .tup [z, .bool false] else none
  | _ => none
def V.pl : V → Bool
  | .bool _ | .int _ _ | .str _ | .ro _ _ | .nils | .rp _ | .fn _ | .nilp | .nili | .nilf | .dm _ _ => true
  | _ => false
def V.plA : V → Bool
  | .agg cs => cs.all V.pl
  | .rm .. => true
  | v => v.pl
def V.pcell : V → Option V
  | .clo f us vs => if us.all V.pl = true ∧ vs.all V.pl = true then some (.fc f us vs) else none
  | .fc f us vs => if us.all V.still = true ∧ vs.all V.still = true then some (.fc f us vs) else none
  | v => if v.pl = true then some v else none
def pcells : List V → Option (List V)
  | [] => some []
  | c :: r => match c.pcell, pcells r with
    | some d, some ds => some (d :: ds)
    | _, _ => none
def dmV (t : TypeId) : V → Option V
  | .agg cs => (pcells cs).map (.dm t)
  | _ => none
def cellOk (v : V) : Bool := v.cells.all V.isCell
def tfields (P : Program) (t : TypeId) : Bool := match P.underlying t with
  | some (.struct fs) => fs.all fun f => (tsz P f.type).isSome
  | _ => false
def tmap (P : Program) (t : TypeId) : Option (IntKind × TypeId) := match P.underlying t with
  | some (.map k e) => match P.underlying k with
    | some (.int q) => some (q, e)
    | _ => none
  | _ => none
def lookV (ok : Bool) (z : V) : Option V → V
  | some v => if ok then .tup [v, .bool true] else v
  | none => if ok then .tup [z, .bool false] else z
def aval (P : Program) (S : AS) (c : Bool) : Op → Option V
  | .move x => S.evc c x
  | .assign x => S.evc c x
  | .pick x y z => match S.evc c x with
    | some (.bool g) => match S.evc (c && g) y, S.evc (c && !g) z with
      | some (.bool p), some (.bool q) => some (.bool (cond g p q))
      | some u, some v => match g with | true => some u | false => some v
      | _, _ => none
    | _ => none
  | .load t x => match S.evc c x with
    | some (.rm b k m) => if tsz P t = some 1 ∧ tagg P t = some false then some (.mp b k m) else none
    | some p => match S.place p, tsz P t, tagg P t with
      | some (e, off), some n, some g => e.part off n g
      | _, _, _ => none
    | none => none
  | .nilCheck x => match S.evc c x with
    | some (.rp e) => some (.rp e)
    | some (.bp d v sz k off) => some (.bp d v sz k off)
    | _ => none
  | .binOp op t x y _ => match S.evc c x, S.evc c y with
    | some u, some v => abin P t op u v
    | _, _ => none
  | .unOp op _ x => match S.evc c x with
    | some u => aun op u
    | none => none
  | .convert src dst x => match S.evc c x, tint P dst with
    | some (.int _ n), some k => if (P.underlying src).isSome = true then some (.int k (k.wrap n)) else none
    | some (.ro 1 es), none => if tstr P dst = true ∧ tbyteS P src = true then (bytesV es).map .str else none
    | some (.str l), none => if tstr P dst = true ∧ (P.underlying src).isSome = true then some (.str l) else none
    | _, _ => none
  | .makeInterface t x => match S.evc c x with
    | some v => if tconc P t = true ∧ (v.isCell = true ∨ v.flat2 = true) then some (.ifc t v) else if tconc P t = true then dmV t v else none
    | none => none
  | .typeAssert x _ at_ ok => match S.evc c x with
    | some v => if tconc P at_ = true then assertV ok at_ (tzero P at_) v else none
    | none => none
  | .makeFunc (.func f) first caps => match S.args c first.toList, S.args c caps.toList with
    | some [], some [] => some (.fn f)
    | some us, some vs => if us.all V.plA = true ∧ vs.all V.plA = true then some (.fc f us vs) else if us.all V.isCell = true ∧ vs.all V.isCell = true then some (.clo f us vs) else none
    | _, _ => none
  | .fieldAddr t x f => match S.evc c x, tfield P t f with
    | some (.rp e), some (off, n, g) => (e.part off n g).map .rp
    | some (.bp d v sz k o), some (off, _, _) => some (.bp d v sz k (o + off))
    | _, _ => none
  | .field t x f => match S.evc c x, tfield P t f with
    | some e, some (off, n, g) => match e with | .agg cs => (V.agg cs).part off n g | _ => none
    | _, _ => none
  | .indexAddr t x i => match S.evc c x, S.evc c i, telem P t with
    | some p, some (.int _ n), some te => match tsz P te with
      | some z => match p with
        | .ro sz es => if 0 ≤ n ∧ n < es.length ∧ z = sz then (match nth es n.toNat with | some e => some (.rp e) | none => none) else none
        | .sl d v sz len => if 0 ≤ n ∧ n < len ∧ z = sz then some (.bp d v sz n.toNat 0) else none
        | .ss d v sz off len => if 0 ≤ n ∧ n < len ∧ z = sz then some (.bp d v sz (off + n.toNat) 0) else none
        | _ => none
      | none => none
    | some (.bp d v sz k off), some (.int _ n), none => match tarr P t with
      | some (len, z) => if 0 ≤ n ∧ n < len then some (.bp d v sz k (off + n.toNat * z)) else none
      | none => none
    | _, _, _ => none
  | .index t x i => match S.evc c x, S.evc c i with
    | some (.str l), some (.int _ n) => if tstr P t = true ∧ 0 ≤ n then (match nth l n.toNat with | some b => some (.int .u8 b.toNat) | none => none) else none
    | _, _ => none
  | .extract x i => match S.evc c x with
    | some (.tup vs) => nth vs i
    | _ => none
  | .slice t x lo hi none => match S.evc c x, S.evo c lo, S.evo c hi with
    | some p, some lv, some hv => match p with
      | .str l => if tstr P t = true then (match abounds l.length lv hv with
        | some (p, q) => some (.str ((l.drop p).take (q - p)))
        | none => none) else none
      | .ro sz es => match telem P t with
        | some te => match tsz P te, abounds es.length lv hv with
          | some z, some (p, q) => if z = sz then some (.ro sz ((es.drop p).take (q - p))) else none
          | _, _ => none
        | none => none
      | .sl d v sz len => match telem P t with
        | some te => match tsz P te, abounds len lv hv with
          | some z, some (p, q) => if z = sz then some (.ss d v sz p (q - p)) else none
          | _, _ => none
        | none => none
      | .ss d v sz off len => match telem P t with
        | some te => match tsz P te, abounds len lv hv with
          | some z, some (p, q) => if z = sz then some (.ss d v sz (off + p) (q - p)) else none
          | _, _ => none
        | none => none
      | .rp e => match tarr P t, abounds e.cells.length lv hv with
        | some (len, z), some (p, q) => if z = 1 ∧ e.cells.length = len ∧ len ≤ 1000000 then some (.ro 1 ((e.cells.drop p).take (q - p))) else none
        | _, _ => none
      | _ => none
    | _, _, _ => none
  | .build t parts => match tzero P t, S.evs c parts.toList with
    | some (.agg z), some vs => if (vs.all fun p => cellOk p.2) = true ∧ tfields P t = true then (afill (tplace P t) z vs).map .agg else none
    | _, _ => none
  | .lookup t x i ok => match S.evc c x, S.evc c i, tmap P t with
    | some (.mp _ k m), some (.int k' a), some (q, e) => match tzero P e with
      | some z => if k = k' ∧ q = k then some (lookV ok z (assoc a m)) else none
      | none => none
    | _, _, _ => none
  | .call { callee := .builtin .min, args, argTypes := _ } => match args.toList with
    | [x, y] => match S.evc c x, S.evc c y with
      | some (.int k a), some (.int k' b) => if k = k' then some (.int k (if b < a then b else a)) else none
      | _, _ => none
    | _ => none
  | .call { callee := .builtin .max, args, argTypes := _ } => match args.toList with
    | [x, y] => match S.evc c x, S.evc c y with
      | some (.int k a), some (.int k' b) => if k = k' then some (.int k (if a < b then b else a)) else none
      | _, _ => none
    | _ => none
  | .call { callee := .builtin .len, args, argTypes } => match args.toList, argTypes.toList with
    | [x], [t] => match S.evc c x with
      | some (.str l) => if tstr P t = true then some (.int .i64 l.length) else none
      | some (.ro _ es) => if (telem P t).isSome = true then some (.int .i64 es.length) else none
      | some .nils => if (telem P t).isSome = true then some (.int .i64 0) else none
      | some (.sl _ _ _ n) => if (telem P t).isSome = true then some (.int .i64 n) else none
      | some (.ss _ _ _ _ n) => if (telem P t).isSome = true then some (.int .i64 n) else none
      | _ => none
    | _, _ => none
  | _ => none
section
variable {D : Nat → Prop} {w0 : Bs} {w : World} {N0 : Nat → Prop} {μ : Mu} {S : AS} {a : Act} {P : Program}
theorem telem_underlying {t e : TypeId} (h : telem P t = some e) : P.underlying t = some (.slice e) := by
  unfold telem at h
  split at h
  · rename_i e' he; injection h with h; subst h; exact he
  · cases h
theorem tstr_underlying {t : TypeId} (h : tstr P t = true) : P.underlying t = some .string := by
  unfold tstr at h
  split at h
  · assumption
  · cases h
theorem tint_underlying {t : TypeId} {k : IntKind} (h : tint P t = some k) : P.underlying t = some (.int k) := by
  unfold tint at h
  split at h
  · rename_i k' hk; injection h with h; subst h; exact hk
  · cases h
theorem tsz_run {t n : Nat} (h : tsz P t = some n) (w : World) : (sizeOf t).run P w = .ok n w := by
  unfold tsz at h
  obtain ⟨i, hi, rfl⟩ := Option.map_eq_some_iff.1 h
  simp [sizeOf, typeInfo, hi]
theorem tagg_run {t : TypeId} {g : Bool} (h : tagg P t = some g) (w : World) : (isAgg t).run P w = .ok g w := by
  unfold tagg at h
  obtain ⟨de, hde, hg⟩ := Option.map_eq_some_iff.1 h
  simp only [isAgg, Sem.run_bind, run_underlying hde, Result.andThen_ok]
  subst hg
  cases de <;> rfl
theorem tfield_spec {t f off n : Nat} {g : Bool} (h : tfield P t f = some (off, n, g)) :
    ∃ fs fd, P.underlying t = some (.struct fs) ∧ fs[f]? = some fd ∧ fd.offset = off ∧ tsz P fd.type = some n ∧ tagg P fd.type = some g ∧ n ≠ 0 := by
  unfold tfield at h
  split at h
  case h_2 => cases h
  rename_i fs hfs
  split at h
  case h_2 => cases h
  rename_i fd hfd
  split at h
  case h_2 => cases h
  rename_i n' g' hn hg
  split at h
  · cases h
  · rename_i h0
    simp only [Option.some.injEq, Prod.mk.injEq] at h
    obtain ⟨rfl, rfl, rfl⟩ := h
    exact ⟨fs, fd, hfs, hfd, rfl, hn, hg, h0⟩
theorem run_part {N : Nat → Prop} {t off n : Nat} {g : Bool} {cs : List V} {r : V} {x : Value} (hn : tsz P t = some n) (hg : tagg P t = some g) (hx : Enc w N μ x (.agg cs)) (hp : (V.agg cs).part off n g = some r) :
    ∃ xs y, x = .agg xs ∧ (part t xs off).run P w = .ok y w ∧ Enc w N μ y r := by
  have key : ∀ (xs : List Value), xs.length = cs.length → (∀ c ∈ cs, c.isCell = true) → (∀ (i : Nat) x c, xs[i]? = some x → cs[i]? = some c → Enc w N μ x c) →
      ∃ y, (part t xs.toArray off).run P w = .ok y w ∧ Enc w N μ y r := by
    intro xs hl hcs hh
    unfold V.part at hp
    by_cases hlen : off + n ≤ (V.agg cs).cells.length
    case neg => rw [if_neg hlen] at hp; cases hp
    rw [if_pos hlen] at hp
    have hlen' : off + n ≤ cs.length := hlen
    cases g with
    | true =>
      simp only [if_true, Option.some.injEq] at hp
      subst hp
      refine ⟨.agg ((xs.drop off).take n).toArray, ?_, .agg _ _ (by simp [hl, V.cells]) (fun c hc => hcs c (List.mem_of_mem_drop (List.mem_of_mem_take hc))) (fun i y c h1 h2 => ?_)⟩
      · simp only [part, Sem.run_bind, tagg_run hg, Result.andThen_ok, if_true, tsz_run hn, Sem.run_pure]
        congr 2
        simp
      · have hi : i < n := by have := (List.getElem?_eq_some_iff.1 h1).1; simp at this; omega
        rw [List.getElem?_take_of_lt hi, List.getElem?_drop] at h1 h2
        exact hh _ _ _ h1 h2
    | false =>
      simp only [Bool.false_eq_true, if_false] at hp
      by_cases h1 : n = 1
      case neg => rw [if_neg h1] at hp; cases hp
      rw [if_pos h1] at hp
      have hlt : off < xs.length := by rw [hl]; omega
      refine ⟨xs[off], ?_, hh off _ r (List.getElem?_eq_getElem hlt) hp⟩
      simp [part, tagg_run hg, hlt]
  cases hx with
  | pur hx =>
    cases hx with
    | agg xs _ hl hcs hh =>
      obtain ⟨y, h1, h2⟩ := key xs hl hcs (fun i x c h3 h4 => .pur (hh i x c h3 h4))
      exact ⟨_, y, rfl, h1, h2⟩
  | agg xs _ hl hcs hh =>
    obtain ⟨y, h1, h2⟩ := key xs hl hcs hh
    exact ⟨_, y, rfl, h1, h2⟩
theorem part_fits {e r : V} {off n sz : Nat} {g : Bool} (hf : e.fits sz) (hp : e.part off n g = some r) : r.fits n := by
  unfold V.part at hp
  split at hp
  case isFalse => cases hp
  rename_i hlen
  split at hp
  · injection hp with hp
    subst hp
    exact ⟨by show ((e.cells.drop off).take n).length = n; rw [List.length_take, List.length_drop]; omega, fun c hc => hf.2 c (List.mem_of_mem_drop (List.mem_of_mem_take hc))⟩
  · split at hp
    case isFalse => cases hp
    rename_i h1
    have hc := hf.2 r (List.mem_of_getElem? hp)
    refine ⟨by rw [V.cells_one hc]; simp [h1], fun c hcc => ?_⟩
    rw [V.cells_one hc] at hcc
    simp at hcc
    subst hcc
    exact hc
theorem part_cells {e r : V} {off n sz : Nat} {g : Bool} (hf : e.fits sz) (hp : e.part off n g = some r) (j : Nat) (c : V) (hj : r.cells[j]? = some c) : e.cells[off + j]? = some c := by
  have hp' := hp
  unfold V.part at hp
  split at hp
  case isFalse => cases hp
  split at hp
  · injection hp with hp
    subst hp
    simp only [V.cells] at hj
    have hj' : j < n := by have := (List.getElem?_eq_some_iff.1 hj).1; simp at this; omega
    rwa [List.getElem?_take_of_lt hj', List.getElem?_drop] at hj
  · split at hp
    case isFalse => cases hp
    have hc := hf.2 r (List.mem_of_getElem? hp)
    rw [V.cells_one hc] at hj
    rcases j with _ | j
    · simp at hj; subst hj; simpa using hp
    · simp at hj
theorem bounds_run {isSlice : Bool} {n cap : Nat} {lv hv : Option V} {p q : Nat} (h : abounds n lv hv = some (p, q)) (hcap : n ≤ cap) {N : Nat → Prop} {lo hi : Option Value}
    (hl : ∀ v, lv = some v → ∃ x, lo = some x ∧ Enc w N μ x v) (hl0 : lv = none → lo = none) (hh : ∀ v, hv = some v → ∃ x, hi = some x ∧ Enc w N μ x v) (hh0 : hv = none → hi = none) :
    (Instr.sliceBounds isSlice n cap lo hi none).run P w = .ok (p, q, cap) w ∧ p ≤ q ∧ q ≤ n := by
  unfold abounds at h
  split at h
  · simp only [Option.some.injEq, Prod.mk.injEq] at h
    obtain ⟨rfl, rfl⟩ := h
    rw [hl0 rfl, hh0 rfl]
    exact ⟨by simp [Instr.sliceBounds], Nat.zero_le _, Nat.le_refl _⟩
  · rename_i k l
    split at h
    case isFalse => cases h
    rename_i hb
    simp only [Option.some.injEq, Prod.mk.injEq] at h
    obtain ⟨rfl, rfl⟩ := h
    obtain ⟨x, rfl, hx⟩ := hl _ rfl
    rw [hh0 rfl]
    cases hx with
    | pur hx =>
    cases hx with
    | int =>
    refine ⟨?_, by omega, Nat.le_refl _⟩
    simp [Instr.sliceBounds, run_sliceBound w k l n _ hb.1 (by omega)]
  · rename_i k l
    split at h
    case isFalse => cases h
    rename_i hb
    simp only [Option.some.injEq, Prod.mk.injEq] at h
    obtain ⟨rfl, rfl⟩ := h
    obtain ⟨x, rfl, hx⟩ := hh _ rfl
    rw [hl0 rfl]
    cases hx with
    | pur hx =>
    cases hx with
    | int =>
    refine ⟨?_, by omega, by omega⟩
    simp [Instr.sliceBounds, run_sliceBound w k l cap _ hb.1 (by omega)]
  · rename_i k l k' l'
    split at h
    case isFalse => cases h
    rename_i hb
    simp only [Option.some.injEq, Prod.mk.injEq] at h
    obtain ⟨rfl, rfl⟩ := h
    obtain ⟨x, rfl, hx⟩ := hl _ rfl
    obtain ⟨y, rfl, hy⟩ := hh _ rfl
    cases hx with
    | pur hx =>
    cases hx with
    | int =>
    cases hy with
    | pur hy =>
    cases hy with
    | int =>
    refine ⟨?_, by omega, by omega⟩
    simp [Instr.sliceBounds, run_sliceBound w k' l' cap _ (by omega) (by omega), run_sliceBound w k l l'.toNat _ hb.1 (by omega)]
  · cases h
end
end Go.Eng

namespace Go.Eng
open Go.RowKit
section
variable {D : Nat → Prop} {w0 : Bs} {w : World} {N0 : Nat → Prop} {μ : Mu} {S : AS} {a : Act} {P : Program}
theorem RelM.evo (h : RelM D w0 N0 μ S a w) {c : Bool} {x : Option Operand} {v : Option V} (hx : S.evo c x = some v) (hc : c = true) :
    (∀ u, v = some u → ∃ y, x.map a.eval = some y ∧ Enc w (Own N0 μ S) μ y u) ∧ (v = none → x.map a.eval = none) := by
  cases x with
  | none =>
    simp only [AS.evo, Option.some.injEq] at hx
    subst hx
    exact ⟨fun u hu => (by cases hu), fun _ => rfl⟩
  | some x =>
    simp only [AS.evo, Option.map_eq_some_iff] at hx
    obtain ⟨u, hu, rfl⟩ := hx
    refine ⟨fun u' hu' => ?_, fun h0 => (by cases h0)⟩
    injection hu' with hu'
    subst hu'
    exact ⟨_, rfl, h.evc hu hc⟩
theorem RelM.evs (h : RelM D w0 N0 μ S a w) {c : Bool} (hc : c = true) : ∀ {xs : List (Nat × Operand)} {vs : List (Nat × V)}, S.evs c xs = some vs →
    vs.length = xs.length ∧ ∀ (j : Nat) p q, xs[j]? = some p → vs[j]? = some q → p.1 = q.1 ∧ Enc w (Own N0 μ S) μ (a.eval p.2) q.2
  | [], vs, hv => by simp only [AS.evs, Option.some.injEq] at hv; subst hv; simp
  | (i, x) :: r, vs, hv => by
    simp only [AS.evs] at hv
    split at hv
    case h_2 => cases hv
    rename_i v vs' h1 h2
    injection hv with hv
    subst hv
    obtain ⟨h3, h4⟩ := RelM.evs h hc h2
    refine ⟨by simp [h3], fun j p q hp hq => ?_⟩
    rcases j with _ | j
    · simp at hp hq; subst hp; subst hq; exact ⟨rfl, h.evc h1 hc⟩
    · simp at hp hq; exact h4 j p q hp hq
theorem aval_load (h : RelM D w0 N0 μ S a w) {t : TypeId} {p v : V} {x : Value} {e : V} {off n : Nat} {g : Bool} (hx : Enc w (Own N0 μ S) μ x p) (hp : S.place p = some (e, off)) (hn : tsz P t = some n) (hg : tagg P t = some g)
    (hv : e.part off n g = some v) : ∃ y, (Instr.loadAt t x).run P w = .ok y w ∧ Enc w (Own N0 μ S) μ y v := by
  obtain ⟨ad, sz, rfl, hf, hc⟩ := h.place hp hx
  obtain ⟨y, hy, hey⟩ := run_loadVar hn hg hf hc hv
  exact ⟨y, by simp [Instr.loadAt, Instr.sureAddr, hy], hey⟩
theorem aval_loadM {N : Nat → Prop} {t : TypeId} {x : Value} {b : Nat} {k : IntKind} {m : List (Int × V)} (hx : Enc w N μ x (.rm b k m)) (hn : tsz P t = some 1) (hg : tagg P t = some false) : ∃ y, (Instr.loadAt t x).run P w = .ok y w ∧ Enc w N μ y (.mp b k m) := by
  cases hx with
  | pur hx => cases hx with
    | rm ad _ _ _ hb hN hc h =>
      refine ⟨.map (some b), ?_, .pur h⟩
      unfold tagg at hg
      obtain ⟨de, hde, hg⟩ := Option.map_eq_some_iff.1 hg
      have hagg : (isAgg t).run P w = .ok false w := by
        simp only [isAgg, Sem.run_bind, run_underlying hde, Result.andThen_ok]
        cases de <;> first | rfl | simp at hg
      have hl : (loadVar t ad).run P w = .ok (.map (some b)) w := by
        simp only [loadVar, Sem.run_bind, hagg, Result.andThen_ok]
        simp [hc]
      simp [Instr.loadAt, Instr.sureAddr, hl]
theorem run_fieldPlace {fd : Field} {n : Nat} (hn : tsz P fd.type = some n) (h0 : n ≠ 0) (ad : Addr) : (fieldPlace ad fd).run P w = .ok (ad.add fd.offset) w := by
  simp only [fieldPlace, Sem.run_bind, tsz_run hn, Result.andThen_ok, if_neg h0, Sem.run_pure]
theorem aval_fieldAddr_rp (_h : RelM D w0 N0 μ S a w) {t f off n : Nat} {g : Bool} {e r : V} {x : Value} (hx : Enc w (Own N0 μ S) μ x (.rp e)) (hf : tfield P t f = some (off, n, g)) (hr : e.part off n g = some r) :
    ∃ y, (Instr.fieldAt t x f).run P w = .ok y w ∧ Enc w (Own N0 μ S) μ y (.rp r) := by
  obtain ⟨fs, fd, h1, h2, rfl, h4, h5, h6⟩ := tfield_spec hf
  cases hx with
  | pur hx =>
  cases hx with
  | rp ad sz _ g' hb hN hfit hc hh =>
  refine ⟨.pointer (some (ad.add fd.offset)), ?_, .pur (.rp _ n r (fun j => g' (fd.offset + j)) (by rw [add_block]; exact hb) (by rw [add_block]; exact hN) (part_fits hfit hr) (fun j c hj => ?_) (fun j c hj => hh _ c (part_cells hfit hr j c hj)))⟩
  · simp [Instr.fieldAt, run_underlying h1, h2, Instr.sureAddr, run_fieldPlace h4 h6]
  · rw [add_add']; exact hc _ c (part_cells hfit hr j c hj)
theorem aval_fieldAddr_bp (_h : RelM D w0 N0 μ S a w) {t f off n : Nat} {g : Bool} {d v sz k o : Nat} {x : Value} (hx : Enc w (Own N0 μ S) μ x (.bp d v sz k o)) (hf : tfield P t f = some (off, n, g)) :
    ∃ y, (Instr.fieldAt t x f).run P w = .ok y w ∧ Enc w (Own N0 μ S) μ y (.bp d v sz k (o + off)) := by
  obtain ⟨fs, fd, h1, h2, rfl, h4, h5, h6⟩ := tfield_spec hf
  cases hx with
  | pur hx => cases hx
  | bp _ _ _ _ _ gb cap hm =>
  refine ⟨.pointer (some ⟨gb, k * sz + (o + fd.offset), none⟩), ?_, .bp _ _ _ _ _ gb cap hm⟩
  simp [Instr.fieldAt, run_underlying h1, h2, Instr.sureAddr, run_fieldPlace h4 h6, Addr.add_lit, Nat.add_assoc]
theorem run_indexAt {t te n z : Nat} {k : IntKind} {i : Int} {ad : Addr} {cap : Nat} (ht : telem P t = some te) (hz : tsz P te = some z) (h0 : 0 ≤ i) (h1 : i < n) :
    (Instr.indexAt t (.slice (some ad) n cap) (.int k i)).run P w = .ok (.pointer (some (ad.add (i.toNat * z)))) w := by
  simp [Instr.indexAt, run_underlying (telem_underlying ht), asIntOf, h0, h1, tsz_run hz]
theorem aval_indexAddr_ro {t te z sz : Nat} {k : IntKind} {i : Int} {es : List V} {e : V} {x y : Value} {N : Nat → Prop} (hx : Enc w N μ x (.ro sz es)) (hy : Enc w N μ y (.int k i)) (ht : telem P t = some te) (hz : tsz P te = some z)
    (h0 : 0 ≤ i) (h1 : i < es.length) (hs : z = sz) (he : es[i.toNat]? = some e) : ∃ r, (Instr.indexAt t x y).run P w = .ok r w ∧ Enc w N μ r (.rp e) := by
  subst hs
  cases hx with
  | pur hx =>
  cases hx with
  | ro A ad n cap _ _ g hn hcap hmax hA hf hc hh =>
  cases hy with
  | pur hy =>
  cases hy with
  | int =>
  obtain ⟨hA1, hA2, hA3⟩ := hA (by omega)
  subst hA1
  exact ⟨_, run_indexAt ht hz h0 (by omega), .pur (.rp _ z e (g i.toNat) (by rw [add_block]; exact hA2) (by rw [add_block]; exact hA3) (hf e (List.mem_of_getElem? he))
    (fun j c hj => by rw [add_add']; exact hc _ e j c he hj) (fun j c hj => hh _ e j c he hj))⟩
theorem aval_indexAddr_sl {t te z sz d v len : Nat} {k : IntKind} {i : Int} {x y : Value} {N : Nat → Prop} (hx : Enc w N μ x (.sl d v sz len)) (hy : Enc w N μ y (.int k i)) (ht : telem P t = some te) (hz : tsz P te = some z)
    (h0 : 0 ≤ i) (h1 : i < len) (hs : z = sz) : ∃ r, (Instr.indexAt t x y).run P w = .ok r w ∧ Enc w N μ r (.bp d v sz i.toNat 0) := by
  subst hs
  cases hy with
  | pur hy =>
  cases hy with
  | int =>
  cases hx with
  | pur hx => cases hx
  | slr _ _ _ _ g cap hm hle hmax =>
    refine ⟨_, run_indexAt ht hz h0 h1, ?_⟩
    rw [Addr.add_lit, Nat.zero_add]
    exact .bp d v z i.toNat 0 g cap hm
  | slv => simp at h1; omega
theorem aval_indexAddr_ss {t te z sz d v off len : Nat} {k : IntKind} {i : Int} {x y : Value} {N : Nat → Prop} (hx : Enc w N μ x (.ss d v sz off len)) (hy : Enc w N μ y (.int k i)) (ht : telem P t = some te) (hz : tsz P te = some z)
    (h0 : 0 ≤ i) (h1 : i < len) (hs : z = sz) : ∃ r, (Instr.indexAt t x y).run P w = .ok r w ∧ Enc w N μ r (.bp d v sz (off + i.toNat) 0) := by
  subst hs
  cases hy with
  | pur hy =>
  cases hy with
  | int =>
  cases hx with
  | pur hx => cases hx
  | ss _ _ _ _ _ g c cap A hle hcm hA =>
    obtain ⟨hm, rfl⟩ := hA (by omega)
    refine ⟨_, run_indexAt ht hz h0 h1, ?_⟩
    rw [Addr.add_lit, ← Nat.add_mul, ← Nat.add_zero ((off + i.toNat) * z)]
    exact .bp d v z _ 0 g cap hm
theorem slice_run {t te z n cap p q : Nat} {A : Option Addr} {lo hi : Option Value} (ht : telem P t = some te) (hz : tsz P te = some z) (hb : (Instr.sliceBounds true n cap lo hi none).run P w = .ok (p, q, cap) w) :
    (Instr.sliceAt t (.slice A n cap) lo hi none).run P w = .ok (.slice (if cap = p then A else A.map (·.add (p * z))) (q - p) (cap - p)) w := by
  have hu := telem_underlying ht
  simp only [Instr.sliceAt, Sem.run_bind, run_underlying hu, Result.andThen_ok, Instr.slice, hb, tsz_run hz, Sem.run_pure]
theorem aval_slice_ro {t te z sz p q : Nat} {es : List V} {x : Value} {lv hv : Option V} {lo hi : Option Value} {N : Nat → Prop} (hx : Enc w N μ x (.ro sz es)) (ht : telem P t = some te) (hz : tsz P te = some z) (hs : z = sz)
    (hb : abounds es.length lv hv = some (p, q)) (hl : ∀ v, lv = some v → ∃ x, lo = some x ∧ Enc w N μ x v) (hl0 : lv = none → lo = none) (hh : ∀ v, hv = some v → ∃ x, hi = some x ∧ Enc w N μ x v) (hh0 : hv = none → hi = none) :
    ∃ r, (Instr.sliceAt t x lo hi none).run P w = .ok r w ∧ Enc w N μ r (.ro sz ((es.drop p).take (q - p))) := by
  subst hs
  cases hx with
  | pur hx =>
  cases hx with
  | ro A ad n cap _ _ g hn hcap hmax hA hf hc hh' =>
  rw [hn] at hb
  obtain ⟨h1, h2, h3⟩ := bounds_run (P := P) (isSlice := true) hb hcap hl hl0 hh hh0
  refine ⟨_, slice_run ht hz h1, .pur (.ro _ (ad.add (p * z)) _ _ z _ (fun k j => g (p + k) j) (by simp; omega) (by omega) (by omega) (fun h0 => ?_) (fun e he => hf e (List.mem_of_mem_drop (List.mem_of_mem_take he))) (fun k e j c he hj => ?_) (fun k e j c he hj => ?_))⟩
  · obtain ⟨rfl, hA2, hA3⟩ := hA (by omega)
    rw [if_neg (by omega)]
    exact ⟨rfl, by rw [add_block]; exact hA2, by rw [add_block]; exact hA3⟩
  · have hk : k < q - p := by have := (List.getElem?_eq_some_iff.1 he).1; simp at this; omega
    rw [List.getElem?_take_of_lt hk, List.getElem?_drop] at he
    rw [add_add', show p * z + (k * z + j) = (p + k) * z + j by rw [Nat.add_mul]; omega]
    exact hc _ e j c he hj
  · have hk : k < q - p := by have := (List.getElem?_eq_some_iff.1 he).1; simp at this; omega
    rw [List.getElem?_take_of_lt hk, List.getElem?_drop] at he
    exact hh' _ e j c he hj
theorem aval_slice_sl {t te z sz d v len p q : Nat} {x : Value} {lv hv : Option V} {lo hi : Option Value} {N : Nat → Prop} (hx : Enc w N μ x (.sl d v sz len)) (ht : telem P t = some te) (hz : tsz P te = some z) (hs : z = sz)
    (hb : abounds len lv hv = some (p, q)) (hl : ∀ v, lv = some v → ∃ x, lo = some x ∧ Enc w N μ x v) (hl0 : lv = none → lo = none) (hh : ∀ v, hv = some v → ∃ x, hi = some x ∧ Enc w N μ x v) (hh0 : hv = none → hi = none) :
    ∃ r, (Instr.sliceAt t x lo hi none).run P w = .ok r w ∧ Enc w N μ r (.ss d v sz p (q - p)) := by
  subst hs
  cases hx with
  | pur hx => cases hx
  | slr _ _ _ _ g cap hm hle hmax =>
    obtain ⟨h1, h2, h3⟩ := bounds_run (P := P) (isSlice := true) hb hle hl hl0 hh hh0
    refine ⟨_, slice_run ht hz h1, .ss d v z p (q - p) g _ cap _ (by omega) (by omega) (fun h0 => ⟨hm, ?_⟩)⟩
    rw [if_neg (by omega)]
    simp [Addr.add_lit]
  | slv _ _ _ A hm =>
    obtain ⟨h1, h2, h3⟩ := bounds_run (P := P) (isSlice := true) hb (Nat.le_refl _) hl hl0 hh hh0
    exact ⟨_, slice_run ht hz h1, .ss d v z p (q - p) 0 _ 0 _ (by omega) (by omega) (fun h0 => by omega)⟩
theorem aval_slice_ss {t te z sz d v off len p q : Nat} {x : Value} {lv hv : Option V} {lo hi : Option Value} {N : Nat → Prop} (hx : Enc w N μ x (.ss d v sz off len)) (ht : telem P t = some te) (hz : tsz P te = some z) (hs : z = sz)
    (hb : abounds len lv hv = some (p, q)) (hl : ∀ v, lv = some v → ∃ x, lo = some x ∧ Enc w N μ x v) (hl0 : lv = none → lo = none) (hh : ∀ v, hv = some v → ∃ x, hi = some x ∧ Enc w N μ x v) (hh0 : hv = none → hi = none) :
    ∃ r, (Instr.sliceAt t x lo hi none).run P w = .ok r w ∧ Enc w N μ r (.ss d v sz (off + p) (q - p)) := by
  subst hs
  cases hx with
  | pur hx => cases hx
  | ss _ _ _ _ _ g c cap A hle hcm hA =>
    obtain ⟨h1, h2, h3⟩ := bounds_run (P := P) (isSlice := true) hb hle hl hl0 hh hh0
    refine ⟨_, slice_run ht hz h1, .ss d v z _ (q - p) g _ cap _ (by omega) (by omega) (fun h0 => ⟨(hA (by omega)).1, ?_⟩)⟩
    rw [(hA (by omega)).2, if_neg (by omega)]
    simp [Addr.add_lit, Nat.add_mul]
theorem aval_slice_str {t p q : Nat} {l : List UInt8} {x : Value} {lv hv : Option V} {lo hi : Option Value} {N : Nat → Prop} (hx : Enc w N μ x (.str l)) (ht : tstr P t = true)
    (hb : abounds l.length lv hv = some (p, q)) (hl : ∀ v, lv = some v → ∃ x, lo = some x ∧ Enc w N μ x v) (hl0 : lv = none → lo = none) (hh : ∀ v, hv = some v → ∃ x, hi = some x ∧ Enc w N μ x v) (hh0 : hv = none → hi = none) :
    ∃ r, (Instr.sliceAt t x lo hi none).run P w = .ok r w ∧ Enc w N μ r (.str ((l.drop p).take (q - p))) := by
  cases hx with
  | pur hx =>
  cases hx with
  | str =>
  have hu := tstr_underlying ht
  obtain ⟨h1, h2, h3⟩ := bounds_run (P := P) (isSlice := false) hb (Nat.le_refl _) hl hl0 hh hh0
  refine ⟨.string ⟨((l.drop p).take (q - p)).toArray⟩, ?_, .pur (.str _)⟩
  have hsz : (ByteArray.mk l.toArray).size = l.length := by simp [ByteArray.size]
  simp only [Instr.sliceAt, Sem.run_bind, run_underlying hu, Result.andThen_ok, Instr.slice, Option.isSome_none, Bool.false_eq_true, if_false, Sem.run_pure, hsz, h1, ByteArray.extract_mk]
def findIx (a : Int) : List MapEntry → Nat → Option (Nat × Value)
  | [], _ => none
  | e :: r, n => if keyI e = a then some (n, e.val) else findIx a r (n + 1)
theorem findNow_int {k : IntKind} {a : Int} {q : IntKind} : ∀ (es : List MapEntry) (n : Nat), (∀ e ∈ es, ∃ b, e.key = .int k b) → Instr.findNow (.int q) (.int k a) es n = some (findIx a es n)
  | [], n, _ => rfl
  | e :: r, n, h => by
    obtain ⟨b, hb⟩ := h e (by simp)
    have ih := findNow_int (q := q) (a := a) r (n + 1) (fun e he => h e (by simp [he]))
    have hk : keyI e = b := by simp [keyI, hb]
    simp only [Instr.findNow, hb, Instr.sameNow, if_true, findIx, hk]
    by_cases e1 : b = a
    · subst e1; simp
    · have : (a == b) = false := by simp; omega
      rw [this, if_neg e1]
      exact ih
theorem findIx_some {a : Int} : ∀ {es : List MapEntry} {n : Nat} {p : Nat × Value}, findIx a es n = some p → findA a es = some p.2 ∧ n ≤ p.1 ∧ ∃ e, es[p.1 - n]? = some e ∧ e.val = p.2 ∧ keyI e = a
  | [], n, p, h => by simp [findIx] at h
  | e :: r, n, p, h => by
    unfold findIx at h
    unfold findA
    split at h
    · rename_i hk
      injection h with h
      subst h
      rw [if_pos hk]
      exact ⟨rfl, Nat.le_refl _, e, by simp, rfl, hk⟩
    · rename_i hk
      rw [if_neg hk]
      obtain ⟨h1, h2, e', h3, h4⟩ := findIx_some h
      refine ⟨h1, by omega, e', ?_, h4⟩
      rw [show p.1 - n = (p.1 - (n + 1)) + 1 by omega]
      simpa using h3
theorem findIx_none {a : Int} : ∀ {es : List MapEntry} {n : Nat}, findIx a es n = none ↔ findA a es = none
  | [], n => by simp [findIx, findA]
  | e :: r, n => by
    unfold findIx findA
    split
    · simp
    · exact findIx_none
theorem tmap_spec {t e : TypeId} {q : IntKind} (h : tmap P t = some (q, e)) : ∃ k, P.underlying t = some (.map k e) ∧ P.underlying k = some (.int q) := by
  unfold tmap at h
  split at h
  · rename_i k e' hk
    split at h
    · rename_i q' hq
      simp only [Option.some.injEq, Prod.mk.injEq] at h
      obtain ⟨rfl, rfl⟩ := h
      exact ⟨k, hk, hq⟩
    · cases h
  · cases h
theorem Pur.of_flat0 {w w' : World} {N N' : Nat → Prop} {x : Value} {v : V} (h : Pur w N x v) (hf : v.flat0 = true) : Pur w' N' x v := by
  cases h with
  | bool b => exact .bool b
  | int k n => exact .int k n
  | str l => exact .str l
  | nils | fn | agg | tup | ro | rp | mp | nilp | nili | nilf | ifc | fc | dm | rm => simp [V.flat0] at hf
theorem lookup_run {N : Nat → Prop} {t e b : Nat} {k : IntKind} {m : List (Int × V)} {a : Int} {ok : Bool} {x y : Value} {z : V} (hx : Enc w N μ x (.mp b k m)) (hy : Enc w N μ y (.int k a)) (ht : tmap P t = some (k, e))
    {zv : Value} (hz : (zeroValue e).run P w = .ok zv w) (hzv : Pur w N zv z) : ∃ r, (Instr.lookup t x y ok).run P w = .ok r w ∧ Enc w N μ r (lookV ok z (assoc a m)) := by
  obtain ⟨kt, hu, hk⟩ := tmap_spec ht
  cases hy with
  | pur hy =>
  cases hy with
  | int =>
  cases hx with
  | pur hx =>
  cases hx with
  | mp _ _ _ es clock g hN hb hks hs hn hw hh =>
  have hfn := findNow_int (q := k) (a := a) es.toList 0 hks
  have hrun : ∀ p, findIx a es.toList 0 = p → (Instr.lookup t (.map (some b)) (.int k a) ok).run P w = .ok (if ok then .tuple #[(match p with | some q => q.2 | none => zv), .bool p.isSome] else (match p with | some q => q.2 | none => zv)) w := by
    intro p hp
    rw [hp] at hfn
    unfold Instr.lookup
    simp only [Sem.run_bind, run_underlying hu, Result.andThen_ok, MapKept.run_getObj_map hb, MapKept.run_checkKey hk (k := .int k a) (by simp [MapKept.IsKey])]
    cases p with
    | none =>
      have hf := MapKept.run_findKey (w := w) hk hfn
      simp [hf, hz]
    | some q =>
      have hf := MapKept.run_findKey (w := w) hk hfn
      simp [hf]
  cases hp : findIx a es.toList 0 with
  | none =>
    have hA := findIx_none.1 hp
    have has : assoc a m = none := by
      cases h0 : assoc a m with
      | none => rfl
      | some v => have := (hs a v h0).1; rw [hA] at this; cases this
    rw [has]
    refine ⟨_, hrun _ hp, ?_⟩
    cases ok
    · exact .pur hzv
    · exact .tup [zv, .bool false] [z, .bool false] rfl (fun i x c h1 h2 => by
        rcases i with _ | _ | i
        · simp at h1 h2; subst h1; subst h2; exact .pur hzv
        · simp at h1 h2; subst h1; subst h2; exact .pur (.bool _)
        · simp at h1)
  | some q =>
    have hA := (findIx_some hp).1
    cases has : assoc a m with
    | none => have := hn a has; rw [hA] at this; cases this
    | some v =>
      have hg := (hs a v has).1
      rw [hA] at hg
      injection hg with hg
      have hv := hh a v has
      rw [← hg] at hv
      refine ⟨_, hrun _ hp, ?_⟩
      cases ok
      · exact .pur hv
      · exact .tup [q.2, .bool true] [v, .bool true] rfl (fun i x c h1 h2 => by
          rcases i with _ | _ | i
          · simp at h1 h2; subst h1; subst h2; exact .pur hv
          · simp at h1 h2; subst h1; subst h2; exact .pur (.bool _)
          · simp at h1)
theorem tarr_spec {t len z : Nat} (h : tarr P t = some (len, z)) : ∃ e, P.underlying t = some (.array len e) ∧ tsz P e = some z := by
  unfold tarr at h
  split at h
  · rename_i n e he
    obtain ⟨z', hz, h⟩ := Option.map_eq_some_iff.1 h
    injection h with h1 h2
    subst h1; subst h2
    exact ⟨e, he, hz⟩
  · cases h
theorem aval_indexAddr_arr {t len z d v sz k0 off : Nat} {k : IntKind} {i : Int} {x y : Value} {N : Nat → Prop} (hx : Enc w N μ x (.bp d v sz k0 off)) (hy : Enc w N μ y (.int k i)) (ht : tarr P t = some (len, z))
    (h0 : 0 ≤ i) (h1 : i < len) : ∃ r, (Instr.indexAt t x y).run P w = .ok r w ∧ Enc w N μ r (.bp d v sz k0 (off + i.toNat * z)) := by
  obtain ⟨e, hu, hz⟩ := tarr_spec ht
  cases hy with
  | pur hy =>
  cases hy with
  | int =>
  cases hx with
  | pur hx => cases hx
  | bp _ _ _ _ _ g cap hm =>
    refine ⟨.pointer (some ((⟨g, k0 * sz + off, none⟩ : Addr).add (i.toNat * z))), ?_, ?_⟩
    · simp [Instr.indexAt, asIntOf, run_underlying hu, Instr.sureAddr, tsz_run hz, h0, h1]
    · rw [Addr.add_lit, Nat.add_assoc]
      exact .bp d v sz k0 _ g cap hm
theorem aval_slice_arr {t len p q : Nat} {e : V} {lv hv : Option V} {x : Value} {N : Nat → Prop} {lo hi : Option Value} (hx : Enc w N μ x (.rp e)) (ht : tarr P t = some (len, 1)) (he : e.cells.length = len) (hmax : len ≤ 1000000) (hb : abounds e.cells.length lv hv = some (p, q))
    (hl : ∀ v, lv = some v → ∃ x, lo = some x ∧ Enc w N μ x v) (hl0 : lv = none → lo = none) (hh : ∀ v, hv = some v → ∃ x, hi = some x ∧ Enc w N μ x v) (hh0 : hv = none → hi = none) :
    ∃ r, (Instr.sliceAt t x lo hi none).run P w = .ok r w ∧ Enc w N μ r (.ro 1 ((e.cells.drop p).take (q - p))) := by
  obtain ⟨te, hu, hz⟩ := tarr_spec ht
  subst he
  obtain ⟨h1, h2, h3⟩ := bounds_run (P := P) (isSlice := false) hb (Nat.le_refl _) hl hl0 hh hh0
  cases hx with
  | pur hx =>
  cases hx with
  | rp ad sz _ g hbk hN hf hc hp =>
  refine ⟨.slice (some (if e.cells.length = p then ad else ad.add (p * 1))) (q - p) (e.cells.length - p), ?_, .pur (.ro _ (ad.add (p * 1)) _ _ 1 _ (fun k _ => g (p + k)) (by simp; omega) (by omega) (by unfold maxLen; omega) (fun h0 => ?_) (fun c hc' => ?_) (fun k c j c' hk hj => ?_) (fun k c j c' hk hj => ?_))⟩
  · simp [Instr.sliceAt, run_underlying hu, Instr.sureAddr, h1, tsz_run hz]
  · rw [if_neg (by omega)]
    exact ⟨rfl, by rw [add_block]; exact hbk, by rw [add_block]; exact hN⟩
  · have hcell := hf.2 c (List.mem_of_mem_drop (List.mem_of_mem_take hc'))
    rw [V.fits, V.cells_one hcell]
    exact ⟨rfl, fun y hy => by rw [List.mem_singleton.1 hy]; exact hcell⟩
  · have hkl : k < q - p := by have := (List.getElem?_eq_some_iff.1 hk).1; simp at this; omega
    have hcell := hf.2 c (List.mem_of_mem_drop (List.mem_of_mem_take (List.mem_of_getElem? hk)))
    rw [V.cells_one hcell] at hj
    rw [List.getElem?_take_of_lt hkl, List.getElem?_drop] at hk
    rcases j with _ | j
    · rw [add_add', show p * 1 + (k * 1 + 0) = p + k by omega]
      exact hc (p + k) c hk
    · simp at hj
  · have hkl : k < q - p := by have := (List.getElem?_eq_some_iff.1 hk).1; simp at this; omega
    have hcell := hf.2 c (List.mem_of_mem_drop (List.mem_of_mem_take (List.mem_of_getElem? hk)))
    rw [V.cells_one hcell] at hj
    rw [List.getElem?_take_of_lt hkl, List.getElem?_drop] at hk
    rcases j with _ | j
    · simp only [List.getElem?_cons_zero, Option.some.injEq] at hj
      subst hj
      exact hp (p + k) c hk
    · simp at hj
end
end Go.Eng

namespace Go.Eng
open Go.RowKit
theorem take_set {α : Type} (x : α) : ∀ (l : List α) (i : Nat), i < l.length → (l.set i x).take (i + 1) = l.take i ++ [x]
  | [], i, h => by simp at h
  | y :: l, 0, _ => by simp
  | y :: l, i + 1, h => by
    simp only [List.set_cons_succ, List.take_succ_cons, List.cons_append]
    rw [take_set x l i (by simpa using h)]
theorem foldl_set {α : Type} (off : Nat) : ∀ (l : List α) (k : Nat) (cs : Array α), off + k + l.length ≤ cs.size →
    ((l.zipIdx k).foldl (fun cs p => cs.setIfInBounds (off + p.2) p.1) cs).toList = cs.toList.take (off + k) ++ l ++ cs.toList.drop (off + k + l.length)
  | [], k, cs, _ => by simp
  | x :: l, k, cs, h => by
    simp only [List.length_cons] at h
    simp only [List.zipIdx_cons, List.foldl_cons]
    rw [foldl_set off l (k + 1) (cs.setIfInBounds (off + k) x) (by simp; omega)]
    simp only [Array.toList_setIfInBounds, List.length_cons]
    rw [← Nat.add_assoc off k 1, take_set x cs.toList (off + k) (by simp; omega), List.drop_set_of_lt (by omega)]
    simp only [List.append_assoc, List.cons_append, List.nil_append]
    rw [show off + k + 1 + l.length = off + k + (l.length + 1) by omega]
section
variable {D : Nat → Prop} {w0 : Bs} {w : World} {N0 : Nat → Prop} {μ : Mu} {S : AS} {a : Act} {P : Program}
def Row (w : World) (N : Nat → Prop) (μ : Mu) (xs : List Value) (cs : List V) : Prop := xs.length = cs.length ∧ ∀ (i : Nat) x c, xs[i]? = some x → cs[i]? = some c → Enc w N μ x c
theorem Row.append {N : Nat → Prop} {xs ys : List Value} {cs ds : List V} (h : Row w N μ xs cs) (k : Row w N μ ys ds) : Row w N μ (xs ++ ys) (cs ++ ds) := by
  refine ⟨by simp [h.1, k.1], fun i x c hx hc => ?_⟩
  by_cases hi : i < xs.length
  · rw [List.getElem?_append_left hi] at hx
    rw [List.getElem?_append_left (by rw [← h.1]; exact hi)] at hc
    exact h.2 i x c hx hc
  · rw [List.getElem?_append_right (by omega)] at hx
    rw [List.getElem?_append_right (by rw [← h.1]; omega), ← h.1] at hc
    exact k.2 _ x c hx hc
theorem Row.take {N : Nat → Prop} {xs : List Value} {cs : List V} (h : Row w N μ xs cs) (n : Nat) : Row w N μ (xs.take n) (cs.take n) := by
  refine ⟨by simp [h.1], fun i x c hx hc => ?_⟩
  have hi : i < n := by have := (List.getElem?_eq_some_iff.1 hx).1; simp at this; omega
  rw [List.getElem?_take_of_lt hi] at hx hc
  exact h.2 i x c hx hc
theorem Row.drop {N : Nat → Prop} {xs : List Value} {cs : List V} (h : Row w N μ xs cs) (n : Nat) : Row w N μ (xs.drop n) (cs.drop n) := by
  refine ⟨by simp [h.1], fun i x c hx hc => ?_⟩
  rw [List.getElem?_drop] at hx hc
  exact h.2 _ x c hx hc
theorem Enc.row {N : Nat → Prop} {x : Value} {v : V} (h : Enc w N μ x v) (hv : cellOk v = true) : Row w N μ x.cells.toList v.cells := by
  have hf : v.fits v.cells.length := ⟨rfl, fun c hc => by simpa using List.all_eq_true.1 hv c hc⟩
  obtain ⟨h1, h2⟩ := h.cells_at hf
  refine ⟨by simpa using h1, fun i y c hy hc => ?_⟩
  obtain ⟨z, hz, hez, _⟩ := h2 i c hc
  rw [Array.getElem?_toList, hz] at hy
  injection hy with hy
  subst hy
  exact hez
theorem args_spec (h : RelM D w0 N0 μ S a w) {c : Bool} (hc : c = true) : ∀ {xs : List Operand} {vs : List V}, S.args c xs = some vs →
    vs.length = xs.length ∧ ∀ (i : Nat) x v, xs[i]? = some x → vs[i]? = some v → Enc w (Own N0 μ S) μ (a.eval x) v
  | [], vs, hv => by simp only [AS.args, Option.some.injEq] at hv; subst hv; simp
  | x :: r, vs, hv => by
    simp only [AS.args] at hv
    split at hv
    case h_2 => cases hv
    rename_i v vs' h1 h2
    injection hv with hv
    subst hv
    obtain ⟨h3, h4⟩ := args_spec h hc h2
    refine ⟨by simp [h3], fun i y u hy hu => ?_⟩
    rcases i with _ | i
    · simp at hy hu; subst hy; subst hu; exact h.evc h1 hc
    · simp at hy hu; exact h4 i y u hy hu
theorem bytesV_spec : ∀ {es : List V} {l : List UInt8}, bytesV es = some l → ∃ ns : List Int, es = ns.map (V.int .u8) ∧ l = ns.map (fun n => UInt8.ofNat n.toNat)
  | [], l, h => by simp only [bytesV, Option.some.injEq] at h; subst h; exact ⟨[], rfl, rfl⟩
  | e :: es, l, h => by
    cases e <;> try (cases h; done)
    rename_i k n
    cases k <;> try (cases h; done)
    simp only [bytesV] at h
    split at h
    case h_2 => cases h
    rename_i l' hl
    split at h
    case isFalse => cases h
    injection h with h
    subst h
    obtain ⟨ns, rfl, rfl⟩ := bytesV_spec hl
    exact ⟨n :: ns, rfl, rfl⟩
theorem push_bytes : ∀ (ns : List Int) (s : List UInt8), ns.foldl (fun (r : ByteArray) n => r.push (UInt8.ofNat n.toNat)) ⟨s.toArray⟩ = ⟨(s ++ ns.map fun n => UInt8.ofNat n.toNat).toArray⟩
  | [], s => by simp
  | n :: ns, s => by
    simp only [List.foldl_cons, List.map_cons]
    have : (ByteArray.mk s.toArray).push (UInt8.ofNat n.toNat) = ⟨(s ++ [UInt8.ofNat n.toNat]).toArray⟩ := by
      simp [ByteArray.push]
    rw [this, push_bytes ns]
    simp
theorem convert_bytes_run {N : Nat → Prop} {x : Value} {es : List V} {l : List UInt8} {src dst : TypeId} (hx : Enc w N μ x (.ro 1 es)) (hd : tstr P dst = true) (hs : tbyteS P src = true) (hb : bytesV es = some l) :
    (convert src dst x).run P w = .ok (.string ⟨l.toArray⟩) w := by
  obtain ⟨ns, rfl, rfl⟩ := bytesV_spec hb
  have hdu := tstr_underlying hd
  unfold tbyteS at hs
  split at hs
  case h_2 => cases hs
  rename_i e he
  have heu : P.underlying e = some (.int .u8) := tint_underlying (by simpa using hs)
  have hsu := telem_underlying he
  cases hx with
  | pur hx =>
  cases hx with
  | ro A ad n cap _ _ g hn hcap hmax hA hf hc hh =>
  rw [run_convert_bytes_string w src dst e A n cap hsu heu hdu]
  have hemp : (ByteArray.empty : ByteArray) = ⟨([] : List UInt8).toArray⟩ := rfl
  cases hns : ns with
  | nil =>
    subst hns
    have h0 : n = 0 := by simpa using hn.symm
    subst h0
    cases A with
    | none => simp [Conv.bytesToString]; rfl
    | some a0 =>
      rw [run_bytesToString w a0 0 cap [] (by simp [loadCells, loadCellsFrom])]
      rfl
  | cons n0 ns0 =>
    obtain ⟨rfl, _, _⟩ := hA (by rw [← hn, hns]; simp)
    rw [← hns]
    have hl : (loadCells ad n).run P w = .ok (ns.map (Value.int .u8)).toArray w := by
      have := run_loadCells_list (P := P) w ad (ns.map (Value.int .u8)) (fun j v hj => by
        simp only [List.getElem?_map, Option.map_eq_some_iff] at hj
        obtain ⟨m, hm, rfl⟩ := hj
        have h1 := hc j (.int .u8 m) 0 (.int .u8 m) (by simp [hm]) rfl
        have h2 := hh j (.int .u8 m) 0 (.int .u8 m) (by simp [hm]) rfl
        simp only [Nat.mul_one, Nat.add_zero] at h1
        rw [h1]
        generalize g j 0 = y at h2
        cases h2
        rfl)
      rw [List.length_map, show ns.length = n by simpa using hn] at this
      exact this
    rw [run_bytesToString w ad n cap ns hl, hemp, push_bytes]
    simp
theorem tconc_spec {t : TypeId} (h : tconc P t = true) : ∃ de, P.underlying t = some de ∧ ∀ l, de ≠ .interface l := by
  unfold tconc at h
  split at h
  · cases h
  · cases h
  · rename_i h1 h2
    cases hd : P.underlying t with
    | none => exact absurd hd h2
    | some de => exact ⟨de, rfl, fun l hl => h1 l (by rw [hd, hl])⟩
theorem iface_run {N : Nat → Prop} {x : Value} {v : V} {t : TypeId} (hx : Enc w N μ x v) (ht : tconc P t = true) (hv : v.isCell = true ∨ v.flat2 = true) :
    (Instr.makeInterface t x).run P w = .ok (.iface t x) w ∧ Enc w N μ (.iface t x) (.ifc t v) := by
  obtain ⟨de, hde, hne⟩ := tconc_spec ht
  refine ⟨?_, ?_⟩
  · simp only [Instr.makeInterface, Sem.run_bind, run_underlying hde, Result.andThen_ok]
    try rfl
  · rcases hv with hv | hv
    · exact .ifc t x v hv hx
    · refine .pur (.ifc t x v hv ?_)
      cases hx with
      | pur hx => exact hx
      | agg xs cs hl hc hh =>
        refine .agg xs cs hl hc (fun i x c h1 h2 => ?_)
        have hfc := List.all_eq_true.1 hv c (List.mem_of_getElem? h2)
        have := hh i x c h1 h2
        cases this with
        | pur h => exact h
        | _ => simp [V.flat1] at hfc
      | _ => simp [V.flat2, V.flat1] at hv
theorem tup2 {N : Nat → Prop} {x y : Value} {u v : V} (hx : Enc w N μ x u) (hy : Enc w N μ y v) : Enc w N μ (.tuple #[x, y]) (.tup [u, v]) :=
  .tup [x, y] [u, v] rfl (fun i x' c h1 h2 => by
    rcases i with _ | _ | i
    · simp at h1 h2; subst h1; subst h2; exact hx
    · simp at h1 h2; subst h1; subst h2; exact hy
    · simp at h1)
theorem assert_run {N : Nat → Prop} {x : Value} {u v : V} {at_ xt : TypeId} {ok : Bool} (hx : Enc w N μ x u) (ht : tconc P at_ = true) (hv : assertV ok at_ (tzero P at_) u = some v) :
    ∃ y, (Instr.typeAssert x xt at_ ok).run P w = .ok y w ∧ Enc w N μ y v := by
  obtain ⟨de, hde, hne⟩ := tconc_spec ht
  have hz : ∀ z, tzero P at_ = some z → ∃ zv, (zeroValue at_).run P w = .ok zv w ∧ Pur w N zv z := by
    intro z hz
    unfold tzero at hz
    obtain ⟨inf, hi, hz⟩ := Option.bind_eq_some_iff.1 hz
    obtain ⟨zv, hzv, hz⟩ := Option.bind_eq_some_iff.1 hz
    exact ⟨zv, by simp [zeroValue, typeInfo, hi, hzv], zeroOf_pur hz w _⟩
  have hn : ∀ (y : Value), ok = true → (∀ z, tzero P at_ = some z → v = .tup [z, .bool false] → ((Instr.typeAssert y xt at_ ok).run P w = (do pure (.tuple #[← zeroValue at_, .bool false]) : Sem Value).run P w) → ∃ y', (Instr.typeAssert y xt at_ ok).run P w = .ok y' w ∧ Enc w N μ y' v) := by
    intro y hok z h1 h2 h3
    obtain ⟨zv, h4, h5⟩ := hz z h1
    subst h2
    exact ⟨.tuple #[zv, .bool false], by rw [h3]; simp [h4], tup2 (.pur h5) (.pur (.bool _))⟩
  have hdyn : ∀ (t : TypeId) (y : Value) (c : V), Enc w N μ y c → (if t = at_ then some (if ok then V.tup [c, .bool true] else c) else (if ok then (tzero P at_).map fun z => V.tup [z, .bool false] else none)) = some v →
      ∃ y', (Instr.typeAssert (.iface t y) xt at_ ok).run P w = .ok y' w ∧ Enc w N μ y' v := by
    intro t y c hy hvv
    by_cases hte : t = at_
    · rw [if_pos hte] at hvv
      injection hvv with hvv
      subst hvv
      refine ⟨if ok then .tuple #[y, .bool true] else y, ?_, ?_⟩
      · simp only [Instr.typeAssert, Sem.run_bind, run_underlying hde, Result.andThen_ok]
        cases de <;> first | (exact absurd rfl (hne _)) | (simp [hte])
      · cases ok
        · exact hy
        · exact tup2 hy (.pur (.bool _))
    · rw [if_neg hte] at hvv
      cases hok : ok with
      | false => rw [hok] at hvv; simp at hvv
      | true =>
        rw [hok] at hvv
        simp only [if_true, Option.map_eq_some_iff] at hvv
        obtain ⟨z, hz1, hz2⟩ := hvv
        have h3 : (Instr.typeAssert (.iface t y) xt at_ ok).run P w = (do pure (.tuple #[← zeroValue at_, .bool false]) : Sem Value).run P w := by
          simp only [Instr.typeAssert, Sem.run_bind, run_underlying hde, Result.andThen_ok]
          cases de <;> first | (exact absurd rfl (hne _)) | (simp [hte, hok])
        have := hn (.iface t y) hok z hz1 hz2.symm h3
        rw [hok] at this
        exact this
  cases u <;> simp only [assertV] at hv <;> try (cases hv; done)
  case nili =>
    split at hv
    case isFalse => cases hv
    rename_i hok
    obtain ⟨z, hz1, hz2⟩ := Option.map_eq_some_iff.1 hv
    have hxe : x = .nilIface := by
      cases hx with
      | pur hx => cases hx; rfl
    subst hxe
    exact hn .nilIface hok z hz1 hz2.symm (by
      simp only [Instr.typeAssert, Sem.run_bind, run_underlying hde, Result.andThen_ok]
      cases de <;> first | (exact absurd rfl (hne _)) | (simp [hok]))
  case ifc t c =>
    cases hx with
    | pur hx =>
      cases hx with
      | ifc _ y _ _ hy => exact hdyn t y c (.pur hy) hv
    | ifc _ y _ _ hy => exact hdyn t y c hy hv
theorem V.pl_pur {N : Nat → Prop} {x : Value} {v : V} (h : Enc w N μ x v) (hp : v.pl = true) : Pur w N x v := by
  cases h with
  | pur h => exact h
  | _ => simp [V.pl] at hp
theorem V.plA_pur {N : Nat → Prop} {x : Value} {v : V} (h : Enc w N μ x v) (hp : v.plA = true) : Pur w N x v := by
  cases h with
  | pur h => exact h
  | agg xs cs hl hc hh => exact .agg xs cs hl hc (fun i x c h1 h2 => V.pl_pur (hh i x c h1 h2) (List.all_eq_true.1 hp c (List.mem_of_getElem? h2)))
  | _ => simp [V.plA, V.pl] at hp
theorem V.pl_still {v : V} (h : v.pl = true) : v.still = true ∧ v.isCell = true := by cases v <;> first | exact ⟨rfl, rfl⟩ | simp [V.pl] at h
theorem V.pcell_pur {N : Nat → Prop} {x : Value} {v u : V} (h : Enc w N μ x v) (hp : v.pcell = some u) : Pur w N x u ∧ u.isCell = true := by
  have key : v.pl = true → u = v → Pur w N x u ∧ u.isCell = true := fun h1 h2 => by subst h2; exact ⟨V.pl_pur h h1, (V.pl_still h1).2⟩
  cases v with
  | clo f us vs =>
    simp only [V.pcell] at hp
    split at hp
    case isFalse => cases hp
    rename_i hb
    injection hp with hp
    subst hp
    cases h with
    | pur h => cases h
    | clo _ xs ys _ _ hl hm hc hh hk =>
      refine ⟨.fc f xs ys us vs hl hm (fun i x c h1 h2 => V.pl_pur (hh i x c h1 h2) (List.all_eq_true.1 hb.1 c (List.mem_of_getElem? h2))) (fun i x c h1 h2 => V.pl_pur (hk i x c h1 h2) (List.all_eq_true.1 hb.2 c (List.mem_of_getElem? h2))), ?_⟩
      simp only [V.isCell, Bool.and_eq_true, List.all_eq_true]
      exact ⟨fun c hc => (V.pl_still (List.all_eq_true.1 hb.1 c hc)).1, fun c hc => (V.pl_still (List.all_eq_true.1 hb.2 c hc)).1⟩
  | fc f us vs =>
    simp only [V.pcell] at hp
    split at hp
    case isFalse => cases hp
    rename_i hb
    injection hp with hp
    subst hp
    cases h with
    | pur h => exact ⟨h, by simp only [V.isCell, hb.1, hb.2, Bool.and_self]⟩
  | _ =>
    simp only [V.pcell] at hp
    split at hp
    case isFalse => cases hp
    rename_i hb
    injection hp with hp
    exact key hb hp.symm
theorem pcells_spec : ∀ {cs ds : List V}, pcells cs = some ds → ds.length = cs.length ∧ ∀ (i : Nat) c d, cs[i]? = some c → ds[i]? = some d → c.pcell = some d
  | [], ds, h => by simp only [pcells, Option.some.injEq] at h; subst h; simp
  | c :: r, ds, h => by
    simp only [pcells] at h
    split at h
    case h_2 => cases h
    rename_i d ds' h1 h2
    injection h with h
    subst h
    obtain ⟨h3, h4⟩ := pcells_spec h2
    refine ⟨by simp [h3], fun i y u hy hu => ?_⟩
    rcases i with _ | i
    · simp at hy hu; subst hy; subst hu; exact h1
    · simp at hy hu; exact h4 i y u hy hu
theorem dm_run {N : Nat → Prop} {x : Value} {v u : V} {t : TypeId} (hx : Enc w N μ x v) (ht : tconc P t = true) (hv : dmV t v = some u) :
    (Instr.makeInterface t x).run P w = .ok (.iface t x) w ∧ Enc w N μ (.iface t x) u := by
  obtain ⟨de, hde, hne⟩ := tconc_spec ht
  refine ⟨?_, ?_⟩
  · simp only [Instr.makeInterface, Sem.run_bind, run_underlying hde, Result.andThen_ok]
    try rfl
  · cases v with
    | agg cs =>
      simp only [dmV, Option.map_eq_some_iff] at hv
      obtain ⟨ds, hds, rfl⟩ := hv
      obtain ⟨h1, h2⟩ := pcells_spec hds
      have key : ∀ xs : List Value, xs.length = cs.length → (∀ (i : Nat) x c, xs[i]? = some x → cs[i]? = some c → Enc w N μ x c) → Enc w N μ (.iface t (.agg xs.toArray)) (.dm t ds) := by
        intro xs hl hh
        have hk : ∀ (i : Nat) x d, xs[i]? = some x → ds[i]? = some d → Pur w N x d ∧ d.isCell = true := by
          intro i x d hx hd
          have hi : i < cs.length := by have := (List.getElem?_eq_some_iff.1 hd).1; omega
          have hc := List.getElem?_eq_getElem hi
          exact V.pcell_pur (hh i x _ hx hc) (h2 i _ d hc hd)
        refine .pur (.dm t xs ds (by omega) (fun d hd => ?_) (fun i x d hx hd => (hk i x d hx hd).1))
        obtain ⟨i, hi, rfl⟩ := List.mem_iff_getElem.1 hd
        exact (hk i xs[i] _ (List.getElem?_eq_getElem (by omega)) (List.getElem?_eq_getElem hi)).2
      cases hx with
      | pur hx => cases hx with
        | agg xs _ hl hc hh => exact key xs hl (fun i x c a b => .pur (hh i x c a b))
      | agg xs _ hl hc hh => exact key xs hl hh
    | _ => simp [dmV] at hv
theorem func_runF {first caps : List Operand} {us vs : List V} (h : RelM D w0 N0 μ S a w) {c : Bool} (hc : c = true) (hcell : us.all V.plA = true ∧ vs.all V.plA = true) (h1 : S.args c first = some us) (h2 : S.args c caps = some vs) (f : FuncId) :
    Enc w (Own N0 μ S) μ (.func (.func f) (first.map a.eval).toArray (caps.map a.eval).toArray) (.fc f us vs) := by
  obtain ⟨a1, a2⟩ := args_spec h hc h1
  obtain ⟨b1, b2⟩ := args_spec h hc h2
  refine .pur (.fc f _ _ us vs (by simp [a1]) (by simp [b1]) (fun i x c hx hcc => ?_) (fun i x c hx hcc => ?_))
  · simp only [List.getElem?_map, Option.map_eq_some_iff] at hx
    obtain ⟨y, hy, rfl⟩ := hx
    exact V.plA_pur (a2 i y c hy hcc) (List.all_eq_true.1 hcell.1 c (List.mem_of_getElem? hcc))
  · simp only [List.getElem?_map, Option.map_eq_some_iff] at hx
    obtain ⟨y, hy, rfl⟩ := hx
    exact V.plA_pur (b2 i y c hy hcc) (List.all_eq_true.1 hcell.2 c (List.mem_of_getElem? hcc))
theorem func_run {first caps : List Operand} {us vs : List V} (h : RelM D w0 N0 μ S a w) {c : Bool} (hc : c = true) (hcell : us.all V.isCell = true ∧ vs.all V.isCell = true) (h1 : S.args c first = some us) (h2 : S.args c caps = some vs) (f : FuncId) :
    Enc w (Own N0 μ S) μ (.func (.func f) (first.map a.eval).toArray (caps.map a.eval).toArray) (.clo f us vs) := by
  obtain ⟨a1, a2⟩ := args_spec h hc h1
  obtain ⟨b1, b2⟩ := args_spec h hc h2
  refine .clo f _ _ us vs (by simp [a1]) (by simp [b1]) (fun c hc => hc.elim (List.all_eq_true.1 hcell.1 c) (List.all_eq_true.1 hcell.2 c)) (fun i x c hx hcc => ?_) (fun i x c hx hcc => ?_)
  · simp only [List.getElem?_map, Option.map_eq_some_iff] at hx
    obtain ⟨y, hy, rfl⟩ := hx
    exact a2 i y c hy hcc
  · simp only [List.getElem?_map, Option.map_eq_some_iff] at hx
    obtain ⟨y, hy, rfl⟩ := hx
    exact b2 i y c hy hcc
theorem fill_run {N : Nat → Prop} {place : Nat → Option (Nat × Nat)} {place' : Nat → Option (Nat × Nat)} (hpl : ∀ i r, place i = some r → place' i = some r) :
    ∀ (vs : List (Nat × V)) (ps : List (Nat × Value)) (zs : List V) (cells : Array Value) (r : List V), ps.length = vs.length →
    (∀ (j : Nat) p q, ps[j]? = some p → vs[j]? = some q → p.1 = q.1 ∧ Enc w N μ p.2 q.2) → (∀ p ∈ vs, cellOk p.2 = true) → (∀ c ∈ zs, c.isCell = true) → Row w N μ cells.toList zs → afill place zs vs = some r →
    ∃ out, Instr.fill place' cells ps = some out ∧ Row w N μ out.toList r ∧ (∀ c ∈ r, c.isCell = true)
  | [], [], zs, cells, r, _, _, _, hz, hr, h => by
    simp only [afill, Option.some.injEq] at h
    subst h
    exact ⟨cells, rfl, hr, hz⟩
  | [], _ :: _, _, _, _, h, _, _, _, _, _ => by simp at h
  | _ :: _, [], _, _, _, h, _, _, _, _, _ => by simp at h
  | (i, v) :: vs, (i', x) :: ps, zs, cells, r, hl, hp, hok, hz, hr, h => by
    obtain ⟨e, hx⟩ := hp 0 _ _ rfl rfl
    simp only at e hx
    subst e
    simp only [afill] at h
    split at h
    case h_1 => cases h
    rename_i off size hpi
    split at h
    case isFalse => cases h
    rename_i hsz
    obtain ⟨hsz, hle⟩ := hsz
    have hrow := hx.row (hok (i', v) (by simp))
    have hxs : x.cells.size = size := by have := hrow.1; simp at this; omega
    have hcs : cells.size = zs.length := by simpa using hr.1
    have hnew : Row w N μ (x.cells.zipIdx.foldl (fun cs p => cs.setIfInBounds (off + p.2) p.1) cells).toList (zs.take off ++ v.cells ++ zs.drop (off + size)) := by
      rw [← Array.foldl_toList, Array.toList_zipIdx, foldl_set off x.cells.toList 0 cells (by simp; omega)]
      simp only [Nat.add_zero, Array.length_toList, hxs]
      exact ((hr.take _).append hrow).append (hr.drop _)
    obtain ⟨out, h1, h2, h3⟩ := fill_run hpl vs ps _ _ r (by simpa using hl) (fun j p q h1 h2 => hp (j + 1) p q (by simpa using h1) (by simpa using h2)) (fun p hp => hok p (by simp [hp]))
      (fun c hc => by
        simp only [List.mem_append] at hc
        rcases hc with (hc | hc) | hc
        · exact hz c (List.mem_of_mem_take hc)
        · exact List.all_eq_true.1 (hok (i', v) (by simp)) c hc
        · exact hz c (List.mem_of_mem_drop hc)) hnew h
    refine ⟨out, ?_, h2, h3⟩
    simp only [Instr.fill, hpl _ _ hpi, hxs]
    rw [if_neg (by simp; omega)]
    exact h1
theorem mapM_places {fs : Array Field} (h : ∀ (i : Nat) f, fs[i]? = some f → ∃ n, tsz P f.type = some n) :
    (fs.mapM fun f => do pure (f.offset, ← sizeOf f.type) : Sem (Array (Nat × Nat))).run P w = .ok (fs.map fun f => (f.offset, (tsz P f.type).getD 0)) w := by
  rw [Array.mapM_eq_mapM_toList]
  have key : ∀ (l : List Field), (∀ f ∈ l, ∃ n, tsz P f.type = some n) → (l.mapM fun f => do pure (f.offset, ← sizeOf f.type) : Sem (List (Nat × Nat))).run P w = .ok (l.map fun f => (f.offset, (tsz P f.type).getD 0)) w := by
    intro l
    induction l with
    | nil => intro _; rfl
    | cons f l ih =>
      intro hl
      obtain ⟨n, hn⟩ := hl f (by simp)
      simp only [List.mapM_cons, Sem.run_bind, tsz_run hn, Result.andThen_ok, Sem.run_pure, ih (fun g hg => hl g (by simp [hg])), List.map_cons, hn, Option.getD_some]
  have hm : ∀ f ∈ fs.toList, ∃ n, tsz P f.type = some n := fun f hf => by
    obtain ⟨i, hi⟩ := List.getElem?_of_mem hf
    exact h i f (by simpa using hi)
  rw [Sem.run_map, key _ hm, Result.andThen_ok]
  congr 1
  apply Array.ext'
  simp
theorem tplace_spec {t i off n : Nat} (h : tplace P t i = some (off, n)) : ∃ fs fd, P.underlying t = some (.struct fs) ∧ fs[i]? = some fd ∧ fd.offset = off ∧ tsz P fd.type = some n := by
  unfold tplace at h
  obtain ⟨⟨o, n', g⟩, h1, h2⟩ := Option.map_eq_some_iff.1 h
  simp only [Prod.mk.injEq] at h2
  obtain ⟨rfl, rfl⟩ := h2
  obtain ⟨fs, fd, a1, a2, a3, a4, _⟩ := tfield_spec h1
  exact ⟨fs, fd, a1, a2, a3, a4⟩
theorem build_run {N : Nat → Prop} {t : TypeId} {z : List V} {vs : List (Nat × V)} {ps : List (Nat × Value)} {r : List V} (ht : tfields P t = true) (hz : tzero P t = some (.agg z)) (hl : ps.length = vs.length)
    (hp : ∀ (j : Nat) p q, ps[j]? = some p → vs[j]? = some q → p.1 = q.1 ∧ Enc w N μ p.2 q.2) (hok : ∀ p ∈ vs, cellOk p.2 = true) (hr : afill (tplace P t) z vs = some r) :
    ∃ x, (Instr.build t ps.toArray).run P w = .ok x w ∧ Enc w N μ x (.agg r) := by
  unfold tfields at ht
  split at ht
  case h_2 => cases ht
  rename_i fs hfs
  unfold tzero at hz
  obtain ⟨inf, hinf, hz⟩ := Option.bind_eq_some_iff.1 hz
  obtain ⟨zv, hzv, hz⟩ := Option.bind_eq_some_iff.1 hz
  have hpz := zeroOf_pur hz w N
  have hsz : ∀ (i : Nat) f, fs[i]? = some f → ∃ n, tsz P f.type = some n := fun i f hf => by
    have := Array.all_eq_true'.1 ht f (Array.mem_of_getElem? hf)
    exact Option.isSome_iff_exists.1 this
  have hpl : ∀ i q, tplace P t i = some q → (fs.map fun f => (f.offset, (tsz P f.type).getD 0))[i]? = some q := by
    rintro i ⟨off, n⟩ hq
    obtain ⟨fs', fd, h1, h2, h3, h4⟩ := tplace_spec hq
    rw [hfs] at h1
    injection h1 with h1
    injection h1 with h1
    subst h1
    simp [h2, h3, h4]
  cases hpz with
  | agg xs _ hlx hcx hhx =>
  obtain ⟨out, h1, h2, h3⟩ := fill_run (w := w) (N := N) (μ := μ) (place' := fun i => (fs.map fun f => (f.offset, (tsz P f.type).getD 0))[i]?) hpl vs ps z xs.toArray r hl hp hok hcx ⟨hlx, fun i x c h1 h2 => .pur (hhx i x c h1 h2)⟩ hr
  refine ⟨.agg out, ?_, ?_⟩
  · simp only [Instr.build, Sem.run_bind, zeroValue, typeInfo, run_program, hinf, Sem.run_pure, Result.andThen_ok, hzv, run_underlying hfs, mapM_places hsz, Value.cells, h1]
  · have : out = out.toList.toArray := by simp
    rw [this]
    exact .agg _ _ h2.1 h3 h2.2
theorem eval_map_parts (a : Act) (parts : Array (Nat × Operand)) : (parts.map fun (i, x) => (i, a.eval x)) = (parts.toList.map fun p => (p.1, a.eval p.2)).toArray := by
  apply Array.ext'
  simp
theorem aval_run (h : RelM D w0 N0 μ S a w) {c : Bool} (hc : c = true) {o : Oper} {v : V} (hv : aval P S c o.op = some v) :
    ∃ x, (execOp a.eval o).run P w = .ok (.value x) w ∧ Enc w (Own N0 μ S) μ x v := by
  unfold execOp
  cases hop : o.op <;> rw [hop] at hv <;> simp only [aval] at hv <;> (try (cases hv; done)) <;> dsimp only
  case move x => exact ⟨_, rfl, h.evc hv hc⟩
  case assign x => exact ⟨_, rfl, h.evc hv hc⟩
  case pick x y z =>
    split at hv
    case h_2 => cases hv
    rename_i g hg
    have hx := h.evc hg hc
    generalize a.eval x = xv at hx ⊢
    cases hx with
    | pur hx =>
    cases hx with
    | bool =>
    subst hc
    simp only [Sem.run_bind, asBool, Sem.run_pure, Result.andThen_ok]
    split at hv
    · rename_i p q hy hz
      injection hv with hv
      subst hv
      cases g
      · exact ⟨_, rfl, by simpa using h.evc hz rfl⟩
      · exact ⟨_, rfl, by simpa using h.evc hy rfl⟩
    · rename_i u v' hnb hy hz
      split at hv
      · injection hv with hv; subst hv; exact ⟨_, rfl, by simpa using h.evc hy rfl⟩
      · injection hv with hv; subst hv; exact ⟨_, rfl, by simpa using h.evc hz rfl⟩
    · cases hv
  case load t x =>
    split at hv
    case h_3 => cases hv
    · rename_i b k m hp
      split at hv
      case isFalse => cases hv
      rename_i hb
      injection hv with hv
      subst hv
      obtain ⟨y, hy, hey⟩ := aval_loadM (h.evc hp hc) hb.1 hb.2
      exact ⟨y, by simp [hy], hey⟩
    rename_i p _ hp
    split at hv
    case h_2 => cases hv
    rename_i e off n g h1 h2 h3
    obtain ⟨y, hy, hey⟩ := aval_load h (h.evc hp hc) h1 h2 h3 hv
    exact ⟨y, by simp [hy], hey⟩
  case nilCheck x =>
    split at hv
    · rename_i e he
      injection hv with hv; subst hv
      have hx := h.evc he hc
      generalize a.eval x = xv at hx ⊢
      refine ⟨xv, ?_, hx⟩
      cases hx with
      | pur hx =>
      cases hx with
      | rp => rfl
    · rename_i d v' sz k off he
      injection hv with hv; subst hv
      have hx := h.evc he hc
      generalize a.eval x = xv at hx ⊢
      refine ⟨xv, ?_, hx⟩
      cases hx with
      | pur hx => cases hx
      | bp => rfl
    · cases hv
  case binOp op t x y yt =>
    split at hv
    case h_2 => cases hv
    rename_i u v' h1 h2
    obtain ⟨z, hz, hez⟩ := abin_run hv (h.evc h1 hc) (h.evc h2 hc) x y
    exact ⟨z, by rw [Sem.run_bind, hz]; rfl, .pur hez⟩
  case unOp op t x =>
    split at hv
    case h_2 => cases hv
    rename_i u h1
    obtain ⟨z, hz, hez⟩ := aun_run (P := P) hv (h.evc h1 hc)
    exact ⟨z, by rw [Sem.run_bind, hz]; rfl, .pur hez⟩
  case convert src dst x =>
    split at hv
    · rename_i k0 n k h1 h2
      split at hv
      case isFalse => cases hv
      rename_i hs
      injection hv with hv
      subst hv
      have hx := h.evc h1 hc
      generalize a.eval x = xv at hx ⊢
      cases hx with
      | pur hx =>
      cases hx with
      | int =>
      have hu := tint_underlying h2
      obtain ⟨de, hde⟩ := Option.isSome_iff_exists.1 hs
      exact ⟨.int k (k.wrap n), by simp [convert, run_underlying hde, run_underlying hu, Conv.intToInt], .pur (.int _ _)⟩
    · rename_i es h1 h2
      split at hv
      case isFalse => cases hv
      rename_i hs
      obtain ⟨l, hl, rfl⟩ := Option.map_eq_some_iff.1 hv
      exact ⟨_, by rw [Sem.run_bind, convert_bytes_run (h.evc h1 hc) hs.1 hs.2 hl]; rfl, .pur (.str _)⟩
    · rename_i l h1 h2
      split at hv
      case isFalse => cases hv
      rename_i hs
      injection hv with hv
      subst hv
      have hx := h.evc h1 hc
      generalize a.eval x = xv at hx ⊢
      cases hx with
      | pur hx =>
      cases hx with
      | str =>
      have hu := tstr_underlying hs.1
      obtain ⟨de, hde⟩ := Option.isSome_iff_exists.1 hs.2
      exact ⟨.string ⟨l.toArray⟩, by simp [convert, run_underlying hde, run_underlying hu], .pur (.str _)⟩
    · cases hv
  case makeInterface t x =>
    split at hv
    case h_2 => cases hv
    rename_i u h1
    split at hv
    · rename_i hb
      injection hv with hv
      subst hv
      obtain ⟨h2, h3⟩ := iface_run (P := P) (h.evc h1 hc) hb.1 hb.2
      exact ⟨_, by rw [Sem.run_bind, h2]; rfl, h3⟩
    · split at hv
      case isFalse => cases hv
      rename_i hb
      obtain ⟨h2, h3⟩ := dm_run (P := P) (h.evc h1 hc) hb hv
      exact ⟨_, by rw [Sem.run_bind, h2]; rfl, h3⟩
  case typeAssert x xt at_ ok =>
    split at hv
    case h_2 => cases hv
    rename_i u h1
    split at hv
    case isFalse => cases hv
    rename_i hb
    obtain ⟨y, hy, hey⟩ := assert_run (P := P) (xt := xt) (h.evc h1 hc) hb hv
    exact ⟨y, by rw [Sem.run_bind, hy]; rfl, hey⟩
  case makeFunc fv first caps =>
    cases fv with
    | func f =>
      have key : ∀ us vs, us.all V.isCell = true ∧ vs.all V.isCell = true → S.args c first.toList = some us → S.args c caps.toList = some vs → Enc w (Own N0 μ S) μ (.func (.func f) (first.map a.eval) (caps.map a.eval)) (.clo f us vs) := by
        intro us vs hcell h1 h2
        have := func_run h hc hcell h1 h2 f
        have e1 : (first.toList.map a.eval).toArray = first.map a.eval := by apply Array.ext'; simp
        have e2 : (caps.toList.map a.eval).toArray = caps.map a.eval := by apply Array.ext'; simp
        rwa [e1, e2] at this
      simp only at hv
      split at hv
      · rename_i h1 h2
        injection hv with hv
        subst hv
        obtain ⟨a1, _⟩ := args_spec h hc h1
        obtain ⟨b1, _⟩ := args_spec h hc h2
        have e1 : first = #[] := by simpa using a1.symm
        have e2 : caps = #[] := by simpa using b1.symm
        subst e1; subst e2
        exact ⟨.func (.func f) #[] #[], by simp [Instr.makeFunc], .pur (.fn f)⟩
      · rename_i us vs _ h1 h2
        split at hv
        · rename_i hcell
          injection hv with hv
          subst hv
          have := func_runF h hc hcell h1 h2 f
          have e1 : (first.toList.map a.eval).toArray = first.map a.eval := by apply Array.ext'; simp
          have e2 : (caps.toList.map a.eval).toArray = caps.map a.eval := by apply Array.ext'; simp
          rw [e1, e2] at this
          exact ⟨_, by simp only [Instr.makeFunc, Sem.run_bind, Sem.run_pure, Result.andThen_ok], this⟩
        split at hv
        case isFalse => cases hv
        rename_i hcell
        injection hv with hv
        subst hv
        exact ⟨_, by simp only [Instr.makeFunc, Sem.run_bind, Sem.run_pure, Result.andThen_ok], key us vs hcell h1 h2⟩
      · cases hv
    | _ => simp only at hv; cases hv
  case fieldAddr t x f =>
    split at hv
    · rename_i e off n g h1 h2
      obtain ⟨r, hr, rfl⟩ := Option.map_eq_some_iff.1 hv
      obtain ⟨y, hy, hey⟩ := aval_fieldAddr_rp h (h.evc h1 hc) h2 hr
      exact ⟨y, by rw [Sem.run_bind, hy]; rfl, hey⟩
    · rename_i d v' sz k o' off n g h1 h2
      injection hv with hv
      subst hv
      obtain ⟨y, hy, hey⟩ := aval_fieldAddr_bp h (h.evc h1 hc) h2
      exact ⟨y, by rw [Sem.run_bind, hy]; rfl, hey⟩
    · cases hv
  case field t x f =>
    split at hv
    case h_2 => cases hv
    rename_i e off n g h1 h2
    split at hv
    case h_2 => cases hv
    rename_i cs
    obtain ⟨fs, fd, a1, a2, rfl, a4, a5, a6⟩ := tfield_spec h2
    obtain ⟨xs, y, hxs, hy, hey⟩ := run_part (P := P) a4 a5 (h.evc h1 hc) hv
    refine ⟨y, ?_, hey⟩
    rw [hxs]
    simp only [Sem.run_bind, Instr.field, run_underlying a1, Result.andThen_ok, a2, asAgg, Sem.run_pure, hy]
  case indexAddr t x i =>
    split at hv
    case h_3 => cases hv
    case h_2 =>
      rename_i d v' sz k0 off k n h1 h2 h3
      split at hv
      case h_2 => cases hv
      rename_i len z ht
      split at hv
      case isFalse => cases hv
      rename_i hb
      injection hv with hv
      subst hv
      obtain ⟨y, hy, hey⟩ := aval_indexAddr_arr (P := P) (h.evc h1 hc) (h.evc h2 hc) ht hb.1 hb.2
      exact ⟨y, by rw [Sem.run_bind, hy]; rfl, hey⟩
    rename_i p k n te h1 h2 h3
    split at hv
    case h_2 => cases hv
    rename_i z hz
    split at hv
    · rename_i sz es
      split at hv
      case isFalse => cases hv
      rename_i hb
      split at hv
      case h_2 => cases hv
      rename_i e he
      rw [nth_eq] at he
      injection hv with hv
      subst hv
      obtain ⟨y, hy, hey⟩ := aval_indexAddr_ro (P := P) (h.evc h1 hc) (h.evc h2 hc) h3 hz hb.1 hb.2.1 hb.2.2 he
      exact ⟨y, by rw [Sem.run_bind, hy]; rfl, hey⟩
    · rename_i d v' sz len
      split at hv
      case isFalse => cases hv
      rename_i hb
      injection hv with hv
      subst hv
      obtain ⟨y, hy, hey⟩ := aval_indexAddr_sl (P := P) (h.evc h1 hc) (h.evc h2 hc) h3 hz hb.1 hb.2.1 hb.2.2
      exact ⟨y, by rw [Sem.run_bind, hy]; rfl, hey⟩
    · rename_i d v' sz off len
      split at hv
      case isFalse => cases hv
      rename_i hb
      injection hv with hv
      subst hv
      obtain ⟨y, hy, hey⟩ := aval_indexAddr_ss (P := P) (h.evc h1 hc) (h.evc h2 hc) h3 hz hb.1 hb.2.1 hb.2.2
      exact ⟨y, by rw [Sem.run_bind, hy]; rfl, hey⟩
    · cases hv
  case index t x i =>
    split at hv
    case h_2 => cases hv
    rename_i l k n h1 h2
    split at hv
    case isFalse => cases hv
    rename_i hb
    split at hv
    case h_2 => cases hv
    rename_i b hl
    rw [nth_eq] at hl
    injection hv with hv
    subst hv
    have hx := h.evc h1 hc
    have hi := h.evc h2 hc
    generalize a.eval x = xv at hx ⊢
    generalize a.eval i = iv at hi ⊢
    cases hx with
    | pur hx =>
    cases hx with
    | str =>
    cases hi with
    | pur hi =>
    cases hi with
    | int =>
    have hu := tstr_underlying hb.1
    have hlt : n.toNat < l.length := (List.getElem?_eq_some_iff.1 hl).1
    have hs : (ByteArray.mk l.toArray)[n.toNat]? = some b := by
      have := ByteArray.getElem?_lt' (ByteArray.mk l.toArray) n.toNat (by simpa [ByteArray.size] using hlt)
      rw [this]
      have h2 := (List.getElem?_eq_some_iff.1 hl).2
      simp only [Option.some.injEq]
      rw [← h2]
      rfl
    exact ⟨.int .u8 b.toNat, by simp [Instr.index, asIntOf, run_underlying hu, hb.2, hs], .pur (.int _ _)⟩
  case extract x i =>
    split at hv
    case h_2 => cases hv
    rename_i vs h1
    rw [nth_eq] at hv
    have hx := h.evc h1 hc
    generalize a.eval x = xv at hx ⊢
    cases hx with
    | pur hx =>
      cases hx with
      | tup xs _ hl hh =>
      have hlt : i < xs.length := by rw [hl]; exact (List.getElem?_eq_some_iff.1 hv).1
      exact ⟨xs[i], by simp [Instr.extract, hlt], .pur (hh i _ v (List.getElem?_eq_getElem hlt) hv)⟩
    | tup xs _ hl hh =>
      have hlt : i < xs.length := by rw [hl]; exact (List.getElem?_eq_some_iff.1 hv).1
      exact ⟨xs[i], by simp [Instr.extract, hlt], hh i _ v (List.getElem?_eq_getElem hlt) hv⟩
  case slice t x lo hi mx =>
    cases mx with
    | some m => simp only at hv; cases hv
    | none =>
    simp only at hv
    split at hv
    case h_2 => cases hv
    rename_i p lv hv' h1 h2 h3
    obtain ⟨b1, b2⟩ := h.evo h2 hc
    obtain ⟨b3, b4⟩ := h.evo h3 hc
    have hx := h.evc h1 hc
    simp only [Option.map_none]
    split at hv
    · split at hv
      case isFalse => cases hv
      rename_i ht
      split at hv
      case h_2 => cases hv
      rename_i p q hb
      injection hv with hv
      subst hv
      obtain ⟨y, hy, hey⟩ := aval_slice_str (P := P) hx ht hb b1 b2 b3 b4
      exact ⟨y, by rw [Sem.run_bind, hy]; rfl, hey⟩
    · split at hv
      case h_2 => cases hv
      rename_i te hte
      split at hv
      case h_2 => cases hv
      rename_i z p q hz hb
      split at hv
      case isFalse => cases hv
      rename_i hs
      injection hv with hv
      subst hv
      obtain ⟨y, hy, hey⟩ := aval_slice_ro (P := P) hx hte hz hs hb b1 b2 b3 b4
      exact ⟨y, by rw [Sem.run_bind, hy]; rfl, hey⟩
    · split at hv
      case h_2 => cases hv
      rename_i te hte
      split at hv
      case h_2 => cases hv
      rename_i z p q hz hb
      split at hv
      case isFalse => cases hv
      rename_i hs
      injection hv with hv
      subst hv
      obtain ⟨y, hy, hey⟩ := aval_slice_sl (P := P) hx hte hz hs hb b1 b2 b3 b4
      exact ⟨y, by rw [Sem.run_bind, hy]; rfl, hey⟩
    · split at hv
      case h_2 => cases hv
      rename_i te hte
      split at hv
      case h_2 => cases hv
      rename_i z p q hz hb
      split at hv
      case isFalse => cases hv
      rename_i hs
      injection hv with hv
      subst hv
      obtain ⟨y, hy, hey⟩ := aval_slice_ss (P := P) hx hte hz hs hb b1 b2 b3 b4
      exact ⟨y, by rw [Sem.run_bind, hy]; rfl, hey⟩
    · split at hv
      case h_2 => cases hv
      rename_i len z p q hta hb
      split at hv
      case isFalse => cases hv
      rename_i hs
      injection hv with hv
      subst hv
      obtain ⟨hz1, he1, hm1⟩ := hs
      subst hz1
      obtain ⟨y, hy, hey⟩ := aval_slice_arr (P := P) hx hta he1 hm1 hb b1 b2 b3 b4
      exact ⟨y, by rw [Sem.run_bind, hy]; rfl, hey⟩
    · cases hv
  case build t parts =>
    split at hv
    case h_2 => cases hv
    rename_i z vs h1 h2
    split at hv
    case isFalse => cases hv
    rename_i hok
    obtain ⟨r, hr, rfl⟩ := Option.map_eq_some_iff.1 hv
    obtain ⟨h3, h4⟩ := h.evs hc h2
    obtain ⟨y, hy, hey⟩ := build_run (P := P) (w := w) (μ := μ) (N := Own N0 μ S) (ps := parts.toList.map fun p => (p.1, a.eval p.2)) hok.2 h1 (by simp [h3]) (fun j p q hp hq => by
      simp only [List.getElem?_map, Option.map_eq_some_iff] at hp
      obtain ⟨p', hp', rfl⟩ := hp
      exact h4 j p' q hp' hq) (fun p hp => List.all_eq_true.1 hok.1 p hp) hr
    exact ⟨y, by simp only [Sem.run_bind, eval_map_parts, hy, Result.andThen_ok, Sem.run_pure], hey⟩
  case lookup t x i ok =>
    split at hv
    case h_2 => cases hv
    rename_i b k m k' n q e h1 h2 h3
    split at hv
    case h_2 => cases hv
    rename_i z hz
    split at hv
    case isFalse => cases hv
    rename_i hk
    obtain ⟨rfl, rfl⟩ := hk
    injection hv with hv
    subst hv
    have hz' := hz
    unfold tzero at hz
    obtain ⟨inf, hi, hz⟩ := Option.bind_eq_some_iff.1 hz
    obtain ⟨zv, hzv, hz⟩ := Option.bind_eq_some_iff.1 hz
    have hrz : (zeroValue e).run P w = .ok zv w := by simp [zeroValue, typeInfo, hi, hzv]
    obtain ⟨r, hr, hre⟩ := lookup_run (ok := ok) (h.evc h1 hc) (h.evc h2 hc) h3 hrz (zeroOf_pur hz w _)
    exact ⟨r, by simp only [Sem.run_bind, hr, Result.andThen_ok, Sem.run_pure], hre⟩
  case call cl =>
    obtain ⟨callee, args, argTypes⟩ := cl
    cases callee with
    | value f => cases hv
    | invoke r m => cases hv
    | builtin b =>
    cases b <;> simp only at hv <;> try (cases hv; done)
    case min =>
      split at hv
      case h_2 => cases hv
      rename_i x y ha
      have ha' : args = #[x, y] := by apply Array.ext'; simpa using ha
      subst ha'
      split at hv
      case h_2 => cases hv
      rename_i k p k' q h1 h2
      split at hv
      case isFalse => cases hv
      rename_i hk
      subst hk
      injection hv with hv
      subst hv
      have hx := h.evc h1 hc
      have hy := h.evc h2 hc
      simp only [Sem.run_bind, resolve, Sem.run_pure, Result.andThen_ok, invoke, builtin, List.map_toArray, List.map_cons, List.map_nil]
      generalize a.eval x = xv at hx ⊢
      generalize a.eval y = yv at hy ⊢
      cases hx with
      | pur hx =>
      cases hx with
      | int =>
      cases hy with
      | pur hy =>
      cases hy with
      | int =>
      exact ⟨_, by rw [run_min_int2]; rfl, .pur (.int _ _)⟩
    case max =>
      split at hv
      case h_2 => cases hv
      rename_i x y ha
      have ha' : args = #[x, y] := by apply Array.ext'; simpa using ha
      subst ha'
      split at hv
      case h_2 => cases hv
      rename_i k p k' q h1 h2
      split at hv
      case isFalse => cases hv
      rename_i hk
      subst hk
      injection hv with hv
      subst hv
      have hx := h.evc h1 hc
      have hy := h.evc h2 hc
      simp only [Sem.run_bind, resolve, Sem.run_pure, Result.andThen_ok, invoke, builtin, List.map_toArray, List.map_cons, List.map_nil]
      generalize a.eval x = xv at hx ⊢
      generalize a.eval y = yv at hy ⊢
      cases hx with
      | pur hx =>
      cases hx with
      | int =>
      cases hy with
      | pur hy =>
      cases hy with
      | int =>
      exact ⟨_, by rw [run_max_int2]; rfl, .pur (.int _ _)⟩
    split at hv
    case h_2 => cases hv
    rename_i x t ha ht
    have ha' : args = #[x] := by apply Array.ext'; simpa using ha
    have ht' : argTypes = #[t] := by apply Array.ext'; simpa using ht
    subst ha'
    subst ht'
    simp only [Sem.run_bind, resolve, Sem.run_pure, Result.andThen_ok, invoke, builtin, List.map_toArray, List.map_cons, List.map_nil]
    split at hv
    · rename_i l h1
      split at hv
      case isFalse => cases hv
      rename_i hs
      injection hv with hv
      subst hv
      have hx := h.evc h1 hc
      generalize a.eval x = xv at hx ⊢
      cases hx with
      | pur hx =>
      cases hx with
      | str =>
      have hsz : (ByteArray.mk l.toArray).size = l.length := by simp [ByteArray.size]
      exact ⟨.int .i64 l.length, by simp [Builtin.len_, run_underlying (tstr_underlying hs), goInt, hsz], .pur (.int _ _)⟩
    · rename_i sz es h1
      split at hv
      case isFalse => cases hv
      rename_i hs
      injection hv with hv
      subst hv
      obtain ⟨te, hte⟩ := Option.isSome_iff_exists.1 hs
      have hx := h.evc h1 hc
      generalize a.eval x = xv at hx ⊢
      cases hx with
      | pur hx =>
      cases hx with
      | ro A ad n cap _ _ g hn =>
      exact ⟨.int .i64 es.length, by simp [Builtin.len_, run_underlying (telem_underlying hte), goInt, hn], .pur (.int _ _)⟩
    · rename_i h1
      split at hv
      case isFalse => cases hv
      rename_i hs
      injection hv with hv
      subst hv
      obtain ⟨te, hte⟩ := Option.isSome_iff_exists.1 hs
      have hx := h.evc h1 hc
      generalize a.eval x = xv at hx ⊢
      cases hx with
      | pur hx =>
      cases hx with
      | nils A =>
      exact ⟨.int .i64 0, by simp [Builtin.len_, run_underlying (telem_underlying hte), goInt], .pur (.int _ _)⟩
    · rename_i d v' sz n h1
      split at hv
      case isFalse => cases hv
      rename_i hs
      injection hv with hv
      subst hv
      obtain ⟨te, hte⟩ := Option.isSome_iff_exists.1 hs
      have hx := h.evc h1 hc
      generalize a.eval x = xv at hx ⊢
      cases hx with
      | pur hx => cases hx
      | slr => exact ⟨.int .i64 n, by simp [Builtin.len_, run_underlying (telem_underlying hte), goInt], .pur (.int _ _)⟩
      | slv => exact ⟨.int .i64 0, by simp [Builtin.len_, run_underlying (telem_underlying hte), goInt], .pur (.int _ _)⟩
    · rename_i d v' sz off n h1
      split at hv
      case isFalse => cases hv
      rename_i hs
      injection hv with hv
      subst hv
      obtain ⟨te, hte⟩ := Option.isSome_iff_exists.1 hs
      have hx := h.evc h1 hc
      generalize a.eval x = xv at hx ⊢
      cases hx with
      | pur hx => cases hx
      | ss => exact ⟨.int .i64 n, by simp [Builtin.len_, run_underlying (telem_underlying hte), goInt], .pur (.int _ _)⟩
    · cases hv
end
end Go.Eng
