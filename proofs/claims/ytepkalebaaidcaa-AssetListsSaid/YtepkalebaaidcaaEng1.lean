/- Pure abstract values of Go data, and what it means that a model value reads as one of them. No condition. -/
import Derived.Below
import Derived.Tactics
import Derived.Laws.Rows
import Derived.Maps.AppendAt
namespace Go.Eng
open Go.RowKit

/- Abstract values. 'agg': a struct's or array's cells. 'ro': a slice that is only read, by the cells of an element and the elements. 'rp': a pointer to a place that is only read. 'sl', 'ss', 'bp': the whole slice of, a part of, a pointer into an object of the call's own. 'whn b v': v if b is true, else nothing is known. 'mp b k m': the map of block b, keys of the integer kind k, by what it holds (the first entry of a key counts). -/
/-- The element at a place of a list. -/
def nth {α : Type} : List α → Nat → Option α
  | [], _ => none
  | x :: _, 0 => some x
  | _ :: r, n + 1 => nth r n
theorem nth_eq {α : Type} : ∀ (l : List α) (k : Nat), nth l k = l[k]?
  | [], _ => by simp [nth]
  | _ :: _, 0 => by simp [nth]
  | _ :: r, n + 1 => by simp [nth, nth_eq r n]

inductive V where
  | bool (b : Bool)
  | int (k : IntKind) (n : Int)
  | str (l : List UInt8)
  | agg (cs : List V)
  | tup (vs : List V)
  | ro (sz : Nat) (es : List V)
  | nils
  | rp (e : V)
  | fn (f : FuncId)
  | sl (d v sz len : Nat)
  | ss (d v sz off len : Nat)
  | bp (d v sz k off : Nat)
  | whn (b : Bool) (v : V)
  | mp (b : Nat) (k : IntKind) (m : List (Int × V))

def V.isCell : V → Bool
  | .agg _ | .tup _ | .whn _ _ | .mp .. => false
  | _ => true

/-- The cells of a value. -/
def V.cells : V → List V
  | .agg cs => cs
  | v => [v]

/-- A value of sz cells that can lie in memory. -/
def V.fits (sz : Nat) (e : V) : Prop := e.cells.length = sz ∧ ∀ c ∈ e.cells, c.isCell = true

/-- What a list of entries holds at a key. -/
def assoc (a : Int) : List (Int × V) → Option V
  | [] => none
  | (x, v) :: r => if x = a then some v else assoc a r
def keyI (e : MapEntry) : Int := match e.key with | .int _ a => a | _ => 0
/-- The value of the first entry with a key. -/
def findA (a : Int) : List MapEntry → Option Value
  | [] => none
  | e :: r => if keyI e = a then some e.val else findA a r
def V.flat0 : V → Bool
  | .bool _ | .int _ _ | .str _ => true
  | _ => false

inductive Pur (w : World) (N : Nat → Prop) : Value → V → Prop
  | bool (b : Bool) : Pur w N (.bool b) (.bool b)
  | int (k : IntKind) (n : Int) : Pur w N (.int k n) (.int k n)
  | str (l : List UInt8) : Pur w N (.string ⟨l.toArray⟩) (.str l)
  | agg (xs : List Value) (cs : List V) (hl : xs.length = cs.length) (hc : ∀ c ∈ cs, c.isCell = true)
      (h : ∀ (i : Nat) x c, xs[i]? = some x → cs[i]? = some c → Pur w N x c) : Pur w N (.agg xs.toArray) (.agg cs)
  | tup (xs : List Value) (cs : List V) (hl : xs.length = cs.length)
      (h : ∀ (i : Nat) x c, xs[i]? = some x → cs[i]? = some c → Pur w N x c) : Pur w N (.tuple xs.toArray) (.tup cs)
  | ro (A : Option Addr) (ad : Addr) (n cap sz : Nat) (es : List V) (g : Nat → Nat → Value) (hn : es.length = n) (hcap : n ≤ cap) (hmax : cap ≤ maxLen)
      (hA : 0 < n → A = some ad ∧ ad.block < w.heap.size ∧ ¬ N ad.block) (hf : ∀ e ∈ es, e.fits sz)
      (hc : ∀ (k : Nat) e (j : Nat) c, es[k]? = some e → e.cells[j]? = some c → w.cell? (ad.add (k * sz + j)) = some (g k j))
      (h : ∀ (k : Nat) e (j : Nat) c, es[k]? = some e → e.cells[j]? = some c → Pur w N (g k j) c) : Pur w N (.slice A n cap) (.ro sz es)
  | nils (A : Option Addr) : Pur w N (.slice A 0 0) .nils
  | rp (ad : Addr) (sz : Nat) (e : V) (g : Nat → Value) (hb : ad.block < w.heap.size) (hN : ¬ N ad.block) (hf : e.fits sz)
      (hc : ∀ (j : Nat) c, e.cells[j]? = some c → w.cell? (ad.add j) = some (g j))
      (h : ∀ (j : Nat) c, e.cells[j]? = some c → Pur w N (g j) c) : Pur w N (.pointer (some ad)) (.rp e)
  | fn (f : FuncId) : Pur w N (.func (.func f) #[] #[]) (.fn f)
  | mp (b : Nat) (k : IntKind) (m : List (Int × V)) (es : Array MapEntry) (clock : Nat) (g : Int → Value) (hN : ¬ N b) (hb : w.heap[b]? = some (.map es clock)) (hk : ∀ e ∈ es.toList, ∃ a, e.key = .int k a)
      (hs : ∀ a v, assoc a m = some v → findA a es.toList = some (g a) ∧ v.flat0 = true) (hn : ∀ a, assoc a m = none → findA a es.toList = none)
      (h : ∀ a v, assoc a m = some v → Pur w N (g a) v) : Pur w N (.map (some b)) (.mp b k m)

/-- w' is as w at every block that w has and that N does not name. -/
def Keeps (w : World) (N : Nat → Prop) (w' : World) : Prop :=
  w.heap.size ≤ w'.heap.size ∧ ∀ b, b < w.heap.size → ¬ N b → w'.heap[b]? = w.heap[b]?

theorem Keeps.refl (w : World) (N : Nat → Prop) : Keeps w N w := ⟨Nat.le_refl _, fun _ _ _ => rfl⟩
theorem Keeps.of_below {w w' : World} (h : Below w.heap.size w w') (N : Nat → Prop) : Keeps w N w' := ⟨h.size, fun b hb _ => h.block b hb⟩
theorem Keeps.alloc (w : World) (N : Nat → Prop) (o : Obj) : Keeps w N (w.alloc o) := ⟨by simp, fun b hb _ => Below.heap_alloc w o b hb⟩
theorem Keeps.setCell (w : World) {N : Nat → Prop} {a : Addr} (h : N a.block) (u : Value) : Keeps w N (w.setCell a u) :=
  ⟨by simp [World.setCell], fun b _ hb => Below.heap_setCell w a u b (fun e => hb (e ▸ h))⟩
theorem Keeps.trans {w w1 w2 : World} {N : Nat → Prop} (h : Keeps w N w1) (k : Keeps w1 N w2) : Keeps w N w2 :=
  ⟨Nat.le_trans h.1 k.1, fun b hb hN => (k.2 b (Nat.lt_of_lt_of_le hb h.1) hN).trans (h.2 b hb hN)⟩

theorem add_block (a : Addr) (n : Nat) : (a.add n).block = a.block := by unfold Addr.add; split <;> rfl
theorem add_add' (a : Addr) (i j : Nat) : (a.add i).add j = a.add (i + j) := by
  unfold Addr.add
  by_cases hi : i = 0 <;> by_cases hj : j = 0 <;> simp [hi, hj, Nat.add_assoc]

theorem Pur.keep {w w' : World} {N N' : Nat → Prop} (hk : Keeps w N w') (hN : ∀ b, b < w.heap.size → N' b → N b) {x : Value} {v : V} (h : Pur w N x v) : Pur w' N' x v := by
  induction h with
  | bool b => exact .bool b
  | int k n => exact .int k n
  | str l => exact .str l
  | agg xs cs hl hc _ ih => exact .agg xs cs hl hc ih
  | tup xs cs hl _ ih => exact .tup xs cs hl ih
  | ro A ad n cap sz es g hn hcap hmax hA hf hc _ ih =>
    refine .ro A ad n cap sz es g hn hcap hmax (fun h0 => ?_) hf (fun k e j c he hj => ?_) ih
    · obtain ⟨h1, h2, h3⟩ := hA h0
      exact ⟨h1, Nat.lt_of_lt_of_le h2 hk.1, fun hh => h3 (hN _ h2 hh)⟩
    · have h0 : 0 < n := by
        have := (List.getElem?_eq_some_iff.1 he).1
        omega
      obtain ⟨_, h2, h3⟩ := hA h0
      rw [World.cell?_of_block (w := w) (hk.2 _ (by rw [add_block]; exact h2) (by rw [add_block]; exact h3))]
      exact hc k e j c he hj
  | nils A => exact .nils A
  | rp ad sz e g hb hN' hf hc _ ih =>
    refine .rp ad sz e g (Nat.lt_of_lt_of_le hb hk.1) (fun hh => hN' (hN _ hb hh)) hf (fun j c hj => ?_) ih
    rw [World.cell?_of_block (w := w) (hk.2 _ (by rw [add_block]; exact hb) (by rw [add_block]; exact hN'))]
    exact hc j c hj
  | fn f => exact .fn f
  | mp b k m es clock g hN' hb hk' hs hn _ ih =>
    have hlt : b < w.heap.size := (Array.getElem?_eq_some_iff.1 hb).1
    exact .mp b k m es clock g (fun hh => hN' (hN _ hlt hh)) ((hk.2 b hlt hN').trans hb) hk' hs hn ih

/-- Values that hold no memory read alike in every world. -/
def V.flat : V → Bool
  | .bool _ | .int _ _ | .str _ | .nils | .fn _ => true
  | _ => false

theorem Pur.of_flat {w w' : World} {N N' : Nat → Prop} {x : Value} {v : V} (h : Pur w N x v) (hf : v.flat = true) : Pur w' N' x v := by
  cases h with
  | bool b => exact .bool b
  | int k n => exact .int k n
  | str l => exact .str l
  | nils A => exact .nils A
  | fn f => exact .fn f
  | agg | tup | ro | rp | mp => simp [V.flat] at hf

theorem Pur.cell_oneCell {w : World} {N : Nat → Prop} {x : Value} {v : V} (h : Pur w N x v) (hc : v.isCell = true) : x.oneCell' = true := by
  cases h <;> first | rfl | simp [V.isCell] at hc

theorem Pur.cells_of {w : World} {N : Nat → Prop} {x : Value} {v : V} (h : Pur w N x v) (hc : v.isCell = true) : x.cells = #[x] := by
  cases h <;> first | rfl | simp [V.isCell] at hc

end Go.Eng
