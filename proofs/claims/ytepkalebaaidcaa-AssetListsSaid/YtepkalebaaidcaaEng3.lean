/- The abstract step of the operations that only compute or read, and that the model does the same. No condition. -/
import Derived.Test.YtepkalebaaidcaaEng2
import Derived.Laws.Strings
import Derived.Laws.Concat
import Derived.Laws.StructEq
import Derived.Laws.Slices
import Derived.WalkKit
namespace Go.Eng
open Go.RowKit

def tsz (P : Program) (t : TypeId) : Option Nat := (P.info? t).map (·.size)
def tagg (P : Program) (t : TypeId) : Option Bool := (P.underlying t).map fun | .struct _ | .array _ _ => true | _ => false
def telem (P : Program) (t : TypeId) : Option TypeId := match P.underlying t with | some (.slice e) => some e | _ => none
def tint (P : Program) (t : TypeId) : Option IntKind := match P.underlying t with | some (.int k) => some k | _ => none
def tstr (P : Program) (t : TypeId) : Bool := match P.underlying t with | some .string => true | _ => false
def tfield (P : Program) (t f : Nat) : Option (Nat × Nat × Bool) :=
  match P.underlying t with
  | some (.struct fs) => match fs[f]? with
    | some fd => match tsz P fd.type, tagg P fd.type with
      | some n, some g => if n = 0 then none else some (fd.offset, n, g)
      | _, _ => none
    | none => none
  | _ => none

/-- A constant of the code. -/
def constV : Value → Option V
  | .bool b => some (.bool b)
  | .int k n => some (.int k n)
  | .string s => some (.str s.data.toList)
  | .slice none 0 0 => some .nils
  | _ => none
/-- The zero value of a type. -/
def zeroOf : Value → Option V
  | .agg cs => (cs.toList.mapM constV).map .agg
  | v => constV v
def tzero (P : Program) (t : TypeId) : Option V := (P.info? t).bind fun i => i.zero.bind zeroOf

theorem constV_cell {x : Value} {v : V} (h : constV x = some v) : v.isCell = true := by
  unfold constV at h
  split at h <;> first | (injection h with h; subst h; rfl) | cases h
theorem constV_pur {x : Value} {v : V} (h : constV x = some v) (w : World) (N : Nat → Prop) : Pur w N x v := by
  unfold constV at h
  split at h <;> first | (injection h with h; subst h) | cases h
  · exact .bool _
  · exact .int _ _
  · exact .str _
  · exact .nils _
theorem mapM_some {α β : Type} {f : α → Option β} : ∀ {l : List α} {r : List β}, l.mapM f = some r → r.length = l.length ∧ ∀ (i : Nat) x y, l[i]? = some x → r[i]? = some y → f x = some y
  | [], r, h => by simp at h; subst h; simp
  | x :: l, r, h => by
    simp only [List.mapM_cons, Option.bind_eq_bind, Option.bind_eq_some_iff, Option.pure_def, Option.some.injEq] at h
    obtain ⟨y, hy, r', hr, rfl⟩ := h
    obtain ⟨h1, h2⟩ := mapM_some hr
    refine ⟨by simp [h1], fun i a b ha hb => ?_⟩
    rcases i with _ | i
    · simp at ha hb; subst ha; subst hb; exact hy
    · simp at ha hb; exact h2 i a b ha hb
theorem zeroOf_pur {x : Value} {v : V} (h : zeroOf x = some v) (w : World) (N : Nat → Prop) : Pur w N x v := by
  unfold zeroOf at h
  split at h
  · rename_i cs
    simp only [Option.map_eq_some_iff] at h
    obtain ⟨r, hr, rfl⟩ := h
    obtain ⟨h1, h2⟩ := mapM_some hr
    have hcs : cs = cs.toList.toArray := by simp
    rw [hcs]
    refine .agg cs.toList r h1.symm (fun c hc => ?_) (fun i x c hx hc => constV_pur (h2 i x c hx hc) w N)
    obtain ⟨i, hi⟩ := List.getElem?_of_mem hc
    have hlt : i < cs.toList.length := by rw [← h1]; exact (List.getElem?_eq_some_iff.1 hi).1
    exact constV_cell (h2 i _ c (List.getElem?_eq_getElem hlt) hi)
  · exact constV_pur h w N

def AS.ev (S : AS) : Operand → Option V
  | .tmp t => get S.env t
  | .const c => constV c
  | .func f => some (.fn f)
  | .global _ => none

/-- The part of a value from cell off on: n cells; g: a struct or an array. -/
def V.part (e : V) (off n : Nat) (g : Bool) : Option V :=
  if off + n ≤ e.cells.length then (if g then some (.agg ((e.cells.drop off).take n)) else if n = 1 then e.cells[off]? else none) else none

section
variable {D : Nat → Prop} {w0 w : World} {N0 : Nat → Prop} {μ : Mu} {S : AS} {a : Act} {P : Program}

theorem RelM.ev (h : RelM D w0 N0 μ S a w) {x : Operand} {v : V} (hx : S.ev x = some v) : Enc w (Own N0 μ S) μ (a.eval x) v := by
  cases x with
  | tmp t => exact (h.env t v hx).2
  | const c => exact .pur (constV_pur hx _ _)
  | global g => cases hx
  | func f => simp only [AS.ev, Option.some.injEq] at hx; subst hx; exact .pur (.fn f)

/-- Reading: cells in a row that stand for the cells of e. -/
theorem run_loadVar {N : Nat → Prop} {t : TypeId} {ad : Addr} {e r : V} {off n sz : Nat} {g : Bool} (hn : tsz P t = some n) (hg : tagg P t = some g) (hf : e.fits sz)
    (hc : ∀ (j : Nat) c, e.cells[j]? = some c → ∃ x, w.cell? (ad.add j) = some x ∧ Enc w N μ x c) (hp : e.part off n g = some r) :
    ∃ x, (loadVar t (ad.add off)).run P w = .ok x w ∧ Enc w N μ x r := by
  unfold V.part at hp
  split at hp
  case isFalse => cases hp
  rename_i hlen
  unfold tsz at hn
  obtain ⟨i, hi, rfl⟩ := Option.map_eq_some_iff.1 hn
  unfold tagg at hg
  obtain ⟨de, hde, hg⟩ := Option.map_eq_some_iff.1 hg
  have hagg : (isAgg t).run P w = .ok g w := by
    simp only [isAgg, Sem.run_bind, run_underlying hde, Result.andThen_ok]
    subst hg
    cases de <;> rfl
  cases g with
  | true =>
    simp only [if_true, Option.some.injEq] at hp
    subst hp
    have hx : ∀ j, j < i.size → ∃ x, w.cell? ((ad.add off).add j) = some x ∧ ∃ c, e.cells[off + j]? = some c ∧ Enc w N μ x c := by
      intro j hj
      have hlt : off + j < e.cells.length := by omega
      obtain ⟨x, hx, hex⟩ := hc (off + j) _ (List.getElem?_eq_getElem hlt)
      exact ⟨x, by rw [add_add']; exact hx, _, List.getElem?_eq_getElem hlt, hex⟩
    let f : Nat → Value := fun j => (w.cell? ((ad.add off).add j)).getD undef
    have hf' : ∀ j, j < i.size → w.cell? ((ad.add off).add j) = some (f j) := by
      intro j hj
      obtain ⟨x, hx, _⟩ := hx j hj
      simp only [f, hx, Option.getD_some]
    refine ⟨.agg ((List.range i.size).map f).toArray, ?_, .agg _ _ (by simp; omega) (fun c hc => ?_) (fun j x c h1 h2 => ?_)⟩
    · simp only [loadVar, Sem.run_bind, hagg, Result.andThen_ok, if_true, sizeOf, typeInfo, run_program, hi, Sem.run_pure, run_loadCells w (ad.add off) i.size f hf']
    · exact hf.2 c (List.mem_of_mem_drop (List.mem_of_mem_take hc))
    · have hj : j < i.size := by have := (List.getElem?_eq_some_iff.1 h1).1; simpa using this
      obtain ⟨y, hy, c', hc', hey⟩ := hx j hj
      rw [hf' j hj] at hy
      simp only [List.getElem?_map, List.getElem?_range hj, Option.map_some, Option.some.injEq] at h1
      rw [List.getElem?_take_of_lt hj, List.getElem?_drop, hc'] at h2
      injection hy with hy
      injection h2 with h2
      subst h1; subst h2
      rw [hy]; exact hey
  | false =>
    simp only [Bool.false_eq_true, if_false] at hp
    split at hp
    case isFalse => cases hp
    obtain ⟨x, hx, hex⟩ := hc off r hp
    refine ⟨x, ?_, hex⟩
    simp only [loadVar, Sem.run_bind, hagg, Result.andThen_ok, Bool.false_eq_true, if_false, run_load, hx]

/-- The element behind a pointer, and the cell in it. -/
def AS.place (S : AS) : V → Option (V × Nat)
  | .rp e => some (e, 0)
  | .bp d v sz k off => match get S.objs d with
    | some o => if o.v = v ∧ o.sz = sz then (match nth o.es k with | some e => some (e, off) | none => none) else none
    | none => none
  | _ => none

theorem RelM.place (h : RelM D w0 N0 μ S a w) {x : Value} {p e : V} {off : Nat} (hp : S.place p = some (e, off)) (hx : Enc w (Own N0 μ S) μ x p) :
    ∃ ad sz, x = .pointer (some (Addr.add ad off)) ∧ e.fits sz ∧ ∀ (j : Nat) c, e.cells[j]? = some c → ∃ y, w.cell? (ad.add j) = some y ∧ Enc w (Own N0 μ S) μ y c := by
  cases p <;> simp only [AS.place] at hp <;> try (cases hp; done)
  case rp e0 =>
    simp only [Option.some.injEq, Prod.mk.injEq] at hp
    obtain ⟨rfl, rfl⟩ := hp
    cases hx with
    | pur hx =>
      cases hx with
      | rp ad sz _ g hb hN hf hc hh => exact ⟨ad, sz, by simp [Addr.add], hf, fun j c hj => ⟨g j, hc j c hj, .pur (hh j c hj)⟩⟩
  case bp d v sz k off0 =>
    split at hp
    case h_2 => cases hp
    rename_i o ho
    split at hp
    case isFalse => cases hp
    rename_i hv
    obtain ⟨rfl, rfl⟩ := hv
    split at hp
    case h_2 => cases hp
    rename_i e1 he1
    rw [nth_eq] at he1
    simp only [Option.some.injEq, Prod.mk.injEq] at hp
    obtain ⟨rfl, rfl⟩ := hp
    cases hx with
    | pur hx => cases hx
    | bp _ _ _ _ _ g cap hm =>
      obtain ⟨l, hl, hob⟩ := h.objs d o ho
      rw [hm] at hl
      injection hl with hl
      subst hl
      obtain ⟨_, _, _, h4, arr, h5, h6, h7⟩ := hob
      refine ⟨⟨g, k * o.sz, none⟩, o.sz, by rw [Addr.add_lit], h4 _ (List.mem_of_getElem? he1), fun j c hj => ?_⟩
      obtain ⟨y, hy, hey⟩ := h7 k e1 j c he1 hj
      exact ⟨y, by rw [Addr.add_lit, cell_of_row w g _ arr o.ty (0, 0) h5]; exact hy, hey⟩

/-- Whether b holds wherever c does. -/
def imp (c b : Bool) : Bool := !c || b
@[simp] theorem imp_self (c : Bool) : imp c c = true := by cases c <;> rfl
@[simp] theorem imp_true (c : Bool) : imp c true = true := by cases c <;> rfl
@[simp] theorem imp_of_false (b : Bool) : imp false b = true := rfl
@[simp] theorem imp_of_true (b : Bool) : imp true b = b := rfl
@[simp] theorem imp_and_left (c d : Bool) : imp (c && d) c = true := by cases c <;> cases d <;> rfl
@[simp] theorem imp_and_right (c d : Bool) : imp (c && d) d = true := by cases c <;> cases d <;> rfl

/-- An operand under the guard c. -/
def AS.evc (S : AS) (c : Bool) (x : Operand) : Option V :=
  match S.ev x with
  | some (.whn b v) => if imp c b = true then some v else none
  | r => r

theorem RelM.evc (h : RelM D w0 N0 μ S a w) {c : Bool} {x : Operand} {v : V} (hx : S.evc c x = some v) (hc : c = true) : Enc w (Own N0 μ S) μ (a.eval x) v := by
  unfold AS.evc at hx
  split at hx
  · rename_i b v' hv
    split at hx
    · rename_i hb
      injection hx with hx
      subst hx
      subst hc
      have hb' : b = true := by simpa [imp] using hb
      have := h.ev hv
      generalize a.eval x = y at this
      cases this with
      | pur hp => cases hp
      | whn _ _ _ hh _ => exact hh hb'
    · cases hx
  · exact h.ev hx

def aint (op : BinOp) (k : IntKind) (a b : Int) : Option V :=
  match op with
  | .add => some (.int k (k.wrap (a + b)))
  | .sub => some (.int k (k.wrap (a - b)))
  | .mul => some (.int k (k.wrap (a * b)))
  | .quo => if b = 0 then none else some (.int k (k.wrap (a.tdiv b)))
  | .rem => if b = 0 then none else some (.int k (a.tmod b))
  | .and => some (.int k (bits .and k a b))
  | .or => some (.int k (bits .or k a b))
  | .xor => some (.int k (bits .xor k a b))
  | .andNot => some (.int k (bits .andNot k a b))
  | .eql => some (.bool (decide (a = b)))
  | .neq => some (.bool (!decide (a = b)))
  | .lss => some (.bool (decide (a < b)))
  | .leq => some (.bool (decide (a ≤ b)))
  | .gtr => some (.bool (decide (b < a)))
  | .geq => some (.bool (decide (b ≤ a)))
  | _ => none

def ashift (op : BinOp) (k : IntKind) (a b : Int) : Option V :=
  if b < 0 then none else
  match op with
  | .shl => some (.int k (k.wrap (a * 2 ^ min b.toNat k.bits)))
  | .shr => some (.int k (a.fdiv (2 ^ min b.toNat k.bits)))
  | _ => none

def astr (op : BinOp) (a b : List UInt8) : Option V :=
  match op with
  | .add => if a.length + b.length ≤ 9223372036854775807 then some (.str (a ++ b)) else none
  | .eql => some (.bool (decide (a = b)))
  | .neq => some (.bool (!decide (a = b)))
  | .lss => some (.bool (Op.bytesLess a b))
  | .leq => some (.bool (Op.bytesLess a b || decide (a = b)))
  | .gtr => some (.bool (!(Op.bytesLess a b || decide (a = b))))
  | .geq => some (.bool (!Op.bytesLess a b))
  | _ => none

def isShift : BinOp → Bool
  | .shl | .shr => true
  | _ => false

def tbool (P : Program) (t : TypeId) : Bool := match P.underlying t with | some .bool => true | _ => false

/-- A type whose values are one cell that is compared as such: its kind. -/
def fkind (P : Program) (t : TypeId) : Option Nat := match P.underlying t with
  | some (.int _) => some 0
  | some .bool => some 1
  | some .string => some 2
  | _ => none
/-- The kinds of fields that lie one behind the other, from cell k on. -/
def fkinds (P : Program) : Nat → List Field → Option (List Nat)
  | _, [] => some []
  | k, f :: fs => match fkind P f.type, fkinds P (k + 1) fs with
    | some q, some qs => if f.offset = k ∧ f.name ≠ "_" then some (q :: qs) else none
    | _, _ => none
/-- The kinds of a struct's fields. -/
def tflat (P : Program) (t : TypeId) : Option (List Nat) := match P.underlying t with
  | some (.struct fs) => if P.stoodInHeld t = false ∧ P.eqGuardType P.depth t = false then fkinds P 0 fs.toList else none
  | _ => none
def eqC : Nat → V → V → Option Bool
  | 0, .int k a, .int k' b => if k = k' then some (decide (a = b)) else none
  | 1, .bool a, .bool b => some (a == b)
  | 2, .str a, .str b => some (decide (a = b))
  | _, _, _ => none
def eqL : List Nat → List V → List V → Option Bool
  | [], [], [] => some true
  | q :: qs, x :: xs, y :: ys => match eqC q x y, eqL qs xs ys with
    | some p, some r => some (p && r)
    | _, _ => none
  | _, _, _ => none

def abin (P : Program) (t : TypeId) (op : BinOp) : V → V → Option V
  | .agg as, .agg bs => match tflat P t with
    | some qs => match eqL qs as bs with
      | some r => (match op with | .eql => some (.bool r) | .neq => some (.bool (!r)) | _ => none)
      | none => none
    | none => none
  | .int k a, .int k' b => if isShift op = true then ashift op k a b else if k = k' then aint op k a b else none
  | .str a, .str b => astr op a b
  | .bool a, .bool b => if tbool P t = true then (match op with | .eql => some (.bool (a == b)) | .neq => some (.bool (!(a == b))) | _ => none) else none
  | _, _ => none

theorem beq_decide {α : Type} [BEq α] [LawfulBEq α] [DecidableEq α] (a b : α) : (a == b) = decide (a = b) := by
  by_cases h : a = b <;> simp [h]

theorem aint_run {op : BinOp} {k : IntKind} {x y : Int} {r : V} (h : aint op k x y = some r) (hs : isShift op = false) (t : TypeId) (w : World) (N : Nat → Prop) :
    ∃ z, (binOp op t (.int k x) (.int k y)).run P w = .ok z w ∧ Pur w N z r := by
  cases op <;> simp only [aint] at h <;> first | (cases h; done) | (simp [isShift] at hs; done) | (injection h with h; subst h) | skip
  case quo =>
    split at h
    · cases h
    · rename_i hy
      injection h with h; subst h
      exact ⟨_, by simp [binOp_quo, Op.intDiv, hy], .int _ _⟩
  case rem =>
    split at h
    · cases h
    · rename_i hy
      injection h with h; subst h
      exact ⟨_, by simp [binOp_rem, Op.intDiv, hy], .int _ _⟩
  all_goals first
    | exact ⟨_, by rw [binOp_add]; rfl, .int _ _⟩
    | exact ⟨_, by rw [binOp_sub]; rfl, .int _ _⟩
    | exact ⟨_, by rw [binOp_mul]; rfl, .int _ _⟩
    | exact ⟨_, by rw [binOp_and, intBits_and]; rfl, .int _ _⟩
    | exact ⟨_, by rw [binOp_or, intBits_or]; rfl, .int _ _⟩
    | exact ⟨_, by rw [binOp_xor, intBits_xor]; rfl, .int _ _⟩
    | exact ⟨_, by rw [binOp_andNot, intBits_andNot]; rfl, .int _ _⟩
    | exact ⟨_, by rw [binOp_eql, beq_decide]; rfl, .bool _⟩
    | exact ⟨_, by rw [binOp_neq, bne, beq_decide]; rfl, .bool _⟩
    | exact ⟨_, by rw [binOp_lss]; rfl, .bool _⟩
    | exact ⟨_, by rw [binOp_leq]; rfl, .bool _⟩
    | exact ⟨_, by rw [binOp_gtr]; rfl, .bool _⟩
    | exact ⟨_, by rw [binOp_geq]; rfl, .bool _⟩

theorem ashift_run {op : BinOp} {k k' : IntKind} {x y : Int} {r : V} (h : ashift op k x y = some r) (t : TypeId) (w : World) (N : Nat → Prop) :
    ∃ z, (binOp op t (.int k x) (.int k' y)).run P w = .ok z w ∧ Pur w N z r := by
  unfold ashift at h
  split at h
  · cases h
  · rename_i hy
    cases op <;> simp only at h <;> first | (cases h; done) | (injection h with h; subst h)
    · exact ⟨_, by rw [binOp_shl]; simp [Op.shift, hy], .int _ _⟩
    · exact ⟨_, by rw [binOp_shr]; simp [Op.shift, hy], .int _ _⟩

theorem astr_run {op : BinOp} {x y : List UInt8} {r : V} (h : astr op x y = some r) (t : TypeId) (w : World) (N : Nat → Prop) :
    ∃ z, (binOp op t (.string ⟨x.toArray⟩) (.string ⟨y.toArray⟩)).run P w = .ok z w ∧ Pur w N z r := by
  cases op <;> simp only [astr] at h <;> first | (cases h; done) | (injection h with h; subst h) | skip
  case add =>
    split at h
    · rename_i hl
      injection h with h; subst h
      refine ⟨_, ?_, .str _⟩
      rw [binOp_string_add, run_string_add_sum w _ _ (by simpa [ByteArray.size] using hl), ByteArray.mk_append_mk]
    · cases h
  all_goals
    refine ⟨_, ?_, .bool _⟩
    simp [binOp, Op.stringOp, ByteArray.toList_mk, beq_decide]

theorem tbool_underlying {t : TypeId} (h : tbool P t = true) : P.underlying t = some .bool := by
  unfold tbool at h
  split at h
  · assumption
  · cases h

theorem run_eql_bools (t : TypeId) (p q : Bool) (h : P.underlying t = some .bool) : (binOp .eql t (.bool p) (.bool q)).run P w = .ok (.bool (p == q)) w := by
  simp only [binOp, Sem.run_bind, Op.equal, Op.maxDepth, run_equalIn_bool' w 9999 t p q h, Result.andThen_ok, Sem.run_pure]
theorem run_neq_bools (t : TypeId) (p q : Bool) (h : P.underlying t = some .bool) : (binOp .neq t (.bool p) (.bool q)).run P w = .ok (.bool (!(p == q))) w := by
  simp only [binOp, Sem.run_bind, Op.equal, Op.maxDepth, run_equalIn_bool' w 9999 t p q h, Result.andThen_ok, Sem.run_pure]

theorem eqC_run {N : Nat → Prop} {q : Nat} {u v : V} {r : Bool} (h : eqC q u v = some r) {x y : Value} (hx : Enc w N μ x u) (hy : Enc w N μ y v) {t : TypeId} (ht : fkind P t = some q) (d : Nat) :
    (Op.equalIn (d + 1) t x y).run P w = .ok r w ∧ u.isCell = true := by
  unfold fkind at ht
  unfold eqC at h
  split at h
  · cases hx with
    | pur hx =>
    cases hx with
    | int =>
    cases hy with
    | pur hy =>
    cases hy with
    | int =>
    split at h
    · rename_i hk
      subst hk
      injection h with h
      subst h
      split at ht <;> first | (simp at ht; done) | skip
      rename_i k' hu
      exact ⟨by rw [run_equalIn_int w d t _ k' _ _ hu, beq_decide], rfl⟩
    · cases h
  · cases hx with
    | pur hx =>
    cases hx with
    | bool =>
    cases hy with
    | pur hy =>
    cases hy with
    | bool =>
    injection h with h
    subst h
    split at ht <;> first | (simp at ht; done) | skip
    rename_i hu
    exact ⟨run_equalIn_bool' w d t _ _ hu, rfl⟩
  · cases hx with
    | pur hx =>
    cases hx with
    | str =>
    cases hy with
    | pur hy =>
    cases hy with
    | str =>
    injection h with h
    subst h
    split at ht <;> first | (simp at ht; done) | skip
    rename_i hu
    exact ⟨by rw [run_equalIn_string w d t _ _ hu, ByteArray.toList_mk, ByteArray.toList_mk, beq_decide], rfl⟩
  · cases h

theorem fkind_agg {t q : Nat} (h : fkind P t = some q) (w : World) : (isAgg t).run P w = .ok false w := by
  unfold fkind at h
  split at h <;> first | (cases h; done) | (rename_i hu; simp [isAgg, run_underlying hu])

theorem eqFields_run {N : Nat → Prop} (d : Nat) (xs ys : List Value) : ∀ (fs : List Field) (k : Nat) (qs : List Nat) (as bs : List V) (r : Bool), fkinds P k fs = some qs → eqL qs as bs = some r →
    (∀ (j : Nat) c, as[j]? = some c → ∃ x, xs[k + j]? = some x ∧ Enc w N μ x c) → (∀ (j : Nat) c, bs[j]? = some c → ∃ y, ys[k + j]? = some y ∧ Enc w N μ y c) → (Op.eqFields (d + 1) xs.toArray ys.toArray fs).run P w = .ok r w
  | [], k, qs, as, bs, r, hq, he, _, _ => by
    simp only [fkinds, Option.some.injEq] at hq
    subst hq
    unfold eqL at he
    split at he <;> first | (injection he with he; subst he; rfl) | skip
    · rename_i h1 _ _; cases h1
    · cases he
  | f :: fs, k, qs, as, bs, r, hq, he, hx, hy => by
    simp only [fkinds] at hq
    split at hq
    case h_2 => cases hq
    rename_i q qs' h1 h2
    split at hq
    case isFalse => cases hq
    rename_i hf
    injection hq with hq
    subst hq
    unfold eqL at he
    split at he
    · exact absurd (by assumption : q :: qs' = []) (by simp)
    · rename_i q0 qs0 x0 as0 y0 bs0 h3 
      injection h3 with h3 h4
      subst h3; subst h4
      split at he
      case h_2 => cases he
      rename_i p r' h5 h6
      injection he with he
      subst he
      obtain ⟨x, hx1, hx2⟩ := hx 0 x0 rfl
      obtain ⟨y, hy1, hy2⟩ := hy 0 y0 rfl
      have ih := eqFields_run d xs ys fs (k + 1) qs' as0 bs0 r' h2 h6 (fun j c hj => by have := hx (j + 1) c (by simpa using hj); rwa [show k + (j + 1) = k + 1 + j by omega] at this) (fun j c hj => by have := hy (j + 1) c (by simpa using hj); rwa [show k + (j + 1) = k + 1 + j by omega] at this)
      have hr := (eqC_run (P := P) h5 hx2 hy2 h1 d).1
      have hpx : (part f.type xs.toArray f.offset).run P w = .ok x w := by
        have : xs[f.offset]? = some x := by rw [hf.1]; simpa using hx1
        simp [part, fkind_agg h1, this]
      have hpy : (part f.type ys.toArray f.offset).run P w = .ok y w := by
        have : ys[f.offset]? = some y := by rw [hf.1]; simpa using hy1
        simp [part, fkind_agg h1, this]
      simp only [Op.eqFields, ne_eq, hf.2, not_false_eq_true, if_true, Sem.run_bind, hpx, Result.andThen_ok, hpy, hr]
      cases p
      · rfl
      · simpa using ih
    · cases he

theorem Enc.agg_cells {N : Nat → Prop} {x : Value} {cs : List V} (h : Enc w N μ x (.agg cs)) : ∃ xs : List Value, x = .agg xs.toArray ∧ ∀ (j : Nat) c, cs[j]? = some c → ∃ y, xs[j]? = some y ∧ Enc w N μ y c := by
  have key : ∀ xs : List Value, xs.length = cs.length → (∀ (i : Nat) x c, xs[i]? = some x → cs[i]? = some c → Enc w N μ x c) → ∀ (j : Nat) c, cs[j]? = some c → ∃ y, xs[j]? = some y ∧ Enc w N μ y c := by
    intro xs hl hh j c hj
    have hlt : j < xs.length := by rw [hl]; exact (List.getElem?_eq_some_iff.1 hj).1
    exact ⟨_, List.getElem?_eq_getElem hlt, hh j _ c (List.getElem?_eq_getElem hlt) hj⟩
  cases h with
  | pur h =>
    cases h with
    | agg xs _ hl hc hh => exact ⟨xs, rfl, key xs hl (fun i x c h1 h2 => .pur (hh i x c h1 h2))⟩
  | agg xs _ hl hc hh => exact ⟨xs, rfl, key xs hl hh⟩

theorem abin_run {op : BinOp} {t : TypeId} {u v r : V} (h : abin P t op u v = some r) {x y : Value} {N : Nat → Prop} (hx : Enc w N μ x u) (hy : Enc w N μ y v) (ox oy : Operand) :
    ∃ z, (do eqGuard op t ox oy x y; binOp op t x y : Sem Value).run P w = .ok z w ∧ Pur w N z r := by
  unfold abin at h
  split at h
  · rename_i as bs
    split at h
    case h_2 => cases h
    rename_i qs hqs
    split at h
    case h_2 => cases h
    rename_i r0 hr0
    unfold tflat at hqs
    split at hqs
    case h_2 => cases hqs
    rename_i fs hfs
    split at hqs
    case isFalse => cases hqs
    rename_i hst
    obtain ⟨xs, rfl, hxs⟩ := hx.agg_cells
    obtain ⟨ys, rfl, hys⟩ := hy.agg_cells
    have hff : P.fieldsOf t = fs := by simp [Program.fieldsOf, hfs]
    have hrun : (Op.equalIn 10000 t (.agg xs.toArray) (.agg ys.toArray)).run P w = .ok r0 w := by
      rw [run_equalIn_struct w 9999 t _ _ (by rw [hff]; exact hfs) hst.1, hff]
      exact eqFields_run 9998 xs ys fs.toList 0 qs as bs r0 hqs hr0 (fun j c hj => by simpa using hxs j c hj) (fun j c hj => by simpa using hys j c hj)
    simp only [Sem.run_bind, run_eqGuard_agg w op t ox oy _ _ hst.2, Result.andThen_ok]
    split at h
    · injection h with h; subst h
      exact ⟨_, by rw [run_eql_struct, hrun]; rfl, .bool _⟩
    · injection h with h; subst h
      exact ⟨_, by rw [run_neq_struct, hrun]; rfl, .bool _⟩
    · cases h
  · rename_i k p k' q
    cases hx with
    | pur hx =>
    cases hx with
    | int =>
    cases hy with
    | pur hy =>
    cases hy with
    | int =>
    simp only [Sem.run_bind, eqGuard_at_int, Sem.run_pure, Result.andThen_ok]
    split at h
    · exact ashift_run h t w N
    · rename_i hs
      split at h
      · rename_i hk; subst hk; exact aint_run h (by simpa using hs) t w N
      · cases h
  · cases hx with
    | pur hx =>
    cases hx with
    | str =>
    cases hy with
    | pur hy =>
    cases hy with
    | str =>
    simp only [Sem.run_bind, eqGuard_at_string, Sem.run_pure, Result.andThen_ok]
    exact astr_run h t w N
  · cases hx with
    | pur hx =>
    cases hx with
    | bool p =>
    cases hy with
    | pur hy =>
    cases hy with
    | bool q =>
    split at h
    case isFalse => cases h
    rename_i ht
    have hu := tbool_underlying ht
    simp only [Sem.run_bind, eqGuard_at_bool, Sem.run_pure, Result.andThen_ok]
    cases op <;> simp only at h <;> first | (cases h; done) | (injection h with h; subst h)
    · exact ⟨_, run_eql_bools t _ _ hu, .bool _⟩
    · exact ⟨_, run_neq_bools t _ _ hu, .bool _⟩
  · cases h

def aun (op : UnOp) : V → Option V
  | .bool b => match op with | .not => some (.bool (!b)) | _ => none
  | .int k n => match op with | .neg => some (.int k (k.wrap (0 - n))) | .xor => some (.int k (bits .xor k (if k.signed = true then -1 else k.max) n)) | _ => none
  | _ => none

theorem aun_run {op : UnOp} {u r : V} (h : aun op u = some r) {x : Value} {N : Nat → Prop} (hx : Enc w N μ x u) : ∃ z, (Op.unary op x).run P w = .ok z w ∧ Pur w N z r := by
  unfold aun at h
  split at h
  · cases hx with
    | pur hx =>
    cases hx with
    | bool p =>
    split at h
    · injection h with h; subst h; exact ⟨_, rfl, .bool _⟩
    · cases h
  · cases hx with
    | pur hx =>
    cases hx with
    | int k n =>
    split at h
    · injection h with h; subst h; exact ⟨_, rfl, .int _ _⟩
    · injection h with h; subst h; exact ⟨_, rfl, .int _ _⟩
    · cases h
  · cases h

end
end Go.Eng
