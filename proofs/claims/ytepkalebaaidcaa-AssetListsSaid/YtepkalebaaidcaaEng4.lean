/- The abstract value of an operation that leaves memory alone, and that the model computes it. No condition. -/
import Derived.Test.YtepkalebaaidcaaEng3
namespace Go.Eng
open Go.RowKit

/-- The bounds of 'x[lo:hi]' at a length n: the low and the high one, both inside. -/
def abounds (n : Nat) : Option V → Option V → Option (Nat × Nat)
  | none, none => some (0, n)
  | some (.int _ l), none => if 0 ≤ l ∧ l ≤ n then some (l.toNat, n) else none
  | none, some (.int _ h) => if 0 ≤ h ∧ h ≤ n then some (0, h.toNat) else none
  | some (.int _ l), some (.int _ h) => if 0 ≤ l ∧ l ≤ h ∧ h ≤ n then some (l.toNat, h.toNat) else none
  | _, _ => none

/-- Fills parts into the cells of a struct. -/
def afill (place : Nat → Option (Nat × Nat)) (cells : List V) : List (Nat × V) → Option (List V)
  | [] => some cells
  | (i, v) :: rest =>
    match place i with
    | none => none
    | some (off, size) =>
      if v.cells.length = size ∧ off + size ≤ cells.length then afill place (cells.take off ++ v.cells ++ cells.drop (off + size)) rest else none

def tplace (P : Program) (t i : Nat) : Option (Nat × Nat) := (tfield P t i).map fun p => (p.1, p.2.1)

/-- Operands one by one. -/
def AS.evs (S : AS) (c : Bool) : List (Nat × Operand) → Option (List (Nat × V))
  | [] => some []
  | (i, x) :: r => match S.evc c x, S.evs c r with
    | some v, some vs => some ((i, v) :: vs)
    | _, _ => none

/-- An operand that may be missing. -/
def AS.evo (S : AS) (c : Bool) : Option Operand → Option (Option V)
  | none => some none
  | some x => (S.evc c x).map some

def cellOk (v : V) : Bool := v.cells.all V.isCell

/-- All fields of a struct type have a size. -/
def tfields (P : Program) (t : TypeId) : Bool := match P.underlying t with
  | some (.struct fs) => fs.all fun f => (tsz P f.type).isSome
  | _ => false

/-- A map type with integer keys: the kind of the keys, the elements' type. -/
def tmap (P : Program) (t : TypeId) : Option (IntKind × TypeId) := match P.underlying t with
  | some (.map k e) => match P.underlying k with
    | some (.int q) => some (q, e)
    | _ => none
  | _ => none
/-- What a lookup yields. -/
def lookV (ok : Bool) (z : V) : Option V → V
  | some v => if ok then .tup [v, .bool true] else v
  | none => if ok then .tup [z, .bool false] else z

def aval (P : Program) (S : AS) (c : Bool) : Op → Option V
  | .move x => S.evc c x
  | .assign x => S.evc c x
  | .pick x y z => match S.evc c x with
    | some (.bool g) => match S.evc (c && g) y, S.evc (c && !g) z with
      | some (.bool p), some (.bool q) => some (.bool (cond g p q))
      | some u, some v => match g with | true => some u | false => some v
      | _, _ => none
    | _ => none
  | .load t x => match S.evc c x with
    | some p => match S.place p, tsz P t, tagg P t with
      | some (e, off), some n, some g => e.part off n g
      | _, _, _ => none
    | none => none
  | .nilCheck x => match S.evc c x with
    | some (.rp e) => some (.rp e)
    | some (.bp d v sz k off) => some (.bp d v sz k off)
    | _ => none
  | .binOp op t x y _ => match S.evc c x, S.evc c y with
    | some u, some v => abin P t op u v
    | _, _ => none
  | .unOp op _ x => match S.evc c x with
    | some u => aun op u
    | none => none
  | .convert src dst x => match S.evc c x, tint P dst with
    | some (.int _ n), some k => if (P.underlying src).isSome = true then some (.int k (k.wrap n)) else none
    | _, _ => none
  | .fieldAddr t x f => match S.evc c x, tfield P t f with
    | some (.rp e), some (off, n, g) => (e.part off n g).map .rp
    | some (.bp d v sz k o), some (off, _, _) => some (.bp d v sz k (o + off))
    | _, _ => none
  | .field t x f => match S.evc c x, tfield P t f with
    | some e, some (off, n, g) => match e with | .agg cs => (V.agg cs).part off n g | _ => none
    | _, _ => none
  | .indexAddr t x i => match S.evc c x, S.evc c i, telem P t with
    | some p, some (.int _ n), some te => match tsz P te with
      | some z => match p with
        | .ro sz es => if 0 ≤ n ∧ n < es.length ∧ z = sz then (match nth es n.toNat with | some e => some (.rp e) | none => none) else none
        | .sl d v sz len => if 0 ≤ n ∧ n < len ∧ z = sz then some (.bp d v sz n.toNat 0) else none
        | .ss d v sz off len => if 0 ≤ n ∧ n < len ∧ z = sz then some (.bp d v sz (off + n.toNat) 0) else none
        | _ => none
      | none => none
    | _, _, _ => none
  | .index t x i => match S.evc c x, S.evc c i with
    | some (.str l), some (.int _ n) => if tstr P t = true ∧ 0 ≤ n then (match nth l n.toNat with | some b => some (.int .u8 b.toNat) | none => none) else none
    | _, _ => none
  | .extract x i => match S.evc c x with
    | some (.tup vs) => nth vs i
    | _ => none
  | .slice t x lo hi none => match S.evc c x, S.evo c lo, S.evo c hi with
    | some p, some lv, some hv => match p with
      | .str l => if tstr P t = true then (match abounds l.length lv hv with
        | some (p, q) => some (.str ((l.drop p).take (q - p)))
        | none => none) else none
      | .ro sz es => match telem P t with
        | some te => match tsz P te, abounds es.length lv hv with
          | some z, some (p, q) => if z = sz then some (.ro sz ((es.drop p).take (q - p))) else none
          | _, _ => none
        | none => none
      | .sl d v sz len => match telem P t with
        | some te => match tsz P te, abounds len lv hv with
          | some z, some (p, q) => if z = sz then some (.ss d v sz p (q - p)) else none
          | _, _ => none
        | none => none
      | .ss d v sz off len => match telem P t with
        | some te => match tsz P te, abounds len lv hv with
          | some z, some (p, q) => if z = sz then some (.ss d v sz (off + p) (q - p)) else none
          | _, _ => none
        | none => none
      | _ => none
    | _, _, _ => none
  | .build t parts => match tzero P t, S.evs c parts.toList with
    | some (.agg z), some vs => if (vs.all fun p => cellOk p.2) = true ∧ tfields P t = true then (afill (tplace P t) z vs).map .agg else none
    | _, _ => none
  | .lookup t x i ok => match S.evc c x, S.evc c i, tmap P t with
    | some (.mp _ k m), some (.int k' a), some (q, e) => match tzero P e with
      | some z => if k = k' ∧ q = k then some (lookV ok z (assoc a m)) else none
      | none => none
    | _, _, _ => none
  | .call { callee := .builtin .min, args, argTypes := _ } => match args.toList with
    | [x, y] => match S.evc c x, S.evc c y with
      | some (.int k a), some (.int k' b) => if k = k' then some (.int k (if b < a then b else a)) else none
      | _, _ => none
    | _ => none
  | .call { callee := .builtin .len, args, argTypes } => match args.toList, argTypes.toList with
    | [x], [t] => match S.evc c x with
      | some (.str l) => if tstr P t = true then some (.int .i64 l.length) else none
      | some (.ro _ es) => if (telem P t).isSome = true then some (.int .i64 es.length) else none
      | some .nils => if (telem P t).isSome = true then some (.int .i64 0) else none
      | some (.sl _ _ _ n) => if (telem P t).isSome = true then some (.int .i64 n) else none
      | some (.ss _ _ _ _ n) => if (telem P t).isSome = true then some (.int .i64 n) else none
      | _ => none
    | _, _ => none
  | _ => none

section
variable {D : Nat → Prop} {w0 w : World} {N0 : Nat → Prop} {μ : Mu} {S : AS} {a : Act} {P : Program}

theorem telem_underlying {t e : TypeId} (h : telem P t = some e) : P.underlying t = some (.slice e) := by
  unfold telem at h
  split at h
  · rename_i e' he; injection h with h; subst h; exact he
  · cases h
theorem tstr_underlying {t : TypeId} (h : tstr P t = true) : P.underlying t = some .string := by
  unfold tstr at h
  split at h
  · assumption
  · cases h
theorem tint_underlying {t : TypeId} {k : IntKind} (h : tint P t = some k) : P.underlying t = some (.int k) := by
  unfold tint at h
  split at h
  · rename_i k' hk; injection h with h; subst h; exact hk
  · cases h
theorem tsz_run {t n : Nat} (h : tsz P t = some n) (w : World) : (sizeOf t).run P w = .ok n w := by
  unfold tsz at h
  obtain ⟨i, hi, rfl⟩ := Option.map_eq_some_iff.1 h
  simp [sizeOf, typeInfo, hi]
theorem tagg_run {t : TypeId} {g : Bool} (h : tagg P t = some g) (w : World) : (isAgg t).run P w = .ok g w := by
  unfold tagg at h
  obtain ⟨de, hde, hg⟩ := Option.map_eq_some_iff.1 h
  simp only [isAgg, Sem.run_bind, run_underlying hde, Result.andThen_ok]
  subst hg
  cases de <;> rfl
theorem tfield_spec {t f off n : Nat} {g : Bool} (h : tfield P t f = some (off, n, g)) :
    ∃ fs fd, P.underlying t = some (.struct fs) ∧ fs[f]? = some fd ∧ fd.offset = off ∧ tsz P fd.type = some n ∧ tagg P fd.type = some g ∧ n ≠ 0 := by
  unfold tfield at h
  split at h
  case h_2 => cases h
  rename_i fs hfs
  split at h
  case h_2 => cases h
  rename_i fd hfd
  split at h
  case h_2 => cases h
  rename_i n' g' hn hg
  split at h
  · cases h
  · rename_i h0
    simp only [Option.some.injEq, Prod.mk.injEq] at h
    obtain ⟨rfl, rfl, rfl⟩ := h
    exact ⟨fs, fd, hfs, hfd, rfl, hn, hg, h0⟩

/-- A part of a value that lies in the frame. -/
theorem run_part {N : Nat → Prop} {t off n : Nat} {g : Bool} {cs : List V} {r : V} {x : Value} (hn : tsz P t = some n) (hg : tagg P t = some g) (hx : Enc w N μ x (.agg cs)) (hp : (V.agg cs).part off n g = some r) :
    ∃ xs y, x = .agg xs ∧ (part t xs off).run P w = .ok y w ∧ Enc w N μ y r := by
  have key : ∀ (xs : List Value), xs.length = cs.length → (∀ c ∈ cs, c.isCell = true) → (∀ (i : Nat) x c, xs[i]? = some x → cs[i]? = some c → Enc w N μ x c) →
      ∃ y, (part t xs.toArray off).run P w = .ok y w ∧ Enc w N μ y r := by
    intro xs hl hcs hh
    unfold V.part at hp
    by_cases hlen : off + n ≤ (V.agg cs).cells.length
    case neg => rw [if_neg hlen] at hp; cases hp
    rw [if_pos hlen] at hp
    have hlen' : off + n ≤ cs.length := hlen
    cases g with
    | true =>
      simp only [if_true, Option.some.injEq] at hp
      subst hp
      refine ⟨.agg ((xs.drop off).take n).toArray, ?_, .agg _ _ (by simp [hl, V.cells]) (fun c hc => hcs c (List.mem_of_mem_drop (List.mem_of_mem_take hc))) (fun i y c h1 h2 => ?_)⟩
      · simp only [part, Sem.run_bind, tagg_run hg, Result.andThen_ok, if_true, tsz_run hn, Sem.run_pure]
        congr 2
        simp
      · have hi : i < n := by have := (List.getElem?_eq_some_iff.1 h1).1; simp at this; omega
        rw [List.getElem?_take_of_lt hi, List.getElem?_drop] at h1 h2
        exact hh _ _ _ h1 h2
    | false =>
      simp only [Bool.false_eq_true, if_false] at hp
      by_cases h1 : n = 1
      case neg => rw [if_neg h1] at hp; cases hp
      rw [if_pos h1] at hp
      have hlt : off < xs.length := by rw [hl]; omega
      refine ⟨xs[off], ?_, hh off _ r (List.getElem?_eq_getElem hlt) hp⟩
      simp [part, tagg_run hg, hlt]
  cases hx with
  | pur hx =>
    cases hx with
    | agg xs _ hl hcs hh =>
      obtain ⟨y, h1, h2⟩ := key xs hl hcs (fun i x c h3 h4 => .pur (hh i x c h3 h4))
      exact ⟨_, y, rfl, h1, h2⟩
  | agg xs _ hl hcs hh =>
    obtain ⟨y, h1, h2⟩ := key xs hl hcs hh
    exact ⟨_, y, rfl, h1, h2⟩

theorem part_fits {e r : V} {off n sz : Nat} {g : Bool} (hf : e.fits sz) (hp : e.part off n g = some r) : r.fits n := by
  unfold V.part at hp
  split at hp
  case isFalse => cases hp
  rename_i hlen
  split at hp
  · injection hp with hp
    subst hp
    exact ⟨by show ((e.cells.drop off).take n).length = n; rw [List.length_take, List.length_drop]; omega, fun c hc => hf.2 c (List.mem_of_mem_drop (List.mem_of_mem_take hc))⟩
  · split at hp
    case isFalse => cases hp
    rename_i h1
    have hc := hf.2 r (List.mem_of_getElem? hp)
    refine ⟨by rw [V.cells_one hc]; simp [h1], fun c hcc => ?_⟩
    rw [V.cells_one hc] at hcc
    simp at hcc
    subst hcc
    exact hc
theorem part_cells {e r : V} {off n sz : Nat} {g : Bool} (hf : e.fits sz) (hp : e.part off n g = some r) (j : Nat) (c : V) (hj : r.cells[j]? = some c) : e.cells[off + j]? = some c := by
  have hp' := hp
  unfold V.part at hp
  split at hp
  case isFalse => cases hp
  split at hp
  · injection hp with hp
    subst hp
    simp only [V.cells] at hj
    have hj' : j < n := by have := (List.getElem?_eq_some_iff.1 hj).1; simp at this; omega
    rwa [List.getElem?_take_of_lt hj', List.getElem?_drop] at hj
  · split at hp
    case isFalse => cases hp
    have hc := hf.2 r (List.mem_of_getElem? hp)
    rw [V.cells_one hc] at hj
    rcases j with _ | j
    · simp at hj; subst hj; simpa using hp
    · simp at hj

/-- What a slice that can be read holds. -/
theorem bounds_run {isSlice : Bool} {n cap : Nat} {lv hv : Option V} {p q : Nat} (h : abounds n lv hv = some (p, q)) (hcap : n ≤ cap) {N : Nat → Prop} {lo hi : Option Value}
    (hl : ∀ v, lv = some v → ∃ x, lo = some x ∧ Enc w N μ x v) (hl0 : lv = none → lo = none) (hh : ∀ v, hv = some v → ∃ x, hi = some x ∧ Enc w N μ x v) (hh0 : hv = none → hi = none) :
    (Instr.sliceBounds isSlice n cap lo hi none).run P w = .ok (p, q, cap) w ∧ p ≤ q ∧ q ≤ n := by
  unfold abounds at h
  split at h
  · simp only [Option.some.injEq, Prod.mk.injEq] at h
    obtain ⟨rfl, rfl⟩ := h
    rw [hl0 rfl, hh0 rfl]
    exact ⟨by simp [Instr.sliceBounds], Nat.zero_le _, Nat.le_refl _⟩
  · rename_i k l
    split at h
    case isFalse => cases h
    rename_i hb
    simp only [Option.some.injEq, Prod.mk.injEq] at h
    obtain ⟨rfl, rfl⟩ := h
    obtain ⟨x, rfl, hx⟩ := hl _ rfl
    rw [hh0 rfl]
    cases hx with
    | pur hx =>
    cases hx with
    | int =>
    refine ⟨?_, by omega, Nat.le_refl _⟩
    simp [Instr.sliceBounds, run_sliceBound w k l n _ hb.1 (by omega)]
  · rename_i k l
    split at h
    case isFalse => cases h
    rename_i hb
    simp only [Option.some.injEq, Prod.mk.injEq] at h
    obtain ⟨rfl, rfl⟩ := h
    obtain ⟨x, rfl, hx⟩ := hh _ rfl
    rw [hl0 rfl]
    cases hx with
    | pur hx =>
    cases hx with
    | int =>
    refine ⟨?_, by omega, by omega⟩
    simp [Instr.sliceBounds, run_sliceBound w k l cap _ hb.1 (by omega)]
  · rename_i k l k' l'
    split at h
    case isFalse => cases h
    rename_i hb
    simp only [Option.some.injEq, Prod.mk.injEq] at h
    obtain ⟨rfl, rfl⟩ := h
    obtain ⟨x, rfl, hx⟩ := hl _ rfl
    obtain ⟨y, rfl, hy⟩ := hh _ rfl
    cases hx with
    | pur hx =>
    cases hx with
    | int =>
    cases hy with
    | pur hy =>
    cases hy with
    | int =>
    refine ⟨?_, by omega, by omega⟩
    simp [Instr.sliceBounds, run_sliceBound w k' l' cap _ (by omega) (by omega), run_sliceBound w k l l'.toNat _ hb.1 (by omega)]
  · cases h

end
end Go.Eng
