/- Abstract states of a call, and what it means that they stand for a frame and a world. No condition. -/
import Derived.Test.YtepkalebaaidcaaEng1
namespace Go.Eng
open Go.RowKit

/-- Where the objects of the call's own lie: not there; nowhere yet (a nil slice that is appended to); block g with room for cap elements. -/
abbrev Mu := Nat → Nat → Option (Option (Nat × Nat))

inductive Enc (w : World) (N : Nat → Prop) (μ : Mu) : Value → V → Prop
  | pur {x : Value} {v : V} (h : Pur w N x v) : Enc w N μ x v
  | slr (d v sz len g cap : Nat) (hμ : μ d v = some (some (g, cap))) (h : len ≤ cap) (hmax : cap ≤ maxLen) : Enc w N μ (.slice (some ⟨g, 0, none⟩) len cap) (.sl d v sz len)
  | slv (d v sz : Nat) (A : Option Addr) (hμ : μ d v = some none) : Enc w N μ (.slice A 0 0) (.sl d v sz 0)
  | ss (d v sz off len g c cap : Nat) (A : Option Addr) (h : len ≤ c) (hc : c ≤ maxLen) (hA : 0 < len → μ d v = some (some (g, cap)) ∧ A = some ⟨g, off * sz, none⟩) : Enc w N μ (.slice A len c) (.ss d v sz off len)
  | bp (d v sz k off g cap : Nat) (hμ : μ d v = some (some (g, cap))) : Enc w N μ (.pointer (some ⟨g, k * sz + off, none⟩)) (.bp d v sz k off)
  | agg (xs : List Value) (cs : List V) (hl : xs.length = cs.length) (hc : ∀ c ∈ cs, c.isCell = true)
      (h : ∀ (i : Nat) x c, xs[i]? = some x → cs[i]? = some c → Enc w N μ x c) : Enc w N μ (.agg xs.toArray) (.agg cs)
  | tup (xs : List Value) (cs : List V) (hl : xs.length = cs.length)
      (h : ∀ (i : Nat) x c, xs[i]? = some x → cs[i]? = some c → Enc w N μ x c) : Enc w N μ (.tuple xs.toArray) (.tup cs)
  | whn (x : Value) (b : Bool) (v : V) (h : b = true → Enc w N μ x v) (hu : b = false → x = undef) : Enc w N μ x (.whn b v)

/-- An object of the call's own: its version, the cells of an element, the element's type, the elements. -/
structure Ob where
  v : Nat
  sz : Nat
  ty : TypeId
  es : List V

def get {α : Type} : List (Nat × α) → Nat → Option α
  | [], _ => none
  | (k, x) :: r, t => if k = t then some x else get r t

structure AS where
  env : List (Nat × V)
  objs : List (Nat × Ob)
  nx : Nat
  nt : Nat

def ObEnc (w : World) (N : Nat → Prop) (μ : Mu) (base : Nat) (o : Ob) : Option (Nat × Nat) → Prop
  | none => o.es = []
  | some (g, cap) => base ≤ g ∧ o.es.length ≤ cap ∧ cap ≤ maxLen ∧ (∀ e ∈ o.es, e.fits o.sz) ∧
      ∃ arr, w.heap[g]? = some (.cells arr o.ty (0, 0)) ∧ arr.size = cap * o.sz ∧
        ∀ (k : Nat) e (j : Nat) c, o.es[k]? = some e → e.cells[j]? = some c → ∃ x, arr[k * o.sz + j]? = some x ∧ Enc w N μ x c

/-- The blocks that a state owns, and those of N0. -/
def Own (N0 : Nat → Prop) (μ : Mu) (S : AS) (b : Nat) : Prop := N0 b ∨ ∃ d o cap, get S.objs d = some o ∧ μ d o.v = some (some (b, cap))

structure RelM (D : Nat → Prop) (w0 : World) (N0 : Nat → Prop) (μ : Mu) (S : AS) (a : Act) (w : World) : Prop where
  defers : a.defers = []
  size : a.tmps.size = S.nt
  below : Below w0.heap.size w0 w
  n0 : ∀ b, N0 b → b < w0.heap.size
  fresh : ∀ d v, μ d v ≠ none → v < S.nx ∨ ∃ j, D j ∧ v = S.nx + j
  objs : ∀ d o, get S.objs d = some o → ∃ l, μ d o.v = some l ∧ ObEnc w (Own N0 μ S) μ w0.heap.size o l
  inj : ∀ d o d' o' g c c', get S.objs d = some o → get S.objs d' = some o' → μ d o.v = some (some (g, c)) → μ d' o'.v = some (some (g, c')) → d = d'
  env : ∀ t v, get S.env t = some v → t < S.nt ∧ Enc w (Own N0 μ S) μ (a.tmps.getD t undef) v

def RelD (D : Nat → Prop) (w0 : World) (N0 : Nat → Prop) (S : AS) (a : Act) (w : World) : Prop := ∃ μ, RelM D w0 N0 μ S a w
def Rel (w0 : World) (N0 : Nat → Prop) (S : AS) (a : Act) (w : World) : Prop := RelD (fun _ => False) w0 N0 S a w

theorem Enc.keep {w w' : World} {N N' : Nat → Prop} {μ μ' : Mu} (hk : Keeps w N w') (hN : ∀ b, b < w.heap.size → N' b → N b)
    (hμ : ∀ d v l, μ d v = some l → μ' d v = some l) {x : Value} {v : V} (h : Enc w N μ x v) : Enc w' N' μ' x v := by
  induction h with
  | pur h => exact .pur (h.keep hk hN)
  | slr d v sz len g cap h1 h2 h3 => exact .slr d v sz len g cap (hμ _ _ _ h1) h2 h3
  | slv d v sz A h1 => exact .slv d v sz A (hμ _ _ _ h1)
  | ss d v sz off len g c cap A h2 h3 h4 => exact .ss d v sz off len g c cap A h2 h3 (fun h0 => ⟨hμ _ _ _ (h4 h0).1, (h4 h0).2⟩)
  | bp d v sz k off g cap h1 => exact .bp d v sz k off g cap (hμ _ _ _ h1)
  | agg xs cs hl hc _ ih => exact .agg xs cs hl hc ih
  | tup xs cs hl _ ih => exact .tup xs cs hl ih
  | whn x b v _ hu ih => exact .whn x b v ih hu

theorem Enc.cell_oneCell {w : World} {N : Nat → Prop} {μ : Mu} {x : Value} {v : V} (h : Enc w N μ x v) (hc : v.isCell = true) : x.oneCell' = true := by
  cases h with
  | pur h => exact h.cell_oneCell hc
  | agg => simp [V.isCell] at hc
  | tup => simp [V.isCell] at hc
  | whn => simp [V.isCell] at hc
  | _ => rfl

theorem Enc.cells_one {w : World} {N : Nat → Prop} {μ : Mu} {x : Value} {v : V} (h : Enc w N μ x v) (hc : v.isCell = true) : x.cells = #[x] := by
  have := h.cell_oneCell hc
  cases x <;> first | rfl | simp [Value.oneCell'] at this

theorem V.cells_one {v : V} (hc : v.isCell = true) : v.cells = [v] := by cases v <;> first | rfl | simp [V.isCell] at hc

/-- A value's cells, one by one. -/
theorem Enc.cells_at {w : World} {N : Nat → Prop} {μ : Mu} {x : Value} {v : V} {sz : Nat} (h : Enc w N μ x v) (hv : v.fits sz) :
    x.cells.size = sz ∧ ∀ (i : Nat) c, v.cells[i]? = some c → ∃ y, x.cells[i]? = some y ∧ Enc w N μ y c ∧ y.oneCell' = true := by
  obtain ⟨h1, h2⟩ := hv
  by_cases hc : v.isCell = true
  · rw [V.cells_one hc] at h1 ⊢
    rw [h.cells_one hc]
    refine ⟨by simpa using h1, fun i c hi => ?_⟩
    rcases i with _ | i
    · simp only [List.getElem?_cons_zero, Option.some.injEq] at hi
      subst hi
      exact ⟨x, by simp, h, h.cell_oneCell hc⟩
    · simp at hi
  · cases v with
    | agg cs =>
      have key : ∀ (xs : List Value), xs.length = cs.length → (∀ (i : Nat) x c, xs[i]? = some x → cs[i]? = some c → Enc w N μ x c) → (∀ c ∈ cs, c.isCell = true) →
          (Value.agg xs.toArray).cells.size = sz ∧ ∀ (i : Nat) c, cs[i]? = some c → ∃ y, (Value.agg xs.toArray).cells[i]? = some y ∧ Enc w N μ y c ∧ y.oneCell' = true := by
        intro xs hl hx hcs
        refine ⟨by simpa [Value.cells, V.cells, hl] using h1, fun i c hi => ?_⟩
        have hi' : i < xs.length := by rw [hl]; exact (List.getElem?_eq_some_iff.1 hi).1
        have he := hx i xs[i] c (List.getElem?_eq_getElem hi') hi
        exact ⟨xs[i], by simp [Value.cells, hi'], he, he.cell_oneCell (hcs c (List.mem_of_getElem? hi))⟩
      cases h with
      | pur h =>
        cases h with
        | agg xs _ hl hcs hh => exact key xs hl (fun i x c h3 h4 => .pur (hh i x c h3 h4)) hcs
      | agg xs _ hl hcs hh => exact key xs hl hh hcs
    | tup vs => exact absurd (h2 (.tup vs) (by simp [V.cells])) (by simp [V.isCell])
    | whn b v => exact absurd (h2 (.whn b v) (by simp [V.cells])) (by simp [V.isCell])
    | mp b k m => exact absurd (h2 (.mp b k m) (by simp [V.cells])) (by simp [V.isCell])
    | _ => simp [V.isCell] at hc

theorem get_cons {α : Type} (k : Nat) (x : α) (r : List (Nat × α)) (t : Nat) : get ((k, x) :: r) t = if k = t then some x else get r t := rfl

theorem tmps_put (a : Act) (d : Nat) (x : Value) (t : Nat) (hd : d < a.tmps.size) : (a.put (some d) x).tmps.getD t undef = if d = t then x else a.tmps.getD t undef := by
  simp only [Act.put, Array.getD_eq_getD_getElem?, Array.getElem?_setIfInBounds]
  by_cases h : d = t
  · subst h; simp [hd]
  · simp [h]

section
variable {D : Nat → Prop} {w0 w : World} {N0 : Nat → Prop} {μ : Mu} {S : AS} {a : Act}

theorem RelM.put (h : RelM D w0 N0 μ S a w) {d : Nat} {x : Value} {v : V} (hd : d < S.nt) (he : Enc w (Own N0 μ S) μ x v) :
    RelM D w0 N0 μ { S with env := (d, v) :: S.env } (a.put (some d) x) w := by
  refine ⟨h.defers, by simp [Act.put, h.size], h.below, h.n0, h.fresh, h.objs, h.inj, fun t u hu => ?_⟩
  rw [tmps_put a d x t (by rw [h.size]; exact hd)]
  rw [get_cons] at hu
  by_cases hdt : d = t
  · subst hdt
    simp only [if_true, Option.some.injEq] at hu
    subst hu
    simp only [if_true]
    exact ⟨hd, he⟩
  · simp only [hdt, if_false] at hu ⊢
    exact h.env t u hu

theorem RelM.putNone (h : RelM D w0 N0 μ S a w) (x : Value) : RelM D w0 N0 μ S (a.put none x) w := h

theorem RelM.more (h : RelM D w0 N0 μ S a w) {D' : Nat → Prop} (hD : ∀ j, D j → D' j) : RelM D' w0 N0 μ S a w :=
  ⟨h.defers, h.size, h.below, h.n0, fun d v hv => (h.fresh d v hv).imp id (fun ⟨j, hj, e⟩ => ⟨j, hD j hj, e⟩), h.objs, h.inj, h.env⟩

theorem RelM.block_lt (h : RelM D w0 N0 μ S a w) {d : Nat} {o : Ob} {g c : Nat} (hd : get S.objs d = some o) (hm : μ d o.v = some (some (g, c))) : g < w.heap.size := by
  obtain ⟨l, hl, hob⟩ := h.objs d o hd
  rw [hm] at hl
  injection hl with hl
  subst hl
  obtain ⟨_, _, _, _, arr, harr, _⟩ := hob
  exact (Array.getElem?_eq_some_iff.1 harr).1

theorem RelM.drew (h : RelM D w0 N0 μ S a w) : RelM D w0 N0 μ S a w.drew := by
  have hk : Keeps w (Own N0 μ S) w.drew := ⟨Nat.le_refl _, fun _ _ _ => rfl⟩
  refine ⟨h.defers, h.size, h.below.drew, h.n0, h.fresh, fun d o hd => ?_, h.inj, fun t u hu => ⟨(h.env t u hu).1, (h.env t u hu).2.keep hk (fun _ _ hb => hb) (fun _ _ _ hh => hh)⟩⟩
  obtain ⟨l, hl, hob⟩ := h.objs d o hd
  refine ⟨l, hl, ?_⟩
  cases l with
  | none => exact hob
  | some gc =>
    obtain ⟨h1, h2, h3, h4, arr, h5, h6, h7⟩ := hob
    exact ⟨h1, h2, h3, h4, arr, h5, h6, fun k e j c he hj => by
      obtain ⟨x, hx, hex⟩ := h7 k e j c he hj
      exact ⟨x, hx, hex.keep hk (fun _ _ hb => hb) (fun _ _ _ hh => hh)⟩⟩

theorem ObEnc.keep {w w' : World} {N N' : Nat → Prop} {μ μ' : Mu} {base : Nat} {o : Ob} {l : Option (Nat × Nat)} (h : ObEnc w N μ base o l) (hk : Keeps w N w') (hN : ∀ b, b < w.heap.size → N' b → N b)
    (hμ : ∀ d v l, μ d v = some l → μ' d v = some l) (hb : ∀ g c, l = some (g, c) → w'.heap[g]? = w.heap[g]?) : ObEnc w' N' μ' base o l := by
  cases l with
  | none => exact h
  | some gc =>
    obtain ⟨g, cap⟩ := gc
    obtain ⟨h1, h2, h3, h4, arr, h5, h6, h7⟩ := h
    exact ⟨h1, h2, h3, h4, arr, (hb g cap rfl).trans h5, h6, fun k e j c he hj => by
      obtain ⟨x, hx, hex⟩ := h7 k e j c he hj
      exact ⟨x, hx, hex.keep hk hN hμ⟩⟩

/-- The general change: object d becomes o', in a world that is as w was but for d's own block and new ones. -/
theorem RelM.update (h : RelM D w0 N0 μ S a w) {D' : Nat → Prop} {d : Nat} {o' : Ob} {l' : Option (Nat × Nat)} {w' : World} {μ' : Mu}
    (hμ : ∀ d v l, μ d v = some l → μ' d v = some l) (hfresh : ∀ d v, μ' d v ≠ none → v < S.nx ∨ ∃ j, D' j ∧ v = S.nx + j) (hd : μ' d o'.v = some l')
    (hbelow : Below w0.heap.size w0 w') (hkeep : Keeps w (Own N0 μ S) w')
    (hothers : ∀ d1 o1 g c, d1 ≠ d → get S.objs d1 = some o1 → μ d1 o1.v = some (some (g, c)) → w'.heap[g]? = w.heap[g]?)
    (hnew : ∀ g c, l' = some (g, c) → w.heap.size ≤ g ∨ ∃ o c0, get S.objs d = some o ∧ μ d o.v = some (some (g, c0)))
    (hob : ∀ N', (∀ b, b < w.heap.size → N' b → Own N0 μ S b) → ObEnc w' N' μ' w0.heap.size o' l') :
    RelM D' w0 N0 μ' { S with objs := (d, o') :: S.objs } a w' ∧ ∀ b, b < w.heap.size → Own N0 μ' { S with objs := (d, o') :: S.objs } b → Own N0 μ S b := by
  have hsame : ∀ d1 o1, get S.objs d1 = some o1 → μ' d1 o1.v = μ d1 o1.v := by
    intro d1 o1 h1
    obtain ⟨l, hl, _⟩ := h.objs d1 o1 h1
    rw [hμ _ _ _ hl, hl]
  have hsub : ∀ b, b < w.heap.size → Own N0 μ' { S with objs := (d, o') :: S.objs } b → Own N0 μ S b := by
    rintro b hb (h0 | ⟨d1, o1, c, h1, h2⟩)
    · exact .inl h0
    · simp only [get_cons] at h1
      by_cases e : d = d1
      · subst e
        simp only [if_true, Option.some.injEq] at h1
        subst h1
        rw [hd] at h2
        injection h2 with h2
        rcases hnew _ _ h2 with h3 | ⟨o, c0, h3, h4⟩
        · omega
        · exact .inr ⟨d, o, c0, h3, h4⟩
      · simp only [e, if_false] at h1
        rw [hsame d1 o1 h1] at h2
        exact .inr ⟨d1, o1, c, h1, h2⟩
  refine ⟨⟨h.defers, h.size, hbelow, h.n0, hfresh, fun d1 o1 h1 => ?_, fun d1 o1 d2 o2 g c c' h1 h2 h3 h4 => ?_, fun t u hu => ⟨(h.env t u hu).1, (h.env t u hu).2.keep hkeep hsub hμ⟩⟩, hsub⟩
  · simp only [get_cons] at h1
    by_cases e : d = d1
    · subst e
      simp only [if_true, Option.some.injEq] at h1
      subst h1
      exact ⟨l', hd, hob _ hsub⟩
    · simp only [e, if_false] at h1
      obtain ⟨l, hl, ho⟩ := h.objs d1 o1 h1
      refine ⟨l, hμ _ _ _ hl, ho.keep hkeep hsub hμ (fun g c hgc => hothers d1 o1 g c (Ne.symm e) h1 (by rw [hl, hgc]))⟩
  · simp only [get_cons] at h1 h2
    by_cases e1 : d = d1 <;> by_cases e2 : d = d2
    · rw [← e1, ← e2]
    · subst e1
      simp only [if_true, Option.some.injEq] at h1
      simp only [e2, if_false] at h2
      subst h1
      rw [hd] at h3
      injection h3 with h3
      rw [hsame d2 o2 h2] at h4
      rcases hnew _ _ h3 with h5 | ⟨o, c0, h5, h6⟩
      · have := h.block_lt h2 h4
        omega
      · exact h.inj _ _ _ _ _ _ _ h5 h2 h6 h4
    · subst e2
      simp only [if_true, Option.some.injEq] at h2
      simp only [e1, if_false] at h1
      subst h2
      rw [hd] at h4
      injection h4 with h4
      rw [hsame d1 o1 h1] at h3
      rcases hnew _ _ h4 with h5 | ⟨o, c0, h5, h6⟩
      · have := h.block_lt h1 h3
        omega
      · exact h.inj _ _ _ _ _ _ _ h1 h5 h3 h6
    · simp only [e1, if_false] at h1
      simp only [e2, if_false] at h2
      rw [hsame d1 o1 h1] at h3
      rw [hsame d2 o2 h2] at h4
      exact h.inj _ _ _ _ _ _ _ h1 h2 h3 h4

/-- A place for a new object. -/
def muSet (μ : Mu) (d v : Nat) (l : Option (Nat × Nat)) : Mu := fun d1 v1 => if d1 = d ∧ v1 = v then some l else μ d1 v1

theorem muSet_same (μ : Mu) (d v : Nat) (l : Option (Nat × Nat)) : muSet μ d v l d v = some l := by simp [muSet]
theorem RelM.fresh_at (h : RelM D w0 N0 μ S a w) {i : Nat} (hi : ¬ D i) (d : Nat) : μ d (S.nx + i) = none := by
  cases hm : μ d (S.nx + i) with
  | none => rfl
  | some l =>
    rcases h.fresh d (S.nx + i) (by rw [hm]; simp) with h1 | ⟨j, hj, e⟩
    · omega
    · have : i = j := by omega
      subst this
      exact absurd hj hi
theorem RelM.muSet_mono (h : RelM D w0 N0 μ S a w) {i : Nat} (hi : ¬ D i) (d : Nat) (l : Option (Nat × Nat)) : ∀ d1 v1 l1, μ d1 v1 = some l1 → muSet μ d (S.nx + i) l d1 v1 = some l1 := by
  intro d1 v1 l1 h1
  unfold muSet
  by_cases e : d1 = d ∧ v1 = S.nx + i
  · rw [e.1, e.2, h.fresh_at hi d] at h1
    cases h1
  · rw [if_neg e]; exact h1
theorem RelM.muSet_fresh (h : RelM D w0 N0 μ S a w) (i d : Nat) (l : Option (Nat × Nat)) : ∀ d1 v1, muSet μ d (S.nx + i) l d1 v1 ≠ none → v1 < S.nx ∨ ∃ j, (D j ∨ j = i) ∧ v1 = S.nx + j := by
  intro d1 v1 h1
  unfold muSet at h1
  by_cases e : d1 = d ∧ v1 = S.nx + i
  · exact .inr ⟨i, .inr rfl, e.2⟩
  · rw [if_neg e] at h1
    exact (h.fresh d1 v1 h1).imp id (fun ⟨j, hj, e⟩ => ⟨j, .inl hj, e⟩)

/-- A new block for object d. -/
theorem RelM.alloc (h : RelM D w0 N0 μ S a w) {i : Nat} (hi : ¬ D i) (d : Nat) (arr : Array Value) (ty : TypeId) (sz cap : Nat) (es : List V)
    (hsz : arr.size = cap * sz) (hes : es.length ≤ cap) (hcap : cap ≤ maxLen) (hfit : ∀ e ∈ es, e.fits sz)
    (hcells : ∀ (k : Nat) e (j : Nat) c, es[k]? = some e → e.cells[j]? = some c → ∃ x, arr[k * sz + j]? = some x ∧ Enc w (Own N0 μ S) μ x c) :
    RelM (fun j => D j ∨ j = i) w0 N0 (muSet μ d (S.nx + i) (some (w.heap.size, cap))) { S with objs := (d, ⟨S.nx + i, sz, ty, es⟩) :: S.objs } a (w.alloc (.cells arr ty)) := by
  have hmono := h.muSet_mono hi d (some (w.heap.size, cap))
  have hk : Keeps w (Own N0 μ S) (w.alloc (.cells arr ty)) := Keeps.alloc w _ _
  refine (h.update (D' := fun j => D j ∨ j = i) (o' := ⟨S.nx + i, sz, ty, es⟩) (l' := some (w.heap.size, cap)) hmono (h.muSet_fresh i d _) (muSet_same _ _ _ _) (h.below.alloc h.below.size _) hk
    (fun d1 o1 g c _ h1 h2 => Below.heap_alloc w _ g (h.block_lt h1 h2)) (fun g c e => ?_) (fun N' hN => ?_)).1
  · simp only [Option.some.injEq, Prod.mk.injEq] at e
    exact .inl (by omega)
  · refine ⟨h.below.size, hes, hcap, hfit, arr, heap_alloc_new w _, hsz, fun k e j c he hj => ?_⟩
    obtain ⟨x, hx, hex⟩ := hcells k e j c he hj
    exact ⟨x, hx, hex.keep hk hN hmono⟩
end

/-- A state that says less. -/
def AS.le (S S' : AS) : Prop := ∀ w0 N0 a w, Rel w0 N0 S a w → Rel w0 N0 S' a w

end Go.Eng
