/- A row of the call's own that is not written any more becomes a list that is read. No condition. -/
import Derived.Test.YtepkalebaaidcaaEng27
set_option linter.unusedSimpArgs false
namespace Go.Eng
open Go.RowKit

/-- A cell with the slices of row d read as lists. -/
def V.frzC (d v sz : Nat) (es : List V) : V → V
  | .sl d' v' sz' len => if d' = d ∧ v' = v ∧ sz' = sz ∧ es.length = len then .ro sz es else .sl d' v' sz' len
  | .ss d' v' sz' off len => if d' = d ∧ v' = v ∧ sz' = sz ∧ off + len ≤ es.length then .ro sz ((es.drop off).take len) else .ss d' v' sz' off len
  | u => u
def V.frz (d v sz : Nat) (es : List V) : V → V
  | .agg cs => .agg (cs.map (V.frzC d v sz es))
  | u => u.frzC d v sz es
def eraseK {α : Type} (d : Nat) : List (Nat × α) → List (Nat × α)
  | [] => []
  | (k, x) :: r => if k = d then eraseK d r else (k, x) :: eraseK d r
theorem get_eraseK {α : Type} (d t : Nat) : ∀ (l : List (Nat × α)) (x : α), get (eraseK d l) t = some x → t ≠ d ∧ get l t = some x
  | [], x, h => by simp [eraseK, get] at h
  | (k, y) :: r, x, h => by
    unfold eraseK at h
    split at h
    · rename_i e
      obtain ⟨h1, h2⟩ := get_eraseK d t r x h
      refine ⟨h1, ?_⟩
      rw [get_cons, if_neg (by omega)]
      exact h2
    · rename_i e
      rw [get_cons] at h ⊢
      split at h
      · rename_i e2; exact ⟨by omega, by rw [if_pos e2]; exact h⟩
      · rename_i e2
        obtain ⟨h1, h2⟩ := get_eraseK d t r x h
        exact ⟨h1, by rw [if_neg e2]; exact h2⟩
theorem get_mapK {α β : Type} (f : α → β) (t : Nat) : ∀ (l : List (Nat × α)) (y : β), get (mapK f l) t = some y → ∃ x, get l t = some x ∧ f x = y
  | [], y, h => by simp [mapK, get] at h
  | (k, x) :: r, y, h => by
    unfold mapK at h
    rw [get_cons] at h
    rw [get_cons]
    split at h
    · rename_i e; rw [if_pos e]; injection h with h; exact ⟨x, rfl, h⟩
    · rename_i e; rw [if_neg e]; exact get_mapK f t r y h

/-- The row d is given up and read from now on. -/
def AS.freeze (S : AS) (d : Nat) : Option AS :=
  match get S.objs d with
  | some o => if o.es.all V.pureE = true then some { S with env := mapK (V.frz d o.v o.sz o.es) S.env, objs := mapK (fun q => { q with es := q.es.map (V.frz d o.v o.sz o.es) }) (eraseK d S.objs) } else none
  | none => none
def AS.freezeK (S : AS) (d : Nat) (L M : List Nat) : Option AS :=
  match S.freeze d with
  | some S' => some (S'.keep L M)
  | none => none
attribute [simp] V.frzC V.frz eraseK mapK AS.freeze AS.freezeK

section
variable {P : Program} {D : Nat → Prop} {w0 w : World} {N0 : Nat → Prop} {μ : Mu} {S : AS} {a : Act} {Q : Exit → AS → Prop}

theorem RelM.frzC (h : RelM D w0 N0 μ S a w) {d : Nat} {o : Ob} (ho : get S.objs d = some o) (hp : o.es.all V.pureE = true) {N' : Nat → Prop} (hsub : ∀ b, b < w.heap.size → N' b → Own N0 μ S b)
    (hd : ∀ g c, μ d o.v = some (some (g, c)) → ¬ N' g) {x : Value} {v : V} (hx : Enc w (Own N0 μ S) μ x v) : Enc w N' μ x (v.frzC d o.v o.sz o.es) := by
  have other : Enc w N' μ x v := hx.keep (Keeps.refl _ _) hsub (fun _ _ _ hh => hh)
  have key : ∀ (v : V) (es : List V), Enc w (Own N0 μ S) μ x v → S.elems v = some (o.sz, es) → es.all V.pureE = true → (∃ off len, v = .ss d o.v o.sz off len ∨ v = .sl d o.v o.sz len) → Enc w N' μ x (.ro o.sz es) := by
    intro v es hx hes hp hform
    refine .pur ?_
    obtain ⟨A, c, rfl, hlc, hrest⟩ := h.elems hx hes
    by_cases hne : es = []
    · subst hne
      have hc : c ≤ maxLen := by
        obtain ⟨off, len, rfl | rfl⟩ := hform
        · cases hx with
          | pur hx => cases hx
          | ss _ _ _ _ _ g c' cap A' h1 h2 h3 => exact h2
        · cases hx with
          | pur hx => cases hx
          | slr _ _ _ _ g cap h1 h2 h3 => exact h3
          | slv => simp [maxLen]
      exact .ro A ⟨0, 0, none⟩ 0 c _ [] (fun _ _ => undef) rfl hlc hc (fun h0 => absurd h0 (by simp)) (by simp) (by simp) (by simp)
    · obtain ⟨hf, ad, vs, rfl, hvl, hvc, hrow⟩ := hrest hne
      have hblk : ad.block < w.heap.size ∧ ¬ N' ad.block ∧ c ≤ maxLen := by
        have hpos := List.length_pos_iff.2 hne
        obtain ⟨off, len, rfl | rfl⟩ := hform
        · simp only [AS.elems, ho] at hes
          split at hes
          case isFalse => cases hes
          rename_i hb
          obtain ⟨_, _, hb3⟩ := hb
          simp only [Option.some.injEq, Prod.mk.injEq, true_and] at hes
          subst hes
          have hl' : ((o.es.drop off).take len).length = len := by simp; omega
          rw [hl'] at hpos hx
          cases hx with
          | pur hx => cases hx
          | ss _ _ _ _ _ g c' cap A' h1 h2 h3 =>
            obtain ⟨hm, hA⟩ := h3 hpos
            injection hA with hA
            subst hA
            exact ⟨h.block_lt ho hm, hd _ _ hm, h2⟩
        · simp only [AS.elems, ho] at hes
          split at hes
          case isFalse => cases hes
          rename_i hb
          obtain ⟨_, _, hb3⟩ := hb
          simp only [Option.some.injEq, Prod.mk.injEq, true_and] at hes
          subst hes
          rw [hb3] at hpos hx
          cases hx with
          | pur hx => cases hx
          | slr _ _ _ _ g cap hm h2 h3 => exact ⟨h.block_lt ho hm, hd _ _ hm, h3⟩
          | slv => exact absurd hpos (by simp)
      have hat : ∀ (k : Nat) e (j : Nat) c, es[k]? = some e → e.cells[j]? = some c → ∃ y, vs[k * o.sz + j]? = some y ∧ Enc w (Own N0 μ S) μ y c := by
        intro k e j c hk hj
        have hfl := flat_get hf hk hj
        have hlt : k * o.sz + j < vs.length := by rw [hrow.1]; exact (List.getElem?_eq_some_iff.1 hfl).1
        exact ⟨_, List.getElem?_eq_getElem hlt, hrow.2 _ _ c (List.getElem?_eq_getElem hlt) hfl⟩
      refine .ro _ ad es.length c o.sz es (fun k j => (vs[k * o.sz + j]?).getD undef) rfl hlc hblk.2.2 (fun _ => ⟨rfl, hblk.1, hblk.2.1⟩) hf (fun k e j c hk hj => ?_) (fun k e j c hk hj => ?_)
      · obtain ⟨y, hy, _⟩ := hat k e j c hk hj
        simp only [hy, Option.getD_some]
        exact hvc _ _ hy
      · obtain ⟨y, hy, hey⟩ := hat k e j c hk hj
        simp only [hy, Option.getD_some]
        have hpc : c.pureC = true := List.all_eq_true.1 (List.all_eq_true.1 hp e (List.mem_of_getElem? hk)) c (List.mem_of_getElem? hj)
        exact (hey.pureC hpc).keep (Keeps.refl _ _) hsub
  unfold V.frzC
  split
  · split
    · rename_i d' v' sz' len hc
      obtain ⟨rfl, rfl, rfl, hl⟩ := hc
      exact key _ o.es hx (by simp [AS.elems, ho, hl]) hp ⟨0, len, .inr rfl⟩
    · exact other
  · split
    · rename_i d' v' sz' off len hc
      obtain ⟨rfl, rfl, rfl, hl⟩ := hc
      refine key _ _ hx (by simp [AS.elems, ho, hl]) ?_ ⟨off, len, .inl rfl⟩
      rw [List.all_eq_true] at hp ⊢
      exact fun e he => hp e (List.mem_of_mem_drop (List.mem_of_mem_take he))
    · exact other
  · exact other

theorem frzC_cell (d v sz : Nat) (es : List V) {c : V} (h : c.isCell = true) : (c.frzC d v sz es).isCell = true := by
  unfold V.frzC
  split
  · split <;> first | rfl | exact h
  · split <;> first | rfl | exact h
  · exact h
theorem frz_cells (d v sz : Nat) (es : List V) (e : V) : (e.frz d v sz es).cells = e.cells.map (V.frzC d v sz es) := by
  cases e with
  | agg cs => rfl
  | sl d' v' sz' len => simp only [V.frz, V.frzC, V.cells, List.map_cons, List.map_nil]; by_cases hc : d' = d ∧ v' = v ∧ sz' = sz ∧ es.length = len <;> simp [hc]
  | ss d' v' sz' off len => simp only [V.frz, V.frzC, V.cells, List.map_cons, List.map_nil]; by_cases hc : d' = d ∧ v' = v ∧ sz' = sz ∧ off + len ≤ es.length <;> simp [hc]
  | _ => rfl

theorem RelM.frz (h : RelM D w0 N0 μ S a w) {d : Nat} {o : Ob} (ho : get S.objs d = some o) (hp : o.es.all V.pureE = true) {N' : Nat → Prop} (hsub : ∀ b, b < w.heap.size → N' b → Own N0 μ S b)
    (hd : ∀ g c, μ d o.v = some (some (g, c)) → ¬ N' g) {x : Value} {v : V} (hx : Enc w (Own N0 μ S) μ x v) : Enc w N' μ x (v.frz d o.v o.sz o.es) := by
  cases v with
  | agg cs =>
    have key : ∀ xs : List Value, xs.length = cs.length → (∀ c ∈ cs, c.isCell = true) → (∀ (i : Nat) x c, xs[i]? = some x → cs[i]? = some c → Enc w (Own N0 μ S) μ x c) → Enc w N' μ (.agg xs.toArray) (.agg (cs.map (V.frzC d o.v o.sz o.es))) := by
      intro xs hl hc hh
      refine .agg xs _ (by simp [hl]) (fun c hc' => ?_) (fun i x c hx' hc' => ?_)
      · simp only [List.mem_map] at hc'
        obtain ⟨c0, hc0, rfl⟩ := hc'
        exact frzC_cell _ _ _ _ (hc c0 hc0)
      · simp only [List.getElem?_map, Option.map_eq_some_iff] at hc'
        obtain ⟨c0, hc0, rfl⟩ := hc'
        exact h.frzC ho hp hsub hd (hh i x c0 hx' hc0)
    cases hx with
    | pur hx => cases hx with
      | agg xs _ hl hc hh => exact key xs hl hc (fun i x c a b => .pur (hh i x c a b))
    | agg xs _ hl hc hh => exact key xs hl hc hh
  | _ => exact h.frzC ho hp hsub hd hx

theorem le_freeze {d : Nat} {S' : AS} (hs : S.freeze d = some S') : S.le S' := by
  rintro w0 N0 a w ⟨μ, h⟩
  unfold AS.freeze at hs
  split at hs
  case h_2 => cases hs
  rename_i o ho
  split at hs
  case isFalse => cases hs
  rename_i hp
  injection hs with hs
  subst hs
  generalize hS' : ({ S with env := mapK (V.frz d o.v o.sz o.es) S.env, objs := mapK (fun q => { q with es := q.es.map (V.frz d o.v o.sz o.es) }) (eraseK d S.objs) } : AS) = S'
  have hob : ∀ d1 o1, get S'.objs d1 = some o1 → d1 ≠ d ∧ ∃ q, get S.objs d1 = some q ∧ o1 = { q with es := q.es.map (V.frz d o.v o.sz o.es) } := by
    subst hS'
    intro d1 o1 h1
    obtain ⟨q, h2, h3⟩ := get_mapK _ _ _ _ h1
    obtain ⟨h4, h5⟩ := get_eraseK _ _ _ _ h2
    exact ⟨h4, q, h5, h3.symm⟩
  have hsub : ∀ b, b < w.heap.size → Own N0 μ S' b → Own N0 μ S b := by
    rintro b hb (h0 | ⟨d1, o1, c, h1, h2⟩)
    · exact .inl h0
    · obtain ⟨_, q, h3, rfl⟩ := hob d1 o1 h1
      exact .inr ⟨d1, q, c, h3, h2⟩
  have hd : ∀ g c, μ d o.v = some (some (g, c)) → ¬ Own N0 μ S' g := by
    rintro g c hm (h0 | ⟨d1, o1, c1, h1, h2⟩)
    · have := h.n0 g h0
      obtain ⟨l, hl, hobl⟩ := h.objs d o ho
      rw [hm] at hl
      injection hl with hl
      subst hl
      have := hobl.1
      omega
    · obtain ⟨hne, q, h3, rfl⟩ := hob d1 o1 h1
      exact hne (h.inj _ _ _ _ _ _ _ h3 ho h2 hm)
  refine ⟨μ, h.defers, by subst hS'; exact h.size, h.below, h.n0, by subst hS'; exact h.fresh, fun d1 o1 h1 => ?_, fun d1 o1 d2 o2 g c c' h1 h2 h3 h4 => ?_, fun t v hv => ?_⟩
  · obtain ⟨_, q, h3, rfl⟩ := hob d1 o1 h1
    obtain ⟨l, hl, hobl⟩ := h.objs d1 q h3
    refine ⟨l, hl, ?_⟩
    cases l with
    | none =>
      have : q.es = [] := hobl
      show q.es.map _ = []
      rw [this]; rfl
    | some gc =>
      obtain ⟨b1, b2, b3, b4, arr, b5, b6, b7⟩ := hobl
      refine ⟨b1, by simpa using b2, b3, fun e he => ?_, arr, b5, b6, fun k e j c he hj => ?_⟩
      · simp only [List.mem_map] at he
        obtain ⟨e0, he0, rfl⟩ := he
        have hf := b4 e0 he0
        refine ⟨by rw [frz_cells, List.length_map]; exact hf.1, fun c hc => ?_⟩
        rw [frz_cells] at hc
        simp only [List.mem_map] at hc
        obtain ⟨c0, hc0, rfl⟩ := hc
        exact frzC_cell _ _ _ _ (hf.2 c0 hc0)
      · simp only [List.getElem?_map, Option.map_eq_some_iff] at he
        obtain ⟨e0, he0, rfl⟩ := he
        rw [frz_cells, List.getElem?_map, Option.map_eq_some_iff] at hj
        obtain ⟨c0, hc0, rfl⟩ := hj
        obtain ⟨x, hx, hex⟩ := b7 k e0 j c0 he0 hc0
        exact ⟨x, hx, h.frzC ho hp hsub hd hex⟩
  · obtain ⟨_, q1, h5, rfl⟩ := hob d1 o1 h1
    obtain ⟨_, q2, h6, rfl⟩ := hob d2 o2 h2
    exact h.inj _ _ _ _ _ _ _ h5 h6 h3 h4
  · have hv' : get (mapK (V.frz d o.v o.sz o.es) S.env) t = some v := by subst hS'; exact hv
    obtain ⟨u, h1, rfl⟩ := get_mapK _ _ _ _ hv'
    obtain ⟨h2, h3⟩ := h.env t u h1
    exact ⟨by subst hS'; exact h2, h.frz ho hp hsub hd h3⟩

theorem aw_freeze {c : Code} {S' : AS} (d : Nat) (L M : List Nat) (hS : S.freezeK d L M = some S') (h : AW P w0 N0 c Q S') : AW P w0 N0 c Q S := by
  unfold AS.freezeK at hS
  split at hS
  case h_2 => cases hS
  rename_i S1 h1
  injection hS with hS
  exact aw_le (le_freeze h1) (aw_keep L M hS h)
/-- A state in which the row d is read. -/
theorem le_frz {S1 S' : AS} (d : Nat) (L M : List Nat) (hS : S.freezeK d L M = some S1) (he : S1.env = S'.env) (ho : S1.objs = S'.objs) (hn : S'.nt = S1.nt) (hx : S1.nx ≤ S'.nx) : S.le S' := by
  unfold AS.freezeK at hS
  split at hS
  case h_2 => cases hS
  rename_i S2 h1
  injection hS with hS
  subst hS
  exact AS.le_trans (le_freeze h1) (AS.le_trans (le_keep _ L M) (le_nx he ho hn hx))
end
end Go.Eng
