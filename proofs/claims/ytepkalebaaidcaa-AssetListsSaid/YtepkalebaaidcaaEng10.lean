/- Contracts of Go functions over pure values, and the rules by which a function's body is proved to meet one. No condition. -/
import Derived.Test.YtepkalebaaidcaaEng9
import Derived.Orders
namespace Go.Eng
open Go.RowKit

/-- A cell that holds no reference to an object of the call's own. -/
def V.pureC : V → Bool
  | .sl .. | .ss .. | .bp .. | .whn .. | .agg _ | .tup _ | .mp .. => false
  | _ => true
/-- A value (a cell or a struct) that holds none. -/
def V.pureE (v : V) : Bool := v.cells.all V.pureC

theorem pureC_cell {v : V} (h : v.pureC = true) : v.isCell = true := by cases v <;> first | rfl | simp [V.pureC] at h

section
variable {D : Nat → Prop} {w0 w : World} {N0 : Nat → Prop} {μ : Mu} {S : AS} {a : Act} {P : Program}

theorem Enc.pureC {N : Nat → Prop} {x : Value} {v : V} (h : Enc w N μ x v) (hp : v.pureC = true) : Pur w N x v := by
  cases h with
  | pur h => exact h
  | _ => simp [V.pureC] at hp

theorem Enc.pureE {N : Nat → Prop} {x : Value} {v : V} (h : Enc w N μ x v) (hp : v.pureE = true) : Pur w N x v := by
  cases h with
  | pur h => exact h
  | agg xs cs hl hc hh => exact .agg xs cs hl hc (fun i x c h1 h2 => (hh i x c h1 h2).pureC (List.all_eq_true.1 hp c (List.mem_of_getElem? h2)))
  | _ => simp [V.pureE, V.cells, V.pureC] at hp

/-- A cell with slices of the call's own read as lists. -/
def AS.viewC (S : AS) (v : V) : Option V :=
  match v with
  | .sl .. | .ss .. => match S.elems v with
    | some (sz, es) => if es.all V.pureE = true then some (.ro sz es) else none
    | none => none
  | _ => if v.pureC = true then some v else none

def AS.viewL (S : AS) : List V → Option (List V)
  | [] => some []
  | v :: r => match S.viewC v, S.viewL r with
    | some u, some us => some (u :: us)
    | _, _ => none

/-- A value with slices of the call's own read as lists. -/
def AS.view (S : AS) (v : V) : Option V :=
  match v with
  | .agg cs => match S.viewL cs with
    | some us => some (.agg us)
    | none => none
  | .tup _ => none
  | v => S.viewC v

/-- The blocks that are known to stay away from what is viewed: those of N0. -/
theorem RelM.viewC (h : RelM D w0 N0 μ S a w) {x : Value} {v u : V} (hx : Enc w (Own N0 μ S) μ x v) (hv : S.viewC v = some u) : Pur w N0 x u ∧ u.isCell = true := by
  have hsub : ∀ b, b < w.heap.size → N0 b → Own N0 μ S b := fun b _ hb => .inl hb
  have key : ∀ (v u : V), Enc w (Own N0 μ S) μ x v → (match S.elems v with | some (sz, es) => if es.all V.pureE = true then some (V.ro sz es) else none | none => none) = some u → (∀ d v' sz len, v = .sl d v' sz len → True) → (∃ d v' sz off len, v = .ss d v' sz off len ∨ v = .sl d v' sz len) → Pur w N0 x u ∧ u.isCell = true := by
    intro v u hx hv _ hform
    split at hv
    case h_2 => cases hv
    rename_i sz es hes
    split at hv
    case isFalse => cases hv
    rename_i hp
    injection hv with hv
    subst hv
    refine ⟨?_, rfl⟩
    obtain ⟨A, c, rfl, hlc, hrest⟩ := h.elems hx hes
    by_cases hne : es = []
    · subst hne
      have hc : c ≤ maxLen := by
        obtain ⟨d, v', sz', off, len, rfl | rfl⟩ := hform
        · cases hx with
          | pur hx => cases hx
          | ss _ _ _ _ _ g c' cap A' h1 h2 h3 => exact h2
        · cases hx with
          | pur hx => cases hx
          | slr _ _ _ _ g cap h1 h2 h3 => exact h3
          | slv => simp [maxLen]
      exact .ro A ⟨0, 0, none⟩ 0 c sz [] (fun _ _ => undef) rfl hlc hc (fun h0 => absurd h0 (by simp)) (by simp) (by simp) (by simp)
    · obtain ⟨hf, ad, vs, rfl, hvl, hvc, hrow⟩ := hrest hne
      -- the row lies in a block of the call's own
      have hblk : ad.block < w.heap.size ∧ ¬ N0 ad.block ∧ c ≤ maxLen := by
        have hpos := List.length_pos_iff.2 hne
        obtain ⟨d, v', sz', off, len, rfl | rfl⟩ := hform
        · simp only [AS.elems] at hes
          split at hes
          case h_2 => cases hes
          rename_i o ho
          split at hes
          case isFalse => cases hes
          rename_i hb
          obtain ⟨rfl, rfl, hb3⟩ := hb
          simp only [Option.some.injEq, Prod.mk.injEq] at hes
          obtain ⟨rfl, rfl⟩ := hes
          have hl' : ((o.es.drop off).take len).length = len := by simp; omega
          rw [hl'] at hpos hx
          cases hx with
          | pur hx => cases hx
          | ss _ _ _ _ _ g c' cap A' h1 h2 h3 =>
            obtain ⟨hm, hA⟩ := h3 hpos
            injection hA with hA
            subst hA
            refine ⟨h.block_lt ho hm, fun hn => ?_, h2⟩
            have := h.n0 _ hn
            obtain ⟨l, hl, hob⟩ := h.objs d o ho
            rw [hm] at hl
            injection hl with hl
            subst hl
            have := hob.1
            simp only at *
            omega
        · simp only [AS.elems] at hes
          split at hes
          case h_2 => cases hes
          rename_i o ho
          split at hes
          case isFalse => cases hes
          rename_i hb
          obtain ⟨rfl, rfl, hb3⟩ := hb
          simp only [Option.some.injEq, Prod.mk.injEq] at hes
          obtain ⟨rfl, rfl⟩ := hes
          rw [hb3] at hpos hx
          cases hx with
          | pur hx => cases hx
          | slr _ _ _ _ g cap hm h2 h3 =>
            refine ⟨h.block_lt ho hm, fun hn => ?_, h3⟩
            have := h.n0 _ hn
            obtain ⟨l, hl, hob⟩ := h.objs d o ho
            rw [hm] at hl
            injection hl with hl
            subst hl
            have := hob.1
            simp only at *
            omega
          | slv => exact absurd hpos (by simp)
      have hat : ∀ (k : Nat) e (j : Nat) c, es[k]? = some e → e.cells[j]? = some c → ∃ y, vs[k * sz + j]? = some y ∧ Enc w (Own N0 μ S) μ y c := by
        intro k e j c hk hj
        have hfl := flat_get hf hk hj
        have hlt : k * sz + j < vs.length := by rw [hrow.1]; exact (List.getElem?_eq_some_iff.1 hfl).1
        exact ⟨_, List.getElem?_eq_getElem hlt, hrow.2 _ _ c (List.getElem?_eq_getElem hlt) hfl⟩
      refine .ro _ ad es.length c sz es (fun k j => (vs[k * sz + j]?).getD undef) rfl hlc hblk.2.2 (fun _ => ⟨rfl, hblk.1, hblk.2.1⟩) hf (fun k e j c hk hj => ?_) (fun k e j c hk hj => ?_)
      · obtain ⟨y, hy, _⟩ := hat k e j c hk hj
        simp only [hy, Option.getD_some]
        exact hvc _ _ hy
      · obtain ⟨y, hy, hey⟩ := hat k e j c hk hj
        simp only [hy, Option.getD_some]
        have hpc : c.pureC = true := List.all_eq_true.1 (List.all_eq_true.1 hp e (List.mem_of_getElem? hk)) c (List.mem_of_getElem? hj)
        exact (hey.pureC hpc).keep (Keeps.refl _ _) hsub
  unfold AS.viewC at hv
  split at hv
  · exact key _ u hx hv (fun _ _ _ _ _ => trivial) ⟨_, _, _, 0, _, .inr rfl⟩
  · exact key _ u hx hv (fun _ _ _ _ _ => trivial) ⟨_, _, _, _, _, .inl rfl⟩
  · split at hv
    case isFalse => cases hv
    rename_i hp
    injection hv with hv
    subst hv
    exact ⟨(hx.pureC hp).keep (Keeps.refl _ _) hsub, pureC_cell hp⟩

theorem viewL_spec : ∀ {cs us : List V}, S.viewL cs = some us → us.length = cs.length ∧ ∀ (i : Nat) c u, cs[i]? = some c → us[i]? = some u → S.viewC c = some u
  | [], us, h => by simp only [AS.viewL, Option.some.injEq] at h; subst h; simp
  | c :: cs, us, h => by
    simp only [AS.viewL] at h
    split at h
    case h_2 => cases h
    rename_i u us' h1 h2
    injection h with h
    subst h
    obtain ⟨h3, h4⟩ := viewL_spec h2
    refine ⟨by simp [h3], fun i c' u' hc hu => ?_⟩
    rcases i with _ | i
    · simp at hc hu; subst hc; subst hu; exact h1
    · simp at hc hu; exact h4 i c' u' hc hu

theorem RelM.view (h : RelM D w0 N0 μ S a w) {x : Value} {v u : V} (hx : Enc w (Own N0 μ S) μ x v) (hv : S.view v = some u) : Pur w N0 x u := by
  have hsub : ∀ b, b < w.heap.size → N0 b → Own N0 μ S b := fun b _ hb => .inl hb
  unfold AS.view at hv
  split at hv
  · rename_i cs
    split at hv
    case h_2 => cases hv
    rename_i us hus
    injection hv with hv
    subst hv
    obtain ⟨h1, h2⟩ := viewL_spec hus
    have key : ∀ xs : List Value, xs.length = cs.length → (∀ (i : Nat) x c, xs[i]? = some x → cs[i]? = some c → Enc w (Own N0 μ S) μ x c) → Pur w N0 (.agg xs.toArray) (.agg us) := by
      intro xs hl hh
      refine .agg xs us (by omega) (fun c hc => ?_) (fun i x c hx hc => ?_)
      · obtain ⟨i, hi⟩ := List.getElem?_of_mem hc
        have hlt : i < us.length := (List.getElem?_eq_some_iff.1 hi).1
        exact (h.viewC (hh i xs[i] cs[i] (List.getElem?_eq_getElem (by omega)) (List.getElem?_eq_getElem (by omega))) (h2 i cs[i] c (List.getElem?_eq_getElem (by omega)) hi)).2
      · have hlt : i < us.length := (List.getElem?_eq_some_iff.1 hc).1
        exact (h.viewC (hh i x cs[i] hx (List.getElem?_eq_getElem (by omega))) (h2 i cs[i] c (List.getElem?_eq_getElem (by omega)) hc)).1
    cases hx with
    | pur hx =>
      cases hx with
      | agg xs _ hl hc hh => exact key xs hl (fun i x c h1 h2 => .pur (hh i x c h1 h2))
    | agg xs _ hl hc hh => exact key xs hl hh
  · cases hv
  · exact (h.viewC hx hv).1

end
end Go.Eng
