/- A nil slice taken over as a row of the call's own, so that it can be appended to. No condition. -/
import Derived.Test.YtepkalebaaidcaaEng16
set_option linter.unusedSimpArgs false
namespace Go.Eng
open Go.RowKit

/-- The nil slice in slot t becomes row d. -/
def AS.adoptS (S : AS) (t d sz : Nat) (ty : TypeId) : AS := { S with env := (t, .sl d S.nx sz 0) :: S.env, objs := (d, ⟨S.nx, sz, ty, []⟩) :: S.objs, nx := S.nx + 1 }
/-- The nil slice in cell i of variable k becomes row d. -/
def AS.adoptC (S : AS) (k i d sz : Nat) (ty : TypeId) : Option AS :=
  match get S.objs k with
  | some o => match o.es with
    | [.agg cs] => match nth cs i with
      | some .nils => if k = d then none else some { S with objs := (k, { o with es := [.agg (cs.set i (.sl d S.nx sz 0))] }) :: (d, ⟨S.nx, sz, ty, []⟩) :: S.objs, nx := S.nx + 1 }
      | _ => none
    | _ => none
  | none => none

section
variable {P : Program} {w0 : World} {N0 : Nat → Prop} {Q : Exit → AS → Prop} {S : AS} {μ : Mu} {a : Act} {w : World}

theorem RelM.addRow (h : RelM (fun _ => False) w0 N0 μ S a w) (d sz : Nat) (ty : TypeId) :
    RelM (fun _ => False) w0 N0 (muSet μ d S.nx none) { S with objs := (d, ⟨S.nx, sz, ty, []⟩) :: S.objs, nx := S.nx + 1 } a w := by
  have hmono := h.muSet_mono (i := 0) (fun hf => hf) d none
  have hfr := h.muSet_fresh 0 d none
  simp only [Nat.add_zero] at hmono hfr
  obtain ⟨hr, _⟩ := h.update (D' := fun j => False ∨ j = 0) (d := d) (o' := ⟨S.nx, sz, ty, []⟩) (l' := none) (w' := w) (μ' := muSet μ d S.nx none) hmono hfr (muSet_same _ _ _ _) h.below (Keeps.refl _ _)
    (fun _ _ _ _ _ _ _ => rfl) (fun g c e => by cases e) (fun N' hN => rfl)
  refine ⟨hr.defers, hr.size, hr.below, hr.n0, fun d v hv => ?_, hr.objs, hr.inj, hr.env⟩
  rcases hr.fresh d v hv with h1 | ⟨j, hj, e⟩
  · exact .inl (by simp only at h1 ⊢; omega)
  · rcases hj with hj | hj
    · exact hj.elim
    · subst hj; exact .inl (by simp only at e ⊢; omega)

theorem le_adoptS {t d sz : Nat} {ty : TypeId} (ht : get S.env t = some .nils) : S.le (S.adoptS t d sz ty) := by
  rintro w0 N0 a w ⟨μ, h⟩
  have hr := h.addRow d sz ty
  refine ⟨_, ⟨hr.defers, hr.size, hr.below, hr.n0, hr.fresh, hr.objs, hr.inj, fun t' v hv => ?_⟩⟩
  simp only [AS.adoptS, get_cons] at hv
  split at hv
  · rename_i e
    subst e
    injection hv with hv
    subst hv
    obtain ⟨h1, h2⟩ := hr.env t .nils ht
    refine ⟨h1, ?_⟩
    generalize a.tmps.getD t undef = x at h2
    cases h2 with
    | pur h2 => cases h2 with
      | nils A => exact .slv d S.nx sz A (muSet_same _ _ _ _)
  · exact hr.env t' v hv

theorem le_adoptC {k i d sz : Nat} {ty : TypeId} {S' : AS} (hs : S.adoptC k i d sz ty = some S') : S.le S' := by
  unfold AS.adoptC at hs
  split at hs
  case h_2 => cases hs
  rename_i o ho
  split at hs
  case h_2 => cases hs
  rename_i cs hcs
  split at hs
  case h_2 => cases hs
  rename_i hc
  rw [nth_eq] at hc
  split at hs
  case isTrue => cases hs
  rename_i hkd
  injection hs with hs
  subst hs
  rintro w0 N0 a w ⟨μ, h⟩
  have hr := h.addRow d sz ty
  have hko : get ((d, (⟨S.nx, sz, ty, []⟩ : Ob)) :: S.objs) k = some o := by rw [get_cons, if_neg (fun e => hkd e.symm)]; exact ho
  obtain ⟨l, hl, hob⟩ := hr.objs k o hko
  -- the block of variable k is known
  cases l with
  | none =>
    have : o.es = [] := hob
    rw [hcs] at this
    cases this
  | some gc =>
    obtain ⟨g, cap⟩ := gc
    obtain ⟨o1, o2, o3, o4, arr, o5, o6, o7⟩ := hob
    have hsub : ∀ b, b < w.heap.size → Own N0 (muSet μ d S.nx none) { S with objs := (k, { o with es := [.agg (cs.set i (.sl d S.nx sz 0))] }) :: (d, ⟨S.nx, sz, ty, []⟩) :: S.objs, nx := S.nx + 1 } b → Own N0 (muSet μ d S.nx none) { S with objs := (d, ⟨S.nx, sz, ty, []⟩) :: S.objs, nx := S.nx + 1 } b := by
      rintro b _ (h0 | ⟨d1, q, c, h1, h2⟩)
      · exact .inl h0
      · simp only [get_cons k] at h1
        split at h1
        · rename_i e
          subst e
          injection h1 with h1
          subst h1
          exact .inr ⟨k, o, c, hko, h2⟩
        · exact .inr ⟨d1, q, c, h1, h2⟩
    have hk := Keeps.refl w (Own N0 (muSet μ d S.nx none) { S with objs := (d, ⟨S.nx, sz, ty, []⟩) :: S.objs, nx := S.nx + 1 })
    have hfo := o4 (.agg cs) (by rw [hcs]; simp)
    refine ⟨muSet μ d S.nx none, ⟨hr.defers, hr.size, hr.below, hr.n0, hr.fresh, fun d1 q hq => ?_, fun d1 q d2 q2 g1 c1 c2 h1 h2 h3 h4 => ?_, fun t v hv => ⟨(hr.env t v hv).1, (hr.env t v hv).2.keep hk hsub (fun _ _ _ hh => hh)⟩⟩⟩
    · simp only [get_cons k] at hq
      split at hq
      · rename_i e
        subst e
        injection hq with hq
        subst hq
        have hfit : (V.agg (cs.set i (.sl d S.nx sz 0))).fits o.sz := by
          refine ⟨by have := hfo.1; simpa [V.cells] using this, fun c hc' => ?_⟩
          rcases List.mem_or_eq_of_mem_set hc' with h1 | h1
          · exact hfo.2 c h1
          · subst h1; rfl
        refine ⟨some (g, cap), hl, o1, by rw [hcs] at o2; exact o2, o3, fun e he => by simp at he; subst he; exact hfit, arr, o5, o6, fun k' e j c hk' hj => ?_⟩
        rcases k' with _ | k'
        · simp at hk'
          subst hk'
          simp only [V.cells] at hj
          by_cases hij : i = j
          · subst hij
            have hlt : i < cs.length := (List.getElem?_eq_some_iff.1 hc).1
            rw [List.getElem?_set_self hlt] at hj
            injection hj with hj
            subst hj
            obtain ⟨x, hx, hex⟩ := o7 0 (.agg cs) i .nils (by rw [hcs]; rfl) hc
            refine ⟨x, hx, ?_⟩
            cases hex with
            | pur hex => cases hex with
              | nils A => exact .slv d S.nx sz A (muSet_same _ _ _ _)
          · rw [List.getElem?_set_ne hij] at hj
            obtain ⟨x, hx, hex⟩ := o7 0 (.agg cs) j c (by rw [hcs]; rfl) hj
            exact ⟨x, hx, hex.keep hk hsub (fun _ _ _ hh => hh)⟩
        · simp at hk'
      · obtain ⟨l1, hl1, hob1⟩ := hr.objs d1 q hq
        exact ⟨l1, hl1, hob1.keep hk hsub (fun _ _ _ hh => hh) (fun _ _ _ => rfl)⟩
    · have key : ∀ d1 q c1, get ((k, ({ o with es := [.agg (cs.set i (.sl d S.nx sz 0))] } : Ob)) :: (d, (⟨S.nx, sz, ty, []⟩ : Ob)) :: S.objs) d1 = some q → muSet μ d S.nx none d1 q.v = some (some (g1, c1)) →
          ∃ q', get ((d, (⟨S.nx, sz, ty, []⟩ : Ob)) :: S.objs) d1 = some q' ∧ muSet μ d S.nx none d1 q'.v = some (some (g1, c1)) := by
        intro d1 q c1 hq hm
        rw [get_cons k] at hq
        split at hq
        · rename_i e
          subst e
          injection hq with hq
          subst hq
          exact ⟨o, hko, hm⟩
        · exact ⟨q, hq, hm⟩
      obtain ⟨q1, a1, a2⟩ := key d1 q c1 h1 h3
      obtain ⟨q3, b1, b2⟩ := key d2 q2 c2 h2 h4
      exact hr.inj _ _ _ _ _ _ _ a1 b1 a2 b2

theorem aw_adoptS {c : Code} {S' : AS} (t d sz : Nat) (ty : TypeId) (L M : List Nat) (ht : get S.env t = some .nils) (hS : (S.adoptS t d sz ty).keep L M = S') (h : AW P w0 N0 c Q S') : AW P w0 N0 c Q S := by
  subst hS
  exact aw_le (AS.le_trans (le_adoptS ht) (le_keep _ L M)) h
def AS.adoptCK (S : AS) (k i d sz : Nat) (ty : TypeId) (L M : List Nat) : Option AS :=
  match S.adoptC k i d sz ty with
  | some S' => some (S'.keep L M)
  | none => none
theorem aw_adoptC {c : Code} {S' : AS} (k i d sz : Nat) (ty : TypeId) (L M : List Nat) (hS : S.adoptCK k i d sz ty L M = some S') (h : AW P w0 N0 c Q S') : AW P w0 N0 c Q S := by
  unfold AS.adoptCK at hS
  split at hS
  case h_2 => cases hS
  rename_i S1 h1
  injection hS with hS
  subst hS
  exact aw_le (AS.le_trans (le_adoptC h1) (le_keep _ L M)) h
end
attribute [simp] AS.adoptS AS.adoptC AS.adoptCK
end Go.Eng
