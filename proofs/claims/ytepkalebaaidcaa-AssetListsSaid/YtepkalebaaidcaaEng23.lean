/- A row that is handed back may be read as a list. No condition. -/
import Derived.Test.YtepkalebaaidcaaEng22
set_option linter.unusedSimpArgs false
namespace Go.Eng
open Go.RowKit

/-- A value or the values of a tuple with the row read as a list. -/
def AS.viewT (S : AS) : V → Option V
  | .tup vs => match S.views vs with
    | some us => some (.tup us)
    | none => none
  | v => S.view v

theorem ACO.ac {P : Program} {f : FuncId} {args : List V} {sz : Nat} {ty : TypeId} {R : (Nat → Nat → V) → List V → Prop} {R' : V → Prop} (h : ACO P f args sz ty R)
    (hv : ∀ F es, R F es → ∃ u, AS.viewT ⟨[], [(0, ⟨0, sz, ty, es⟩)], 1, 0⟩ (F 0 0) = some u ∧ R' u) : AC P f args R' := by
  intro w N xs h1 h2 h3
  refine (h w N xs h1 h2 h3).mono ?_
  rintro e w' ⟨x, F, es, l, rfl, hR, hb, henc⟩
  obtain ⟨u, hu, hR'⟩ := hv F es hR
  refine ⟨x, u, rfl, hR', ?_, hb⟩
  generalize hS : (⟨[], [(0, ⟨0, sz, ty, es⟩)], 1, 0⟩ : AS) = S at hu
  let μ : Mu := fun d v => if d = 0 ∧ v = 0 then some l else none
  have hμ : μ 0 0 = some l := by simp [μ]
  have hr : RelM (fun _ => False) w N μ S ⟨#[], []⟩ w' := by
    subst hS
    refine ⟨rfl, rfl, hb, h1, fun d v hdv => ?_, fun d o hd => ?_, fun d o d' o' g c c' g1 g2 _ _ => ?_, fun t v ht => by simp [get] at ht⟩
    · left
      by_cases e : d = 0 ∧ v = 0
      · simp only; omega
      · simp [μ, e] at hdv
    · simp only [get_cons] at hd
      split at hd
      · rename_i e0
        subst e0
        injection hd with hd
        subst hd
        exact ⟨l, hμ, (henc 0 0 μ _ hμ).2⟩
      · simp [get] at hd
    · simp only [get_cons] at g1 g2
      split at g1
      · split at g2
        · omega
        · simp [get] at g2
      · simp [get] at g1
  have hx := (henc 0 0 μ (Own N μ S) hμ).1
  generalize F 0 0 = r at hx hu
  unfold AS.viewT at hu
  split at hu
  · rename_i vs
    split at hu
    case h_2 => cases hu
    rename_i us hus
    injection hu with hu
    subst hu
    obtain ⟨h4, h5⟩ := views_spec hus
    have key : ∀ ys : List Value, ys.length = vs.length → (∀ (i : Nat) y c, ys[i]? = some y → vs[i]? = some c → Enc w' (Own N μ S) μ y c) → Pur w' N (.tuple ys.toArray) (.tup us) := by
      intro ys hl hh
      refine .tup ys us (by rw [hl, h4]) (fun i y c hy hc => ?_)
      have hi : i < vs.length := by rw [← h4]; exact (List.getElem?_eq_some_iff.1 hc).1
      exact hr.view (hh i y vs[i] hy (List.getElem?_eq_getElem hi)) (h5 i vs[i] c (List.getElem?_eq_getElem hi) hc)
    cases hx with
    | pur hx => cases hx with
      | tup ys _ hl hh => exact key ys hl (fun i y c a b => .pur (hh i y c a b))
    | tup ys _ hl hh => exact key ys hl hh
  · exact hr.view hx hu

attribute [simp] AS.viewT
end Go.Eng
