/- Values that say less: a nil slice reads as an empty list. No condition. -/
import Derived.Test.YtepkalebaaidcaaEng25
set_option linter.unusedSimpArgs false
namespace Go.Eng
open Go.RowKit

/-- Whatever reads as v reads as v'. -/
def Relax (v v' : V) : Prop := (∀ (w : World) (N : Nat → Prop) (x : Value), Pur w N x v → Pur w N x v') ∧ (v.isCell = true → v'.isCell = true)
inductive RelaxL : List V → List V → Prop
  | nil : RelaxL [] []
  | cons {v v' : V} {l l' : List V} (h : Relax v v') (t : RelaxL l l') : RelaxL (v :: l) (v' :: l')

theorem Relax.refl (v : V) : Relax v v := ⟨fun _ _ _ h => h, id⟩
theorem Relax.trans {u v w : V} (h : Relax u v) (k : Relax v w) : Relax u w := ⟨fun a b c d => k.1 a b c (h.1 a b c d), fun c => k.2 (h.2 c)⟩
theorem Pur.nils_ro {w : World} {N : Nat → Prop} {x : Value} (sz : Nat) (h : Pur w N x .nils) : Pur w N x (.ro sz []) := by
  cases h with
  | nils A => exact .ro A ⟨0, 0, none⟩ 0 0 sz [] (fun _ _ => undef) rfl (Nat.le_refl _) (Nat.zero_le _) (fun h0 => by omega) (by simp) (by simp) (by simp)
theorem Relax.nils (sz : Nat) : Relax .nils (.ro sz []) := ⟨fun _ _ _ h => h.nils_ro sz, fun _ => rfl⟩
theorem RelaxL.length {l l' : List V} (h : RelaxL l l') : l.length = l'.length := by induction h <;> simp_all
theorem RelaxL.get {l l' : List V} (h : RelaxL l l') : ∀ (i : Nat) v', l'[i]? = some v' → ∃ v, l[i]? = some v ∧ Relax v v' := by
  induction h with
  | nil => intro i v' h; simp at h
  | cons h _ ih =>
    intro i v' hv
    rcases i with _ | i
    · simp at hv; subst hv; exact ⟨_, rfl, h⟩
    · simp at hv; obtain ⟨v, h1, h2⟩ := ih i v' hv; exact ⟨v, by simpa using h1, h2⟩
theorem RelaxL.refl : ∀ l : List V, RelaxL l l
  | [] => .nil
  | v :: l => .cons (Relax.refl v) (RelaxL.refl l)
theorem Relax.agg {cs ds : List V} (h : RelaxL cs ds) : Relax (.agg cs) (.agg ds) := by
  refine ⟨fun w N x hx => ?_, fun h => by simp [V.isCell] at h⟩
  cases hx with
  | agg xs _ hl hc hh =>
    refine .agg xs ds (by rw [hl, h.length]) (fun c hc' => ?_) (fun i x c hx' hc' => ?_)
    · obtain ⟨i, hi⟩ := List.getElem?_of_mem hc'
      obtain ⟨v, h1, h2⟩ := h.get i c hi
      exact h2.2 (hc v (List.mem_of_getElem? h1))
    · obtain ⟨v, h1, h2⟩ := h.get i c hc'
      exact h2.1 _ _ _ (hh i x v hx' h1)
theorem Relax.tup {cs ds : List V} (h : RelaxL cs ds) : Relax (.tup cs) (.tup ds) := by
  refine ⟨fun w N x hx => ?_, fun h => by simp [V.isCell] at h⟩
  cases hx with
  | tup xs _ hl hh =>
    refine .tup xs ds (by rw [hl, h.length]) (fun i x c hx' hc' => ?_)
    obtain ⟨v, h1, h2⟩ := h.get i c hc'
    exact h2.1 _ _ _ (hh i x v hx' h1)
/-- The elements of a list that is read. -/
theorem Relax.ro {sz : Nat} {es fs : List V} (h : RelaxL es fs) (hf : ∀ (k : Nat) e f, es[k]? = some e → fs[k]? = some f → e.cells.length = f.cells.length ∧ (∀ (j : Nat) c d, e.cells[j]? = some c → f.cells[j]? = some d → Relax c d)) : Relax (.ro sz es) (.ro sz fs) := by
  refine ⟨fun w N x hx => ?_, fun _ => rfl⟩
  cases hx with
  | ro A ad n cap _ _ g hn hcap hmax hA hfit hc hh =>
    have hl := h.length
    have at_ : ∀ (k : Nat) f, fs[k]? = some f → ∃ e, es[k]? = some e ∧ e.cells.length = f.cells.length ∧ (∀ (j : Nat) c d, e.cells[j]? = some c → f.cells[j]? = some d → Relax c d) := by
      intro k f hk
      obtain ⟨e, h1, _⟩ := h.get k f hk
      exact ⟨e, h1, hf k e f h1 hk⟩
    refine .ro A ad n cap sz fs g (by rw [← hl]; exact hn) hcap hmax hA (fun f hf' => ?_) (fun k f j d hk hj => ?_) (fun k f j d hk hj => ?_)
    · obtain ⟨k, hk⟩ := List.getElem?_of_mem hf'
      obtain ⟨e, h1, h2, h3⟩ := at_ k f hk
      have hfe := hfit e (List.mem_of_getElem? h1)
      refine ⟨by rw [← h2]; exact hfe.1, fun d hd => ?_⟩
      obtain ⟨j, hj⟩ := List.getElem?_of_mem hd
      have hlt : j < e.cells.length := by rw [h2]; exact (List.getElem?_eq_some_iff.1 hj).1
      exact (h3 j _ d (List.getElem?_eq_getElem hlt) hj).2 (hfe.2 _ (List.getElem_mem hlt))
    · obtain ⟨e, h1, h2, h3⟩ := at_ k f hk
      have hlt : j < e.cells.length := by rw [h2]; exact (List.getElem?_eq_some_iff.1 hj).1
      exact hc k e j _ h1 (List.getElem?_eq_getElem hlt)
    · obtain ⟨e, h1, h2, h3⟩ := at_ k f hk
      have hlt : j < e.cells.length := by rw [h2]; exact (List.getElem?_eq_some_iff.1 hj).1
      exact (h3 j _ d (List.getElem?_eq_getElem hlt) hj).1 _ _ _ (hh k e j _ h1 (List.getElem?_eq_getElem hlt))

theorem AC.relax {P : Program} {f : FuncId} {args : List V} {v v' : V} (h : AC P f args (fun r => r = v)) (hr : Relax v v') : AC P f args (fun r => r = v') :=
  fun w N xs h1 h2 h3 => (h w N xs h1 h2 h3).mono fun _ _ ⟨x, _, he, hR, hp, hb⟩ => ⟨x, v', he, rfl, hr.1 _ _ _ (hR ▸ hp), hb⟩
theorem AC.argsR {P : Program} {f : FuncId} {args args' : List V} {R : V → Prop} (h : AC P f args' R) (hr : RelaxL args args') : AC P f args R :=
  fun w N xs h1 h2 h3 => h w N xs h1 (by rw [h2, hr.length]) (fun i x v hx hv => by
    obtain ⟨u, h4, h5⟩ := hr.get i v hv
    exact h5.1 _ _ _ (h3 i x u hx h4))

theorem Enc.relax {w : World} {N : Nat → Prop} {μ : Mu} {x : Value} {v v' : V} (h : Enc w N μ x v) (hp : v.pureV = true) (hr : Relax v v') : Enc w N μ x v' := .pur (hr.1 _ _ _ (h.pureV hp))
theorem le_relax {S : AS} {t : Nat} {v v' : V} (ht : get S.env t = some v) (hp : v.pureV = true) (hr : Relax v v') : S.le { S with env := (t, v') :: S.env } := by
  rintro w0 N0 a w ⟨μ, h⟩
  refine ⟨μ, h.defers, h.size, h.below, h.n0, h.fresh, h.objs, h.inj, fun u x hu => ?_⟩
  rw [get_cons] at hu
  by_cases e : t = u
  · subst e
    simp only [if_true, Option.some.injEq] at hu
    subst hu
    exact ⟨(h.env t v ht).1, (h.env t v ht).2.relax hp hr⟩
  · simp only [e, if_false] at hu
    exact h.env u x hu
/-- A slot that is read as less. -/
theorem aw_relax {P : Program} {w0 : World} {N0 : Nat → Prop} {Q : Exit → AS → Prop} {S S' : AS} {c : Code} (t : Nat) {v : V} (v' : V) (L M : List Nat) (ht : get S.env t = some v) (hp : v.pureV = true) (hr : Relax v v') (hS : AS.keep { S with env := (t, v') :: S.env } L M = S') (h : AW P w0 N0 c Q S') : AW P w0 N0 c Q S :=
  aw_le (le_relax ht hp hr) (aw_keep L M hS h)
end Go.Eng
