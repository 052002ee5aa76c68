/- Maps of the call's own: make and write. No condition. -/
import Derived.Test.YtepkalebaaidcaaEng30
set_option linter.unusedSimpArgs false
namespace Go.Eng
open Go.RowKit
attribute [simp] assoc lookV V.mset okMs V.okM V.okM1 V.flat0 mapK

section
variable {P : Program} {w0 : World} {N0 : Nat → Prop} {Q : Exit → AS → Prop} {S : AS}

/-- make(map[K]V). -/
theorem awl_makeMap {ops : List Oper} {i : Nat} {o : Oper} {rest : List Oper} {t : TypeId} (k : IntKind) (hg : o.guard = none) (ho : o.op = .makeMap t none)
    (h : ∀ b, w0.heap.size ≤ b → (∀ t' b' k' m', get S.env t' = some (.mp b' k' m') → b' ≠ b) → ∃ S', S.putv o.dst (.mp b k []) = some S' ∧ AWL P w0 N0 ops Q (i + 1) rest S') : AWL P w0 N0 ops Q i (o :: rest) S := by
  rintro D a w hD ⟨μ, hr⟩
  refine wpList_plain hg fun K hK => ?_
  obtain ⟨S', hs, hrest⟩ := h w.heap.size hr.below.size (fun t' b' k' m' hm => by
    have := (hr.env t' _ hm).2
    generalize a.tmps.getD t' undef = y at this
    cases this with
    | pur hp => cases hp with
      | mp _ _ _ es cl g hN hb => have := (Array.getElem?_eq_some_iff.1 hb).1; omega)
  have hb : Below w.heap.size w (w.alloc (.map #[] 0)) := (Below.refl _ _).alloc (Nat.le_refl _) _
  unfold Oper.wp
  have hrun : (execOp a.eval o).run P w = .ok (.value (.map (some w.heap.size))) (w.alloc (.map #[] 0)) := by
    unfold execOp
    rw [ho]
    rfl
  rw [hrun]
  refine hK _ _ (hrest D _ _ (fun j hj => Nat.lt_succ_of_lt (hD j hj)) ⟨μ, (hr.later hb).putv hs (.pur ?_)⟩)
  exact .mp _ k [] #[] 0 (fun _ => undef) (fun hn => by have := hr.own_lt _ hn; omega) (heap_alloc_new w _) (by simp) (by simp [assoc]) (by simp [findA]) (by simp [assoc])

theorem okMs_get : ∀ {l : List (Nat × V)}, okMs l = true → ∀ t v, get l t = some v → v.okM = true := fun h t v => okMs_iff h t v

/-- The step of m[k] = v. -/
theorem mapStep {ops : List Oper} {i : Nat} {o : Oper} {S' : AS} {t e : TypeId} {m x v : Operand} {b : Nat} {k : IntKind} {es : List (Int × V)} {a : Int} {u : V} (hb : w0.heap.size ≤ b) (hg : o.guard = none) (hd : o.dst = none) (ho : o.op = .mapUpdate t m x v)
    (hm : S.evc true m = some (.mp b k es)) (hx : S.evc true x = some (.int k a)) (hv : S.evc true v = some u) (hf : u.flat0 = true) (ht : tmap P t = some (k, e)) (hok : okMs S.env = true) (hS : ({ S with env := mapK (V.mset b k ((a, u) :: es)) S.env } : AS) = S') : Step P w0 ops i o S S' :=
  .inr (.inr ⟨t, m, x, v, b, k, es, a, u, e, hg, hd, ho, hm, hx, hv, hf, ht, hb, okMs_get hok, hS.symm⟩)
theorem awl_mapUpdate {ops : List Oper} {i : Nat} {o : Oper} {rest : List Oper} {S' : AS} {t e : TypeId} {m x v : Operand} {b : Nat} {k : IntKind} {es : List (Int × V)} {a : Int} {u : V} (hb : w0.heap.size ≤ b) (hg : o.guard = none) (hd : o.dst = none) (ho : o.op = .mapUpdate t m x v)
    (hm : S.evc true m = some (.mp b k es)) (hx : S.evc true x = some (.int k a)) (hv : S.evc true v = some u) (hf : u.flat0 = true) (ht : tmap P t = some (k, e)) (hok : okMs S.env = true) (hS : ({ S with env := mapK (V.mset b k ((a, u) :: es)) S.env } : AS) = S')
    (h : AWL P w0 N0 ops Q (i + 1) rest S') : AWL P w0 N0 ops Q i (o :: rest) S := awl_st (mapStep hb hg hd ho hm hx hv hf ht hok hS) h
theorem awo_mapUpdate {ops : List Oper} {i : Nat} {ks : List Nat} {l : List (Nat × List Nat)} {o : Oper} {S' : AS} {t e : TypeId} {m x v : Operand} {b : Nat} {k : IntKind} {es : List (Int × V)} {a : Int} {u : V} (hb : w0.heap.size ≤ b) (hi : ops[i]? = some o) (hks : (ks.all fun d => (get S.objs d).isNone) = true) (hg : o.guard = none) (hd : o.dst = none) (ho : o.op = .mapUpdate t m x v)
    (hm : S.evc true m = some (.mp b k es)) (hx : S.evc true x = some (.int k a)) (hv : S.evc true v = some u) (hf : u.flat0 = true) (ht : tmap P t = some (k, e)) (hok : okMs S.env = true) (hS : ({ S with env := mapK (V.mset b k ((a, u) :: es)) S.env } : AS) = S')
    (h : AWO P w0 ops Q l S') : AWO P w0 ops Q ((i, ks) :: l) S := ⟨o, S', hi, hks, mapStep hb hg hd ho hm hx hv hf ht hok hS, h⟩
end
end Go.Eng
