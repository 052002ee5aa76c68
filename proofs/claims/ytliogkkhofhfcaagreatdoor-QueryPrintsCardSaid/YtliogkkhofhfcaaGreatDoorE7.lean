import Derived.Test.YtliogkkhofhfcaaGreatDoorE6
import Derived.SizedLaws
import Derived.ChangeArms
/- Maps of the call's own: make and write. No condition. -/
set_option linter.unusedSimpArgs false
namespace Go.Eng
open Go.RowKit
attribute [simp] assoc lookV V.mset okMs V.okM V.okM1 V.flat0 mapK

section
variable {P : Program} {w0 : Bs} {N0 : Nat → Prop} {Q : Exit → AS → Prop} {S : AS}

/-- make(map[K]V). -/
theorem awl_makeMap {ops : List Oper} {i : Nat} {o : Oper} {rest : List Oper} {t : TypeId} (k : IntKind) (hg : o.guard = none) (ho : o.op = .makeMap t none)
    (h : ∀ b, w0.free b → (∀ t' b' k' m', get S.env t' = some (.mp b' k' m') → b' ≠ b) → ∃ S', S.putv o.dst (.mp b k []) = some S' ∧ AWL P w0 N0 ops Q (i + 1) rest S') : AWL P w0 N0 ops Q i (o :: rest) S := by
  rintro D a w hD ⟨μ, hr⟩
  refine wpList_plain hg fun K hK => ?_
  obtain ⟨S', hs, hrest⟩ := h w.heap.size (.inl hr.below.size) (fun t' b' k' m' hm => by
    have := (hr.env t' _ hm).2
    generalize a.tmps.getD t' undef = y at this
    cases this with
    | pur hp => cases hp with
      | mp _ _ _ es cl g hN hb => have := (Array.getElem?_eq_some_iff.1 hb).1; omega)
  have hb : Below w.heap.size w (w.alloc (.map #[] 0)) := (Below.refl _ _).alloc (Nat.le_refl _) _
  unfold Oper.wp
  have hrun : (execOp a.eval o).run P w = .ok (.value (.map (some w.heap.size))) (w.alloc (.map #[] 0)) := by
    unfold execOp
    rw [ho]
    rfl
  rw [hrun]
  refine hK _ _ (hrest D _ _ (fun j hj => Nat.lt_succ_of_lt (hD j hj)) ⟨μ, (hr.later hb).putv hs (.pur ?_)⟩)
  exact .mp _ k [] #[] 0 (fun _ => undef) (fun hn => by have := hr.own_lt _ hn; omega) (heap_alloc_new w _) (by simp) (by simp [assoc]) (by simp [findA]) (by simp [assoc])

theorem okMs_get : ∀ {l : List (Nat × V)}, okMs l = true → ∀ t v, get l t = some v → v.okM = true := fun h t v => okMs_iff h t v

/-- The step of m[k] = v. -/
theorem mapStep {ops : List Oper} {i : Nat} {o : Oper} {S' : AS} {t e : TypeId} {m x v : Operand} {b : Nat} {k : IntKind} {es : List (Int × V)} {a : Int} {u : V} (hb : w0.free b) (hg : o.guard = none) (hd : o.dst = none) (ho : o.op = .mapUpdate t m x v)
    (hm : S.evc true m = some (.mp b k es)) (hx : S.evc true x = some (.int k a)) (hv : S.evc true v = some u) (hf : u.flat0 = true) (ht : tmap P t = some (k, e)) (hok : okMs S.env = true) (hS : ({ S with env := mapK (V.mset b k ((a, u) :: es)) S.env } : AS) = S') : Step P 0 w0 ops i o S S' :=
  .inr (.inr ⟨t, m, x, v, b, k, es, a, u, e, hg, hd, ho, hm, hx, hv, hf, ht, hb, okMs_get hok, hS.symm⟩)
theorem awl_mapUpdate {ops : List Oper} {i : Nat} {o : Oper} {rest : List Oper} {S' : AS} {t e : TypeId} {m x v : Operand} {b : Nat} {k : IntKind} {es : List (Int × V)} {a : Int} {u : V} (hb : w0.free b) (hg : o.guard = none) (hd : o.dst = none) (ho : o.op = .mapUpdate t m x v)
    (hm : S.evc true m = some (.mp b k es)) (hx : S.evc true x = some (.int k a)) (hv : S.evc true v = some u) (hf : u.flat0 = true) (ht : tmap P t = some (k, e)) (hok : okMs S.env = true) (hS : ({ S with env := mapK (V.mset b k ((a, u) :: es)) S.env } : AS) = S')
    (h : AWL P w0 N0 ops Q (i + 1) rest S') : AWL P w0 N0 ops Q i (o :: rest) S := awl_st (mapStep hb hg hd ho hm hx hv hf ht hok hS) h
theorem awo_mapUpdate {ops : List Oper} {i : Nat} {ks : List Nat} {l : List (Nat × List Nat)} {o : Oper} {S' : AS} {t e : TypeId} {m x v : Operand} {b : Nat} {k : IntKind} {es : List (Int × V)} {a : Int} {u : V} (hb : w0.free b) (hi : ops[i]? = some o) (hks : (ks.all fun d => (get S.objs (0 + d)).isNone) = true) (hg : o.guard = none) (hd : o.dst = none) (ho : o.op = .mapUpdate t m x v)
    (hm : S.evc true m = some (.mp b k es)) (hx : S.evc true x = some (.int k a)) (hv : S.evc true v = some u) (hf : u.flat0 = true) (ht : tmap P t = some (k, e)) (hok : okMs S.env = true) (hS : ({ S with env := mapK (V.mset b k ((a, u) :: es)) S.env } : AS) = S')
    (h : AWO P 0 w0 ops Q l S') : AWO P 0 w0 ops Q ((i, ks) :: l) S := ⟨o, S', hi, hks, mapStep hb hg hd ho hm hx hv hf ht hok hS, h⟩
end
end Go.Eng

/- Regions whose order is left open, with guarded operations that make memory, calls on the call's own rows, and ways that part. No condition. -/
set_option linter.unusedSimpArgs false
namespace Go.Eng
open Go.RowKit

/-- A guarded operation that makes or writes memory and is run. -/
def GActStep (P : Program) (kb : Nat) (ops : List Oper) (i : Nat) (o : Oper) (S S' : AS) : Prop :=
  ∃ j want O v, o.guard = some (j, want) ∧ S.gd ops j want = some true ∧ acore P i S o.dst (kb + o.dst.getD 0) o.op = some (O, v) ∧ ({ S with objs := O } : AS).putv o.dst (.whn true v) = some S'
/-- A step that the model takes, whatever it is. -/
def GenStep (P : Program) (w0 : Bs) (ops : List Oper) (i : Nat) (o : Oper) (S S' : AS) : Prop :=
  ∀ (N0 : Nat → Prop) (D : Nat → Prop) (a : Act) (w : World), RelD D w0 N0 S a w → ¬ D i → (∀ j, D j → j < ops.length) → ∀ (K : Act → World → Prop) (Q' : Exit → Act → World → Prop), (∀ a' w', RelD (fun j => D j ∨ j = i) w0 N0 S' a' w' → K a' w') →
    if Region.wanted o (yielded ops.toArray a.tmps) = true then o.wp P a w K Q' else K (a.put o.dst undef) w
/-- A step that the model takes in every state that looks alike. -/
def OpqStep (P : Program) (w0 : Bs) (ops : List Oper) (i : Nat) (o : Oper) (S S' : AS) : Prop :=
  ∃ u O, S' = S.ap o.dst u O ∧ ∀ T, Alike ops o S T → (∀ d, get S.objs d = get T.objs d) → GenStep P w0 ops i o T (T.ap o.dst u O)
/-- An operation that ends the region by a panic, in every state that looks alike. -/
def PanStep (P : Program) (w0 : Bs) (ops : List Oper) (i : Nat) (o : Oper) (Q : Exit → AS → Prop) (S : AS) : Prop :=
  ∀ T, Alike ops o S T → (∀ d, get S.objs d = get T.objs d) → ∀ (N0 : Nat → Prop) (D : Nat → Prop) (a : Act) (w : World), RelD D w0 N0 T a w → ¬ D i → (∀ j, D j → j < ops.length) →
    Region.wanted o (yielded ops.toArray a.tmps) = true ∧ ∀ (K : Act → World → Prop), o.wp P a w K (post w0 N0 Q)
def StepX (P : Program) (kb : Nat) (w0 : Bs) (X : List Nat) (ops : List Oper) (i : Nat) (o : Oper) (S S' : AS) : Prop := Step P kb w0 ops i o S S' ∨ GActStep P kb ops i o S S' ∨ (i ∈ X ∧ OpqStep P w0 ops i o S S')
/-- What writes memory. -/
def actX (X : List Nat) (j : Nat) (o : Oper) : Bool := acts o.op || X.contains j
def makX (X : List Nat) (j : Nat) (o : Oper) : Bool := makes o.op && !X.contains j

section
variable {P : Program} {kb : Nat} {w0 : Bs} {N0 : Nat → Prop} {Q : Exit → AS → Prop}

theorem RelM.whn {D : Nat → Prop} {μ : Mu} {S S1 S' : AS} {a : Act} {w : World} {dst : Option Nat} {v : V} (h1 : S.putv dst v = some S1) (h2 : S.putv dst (.whn true v) = some S') (h : RelM D w0 N0 μ S1 a w) : RelM D w0 N0 μ S' a w := by
  obtain ⟨rfl, _⟩ := putv_ap h1
  obtain ⟨rfl, _⟩ := putv_ap h2
  refine ⟨h.defers, h.size, h.below, h.n0, h.fresh, h.objs, h.inj, fun t u hu => ?_⟩
  cases dst with
  | none => exact h.env t u hu
  | some d =>
    simp only [AS.ap, get_cons] at hu
    by_cases hd : d = t
    · rw [if_pos hd] at hu
      injection hu with hu
      subst hu
      have := h.env t v (by simp only [AS.ap, get_cons]; rw [if_pos hd])
      exact ⟨this.1, .whn _ _ _ (fun _ => this.2) (fun hf => by cases hf)⟩
    · rw [if_neg hd] at hu
      exact h.env t u (by simp only [AS.ap, get_cons]; rw [if_neg hd]; exact hu)

theorem RelM.of_eqv {D : Nat → Prop} {μ : Mu} {S T : AS} {a : Act} {w : World} (he : S.eqv T) (h : RelM D w0 N0 μ S a w) : RelM D w0 N0 μ T a w := by
  have hown : Own N0 μ T = Own N0 μ S := by
    funext b
    unfold Own
    simp only [he.2.1]
  refine ⟨h.defers, by rw [← he.2.2.2]; exact h.size, h.below, h.n0, fun d v hv => by rw [← he.2.2.1]; exact h.fresh d v hv, fun d o ho => ?_, fun d o d' o' g c c' h1 h2 => h.inj d o d' o' g c c' (by rw [he.2.1]; exact h1) (by rw [he.2.1]; exact h2), fun t v hv => ?_⟩
  · rw [hown]; exact h.objs d o (by rw [he.2.1]; exact ho)
  · rw [hown, ← he.2.2.2]; exact h.env t v (by rw [he.1]; exact hv)
theorem RelD.of_eqv {D : Nat → Prop} {S T : AS} {a : Act} {w : World} (he : S.eqv T) : RelD D w0 N0 S a w → RelD D w0 N0 T a w := fun ⟨μ, h⟩ => ⟨μ, h.of_eqv he⟩
theorem AS.eqv.refl (S : AS) : S.eqv S := ⟨fun _ => rfl, fun _ => rfl, rfl, rfl⟩

theorem gact_sound {S S' : AS} {ops : List Oper} {i : Nat} {o : Oper} (hs : GActStep P kb ops i o S S') : GenStep P w0 ops i o S S' := by
  intro N0 D a w hr hi _ K Q' hK
  obtain ⟨j, want, O, v, hg, hc, hco, hput⟩ := hs
  obtain ⟨μ, hr⟩ := hr
  rw [gd_spec hr hg hc, if_pos rfl]
  obtain ⟨h1, h2⟩ := putv_ap hput
  have heff : aeff P i S o.dst (kb + o.dst.getD 0) o.op = some (({ S with objs := O } : AS).ap o.dst v []) := by
    unfold aeff
    simp only [hco]
    exact ap_putv v h2
  obtain ⟨x, w', hdo, μ', hrel⟩ := aeff_run hr hi heff
  have hrel' : RelD (fun j => D j ∨ j = i) w0 N0 S' (a.put o.dst x) w' := ⟨μ', hrel.whn (ap_putv v h2) hput⟩
  unfold Oper.wp
  rcases hdo with hx | ⟨hx, rfl⟩
  · rw [hx]; exact hK _ _ hrel'
  · rw [hx]; exact hK _ _ hrel'

theorem stepX_sound {X : List Nat} {S S' : AS} {D : Nat → Prop} {a : Act} {w : World} {ops : List Oper} {i : Nat} {o : Oper} (hr : RelD D w0 N0 S a w) (hi : ¬ D i) (hDb : ∀ j, D j → j < ops.length) (hs : StepX P kb w0 X ops i o S S') {K : Act → World → Prop} {Q' : Exit → Act → World → Prop}
    (hK : ∀ a' w', RelD (fun j => D j ∨ j = i) w0 N0 S' a' w' → K a' w') :
    if Region.wanted o (yielded ops.toArray a.tmps) = true then o.wp P a w K Q' else K (a.put o.dst undef) w := by
  rcases hs with hs | hs | ⟨_, hs⟩
  · exact step_sound hr hi hs hK
  · exact gact_sound hs N0 D a w hr hi hDb K Q' hK
  · obtain ⟨u, O, rfl, hall⟩ := hs
    exact hall S ⟨fun _ _ => rfl, rfl, rfl⟩ (fun _ => rfl) N0 D a w hr hi hDb K Q' hK

theorem gact_alike {ops : List Oper} {i : Nat} {o : Oper} {S S' : AS} (hs : GActStep P kb ops i o S S') : ∃ d ob v, S' = S.ap o.dst (.whn true v) [(d, ob)] ∧ acts o.op = true ∧ (makes o.op = true → ∃ e, o.dst = some e ∧ d = kb + e) ∧
    ∀ T, Alike ops o S T → (∀ d, get S.objs d = get T.objs d) → GActStep P kb ops i o T (T.ap o.dst (.whn true v) [(d, ob)]) := by
  obtain ⟨j, want, O, v, hg, hc, hco, hput⟩ := hs
  obtain ⟨h1, h2⟩ := putv_ap hput
  obtain ⟨d, ob, rfl, _, hmk⟩ := acore_congr (ops := ops) (T := S) ⟨fun _ _ => rfl, rfl, rfl⟩ (fun _ => rfl) hco
  refine ⟨d, ob, v, by rw [h1]; rfl, ?_, fun hm => by
    obtain ⟨m1, m2⟩ := hmk hm
    obtain ⟨e, he⟩ := Option.isSome_iff_exists.1 m1
    exact ⟨e, he, by rw [m2, he]; rfl⟩, fun T hT hob => ?_⟩
  · cases h0 : acts o.op with
    | true => rfl
    | false => rw [acts_core h0] at hco; cases hco
  · obtain ⟨d', ob', he, hcT, _⟩ := acore_congr hT hob hco
    injection he with he _
    injection he with he1 he2
    subst he1; subst he2
    have hgvS : S.gv ops o = some true := by simp only [AS.gv, hg]; exact hc
    have hgT : T.gd ops j want = some true := by have := hT.gv; rw [hgvS] at this; simp only [AS.gv, hg] at this; exact this.symm
    refine ⟨j, want, _, v, hg, hgT, hcT, ?_⟩
    have := ap_putv (S := { T with objs := (d, ob) :: T.objs }) (dst := o.dst) (.whn true v) (fun d1 hd1 => by have := h2 d1 hd1; simp only at this ⊢; rw [← hT.2.1]; exact this)
    rw [this]
    rfl

theorem stepX_eqv {X : List Nat} {ops : List Oper} {i : Nat} {o : Oper} {S S' T : AS} (hs : StepX P kb w0 X ops i o S S') (h : S.eqv T) : ∃ T', StepX P kb w0 X ops i o T T' ∧ S'.eqv T' := by
  rcases hs with hs | hs | ⟨hX, hs⟩
  · obtain ⟨T', h1, h2⟩ := step_eqv hs h
    exact ⟨T', .inl h1, h2⟩
  · obtain ⟨d, ob, v, rfl, _, _, hall⟩ := gact_alike hs
    exact ⟨_, .inr (.inl (hall T ⟨fun t _ => h.1 t, h.2.2.2, h.2.2.1⟩ h.2.1)), ap_eqv h _ _ _⟩
  · obtain ⟨u, O, rfl, hall⟩ := hs
    refine ⟨T.ap o.dst u O, .inr (.inr ⟨hX, u, O, rfl, fun T' hT hob => hall T' ⟨fun t ht => (h.1 t).trans (hT.1 t ht), h.2.2.2.trans hT.2.1, h.2.2.1.trans hT.2.2⟩ (fun d => (h.2.1 d).trans (hob d))⟩), ap_eqv h _ _ _⟩

theorem stepX_spec {X : List Nat} {ops : List Oper} {i : Nat} {o : Oper} {S S' : AS} (hs : StepX P kb w0 X ops i o S S') (hmu : mapUp o.op = false) :
    ∃ u O, S' = S.ap o.dst u O ∧ (actX X i o = false → O = []) ∧ (makX X i o = true → ∀ d ob, (d, ob) ∈ O → ∃ e, o.dst = some e ∧ d = kb + e) ∧
      ∀ T, Alike ops o S T → (actX X i o = true → ∀ d, get S.objs d = get T.objs d) → (loads o.op = true → ∀ p r, S.place p = some r → T.place p = some r) → StepX P kb w0 X ops i o T (T.ap o.dst u O) := by
  have hacts : actX X i o = false → acts o.op = false := fun h => by simp only [actX, Bool.or_eq_false_iff] at h; exact h.1
  have hacts' : acts o.op = true → actX X i o = true := fun h => by simp [actX, h]
  have hmakes : makX X i o = true → makes o.op = true := fun h => by simp only [makX, Bool.and_eq_true] at h; exact h.1
  rcases hs with hs | hs | ⟨hX, u, O, h1, hall⟩
  · obtain ⟨u, O, h1, h2, h3, h4⟩ := step_spec hs (.inl hmu)
    exact ⟨u, O, h1, fun h => h2 (hacts h), fun h => h3 (hmakes h), fun T a b c => .inl (h4 T a (fun h => b (hacts' h)) c)⟩
  · obtain ⟨d, ob, v, h1, h2, h3, h4⟩ := gact_alike hs
    refine ⟨_, _, h1, fun h0 => (by rw [hacts' h2] at h0; cases h0), fun hm d' ob' hmem => ?_, fun T a b c => .inr (.inl (h4 T a (b (hacts' h2))))⟩
    simp at hmem
    rw [hmem.1]
    exact h3 (hmakes hm)
  · have hax : actX X i o = true := by simp [actX, hX]
    refine ⟨u, O, h1, fun h0 => (by rw [hax] at h0; cases h0), fun hm => ?_, fun T a b c => .inr (.inr ⟨hX, u, O, rfl, fun T' hT hob => hall T' ⟨fun t ht => (a.1 t ht).trans (hT.1 t ht), a.2.1.trans hT.2.1, a.2.2.trans hT.2.2⟩ (fun d => (b hax d).trans (hob d))⟩)⟩
    simp [makX, hX] at hm

theorem panStep_alike {ops : List Oper} {i : Nat} {o : Oper} {S T : AS} (h : PanStep P w0 ops i o Q S) (hT : Alike ops o S T) (hob : ∀ d, get S.objs d = get T.objs d) : PanStep P w0 ops i o Q T :=
  fun T' hT' hob' => h T' ⟨fun t ht => (hT.1 t ht).trans (hT'.1 t ht), hT.2.1.trans hT'.2.1, hT.2.2.trans hT'.2.2⟩ (fun d => (hob d).trans (hob' d))

/-- Whatever order is picked. -/
def xAny (P : Program) (kb : Nat) (w0 : Bs) (X : List Nat) (ops : List Oper) (Q : Exit → AS → Prop) (K : AS → Prop) : Nat → Array Bool → AS → Prop
  | 0, listed, S => Region.ready .any ops.toArray listed = [] ∧ K S
  | n + 1, listed, S => (Region.ready .any ops.toArray listed = [] → K S) ∧ ∀ i ∈ Region.ready .any ops.toArray listed, (∃ o S', ops[i]? = some o ∧ StepX P kb w0 X ops i o S S' ∧ xAny P kb w0 X ops Q K n (listed.setIfInBounds i true) S') ∨ ∃ o, ops[i]? = some o ∧ PanStep P w0 ops i o Q S

theorem xany_eqv {X : List Nat} {ops : List Oper} {K : AS → Prop} (hK : ∀ S T, S.eqv T → K S → K T) : ∀ (n : Nat) (listed : Array Bool) (S T : AS), S.eqv T → xAny P kb w0 X ops Q K n listed S → xAny P kb w0 X ops Q K n listed T
  | 0, _, _, _, h, ha => ⟨ha.1, hK _ _ h ha.2⟩
  | n + 1, listed, S, T, h, ha => ⟨fun h0 => hK _ _ h (ha.1 h0), fun i hi => by
    rcases ha.2 i hi with ⟨o, S', ho, hs, hrest⟩ | ⟨o, ho, hp⟩
    · obtain ⟨T', hT, he⟩ := stepX_eqv hs h
      exact .inl ⟨o, T', ho, hT, xany_eqv hK n _ S' T' he hrest⟩
    · exact .inr ⟨o, ho, panStep_alike hp ⟨fun t _ => h.1 t, h.2.2.2, h.2.2.1⟩ h.2.1⟩⟩

/-- The model follows whatever order is picked. -/
theorem xany_sound {X : List Nat} {ops : List Oper} {K : AS → Prop} (hK : ∀ S a w, K S → RelD (fun j => j < ops.length) w0 N0 S a w → post w0 N0 Q .normal a w) : ∀ (n : Nat) (listed : Array Bool) (S : AS) (a : Act) (w : World), listed.size = ops.length →
    RelD (fun j => listed.getD j false = true) w0 N0 S a w → xAny P kb w0 X ops Q K n listed S → wpAny P .any ops.toArray (post w0 N0 Q) n listed a w
  | 0, listed, S, a, w, hsz, hr, ha => by
    obtain ⟨μ, hr⟩ := hr
    refine ⟨ha.1, hK S a w ha.2 ⟨μ, hr.more (fun j hj => ?_)⟩⟩
    rcases Nat.lt_or_ge j listed.size with h | h
    · omega
    · simp [Array.getElem?_eq_none h] at hj
  | n + 1, listed, S, a, w, hsz, hr, ha => by
    refine ⟨fun h0 => ?_, fun i hi => ?_⟩
    · obtain ⟨μ, hr⟩ := hr
      refine hK S a w (ha.1 h0) ⟨μ, hr.more (fun j hj => ?_)⟩
      rcases Nat.lt_or_ge j listed.size with h | h
      · omega
      · simp [Array.getElem?_eq_none h] at hj
    · have hun := (mem_ready.1 hi).1
      have hil : i < listed.size := by
        rcases Nat.lt_or_ge i listed.size with h | h
        · exact h
        · simp [Array.getElem?_eq_none h] at hun
      have hni : ¬ (listed.getD i false = true) := by
        intro h1
        simp [hil] at hun h1
        rw [hun] at h1
        cases h1
      have hDb : ∀ j, listed.getD j false = true → j < ops.length := fun j hj => by
        rcases Nat.lt_or_ge j listed.size with h | h
        · omega
        · simp [Array.getElem?_eq_none h] at hj
      rcases ha.2 i hi with ⟨o, S', ho, hs, hrest⟩ | ⟨o, ho, hp⟩
      case inr =>
        unfold wpOp
        have ho' : ops.toArray[i]? = some o := by simpa using ho
        simp only [ho']
        obtain ⟨hw, hwp⟩ := hp S ⟨fun _ _ => rfl, rfl, rfl⟩ (fun _ => rfl) N0 _ a w hr hni hDb
        rw [if_pos hw]
        exact .inl (hwp _)
      unfold wpOp
      have ho' : ops.toArray[i]? = some o := by simpa using ho
      simp only [ho']
      have := stepX_sound (P := P) hr hni hDb hs (K := wpAny P .any ops.toArray (post w0 N0 Q) n (listed.setIfInBounds i true)) (Q' := post w0 N0 Q) (fun a' w' hr' => by
        obtain ⟨μ', hr'⟩ := hr'
        refine xany_sound hK n _ S' a' w' (by simpa using hsz) ⟨μ', hr'.more (fun j hj => ?_)⟩ hrest
        rcases hj with hj | hj
        · by_cases hij : i = j
          · subst hij; simp [hil]
          · rw [getD_set_ne false hij]; exact hj
        · subst hj; simp [hil])
      split
      · rename_i hw; rw [if_pos hw] at this; exact .inl this
      · rename_i hw; rw [if_neg hw] at this; exact this

theorem xany_first {X : List Nat} {ops : List Oper} {K : AS → Prop} (hK : ∀ S T, S.eqv T → K S → K T) {i : Nat} {oi : Oper} (hi : ops[i]? = some oi) (hq : actX X i oi = false) (hxi : mapUp oi.op = false) (hnd : mkOk ops = true) (B : List Nat) :
    ∀ (n : Nat) (listed : Array Bool) (S S1 : AS), Waits ops listed i B →
      (∀ j oj, ops[j]? = some oj → j ≠ i → listed.getD j true = false → j ∉ B → oi.apart ops.toArray oj = true ∧ (loads oi.op = true → actX X j oj = true → makX X j oj = true) ∧ mapUp oj.op = false) →
      (loads oi.op = true → ∀ j oj d, ops[j]? = some oj → listed.getD j true = false → makX X j oj = true → oj.dst = some d → get S.objs (kb + d) = none) →
      i ∈ Region.ready .any ops.toArray listed → StepX P kb w0 X ops i oi S S1 →
      xAny P kb w0 X ops Q K n (listed.setIfInBounds i true) S1 → xAny P kb w0 X ops Q K (n + 1) listed S := by
  intro n
  induction n with
  | zero =>
    intro listed S S1 _ _ _ hr hs H
    refine ⟨fun h => (by rw [h] at hr; cases hr), fun j hj => ?_⟩
    by_cases hji : j = i
    · subst hji; exact .inl ⟨oi, S1, hi, hs, H⟩
    · have := ready_mono hj hji
      rw [H.1] at this
      cases this
  | succ n ih =>
    intro listed S S1 hB hfree hfr hr hs H
    refine ⟨fun h => (by rw [h] at hr; cases hr), fun j hj => ?_⟩
    by_cases hji : j = i
    · subst hji; exact .inl ⟨oi, S1, hi, hs, H⟩
    · obtain ⟨hjun, oj', hoj', hall⟩ := mem_ready.1 hj
      have hoj : ops[j]? = some oj' := by simpa using hoj'
      have hiun := (mem_ready.1 hr).1
      have hun1 : ∀ k, listed.getD k true = false → ∀ e ∈ oj'.after, Region.binds .any e = true → e.on ≠ k := fun k hk e he hb heq => by
        have h1 := hall e he hb
        rw [heq] at h1
        rcases Nat.lt_or_ge k listed.size with h' | h'
        · simp [h'] at hk h1; rw [hk] at h1; cases h1
        · simp [Array.getElem?_eq_none h'] at h1
      have hnot : j ∉ B := fun hjB => by
        obtain ⟨_, oq, hoq, e, he, hb, hon⟩ := hB j hjB
        have : oq = oj' := by rw [hoj] at hoq; exact (Option.some.inj hoq).symm
        subst this
        rcases hon with hon | hon
        · exact hun1 i hiun e he hb hon
        · exact hun1 e.on (hB e.on hon).1 e he hb rfl
      obtain ⟨hap, hload, hmuj⟩ := hfree j oj' hoj hji hjun hnot
      obtain ⟨a1, a2, a3⟩ := Oper.apart_spec hap
      obtain ⟨u, O, rfl, hO, _, hall1⟩ := stepX_spec hs hxi
      have hOn := hO hq
      subst hOn
      rcases H.2 j (ready_mono hj hji) with ⟨oj, T', hoj2, hsj, hrest⟩ | ⟨oj, hoj2, hpj⟩
      case inr =>
        rw [hoj] at hoj2
        have := Option.some.inj hoj2
        subst this
        refine .inr ⟨oj', hoj, panStep_alike hpj ⟨fun t ht => ?_, rfl, rfl⟩ (fun _ => rfl)⟩
        cases hd : oi.dst with
        | none => rfl
        | some d =>
          simp only [AS.ap, get_cons]
          rw [if_neg (fun e => a1 d hd (by rw [e]; exact ht))]
      rw [hoj] at hoj2
      have := Option.some.inj hoj2
      subst this
      obtain ⟨u2, O2, rfl, hO2, hmk2, hall2⟩ := stepX_spec hsj hmuj
      -- j before i
      have hjS : StepX P kb w0 X ops j oj' S (S.ap oj'.dst u2 O2) := by
        refine hall2 S ⟨fun t ht => ?_, rfl, rfl⟩ (fun _ d => rfl) (fun _ p r hp => by rw [← place_congr (S := S.ap oj'.dst u2 [] |>.ap none u2 []) (T := S) (fun d => rfl)]; rw [place_congr (S := S.ap oi.dst u []) (T := S.ap oj'.dst u2 [] |>.ap none u2 []) (fun d => rfl)] at hp; exact hp)
        cases hd : oi.dst with
        | none => rfl
        | some d =>
          simp only [AS.ap, get_cons]
          rw [if_neg (fun e => a1 d hd (by rw [e]; exact ht))]
      -- i behind j
      have hplace : loads oi.op = true → ∀ p r, S.place p = some r → (S.ap oj'.dst u2 O2).place p = some r := by
        intro hl p r hp
        cases hact : actX X j oj' with
        | false =>
          rw [hO2 hact]
          rw [← place_congr (S := S) (T := S.ap oj'.dst u2 []) (fun d => rfl)]
          exact hp
        | true =>
          have hm := hload hl hact
          have hk : ∀ d, get S.objs d ≠ none → get (S.ap oj'.dst u2 O2).objs d = get S.objs d := by
            intro d hd
            have hnotin : ∀ ob, (d, ob) ∉ O2 := fun ob hmem => by
              obtain ⟨e, he, hde⟩ := hmk2 hm d ob hmem
              exact hd (by rw [hde]; exact hfr hl j oj' e hoj hjun hm he)
            show get (O2 ++ S.objs) d = get S.objs d
            clear hmk2 hall2 hsj hrest hjS hO2
            induction O2 with
            | nil => rfl
            | cons q O2 ihq =>
              obtain ⟨k, ob⟩ := q
              simp only [List.cons_append, get_cons]
              rw [if_neg (fun e => hnotin ob (by rw [e]; simp))]
              exact ihq (fun ob' hmem => hnotin ob' (by simp [hmem]))
          cases p <;> simp only [AS.place] at hp ⊢ <;> try (first | exact hp | (cases hp; done))
          rename_i d v sz k off
          cases hg : get S.objs d with
          | none => rw [hg] at hp; cases hp
          | some ob =>
            rw [hk d (by rw [hg]; simp)]
            exact hp
      have hiT : StepX P kb w0 X ops i oi (S.ap oj'.dst u2 O2) ((S.ap oj'.dst u2 O2).ap oi.dst u []) := by
        refine hall1 _ ⟨fun t ht => ?_, rfl, rfl⟩ (fun h0 => by rw [hq] at h0; cases h0) hplace
        cases hd : oj'.dst with
        | none => rfl
        | some d =>
          simp only [AS.ap, get_cons]
          rw [if_neg (fun e => a3 d hd (by rw [e]; exact ht))]
      have heq : ((S.ap oi.dst u []).ap oj'.dst u2 O2).eqv ((S.ap oj'.dst u2 O2).ap oi.dst u []) := by
        refine ⟨fun t => ?_, fun d => rfl, rfl, rfl⟩
        cases hd1 : oi.dst with
        | none => rfl
        | some d1 =>
          cases hd2 : oj'.dst with
          | none => rfl
          | some d2 =>
            have hne : d2 ≠ d1 := fun e => a2 d1 hd1 (by rw [hd2, e])
            simp only [AS.ap, get_cons]
            by_cases h1 : d1 = t <;> by_cases h2 : d2 = t <;> simp [h1, h2]
            exact absurd (h2.trans h1.symm) hne
      refine .inl ⟨oj', _, hoj, hjS, ih (listed.setIfInBounds j true) _ _ (fun k hk => by
        have hjk : j ≠ k := by rintro rfl; exact hnot hk
        exact ⟨by rw [getD_set_ne true hjk]; exact (hB k hk).1, (hB k hk).2⟩) (fun k ok hk hki hun hno => hfree k ok hk hki ?_ hno) (fun hl k ok d hk hun hm hd => ?_) (ready_mono hr (Ne.symm hji)) hiT ?_⟩
      · by_cases hjk : j = k
        · subst hjk; exact hjun
        · rw [getD_set_ne true hjk] at hun; exact hun
      · have hjk : j ≠ k := by
          rintro rfl
          have hjl : j < listed.size := by
            rcases Nat.lt_or_ge j listed.size with h | h
            · exact h
            · simp [Array.getElem?_eq_none h] at hjun
          simp [hjl] at hun
        have hun' : listed.getD k true = false := by rwa [getD_set_ne true hjk] at hun
        have h0 := hfr hl k ok d hk hun' hm hd
        show get (O2 ++ S.objs) (kb + d) = none
        cases hact : actX X j oj' with
        | false => rw [hO2 hact]; exact h0
        | true =>
          have hmj := hload hl hact
          have hnotin : ∀ ob, (kb + d, ob) ∉ O2 := fun ob hmem => by
            obtain ⟨e, hdj, hde⟩ := hmk2 hmj _ ob hmem
            have hed : d = e := Nat.add_left_cancel hde
            exact hjk (mkOk_spec hnd hoj hk (by simp only [makX, Bool.and_eq_true] at hmj; exact hmj.1) (by simp only [makX, Bool.and_eq_true] at hm; exact hm.1) (by rw [hdj, hd, hed]))
          clear hmk2 hall2 hsj hrest hjS hO2 hplace hiT heq
          induction O2 with
          | nil => exact h0
          | cons q O2 ihq =>
            obtain ⟨k', ob⟩ := q
            simp only [List.cons_append, get_cons]
            rw [if_neg (fun e => hnotin ob (by rw [e]; simp))]
            exact ihq (fun ob' hmem => hnotin ob' (by simp [hmem]))
      · rw [Array.setIfInBounds_comm _ _ hji]
        exact xany_eqv hK n _ _ _ heq hrest


/-- What is asked of an operation that is taken first. -/
def xfirstOk (X : List Nat) (ops : List Oper) (listed : Array Bool) (i : Nat) (oi : Oper) : Bool :=
  blkOk ops listed i (blk ops listed i) && (List.range ops.length).all fun j => j == i || listed.getD j true || (match ops[j]? with
    | some oj => (blk ops listed i).contains j || (oi.apart ops.toArray oj && !mapUp oj.op && (!loads oi.op || !actX X j oj || makX X j oj))
    | none => true)
theorem xfirstOk_spec {X : List Nat} {ops : List Oper} {listed : Array Bool} {i : Nat} {oi : Oper} (h : xfirstOk X ops listed i oi = true) : ∃ B, Waits ops listed i B ∧ ∀ j oj, ops[j]? = some oj → j ≠ i → listed.getD j true = false → j ∉ B →
    oi.apart ops.toArray oj = true ∧ (loads oi.op = true → actX X j oj = true → makX X j oj = true) ∧ mapUp oj.op = false := by
  unfold xfirstOk at h
  rw [Bool.and_eq_true] at h
  refine ⟨blk ops listed i, blkOk_spec h.1, ?_⟩
  intro j oj hj hji hun hno
  have hlt : j < ops.length := (List.getElem?_eq_some_iff.1 hj).1
  have h1 := List.all_eq_true.1 h.2 j (List.mem_range.2 hlt)
  simp only [hj, hun, Bool.or_false, Bool.or_eq_true, beq_iff_eq, Bool.and_eq_true] at h1
  rcases h1 with h1 | h1 | h1
  · exact absurd h1 hji
  · exact absurd (by simpa using h1) hno
  · refine ⟨h1.1.1, fun hl ha => ?_, by simpa using h1.1.2⟩
    rcases h1.2 with (h2 | h2) | h2
    · simp [hl] at h2
    · simp [ha] at h2
    · exact h2
def xmayTake (X : List Nat) (ops : List Oper) (listed : Array Bool) (i : Nat) (ks : List Nat) : Bool :=
  match ops[i]? with
  | some o => (!actX X i o && !mapUp o.op && (Region.ready .any ops.toArray listed).contains i && xfirstOk X ops listed i o && (!loads o.op || (List.range ops.length).all fun j => listed.getD j true || (match ops[j]? with
      | some oj => !makX X j oj || (match oj.dst with | some d => ks.contains d | none => true)
      | none => true))) || (Region.ready .any ops.toArray listed == [i])
  | none => false

/-- What is done so far, as the model lists it. -/
def lst (ops : List Oper) : List Nat → Array Bool
  | [] => Array.replicate ops.length false
  | i :: l => (lst ops l).setIfInBounds i true
/-- A region of which the operations 'done' are done. -/
def AT (P : Program) (kb : Nat) (w0 : Bs) (X : List Nat) (ops : List Oper) (Q : Exit → AS → Prop) (done : List Nat) (S : AS) : Prop :=
  xAny P kb w0 X ops Q (fun S => ∃ S', ({ S with nx := S.nx + ops.length } : AS).le S' ∧ Q .normal S') (ops.length - done.length) (lst ops done) S
theorem K_eqv {ops : List Oper} {S T : AS} (he : S.eqv T) (h : ∃ S', ({ S with nx := S.nx + ops.length } : AS).le S' ∧ Q .normal S') : ∃ S', ({ T with nx := T.nx + ops.length } : AS).le S' ∧ Q .normal S' := by
  obtain ⟨S2, h5, h6⟩ := h
  have he' : ({ T with nx := T.nx + ops.length } : AS).eqv { S with nx := S.nx + ops.length } := ⟨fun t => (he.1 t).symm, fun d => (he.2.1 d).symm, by simp only; rw [he.2.2.1], he.2.2.2.symm⟩
  exact ⟨S2, AS.le_trans he'.le h5, h6⟩

variable {X : List Nat} {ops : List Oper} {done : List Nat} {S S' : AS}
theorem at_fin (h0 : (Region.ready .any ops.toArray (lst ops done)).isEmpty = true) (hle : ({ S with nx := S.nx + ops.length } : AS).le S') (h : Q .normal S') : AT P kb w0 X ops Q done S := by
  have h0' : Region.ready .any ops.toArray (lst ops done) = [] := by simpa using h0
  unfold AT
  cases ops.length - done.length with
  | zero => exact ⟨h0', S', hle, h⟩
  | succ n => exact ⟨fun _ => ⟨S', hle, h⟩, fun i hi => by rw [h0'] at hi; cases hi⟩
theorem at_step {i : Nat} {ks : List Nat} {o : Oper} (hc : (Nat.blt done.length ops.length && mkOk ops && xmayTake X ops (lst ops done) i ks) = true) (hi : ops[i]? = some o) (hks : (ks.all fun d => (get S.objs (kb + d)).isNone) = true) (hs : StepX P kb w0 X ops i o S S') (h : AT P kb w0 X ops Q (i :: done) S') : AT P kb w0 X ops Q done S := by
  simp only [Bool.and_eq_true, Nat.blt_eq] at hc
  obtain ⟨⟨hlt, hk⟩, hm⟩ := hc
  unfold AT at h ⊢
  rw [show ops.length - done.length = (ops.length - (i :: done).length) + 1 by simp only [List.length_cons]; omega]
  unfold xmayTake at hm
  simp only [hi, Bool.or_eq_true, Bool.and_eq_true, beq_iff_eq] at hm
  rcases hm with ⟨⟨⟨⟨h1, h1'⟩, h2⟩, h3⟩, h4⟩ | hm
  · obtain ⟨B, hB, hfree⟩ := xfirstOk_spec h3
    refine xany_first (fun S T he hh => K_eqv (Q := Q) (ops := ops) he hh) hi (by simpa using h1) (by simpa using h1') hk B _ _ S S' hB hfree (fun hl j oj d hj hun hmk hd => ?_) (by simpa using h2) hs h
    rcases h4 with h4 | h4
    · simp [hl] at h4
    · have h5 := List.all_eq_true.1 h4 j (List.mem_range.2 (List.getElem?_eq_some_iff.1 hj).1)
      simp only [hun, hj, hmk, hd, Bool.not_true, Bool.false_or] at h5
      have h6 := List.all_eq_true.1 hks d (by simpa using h5)
      simpa using h6
  · refine ⟨fun h0 => (by rw [hm] at h0; cases h0), fun j hj => ?_⟩
    rw [hm] at hj
    have : j = i := by simpa using hj
    subst this
    exact .inl ⟨o, S', hi, hs, h⟩
/-- Ways that part. -/
theorem at_fork (l : List Nat) (hc : (Nat.blt done.length ops.length && Region.ready .any ops.toArray (lst ops done) == l && !l.isEmpty) = true) (h : ∀ i ∈ l, ∃ o S', ops[i]? = some o ∧ StepX P kb w0 X ops i o S S' ∧ AT P kb w0 X ops Q (i :: done) S') : AT P kb w0 X ops Q done S := by
  simp only [Bool.and_eq_true, Nat.blt_eq, beq_iff_eq] at hc
  obtain ⟨⟨hlt, hm⟩, hne⟩ := hc
  unfold AT
  rw [show ops.length - done.length = (ops.length - (done.length + 1)) + 1 by omega]
  refine ⟨fun h0 => ?_, fun i hi => ?_⟩
  · rw [hm] at h0; subst h0; simp at hne
  · rw [hm] at hi
    obtain ⟨o, S', h1, h2, h3⟩ := h i hi
    exact .inl ⟨o, S', h1, h2, h3⟩
/-- The one operation that can come up panics. -/
theorem at_pan {i : Nat} {o : Oper} (hc : (Nat.blt done.length ops.length && Region.ready .any ops.toArray (lst ops done) == [i]) = true) (hi : ops[i]? = some o) (hp : PanStep P w0 ops i o Q S) : AT P kb w0 X ops Q done S := by
  simp only [Bool.and_eq_true, Nat.blt_eq, beq_iff_eq] at hc
  obtain ⟨hlt, hm⟩ := hc
  unfold AT
  rw [show ops.length - done.length = (ops.length - (done.length + 1)) + 1 by omega]
  refine ⟨fun h0 => (by rw [hm] at h0; cases h0), fun j hj => ?_⟩
  rw [hm] at hj
  have : j = i := by simpa using hj
  subst this
  exact .inr ⟨o, hi, hp⟩
/-- States that hold the same; what is done counts as a set. -/
theorem at_perm {done' : List Nat} (hl : (lst ops done == lst ops done' && done.length == done'.length) = true) (he : S'.eqv S) (h : AT P kb w0 X ops Q done' S') : AT P kb w0 X ops Q done S := by
  simp only [Bool.and_eq_true, beq_iff_eq] at hl
  unfold AT at h ⊢
  rw [hl.1, hl.2]
  exact xany_eqv (fun S T he hh => K_eqv (Q := Q) (ops := ops) he hh) _ _ _ _ he h

def xgood (X : List Nat) (ops : List Oper) : List Nat → List (Nat × List Nat) → Bool
  | _, [] => true
  | done, (i, ks) :: l => Nat.blt done.length ops.length && mkOk ops && xmayTake X ops (lst ops done) i ks && xgood X ops (i :: done) l
def xdone : List Nat → List (Nat × List Nat) → List Nat
  | done, [] => done
  | done, (i, _) :: l => xdone (i :: done) l
theorem at_go : ∀ (l : List (Nat × List Nat)) {done : List Nat} {S S1 : AS}, xgood X ops done l = true → runOK P kb ops l S = some S1 → AT P kb w0 X ops Q (xdone done l) S1 → AT P kb w0 X ops Q done S
  | [], done, S, S1, _, hs, h => by
    simp only [runOK, Option.some.injEq] at hs
    subst hs
    exact h
  | (i, ks) :: l, done, S, S1, hg, hs, h => by
    simp only [xgood, Bool.and_eq_true] at hg
    simp only [runOK] at hs
    split at hs
    case h_2 => cases hs
    rename_i o ho
    split at hs
    case isFalse => cases hs
    rename_i hks
    split at hs
    case h_2 => cases hs
    rename_i S2 h2
    rw [nth_eq] at ho
    exact at_step (by simp only [Bool.and_eq_true]; exact hg.1) ho hks (.inl (.inl h2)) (at_go l hg.2 hs h)

theorem awk_drawX {id : Nat} {l : List Oper} {S : AS} (kb : Nat) (X : List Nat) (hm : P.follows .mixedOrders = true) (h : AT P kb w0 X l Q [] S) : AW P w0 N0 (.region id l.toArray true) Q S := by
  rintro a w ⟨μ, hr⟩
  refine wp_region_any hm ?_
  have hsz : l.toArray.size = l.length := by simp
  rw [hsz]
  refine xany_sound (K := fun S => ∃ S', ({ S with nx := S.nx + l.length } : AS).le S' ∧ Q .normal S') ?_ l.length _ S a _ (by simp) ⟨μ, ?_⟩ h
  · rintro S a w ⟨S', h1, h2⟩ ⟨μ, hr⟩
    refine ⟨S', h2, h1 _ _ _ _ ⟨μ, ⟨hr.defers, hr.size, hr.below, hr.n0, fun d v hv => ?_, hr.objs, hr.inj, hr.env⟩⟩⟩
    rcases hr.fresh d v hv with h3 | ⟨j, hj, e⟩
    · exact .inl (by simp only; omega)
    · exact .inl (by simp only; omega)
  · have := hr.drew
    exact this.more (fun j hj => hj.elim)

theorem aw_drawX {id : Nat} {l : List Oper} {S : AS} (X : List Nat) (hm : P.follows .mixedOrders = true) (h : AT P 0 w0 X l Q [] S) : AW P w0 N0 (.region id l.toArray true) Q S := awk_drawX 0 X hm h
/-- The step of a guarded operation that is run. -/
def gact (P : Program) (kb : Nat) (ops : List Oper) (i : Nat) (o : Oper) (S : AS) : Option AS :=
  match o.guard with
  | none => none
  | some (j, want) => match S.gd ops j want with
    | some true => match acore P i S o.dst (kb + o.dst.getD 0) o.op with
      | some (O, v) => ({ S with objs := O } : AS).putv o.dst (.whn true v)
      | none => none
    | _ => none
theorem gact_spec {i : Nat} {o : Oper} (h : gact P kb ops i o S = some S') : GActStep P kb ops i o S S' := by
  unfold gact at h
  split at h
  · cases h
  · rename_i j want hg
    split at h
    · rename_i hc
      split at h
      · rename_i O v hco
        exact ⟨j, want, O, v, hg, hc, hco, h⟩
      · cases h
    · cases h
theorem sx_act {i : Nat} {o : Oper} (h : gact P kb ops i o S = some S') : StepX P kb w0 X ops i o S S' := .inr (.inl (gact_spec h))
theorem sx_go {i : Nat} {o : Oper} (h : astepK P kb ops i o S = some S') : StepX P kb w0 X ops i o S S' := .inl (.inl h)

theorem views_congr {S T : AS} (h : ∀ d, get S.objs d = get T.objs d) : ∀ (vs : List V), S.views vs = T.views vs := by
  have hC : ∀ v, S.viewC v = T.viewC v := by
    intro v
    cases v <;> simp only [AS.viewC] <;> rw [elems_congr h]
  have hL : ∀ l, S.viewL l = T.viewL l := by
    intro l
    induction l with
    | nil => rfl
    | cons v l ih => simp only [AS.viewL, hC, ih]
  have hV : ∀ v, S.view v = T.view v := by
    intro v
    cases v <;> simp only [AS.view, hC, hL]
  intro vs
  induction vs with
  | nil => rfl
  | cons v l ih => simp only [AS.views, hV, ih]

theorem wanted_of {D : Nat → Prop} {μ : Mu} {a : Act} {w : World} {o : Oper} (hr : RelM D w0 N0 μ S a w) (hg : S.gv ops o = some true) : Region.wanted o (yielded ops.toArray a.tmps) = true := by
  unfold AS.gv at hg
  split at hg
  · rename_i hgn; simp [Region.wanted, hgn]
  · rename_i j want hgn; exact gd_spec hr hgn hg

/-- A call that reads slices of the call's own and hands back a value without memory. -/
theorem sx_callv {i : Nat} {o : Oper} {f : Operand} {fid : FuncId} {fn : Func} {args : Array Operand} {ats : Array TypeId} {vs us : List V} {res : V}
    (hX : i ∈ X) (hc : AC P fid us (fun r => r = res)) (hfn : P.funcs[fid]? = some fn) (hb : fn.body.isSome = true) (hn : (fn.name == "runtime.NumGoroutine") = false)
    (hg : S.gv ops o = some true) (ho : o.op = .call { callee := .value f, args := args, argTypes := ats }) (hf : S.evc true f = some (.fn fid))
    (ha : S.args true args.toList = some vs) (hp : S.views vs = some us) (hl : res.light = true) (hs : S.putv o.dst (wrapG o true res) = some S') : StepX P kb w0 X ops i o S S' := by
  obtain ⟨hs1, hs2⟩ := putv_ap hs
  refine .inr (.inr ⟨hX, wrapG o true res, [], hs1, fun T hT hob N0 D a w hr hi hDb K Q' hK => ?_⟩)
  replace hg : T.gv ops o = some true := by rw [← hT.gv]; exact hg
  replace hf : T.evc true f = some (.fn fid) := by rw [← hT.evc (by rw [ho]; simp [Op.operands, Call.operands])]; exact hf
  replace ha : T.args true args.toList = some vs := by rw [← args_congr (S := S) (T := T) (fun x hx => hT.evc (by rw [ho]; simp [Op.operands, Call.operands]; right; simpa using hx) true)]; exact ha
  replace hp : T.views vs = some us := by rw [← views_congr hob]; exact hp
  have hs := ap_putv (S := T) (wrapG o true res) (fun d hd => by rw [← hT.2.1]; exact hs2 d hd)
  obtain ⟨μ, hr⟩ := hr
  rw [wanted_of hr hg, if_pos rfl]
  have hfv := hr.evc hf rfl
  have hfe : a.eval f = .func (.func fid) #[] #[] := by
    generalize a.eval f = y at hfv
    cases hfv with
    | pur hfv => cases hfv with
      | fn => rfl
  obtain ⟨h1, h2⟩ := args_spec hr rfl ha
  obtain ⟨h3, h4⟩ := views_spec hp
  unfold Oper.wp
  rw [run_call_fn ho hfe hfn hb hn]
  have hcall := hc w N0 (args.toList.map a.eval) (fun b hb => Nat.lt_of_lt_of_le (hr.n0.1 b hb).1 hr.below.size) (by simp [h1, h3]) (fun j x v hx hv => by
    simp only [List.getElem?_map, Option.map_eq_some_iff] at hx
    obtain ⟨y, hy, rfl⟩ := hx
    have hj : j < vs.length := by rw [← h3]; exact (List.getElem?_eq_some_iff.1 hv).1
    exact hr.view (h2 j y vs[j] hy (List.getElem?_eq_getElem hj)) (h4 j vs[j] v (List.getElem?_eq_getElem hj) hv))
  have harr : (args.toList.map a.eval).toArray = args.map a.eval := by apply Array.ext'; simp
  rw [harr] at hcall
  refine hcall.mono ?_
  rintro e w' ⟨x, r, rfl, rfl, hpx, hbw⟩
  refine hK _ _ ⟨μ, ((hr.later hbw).putv hs ?_).more (fun j hj => .inl hj)⟩
  unfold wrapG
  split
  · exact .pur (hpx.of_light hl)
  · exact .whn _ _ _ (fun _ => .pur (hpx.of_light hl)) (fun hf => by cases hf)

/-- A call that hands back a new row d. -/
theorem sx_callO {i : Nat} {o : Oper} {f : Operand} {fid : FuncId} {fn : Func} {args : Array Operand} {ats : Array TypeId} {vs us : List V} {sz : Nat} {ty : TypeId} {F : Nat → Nat → V} {es : List V} (d : Nat)
    (hX : i ∈ X) (hc : ACO P fid us sz ty (fun F' es' => F' = F ∧ es' = es)) (hfn : P.funcs[fid]? = some fn) (hb : fn.body.isSome = true) (hn : (fn.name == "runtime.NumGoroutine") = false)
    (hg : S.gv ops o = some true) (ho : o.op = .call { callee := .value f, args := args, argTypes := ats }) (hf : S.evc true f = some (.fn fid))
    (ha : S.args true args.toList = some vs) (hp : S.views vs = some us) (hs : ({ S with objs := (d, ⟨S.nx + i, sz, ty, es⟩) :: S.objs } : AS).putv o.dst (wrapG o true (F d (S.nx + i))) = some S') : StepX P kb w0 X ops i o S S' := by
  obtain ⟨hs1, hs2⟩ := putv_ap hs
  refine .inr (.inr ⟨hX, wrapG o true (F d (S.nx + i)), [(d, ⟨S.nx + i, sz, ty, es⟩)], hs1, fun T hT hob N0 D a w hr hi hDb K Q' hK => ?_⟩)
  replace hg : T.gv ops o = some true := by rw [← hT.gv]; exact hg
  replace hf : T.evc true f = some (.fn fid) := by rw [← hT.evc (by rw [ho]; simp [Op.operands, Call.operands])]; exact hf
  replace ha : T.args true args.toList = some vs := by rw [← args_congr (S := S) (T := T) (fun x hx => hT.evc (by rw [ho]; simp [Op.operands, Call.operands]; right; simpa using hx) true)]; exact ha
  replace hp : T.views vs = some us := by rw [← views_congr hob]; exact hp
  have hnx : S.nx = T.nx := hT.2.2
  have hs := ap_putv (S := { T with objs := (d, ⟨T.nx + i, sz, ty, es⟩) :: T.objs }) (dst := o.dst) (wrapG o true (F d (T.nx + i))) (fun d hd => by have := hs2 d hd; simp only at this ⊢; rw [← hT.2.1]; exact this)
  rw [hnx] at hK
  obtain ⟨μ, hr⟩ := hr
  rw [wanted_of hr hg, if_pos rfl]
  have hfv := hr.evc hf rfl
  have hfe : a.eval f = .func (.func fid) #[] #[] := by
    generalize a.eval f = y at hfv
    cases hfv with
    | pur hfv => cases hfv with
      | fn => rfl
  obtain ⟨h1, h2⟩ := args_spec hr rfl ha
  obtain ⟨h3, h4⟩ := views_spec hp
  unfold Oper.wp
  rw [run_call_fn ho hfe hfn hb hn]
  have hcall := hc w N0 (args.toList.map a.eval) (fun b hb => Nat.lt_of_lt_of_le (hr.n0.1 b hb).1 hr.below.size) (by simp [h1, h3]) (fun j x v hx hv => by
    simp only [List.getElem?_map, Option.map_eq_some_iff] at hx
    obtain ⟨y, hy, rfl⟩ := hx
    have hj : j < vs.length := by rw [← h3]; exact (List.getElem?_eq_some_iff.1 hv).1
    exact hr.view (h2 j y vs[j] hy (List.getElem?_eq_getElem hj)) (h4 j vs[j] v (List.getElem?_eq_getElem hj) hv))
  have harr : (args.toList.map a.eval).toArray = args.map a.eval := by apply Array.ext'; simp
  rw [harr] at hcall
  refine hcall.mono ?_
  rintro e w' ⟨x, F', es', l, rfl, ⟨rfl, rfl⟩, hbw, hpx⟩
  have hmono := hr.muSet_mono hi d l
  obtain ⟨hrel, _⟩ := hr.update (D' := fun j => D j ∨ j = i) (d := d) (o' := ⟨T.nx + i, sz, ty, es'⟩) (l' := l) (w' := w') (μ' := muSet μ d (T.nx + i) l) hmono (hr.muSet_fresh i d _) (muSet_same _ _ _ _)
    (hr.below.trans (hbw.mono hr.below.size)) (Keeps.of_below hbw _) (fun d1 o1 g c _ h1 h2 => hbw.block g (hr.block_lt h1 h2))
    (fun g c e => by
      have := (hpx d (T.nx + i) (muSet μ d (T.nx + i) l) (fun _ => False) (muSet_same _ _ _ _)).2
      rw [e] at this
      exact .inl (this.1.elim id (fun h => h.elim)))
    (fun N' _ => by
      have := (hpx d (T.nx + i) (muSet μ d (T.nx + i) l) N' (muSet_same _ _ _ _)).2
      cases l with
      | none => exact this
      | some gc => exact ⟨.inl (Nat.le_trans hr.below.size (this.1.elim id (fun h => h.elim))), this.2⟩)
  refine hK _ _ ⟨_, hrel.putv hs ?_⟩
  unfold wrapG
  split
  · exact (hpx d (T.nx + i) _ _ (muSet_same _ _ _ _)).1
  · exact .whn _ _ _ (fun _ => (hpx d (T.nx + i) _ _ (muSet_same _ _ _ _)).1) (fun hf => by cases hf)

theorem at_call {i : Nat} {ks : List Nat} {o : Oper} {c : Bool} {f : Operand} {fid : FuncId} {fn : Func} {args : Array Operand} {ats : Array TypeId} {vs : List V} {res : V}
    (hm : (Nat.blt done.length ops.length && mkOk ops && xmayTake X ops (lst ops done) i ks) = true)
    (hc : c = true → AC P fid vs (fun r => r = res)) (hfn : P.funcs[fid]? = some fn) (hb : fn.body.isSome = true) (hn : (fn.name == "runtime.NumGoroutine") = false) (hi : nth ops i = some o) (hks : (ks.all fun d => (get S.objs (kb + d)).isNone) = true)
    (hg : S.gv ops o = some c) (ho : o.op = .call { callee := .value f, args := args, argTypes := ats }) (hf : S.evc c f = some (.fn fid)) (ha : S.args c args.toList = some vs) (hp : vs.all V.pureV = true) (hs : S.putv o.dst (wrapG o c res) = some S') (h : AT P kb w0 X ops Q (i :: done) S') : AT P kb w0 X ops Q done S := by
  rw [nth_eq] at hi
  exact at_step hm hi hks (.inl (.inr (.inl ⟨c, f, args, ats, fid, fn, vs, res, hg, ho, hf, hfn, hb, hn, ha, hp, fun h => (hc h).b, hs⟩))) h
def fin (l : List Oper) (L M : List Nat) (S : AS) : AS := (S.bump l.length).keep L M
theorem at_end (L M : List Nat) (h0 : (Region.ready .any ops.toArray (lst ops done)).isEmpty = true) (hs : fin ops L M S = S') (h : Q .normal S') : AT P kb w0 X ops Q done S := by
  subst hs
  exact at_fin h0 (le_keep _ L M) h
attribute [simp] gact fin xdone
end
end Go.Eng

/- The row's step where the law makes rows as long as what came in: the reach bounds their length. No condition. -/
set_option linter.unusedSimpArgs false
namespace Go.Eng
open Go.ChangeShapes Go.WideShapes Go.ChangeAt Go.RowKit

theorem trodAll_get {H : Type} {enc : TypeId × Value → H} {P : Program} {W : World} : ∀ {ts : List TypeId} {vs : List Value} {ds : List (DataW H)} {ps : List MemPlace},
    DataW.TrodAll enc P W 0 (fun _ => true) true ts vs ds ps → ∀ (j : Nat) t x, ts[j]? = some t → vs[j]? = some x → ∃ d p, ds[j]? = some d ∧ DataW.Trod enc P W 0 (fun _ => true) true t x d p
  | [], _, _, _, _, j, t, x, ht, _ => by simp at ht
  | t0 :: ts, vs, ds, ps, h, j, t, x, ht, hx => by
    obtain ⟨v, vs', d, ds', p, q, rfl, rfl, rfl, h1, h2⟩ := trodAll_cons h
    rcases j with _ | j
    · simp at ht hx
      subst ht; subst hx
      exact ⟨d, p, rfl, h1⟩
    · simp at ht hx
      obtain ⟨d', p', h3, h4⟩ := trodAll_get h2 j t x ht hx
      exact ⟨d', p', by simpa using h3, h4⟩

/-- The lengths of the lists that come in. -/
def Sized (P : Program) (ts : List TypeId) (vs : List V) : Prop :=
  ∀ (j : Nat) t e sz es, ts[j]? = some t → P.underlying t = some (.slice e) → vs[j]? = some (.ro sz es) → es.length * P.bytesOf e ≤ reachBytes

theorem row_contractS {H : Type} {enc : TypeId × Value → H} {P : Program} {f : FuncId} {fn : Func} {s : ChangeSpec} {n : Nat} {tb : TypeId} {ts : List TypeId} (hts : fn.params.toList = ts) (hok : (ts.all fun t => okT P n t && P.readableRec t && decide (t < P.types.size)) = true) (hlaid : laidOutB P = true) (hres : fn.resultTypes = #[tb]) (htb : P.underlying tb = some .bool)
    (hvars : s.vars = []) (hs : ∀ ds : List (DataW H), ds.length = ts.length → s.fn H ds = { results := [.lit (.bool true)], args := ds }) (hc : ∀ vs, RdAll P n ts vs → Sized P ts vs → AC P f vs (fun r => r = .bool true))
    {W : World} {base : Nat} {args : Array Value} {ds gs : List (DataW H)} {before : List MemPlace}
    (hval : ∀ (j : Nat) t v, fn.params[j]? = some t → args[j]? = some v → Value.okWide P W .any base t v) (hW : DataW.Whole enc P fn.params.toList s.vars false W args.toList ds gs before)
    (hz : (DataW.weightsEach P (fn.params.toList ++ s.plain.varTypes P) (ds ++ gs)).all (· ≤ reachBytes) = true) :
    Calls P f args W fun e W' => ∃ v, e = .returned v ∧ s.post enc P fn false true false false W args v W' := by
  have hW' := hW
  obtain ⟨p, q, hA, hV, rfl, hfz, hnd⟩ := hW
  rw [hvars] at hV
  obtain ⟨rfl, rfl⟩ := trodVars_none hV
  have hdl : ds.length = ts.length := by
    have : ∀ (ts : List TypeId) (vs : List Value) (ds : List (DataW H)) (ps : List MemPlace), DataW.TrodAll enc P W 0 (fun _ => true) true ts vs ds ps → ds.length = ts.length := by
      intro ts
      induction ts with
      | nil => intro vs ds ps h; obtain ⟨_, rfl, _⟩ := trodAll_nil h; rfl
      | cons t ts ih => intro vs ds ps h; obtain ⟨v, vs', d, ds', p, q, rfl, rfl, rfl, _, h2⟩ := trodAll_cons h; simp [ih _ _ _ h2]
    rw [← hts]; exact this _ _ _ _ hA
  have hall : ∀ t ∈ ts, okT P n t = true ∧ P.readableRec t = true ∧ t < P.types.size := by
    intro t ht
    have := List.all_eq_true.1 hok t ht
    simp only [Bool.and_eq_true, decide_eq_true_eq] at this
    exact ⟨this.1.1, this.1.2, this.2⟩
  obtain ⟨us, h1, h2⟩ := args_pur (n := n) (ts := ts) (fun t ht => (hall t ht).1) (fun j t v ht hv => hval j t v (by rw [← hts] at ht; simpa using ht) (by simpa using hv)) (hts ▸ hA)
  have hsz : Sized P ts us := by
    intro j t e sz es ht hu hes
    have hj : j < us.length := (List.getElem?_eq_some_iff.1 hes).1
    have hja : j < args.toList.length := by rw [h2.1]; exact hj
    have hx : args.toList[j]? = some args.toList[j] := List.getElem?_eq_getElem hja
    have hp := h2.2 j _ _ hx hes
    obtain ⟨d, p', hd, fuel, hf⟩ := trodAll_get (hts ▸ hA) j t _ ht hx
    generalize args.toList[j] = x at hp hf
    cases hp with
    | ro A ad m cap sz es g hn hcap hmax hA' hfit hcell hsub =>
      have hjt : j < ts.length := (List.getElem?_eq_some_iff.1 ht).1
      have hcs : (Value.slice A m cap).cells.toList = [.slice A m cap] := rfl
      rw [hcs] at hf
      rcases DataW.trod_slice hu hf with ⟨e1, e2⟩ | ⟨a, len, cap', elems, rest, k, _, e1, e2, _, _, _, hlen, _⟩
      · injection e1 with e1
        injection e1 with _ e1
        have : es.length = 0 := by omega
        rw [this]; omega
      · injection e1 with e1
        injection e1 with _ e1
        injection e2 with e2 _
        subst e2
        have := sized_slice (H := H) (P := P) hz (j := j) (t := t) (e := e) (elems := elems.map (·.1)) (spare := rest.map (·.1)) (by rw [hts, List.getElem?_append_left hjt]; exact ht) (by rw [List.getElem?_append_left (by omega)]; exact hd) hu
        refine Nat.le_trans (Nat.mul_le_mul_right _ ?_) this
        simp
        omega
  have hcall := hc us h1 hsz W (fun _ => False) args.toList (fun _ hb => hb.elim) h2.1 h2.2
  rw [show args.toList.toArray = args by simp] at hcall
  refine hcall.mono ?_
  rintro e W1 ⟨x, r, rfl, rfl, hp, hb⟩
  obtain rfl : x = .bool true := by cases hp; rfl
  refine ⟨_, rfl, ds, [], p ++ [], [], p, [], hW', ?_, ?_, ?_, hb.frame _, fun h => by cases h⟩
  · rw [List.append_nil, hs ds hdl, hres]
    exact trodAll_mk1 (shut_bool htb true)
  · rw [List.append_nil, hs ds hdl]
    exact trodAll_below hlaid hb (fun t ht => (hall t (hts ▸ ht)).2) hA
  · rw [List.append_nil, hs ds hdl, hvars]
    exact rfl
end Go.Eng

/- Contracts of functions that write objects handed in by pointer, and that may panic; calls by such contracts. No condition. -/
set_option linter.unusedSimpArgs false
namespace Go.Eng
open Go.RowKit

/-- The results of a function, as they are. -/
def aresR (P : Program) (S : AS) : List ResultVar → Option (List V)
  | [] => some []
  | r :: rs => match aresult P S r, aresR P S rs with
    | some v, some vs => some (v :: vs)
    | _, _ => none
def aresT (P : Program) (S : AS) (rs : List ResultVar) : Option V :=
  match aresR P S rs with
  | some [v] => some v
  | some vs => some (.tup vs)
  | none => none
attribute [simp] aresR aresT

/-- The contract: called on values that read as args, with the objects ins of the caller's own, f returns a value r and leaves the objects outs, as R says, or panics, as E says. Nothing else that was there changes. -/
def ACS (P : Program) (f : FuncId) (args : List V) (ins : List (Nat × Ob)) (R : V → List (Nat × Ob) → Prop) (E : List PanicEntry → Prop) : Prop :=
  ∀ (B : Bs) (N : Nat → Prop) (μ : Mu) (nx : Nat) (xs : List Value), xs.length = args.length → B.df = [] →
    RelM (fun _ => False) B N μ ⟨env0 0 args, ins, nx, args.length⟩ ⟨xs.toArray, []⟩ B.w →
    Calls P f xs.toArray B.w (fun e w' => (∃ x r outs nx' μ', e = .returned x ∧ R r outs ∧ nx ≤ nx' ∧ RelM (fun _ => False) B N μ' ⟨[(0, r)], outs, nx', 1⟩ ⟨#[x], []⟩ w') ∨ (∃ ch, e = .panicked ch ∧ E ch ∧ B.Below w'))

theorem ACS.mono {P : Program} {f : FuncId} {args : List V} {ins : List (Nat × Ob)} {R R' : V → List (Nat × Ob) → Prop} {E E' : List PanicEntry → Prop} (h : ACS P f args ins R E) (hR : ∀ r o, R r o → R' r o) (hE : ∀ c, E c → E' c) : ACS P f args ins R' E' :=
  fun B N μ nx xs h1 h2 h3 => (h B N μ nx xs h1 h2 h3).mono fun _ _ hh => hh.imp (fun ⟨x, r, outs, nx', μ', a, b, c⟩ => ⟨x, r, outs, nx', μ', a, hR _ _ b, c⟩) (fun ⟨ch, a, b, c⟩ => ⟨ch, a, hE _ b, c⟩)

/-- What must hold where a body ends. -/
def EndsS (P : Program) (fn : Func) (R : V → List (Nat × Ob) → Prop) (E : List PanicEntry → Prop) (nx : Nat) : Exit → AS → Prop
  | .ret, S | .normal, S => nx ≤ S.nx ∧ ∃ r outs, aresT P S fn.results.toList = some r ∧ (∀ k o, get outs k = some o → get S.objs k = some o) ∧ R r outs
  | .panic ch, _ => E ch
  | _, _ => False

section
variable {P : Program} {w0 : Bs} {N0 : Nat → Prop} {Q : Exit → AS → Prop} {S : AS}

theorem aresT_run {D : Nat → Prop} {μ : Mu} {a : Act} {w : World} (h : RelM D w0 N0 μ S a w) {fn : Func} {r : V} (hv : aresT P S fn.results.toList = some r) : ∃ x, (results fn a.tmps).run P w = .ok x w ∧ Enc w (Own N0 μ S) μ x r := by
  have key : ∀ (l : List ResultVar) (vs : List V), aresR P S l = some vs → ∃ xs : List Value, (l.mapM (resSem a.tmps)).run P w = .ok xs w ∧
      xs.length = vs.length ∧ ∀ (i : Nat) x v, xs[i]? = some x → vs[i]? = some v → Enc w (Own N0 μ S) μ x v := by
    intro l
    induction l with
    | nil => intro vs hvs; simp only [aresR, Option.some.injEq] at hvs; subst hvs; exact ⟨[], rfl, rfl, by simp⟩
    | cons q l ih =>
      intro vs hvs
      simp only [aresR] at hvs
      split at hvs
      case h_2 => cases hvs
      rename_i v vs' h1 h2
      injection hvs with hvs
      subst hvs
      obtain ⟨x, hx, hex⟩ := aresult_run h h1
      obtain ⟨xs, hxs, hl, hh⟩ := ih vs' h2
      refine ⟨x :: xs, ?_, by simp [hl], fun i y v hy hv => ?_⟩
      · rw [List.mapM_cons, Sem.run_bind, hx, Result.andThen_ok, Sem.run_bind, hxs, Result.andThen_ok]
        rfl
      · rcases i with _ | i
        · simp at hy hv; subst hy; subst hv; exact hex
        · simp at hy hv; exact hh i y v hy hv
  unfold aresT at hv
  have hmap : ∀ xs : List Value, (fn.results.toList.mapM (resSem a.tmps)).run P w = .ok xs w →
      (results fn a.tmps).run P w = .ok (if h : xs.toArray.size = 1 then xs.toArray[0] else .tuple xs.toArray) w := by
    intro xs hxs
    rw [results_eq, Sem.run_bind, Array.mapM_eq_mapM_toList, Sem.run_map, hxs]
    rfl
  split at hv
  · rename_i v hvs
    injection hv with hv
    subst hv
    obtain ⟨xs, h1, h2, h3⟩ := key _ _ hvs
    match xs, h2 with
    | [x], _ => exact ⟨x, hmap [x] h1, h3 0 x _ rfl rfl⟩
  · rename_i vs hne hvs
    injection hv with hv
    subst hv
    obtain ⟨xs, h1, h2, h3⟩ := key _ _ hvs
    refine ⟨.tuple xs.toArray, ?_, .tup xs vs h2 h3⟩
    rw [hmap xs h1]
    have : ¬ xs.toArray.size = 1 := by
      intro h0
      have hl : vs.length = 1 := by simp at h0; omega
      match vs, hl with
      | [v], _ => exact hne v rfl
    rw [dif_neg this]
  · cases hv

/-- The frame in which a function begins. -/
theorem RelM.enter {μ : Mu} {args : List V} {objs : List (Nat × Ob)} {nx nt : Nat} {xs : List Value} {w : World} (hlen : xs.length = args.length) (hl : args.length ≤ nt) (hd : w0.df = [])
    (h : RelM (fun _ => False) w0 N0 μ ⟨env0 0 args, objs, nx, args.length⟩ ⟨xs.toArray, []⟩ w) :
    RelM (fun _ => False) w0 N0 μ ⟨env0 0 args, objs, nx, nt⟩ { tmps := xs.toArray ++ Array.replicate (nt - xs.toArray.size) undef, defers := [] } w := by
  refine ⟨hd.symm, ?_, h.below, h.n0, h.fresh, h.objs, h.inj, fun t v hv => ?_⟩
  · simp only [Array.size_append, List.size_toArray, Array.size_replicate]; omega
  · obtain ⟨h1, h2⟩ := h.env t v hv
    refine ⟨by simp only at h1 ⊢; omega, ?_⟩
    have hget : (xs.toArray ++ Array.replicate (nt - xs.toArray.size) undef).getD t undef = xs.toArray.getD t undef := by
      simp only at h1
      simp only [Array.getD_eq_getD_getElem?]
      rw [Array.getElem?_append_left (by simp; omega)]
    rw [hget]
    exact h2

/-- The value and the objects that a function hands back. -/
theorem RelM.leave {μ : Mu} {a : Act} {w : World} (h : RelM (fun _ => False) w0 N0 μ S a w) (hd : w0.df = []) {x : Value} {r : V} {outs : List (Nat × Ob)} (hx : Enc w (Own N0 μ S) μ x r) (ho : ∀ k o, get outs k = some o → get S.objs k = some o) :
    RelM (fun _ => False) w0 N0 μ ⟨[(0, r)], outs, S.nx, 1⟩ ⟨#[x], []⟩ w := by
  have hsub : ∀ b, b < w.heap.size → Own N0 μ ⟨[(0, r)], outs, S.nx, 1⟩ b → Own N0 μ S b := by
    rintro b _ (h0 | ⟨d, o, c, h1, h2⟩)
    · exact .inl h0
    · exact .inr ⟨d, o, c, ho d o h1, h2⟩
  have hk := Keeps.refl w (Own N0 μ S)
  refine ⟨hd.symm, rfl, h.below, h.n0, h.fresh, fun d o hd => ?_, fun d o d' o' g c c' h1 h2 => h.inj d o d' o' g c c' (ho _ _ h1) (ho _ _ h2), fun t v hv => ?_⟩
  · obtain ⟨l, hl, hob⟩ := h.objs d o (ho _ _ hd)
    exact ⟨l, hl, hob.keep hk hsub (fun _ _ _ hh => hh) (fun _ _ _ => rfl)⟩
  · simp only [get_cons, get] at hv
    split at hv
    · rename_i e
      subst e
      injection hv with hv
      subst hv
      exact ⟨Nat.one_pos, by simpa using hx.keep hk hsub (fun _ _ _ hh => hh)⟩
    · cases hv

/-- A contract from the body. -/
theorem acs_intro {f : FuncId} {fn : Func} {c : Code} {args : List V} {ins : List (Nat × Ob)} {R : V → List (Nat × Ob) → Prop} {E : List PanicEntry → Prop} (hf : P.funcs[f]? = some fn) (hb : fn.body = some c) (hl : args.length ≤ fn.ntmps)
    (h : ∀ w0 N0 nx, AW P w0 N0 c (EndsS P fn R E nx) ⟨env0 0 args, ins, nx, fn.ntmps⟩) : ACS P f args ins R E := by
  intro B N μ nx xs hlen hd hr
  refine calls_of_wp hf hb (wp_mono (h B N nx _ B.w ⟨μ, hr.enter hlen hl hd⟩) ?_)
  rintro e a' w' ⟨S', hE, ⟨μ', hr'⟩⟩
  have hdf : a'.defers = [] := by rw [hr'.defers, hd]
  have key : nx ≤ S'.nx ∧ (∃ r outs, aresT P S' fn.results.toList = some r ∧ (∀ k o, get outs k = some o → get S'.objs k = some o) ∧ R r outs) → ∃ v, (results fn a'.tmps).run P w' = .ok v w' ∧
      ((∃ x r outs nx' μ', Ending.returned v = .returned x ∧ R r outs ∧ nx ≤ nx' ∧ RelM (fun _ => False) B N μ' ⟨[(0, r)], outs, nx', 1⟩ ⟨#[x], []⟩ w') ∨ (∃ ch, Ending.returned v = .panicked ch ∧ E ch ∧ B.Below w')) := by
    rintro ⟨hnx, r, outs, h1, h2, h3⟩
    obtain ⟨x, hx, hex⟩ := aresT_run hr' h1
    exact ⟨x, hx, .inl ⟨x, r, outs, S'.nx, μ', rfl, h3, hnx, hr'.leave hd hex h2⟩⟩
  cases e with
  | ret => exact ⟨hdf, key hE⟩
  | normal => exact ⟨hdf, key hE⟩
  | panic ch => exact ⟨hdf, .inr ⟨ch, rfl, hE, hr'.below⟩⟩
  | exit id => exact hE.elim
  | goto l => exact hE.elim
  | outgrown => exact hE.elim

theorem get_app {α : Type} (r : List (Nat × α)) (t : Nat) : ∀ (l : List (Nat × α)), get (l ++ r) t = match get l t with | some x => some x | none => get r t
  | [] => rfl
  | (k, x) :: l => by
    simp only [List.cons_append, get_cons]
    split
    · rfl
    · exact get_app r t l

/-- Objects of the call's own: their blocks. -/
def OwnB (μ : Mu) (objs : List (Nat × Ob)) (b : Nat) : Prop := ∃ d o cap, get objs d = some o ∧ μ d o.v = some (some (b, cap))

/-- The frame of a callee that is handed the objects ins. -/
theorem RelM.hand {D : Nat → Prop} {μ : Mu} {a : Act} {w : World} (h : RelM D w0 N0 μ S a w) {nx : Nat} (hnx : ∀ d v, μ d v ≠ none → v < nx) {vs : List V} {xs : List Value} {ins : List (Nat × Ob)} (hlen : xs.length = vs.length)
    (hins : ∀ k o, get ins k = some o → get S.objs k = some o) (hx : ∀ (i : Nat) x v, xs[i]? = some x → vs[i]? = some v → Enc w (Own N0 μ S) μ x v) :
    RelM (fun _ => False) ⟨w, OwnB μ ins, μ, []⟩ (fun b => Own N0 μ S b ∧ ¬ OwnB μ ins b) μ ⟨env0 0 vs, ins, nx, vs.length⟩ ⟨xs.toArray, []⟩ w := by
  have hk := Keeps.refl w (Own N0 μ S)
  have hsub : ∀ b, b < w.heap.size → Own (fun b => Own N0 μ S b ∧ ¬ OwnB μ ins b) μ ⟨env0 0 vs, ins, nx, vs.length⟩ b → Own N0 μ S b := by
    rintro b _ (h0 | ⟨d, o, c, h1, h2⟩)
    · exact h0.1
    · exact .inr ⟨d, o, c, hins _ _ h1, h2⟩
  refine ⟨rfl, by simp [hlen], Bs.Below.refl _, ⟨fun b hb => ⟨?_, hb.2⟩, fun _ _ _ hh => hh⟩, fun d v hv => .inl (hnx d v hv), fun d o hd => ?_, fun d o d' o' g c c' h1 h2 => h.inj d o d' o' g c c' (hins _ _ h1) (hins _ _ h2), fun t v hv => ?_⟩
  · exact h.own_lt b hb.1
  · obtain ⟨l, hl, hob⟩ := h.objs d o (hins d o hd)
    refine ⟨l, hl, ?_⟩
    have := hob.keep hk hsub (fun _ _ _ hh => hh) (fun _ _ _ => rfl)
    cases l with
    | none => exact this
    | some gc => exact ⟨.inr ⟨d, o, gc.2, hd, hl⟩, this.2⟩
  · obtain ⟨_, h2⟩ := get_env0 hv
    simp only [Nat.sub_zero] at h2
    have ht : t < vs.length := (List.getElem?_eq_some_iff.1 h2).1
    refine ⟨ht, ?_⟩
    have hxt : xs[t]? = some xs[t] := List.getElem?_eq_getElem (by omega)
    have : xs.toArray.getD t undef = xs[t] := by simp [hxt]
    rw [this]
    exact (hx t xs[t] v hxt h2).keep hk hsub (fun _ _ _ hh => hh)

/-- The caller's state behind a call that was handed the objects ins and left outs. -/
theorem RelM.back {D : Nat → Prop} {μ μ' : Mu} {a : Act} {w w' : World} (h : RelM D w0 N0 μ S a w) {ins outs : List (Nat × Ob)} {nx' : Nat} {r : V} {x : Value} (hins : ∀ k o, get ins k = some o → get S.objs k = some o)
    (hcov : ∀ k, get outs k = none → get ins k = none)
    (hr : RelM (fun _ => False) ⟨w, OwnB μ ins, μ, []⟩ (fun b => Own N0 μ S b ∧ ¬ OwnB μ ins b) μ' ⟨[(0, r)], outs, nx', 1⟩ ⟨#[x], []⟩ w') :
    RelM (fun _ => False) w0 N0 μ' { S with objs := outs ++ S.objs, nx := nx' } a w' ∧ Enc w' (Own N0 μ' { S with objs := outs ++ S.objs, nx := nx' }) μ' x r := by
  have hμ : ∀ d v l, μ d v = some l → μ' d v = some l := hr.n0.2
  have happ : ∀ d o, get (outs ++ S.objs) d = some o → get outs d = some o ∨ (get outs d = none ∧ get S.objs d = some o) := by
    intro d o hd
    rw [get_app] at hd
    cases ho : get outs d with
    | none => rw [ho] at hd; exact .inr ⟨rfl, hd⟩
    | some q => rw [ho] at hd; exact .inl hd
  -- an object that was not handed over has a block of its own
  have hrest : ∀ d o g c, get S.objs d = some o → get ins d = none → μ d o.v = some (some (g, c)) → ¬ OwnB μ ins g := by
    rintro d o g c h1 h2 h3 ⟨d', o', c', h4, h5⟩
    have := h.inj d o d' o' g c c' h1 (hins _ _ h4) h3 h5
    subst this
    rw [h2] at h4
    cases h4
  have hkeep : Keeps w (Own N0 μ S) w' := ⟨hr.below.size, fun b hb hn => hr.below.block b hb (fun ⟨d, o, c, h1, h2⟩ => hn (.inr ⟨d, o, c, hins _ _ h1, h2⟩))⟩
  have hfreeB : ∀ g, (⟨w, OwnB μ ins, μ, []⟩ : Bs).free g → w0.free g := by
    rintro g (hg | ⟨d, o, c, h1, h2⟩)
    · exact .inl (Nat.le_trans h.below.size hg)
    · obtain ⟨l, hl, hob⟩ := h.objs d o (hins _ _ h1)
      rw [h2] at hl
      injection hl with hl
      subst hl
      exact hob.1
  have houtfree : ∀ d o g c, get outs d = some o → μ' d o.v = some (some (g, c)) → (⟨w, OwnB μ ins, μ, []⟩ : Bs).free g := by
    intro d o g c h1 h2
    obtain ⟨l, hl, hob⟩ := hr.objs d o h1
    rw [h2] at hl
    injection hl with hl
    subst hl
    exact hob.1
  have hsame : ∀ d o, get S.objs d = some o → ∀ l, μ' d o.v = some l → μ d o.v = some l := by
    intro d o h1 l h2
    obtain ⟨l', hl', _⟩ := h.objs d o h1
    have := hμ _ _ _ hl'
    rw [h2] at this
    injection this with this
    rw [hl', this]
  have hsub : ∀ b, b < w.heap.size → Own N0 μ' { S with objs := outs ++ S.objs, nx := nx' } b → Own N0 μ S b := by
    rintro b hb (h0 | ⟨d, o, c, h1, h2⟩)
    · exact .inl h0
    · rcases happ d o h1 with h3 | ⟨_, h4⟩
      · rcases houtfree d o b c h3 h2 with h5 | ⟨d', o', c', h6, h7⟩
        · exact absurd hb (Nat.not_lt.2 h5)
        · exact .inr ⟨d', o', c', hins _ _ h6, h7⟩
      · exact .inr ⟨d, o, c, h4, hsame d o h4 _ h2⟩
  have hsub' : ∀ b, b < w'.heap.size → Own N0 μ' { S with objs := outs ++ S.objs, nx := nx' } b → Own (fun b => Own N0 μ S b ∧ ¬ OwnB μ ins b) μ' ⟨[(0, r)], outs, nx', 1⟩ b := by
    rintro b hb (h0 | ⟨d, o, c, h1, h2⟩)
    · by_cases hB : OwnB μ ins b
      · obtain ⟨d, o, c, h1, h2⟩ := hB
        obtain ⟨l, hl, hob⟩ := h.objs d o (hins _ _ h1)
        rw [h2] at hl
        injection hl with hl
        subst hl
        exact absurd hob.1 (fun hf => hf.elim (fun h => by have := (‹RelM D w0 N0 μ S a w›.n0.1 b h0).1; omega) (‹RelM D w0 N0 μ S a w›.n0.1 b h0).2)
      · exact .inl ⟨.inl h0, hB⟩
    · rcases happ d o h1 with h3 | ⟨h3, h4⟩
      · exact .inr ⟨d, o, c, h3, h2⟩
      · have h5 := hsame d o h4 _ h2
        exact .inl ⟨.inr ⟨d, o, c, h4, h5⟩, hrest d o b c h4 (hcov d h3) h5⟩
  refine ⟨⟨h.defers, h.size, ?_, ⟨h.n0.1, fun d v l hl => hμ _ _ _ (h.n0.2 d v l hl)⟩, fun d v hv => ?_, fun d o hd => ?_, fun d o d' o' g c c' h1 h2 h3 h4 => ?_, fun t v hv => ⟨(h.env t v hv).1, (h.env t v hv).2.keep hkeep hsub hμ⟩⟩, ?_⟩
  · refine ⟨hr.below.os.trans h.below.os, hr.below.tape.trans h.below.tape, hr.below.output.trans h.below.output, Nat.le_trans h.below.size hr.below.size, fun k hk hX => ?_⟩
    refine (hr.below.block k (Nat.lt_of_lt_of_le hk h.below.size) (fun hB => ?_)).trans (h.below.block k hk hX)
    rcases hfreeB k (.inr hB) with h1 | h1
    · omega
    · exact hX h1
  · rcases hr.fresh d v hv with h1 | ⟨j, hj, _⟩
    · exact .inl h1
    · exact hj.elim
  · rcases happ d o hd with h1 | ⟨h1, h2⟩
    · obtain ⟨l, hl, hob⟩ := hr.objs d o h1
      refine ⟨l, hl, ?_⟩
      have := hob.keep (Keeps.refl w' _) hsub' (fun _ _ _ hh => hh) (fun _ _ _ => rfl)
      cases l with
      | none => exact this
      | some gc => exact ⟨hfreeB _ this.1, this.2⟩
    · obtain ⟨l, hl, hob⟩ := h.objs d o h2
      refine ⟨l, hμ _ _ _ hl, hob.keep hkeep hsub hμ (fun g c e => ?_)⟩
      subst e
      exact hr.below.block g (h.block_lt h2 hl) (hrest d o g c h2 (hcov d h1) hl)
  · have mixed : ∀ d o d' o' g c c', get outs d = some o → μ' d o.v = some (some (g, c)) → get outs d' = none → get S.objs d' = some o' → μ' d' o'.v = some (some (g, c')) → False := by
      intro d o d' o' g c c' h1 h2 h3 h4 h5
      have h6 := hsame d' o' h4 _ h5
      rcases houtfree d o g c h1 h2 with h7 | h7
      · exact absurd (h.block_lt h4 h6) (Nat.not_lt.2 h7)
      · exact hrest d' o' g c' h4 (hcov d' h3) h6 h7
    rcases happ d o h1 with a1 | ⟨a1, a2⟩ <;> rcases happ d' o' h2 with b1 | ⟨b1, b2⟩
    · exact hr.inj d o d' o' g c c' a1 b1 h3 h4
    · exact (mixed d o d' o' g c c' a1 h3 b1 b2 h4).elim
    · exact (mixed d' o' d o g c' c b1 h4 a1 a2 h3).elim
    · exact h.inj d o d' o' g c c' a2 b2 (hsame d o a2 _ h3) (hsame d' o' b2 _ h4)
  · have := (hr.env 0 r (by simp [get])).2
    simp only [Array.getD_eq_getD_getElem?] at this
    exact Enc.keep (Keeps.refl w' _) hsub' (fun _ _ _ hh => hh) (by simpa using this)

/-- The caller's state behind a call that panicked: what was not handed over is as it was. -/
theorem RelM.lost {D : Nat → Prop} {μ : Mu} {a : Act} {w w' : World} (h : RelM D w0 N0 μ S a w) {nx : Nat} (hnx : ∀ d v, μ d v ≠ none → v < nx) {ins : List (Nat × Ob)} {objs : List (Nat × Ob)} (hins : ∀ k o, get ins k = some o → get S.objs k = some o)
    (hobj : ∀ k o, get objs k = some o → get S.objs k = some o ∧ get ins k = none) (hb : (⟨w, OwnB μ ins, μ, []⟩ : Bs).Below w') : RelM (fun _ => False) w0 N0 μ { S with objs := objs, nx := nx } a w' := by
  have hkeep : Keeps w (Own N0 μ S) w' := ⟨hb.size, fun b hb' hn => hb.block b hb' (fun ⟨d, o, c, h1, h2⟩ => hn (.inr ⟨d, o, c, hins _ _ h1, h2⟩))⟩
  have hsub : ∀ b, b < w.heap.size → Own N0 μ { S with objs := objs, nx := nx } b → Own N0 μ S b := by
    rintro b _ (h0 | ⟨d, o, c, h1, h2⟩)
    · exact .inl h0
    · exact .inr ⟨d, o, c, (hobj _ _ h1).1, h2⟩
  have hrest : ∀ d o g c, get S.objs d = some o → get ins d = none → μ d o.v = some (some (g, c)) → ¬ OwnB μ ins g := by
    rintro d o g c h1 h2 h3 ⟨d', o', c', h4, h5⟩
    have := h.inj d o d' o' g c c' h1 (hins _ _ h4) h3 h5
    subst this
    rw [h2] at h4
    cases h4
  refine ⟨h.defers, h.size, ?_, h.n0, fun d v hv => .inl (hnx d v hv), fun d o hd => ?_, fun d o d' o' g c c' h1 h2 => h.inj d o d' o' g c c' (hobj _ _ h1).1 (hobj _ _ h2).1, fun t v hv => ⟨(h.env t v hv).1, (h.env t v hv).2.keep hkeep hsub (fun _ _ _ hh => hh)⟩⟩
  · refine ⟨hb.os.trans h.below.os, hb.tape.trans h.below.tape, hb.output.trans h.below.output, Nat.le_trans h.below.size hb.size, fun k hk hX => ?_⟩
    refine (hb.block k (Nat.lt_of_lt_of_le hk h.below.size) (fun ⟨d, o, c, h1, h2⟩ => ?_)).trans (h.below.block k hk hX)
    obtain ⟨l, hl, hob⟩ := h.objs d o (hins _ _ h1)
    rw [h2] at hl
    injection hl with hl
    subst hl
    rcases hob.1 with h3 | h3
    · omega
    · exact hX h3
  · obtain ⟨h1, h2⟩ := hobj d o hd
    obtain ⟨l, hl, hob⟩ := h.objs d o h1
    refine ⟨l, hl, hob.keep hkeep hsub (fun _ _ _ hh => hh) (fun g c e => ?_)⟩
    subst e
    exact hb.block g (h.block_lt h1 hl) (hrest d o g c h1 h2 hl)

theorem RelM.fresh_lt {D : Nat → Prop} {μ : Mu} {a : Act} {w : World} (h : RelM D w0 N0 μ S a w) {i : Nat} (hD : ∀ j, D j → j < i) : ∀ d v, μ d v ≠ none → v < S.nx + i + 1 := by
  intro d v hv
  rcases h.fresh d v hv with h1 | ⟨j, hj, e⟩
  · omega
  · have := hD j hj
    omega

theorem fn_eval {D : Nat → Prop} {μ : Mu} {a : Act} {w : World} (h : RelM D w0 N0 μ S a w) {f : Operand} {fid : FuncId} (hf : S.evc true f = some (.fn fid)) : a.eval f = .func (.func fid) #[] #[] := by
  have hfv := h.evc hf rfl
  generalize a.eval f = y at hfv
  cases hfv with
  | pur hfv => cases hfv with
    | fn => rfl

/-- Drops what is named. -/
def dropK {α : Type} (L : List Nat) : List (Nat × α) → List (Nat × α)
  | [] => []
  | (k, x) :: r => if L.contains k then dropK L r else (k, x) :: dropK L r
theorem get_dropK {α : Type} {L : List Nat} : ∀ {l : List (Nat × α)} {k : Nat} {x : α}, get (dropK L l) k = some x → get l k = some x ∧ k ∉ L
  | [], k, x, h => by simp [dropK, get] at h
  | (q, y) :: r, k, x, h => by
    simp only [dropK] at h
    split at h
    · rename_i hq
      obtain ⟨h1, h2⟩ := get_dropK h
      refine ⟨?_, h2⟩
      rw [get_cons, if_neg (fun e => h2 (by rw [← e]; simpa using hq))]
      exact h1
    · rename_i hq
      rw [get_cons] at h ⊢
      split
      · rename_i e
        rw [if_pos e] at h
        exact ⟨h, by rw [← e]; simpa using hq⟩
      · rename_i e
        rw [if_neg e] at h
        exact get_dropK h

theorem get_mem {α : Type} : ∀ {l : List (Nat × α)} {k : Nat} {x : α}, get l k = some x → k ∈ l.map (·.1)
  | [], k, x, h => by simp [get] at h
  | (q, y) :: r, k, x, h => by
    rw [get_cons] at h
    split at h
    · rename_i e; simp [e]
    · exact List.mem_cons_of_mem _ (get_mem h)

theorem call_run {o : Oper} {a : Act} {w : World} {f : Operand} {fid : FuncId} {fn : Func} {args : Array Operand} {ats : Array TypeId} (ho : o.op = .call { callee := .value f, args := args, argTypes := ats }) (hf : a.eval f = .func (.func fid) #[] #[])
    (hfn : P.funcs[fid]? = some fn) (hb : fn.body.isSome = true) (hn : (fn.name == "runtime.NumGoroutine") = false) {K : Act → World → Prop} {Q' : Exit → Act → World → Prop} {R : Ending → World → Prop}
    (hc : Calls P fid (args.toList.map a.eval).toArray w R) (h1 : ∀ x w', R (.returned x) w' → K (a.put o.dst x) w') (h2 : ∀ ch w', R (.panicked ch) w' → Q' (.panic ch) a w') (h3 : ∀ w', ¬ R .outgrown w') : o.wp P a w K Q' := by
  unfold Oper.wp
  rw [run_call_fn ho hf hfn hb hn]
  have harr : (args.toList.map a.eval).toArray = args.map a.eval := by apply Array.ext'; simp
  rw [harr] at hc
  refine hc.mono ?_
  intro e w' hR
  cases e with
  | returned x => exact h1 x w' hR
  | panicked ch => exact h2 ch w' hR
  | outgrown => exact (h3 w' hR).elim

/-- A call that is handed objects of the call's own. -/
theorem awl_callS {ops : List Oper} {i : Nat} {o : Oper} {rest : List Oper} {f : Operand} {fid : FuncId} {fn : Func} {args : Array Operand} {ats : Array TypeId} {vs : List V} {ins : List (Nat × Ob)} {R : V → List (Nat × Ob) → Prop} {E : List PanicEntry → Prop}
    (hc : ACS P fid vs ins R E) (hfn : P.funcs[fid]? = some fn) (hb : fn.body.isSome = true) (hn : (fn.name == "runtime.NumGoroutine") = false)
    (hg : S.gv ops o = some true) (ho : o.op = .call { callee := .value f, args := args, argTypes := ats }) (hf : S.evc true f = some (.fn fid))
    (ha : S.args true args.toList = some vs) (hins : ∀ k q, get ins k = some q → get S.objs k = some q)
    (h : ∀ r outs nx, R r outs → S.nx + i + 1 ≤ nx → (∀ k, get outs k = none → get ins k = none) ∧ ∃ S', ({ S with objs := outs ++ S.objs, nx := nx } : AS).putv o.dst (wrapG o true r) = some S' ∧ AWL P w0 N0 ops Q (i + 1) rest S')
    (hE : ∀ ch, E ch → Q (.panic ch) { S with objs := dropK (ins.map (·.1)) S.objs, nx := S.nx + i + 1 }) : AWL P w0 N0 ops Q i (o :: rest) S := by
  rintro D a w hD ⟨μ, hr⟩
  refine wpList_step fun K hK => ?_
  rw [wanted_of hr hg, if_pos rfl]
  have hfresh := hr.fresh_lt hD
  obtain ⟨h1, h2⟩ := args_spec hr rfl ha
  have hhand := hr.hand (nx := S.nx + i + 1) hfresh (vs := vs) (xs := args.toList.map a.eval) (ins := ins) (by simp [h1]) hins (fun j x v hx hv => by
    simp only [List.getElem?_map, Option.map_eq_some_iff] at hx
    obtain ⟨y, hy, rfl⟩ := hx
    exact h2 j y v hy hv)
  have hcall := hc ⟨w, OwnB μ ins, μ, []⟩ _ μ (S.nx + i + 1) (args.toList.map a.eval) (by simp [h1]) rfl hhand
  refine call_run ho (fn_eval hr hf) hfn hb hn hcall ?_ ?_ ?_
  · rintro x w' (⟨x', r, outs, nx', μ', he, hR, hnx, hrel⟩ | ⟨ch, he, _⟩)
    · injection he with he
      subst he
      obtain ⟨hcov, S', hs, hrest⟩ := h r outs nx' hR hnx
      obtain ⟨hb1, hb2⟩ := hr.back hins hcov hrel
      refine hK _ _ (hrest (fun _ => False) _ w' (fun j hj => hj.elim) ⟨μ', hb1.putv hs ?_⟩)
      unfold wrapG
      split
      · exact hb2
      · exact .whn _ _ _ (fun _ => hb2) (fun hf => by cases hf)
    · cases he
  · rintro ch w' (⟨x', r, outs, nx', μ', he, _⟩ | ⟨ch', he, hEc, hbw⟩)
    · cases he
    · injection he with he
      subst he
      refine ⟨_, hE ch hEc, μ, hr.lost hfresh hins (fun k q hq => ?_) hbw⟩
      obtain ⟨h3, h4⟩ := get_dropK hq
      refine ⟨h3, ?_⟩
      cases hk : get ins k with
      | none => rfl
      | some q' => exact absurd (get_mem hk) h4
  · rintro w' (⟨x', r, outs, nx', μ', he, _⟩ | ⟨ch', he, _⟩) <;> cases he
end
end Go.Eng

/- Calls that write objects handed in by pointer, in regions whose order is left open; panics. No condition. -/
set_option linter.unusedSimpArgs false
namespace Go.Eng
open Go.RowKit

/-- The objects outs are those of ins with other elements, which hold no reference to objects. -/
def storeOnly (ins outs : List (Nat × Ob)) : Bool :=
  (outs.all fun p => match get ins p.1 with | some q => q.v == p.2.v && q.sz == p.2.sz && q.ty == p.2.ty && p.2.es.all V.pureE | none => false) && (ins.all fun p => (get outs p.1).isSome)
attribute [simp] storeOnly

theorem get_in {α : Type} : ∀ {l : List (Nat × α)} {k : Nat} {x : α}, get l k = some x → (k, x) ∈ l
  | [], k, x, h => by simp [get] at h
  | (q, y) :: r, k, x, h => by
    rw [get_cons] at h
    split at h
    · rename_i e; injection h with h; subst e; subst h; simp
    · exact List.mem_cons_of_mem _ (get_in h)

theorem storeOnly_spec {ins outs : List (Nat × Ob)} (h : storeOnly ins outs = true) : (∀ k o, get outs k = some o → ∃ q, get ins k = some q ∧ q.v = o.v ∧ o.es.all V.pureE = true) ∧ ∀ k, get outs k = none → get ins k = none := by
  simp only [storeOnly, Bool.and_eq_true] at h
  refine ⟨fun k o ho => ?_, fun k hk => ?_⟩
  · have := List.all_eq_true.1 h.1 (k, o) (get_in ho)
    simp only at this
    split at this
    · rename_i q hq
      simp only [Bool.and_eq_true, beq_iff_eq] at this
      exact ⟨q, hq, this.1.1.1, this.2⟩
    · cases this
  · cases hq : get ins k with
    | none => rfl
    | some q =>
      have := List.all_eq_true.1 h.2 (k, q) (get_in hq)
      simp only [hk] at this
      cases this

section
variable {P : Program} {kb : Nat} {w0 : Bs} {N0 : Nat → Prop} {Q : Exit → AS → Prop} {S S' : AS}

/-- The caller's state behind a call that only wrote into the objects handed over: names stay. -/
theorem RelM.back0 {D : Nat → Prop} {μ μ' : Mu} {a : Act} {w w' : World} (h : RelM D w0 N0 μ S a w) {ins outs : List (Nat × Ob)} {nx' : Nat} {r : V} {x : Value} (hins : ∀ k o, get ins k = some o → get S.objs k = some o)
    (hso : storeOnly ins outs = true) (hp : r.pureV = true)
    (hr : RelM (fun _ => False) ⟨w, OwnB μ ins, μ, []⟩ (fun b => Own N0 μ S b ∧ ¬ OwnB μ ins b) μ' ⟨[(0, r)], outs, nx', 1⟩ ⟨#[x], []⟩ w') :
    RelM D w0 N0 μ { S with objs := outs ++ S.objs } a w' ∧ Pur w' (Own N0 μ { S with objs := outs ++ S.objs }) x r := by
  obtain ⟨hso1, hcov⟩ := storeOnly_spec hso
  obtain ⟨hb1, hb2⟩ := h.back hins hcov hr
  have hμ : ∀ d v l, μ d v = some l → μ' d v = some l := hr.n0.2
  have happ : ∀ d o, get (outs ++ S.objs) d = some o → get outs d = some o ∨ (get outs d = none ∧ get S.objs d = some o) := by
    intro d o hd
    rw [get_app] at hd
    cases ho : get outs d with
    | none => rw [ho] at hd; exact .inr ⟨rfl, hd⟩
    | some q => rw [ho] at hd; exact .inl hd
  -- every object's name is an old one
  have hold : ∀ d o, get (outs ++ S.objs) d = some o → ∃ l, μ d o.v = some l := by
    intro d o hd
    rcases happ d o hd with h1 | ⟨_, h1⟩
    · obtain ⟨q, h2, h3, _⟩ := hso1 d o h1
      obtain ⟨l, hl, _⟩ := h.objs d q (hins _ _ h2)
      exact ⟨l, by rw [← h3]; exact hl⟩
    · obtain ⟨l, hl, _⟩ := h.objs d o h1
      exact ⟨l, hl⟩
  have hsame : ∀ d o, get (outs ++ S.objs) d = some o → μ' d o.v = μ d o.v := by
    intro d o hd
    obtain ⟨l, hl⟩ := hold d o hd
    rw [hl, hμ _ _ _ hl]
  have hown : Own N0 μ' { S with objs := outs ++ S.objs, nx := nx' } = Own N0 μ { S with objs := outs ++ S.objs } := by
    funext b
    unfold Own
    refine propext ⟨?_, ?_⟩
    · rintro (h0 | ⟨d, o, c, h1, h2⟩)
      · exact .inl h0
      · exact .inr ⟨d, o, c, h1, by rw [← hsame d o h1]; exact h2⟩
    · rintro (h0 | ⟨d, o, c, h1, h2⟩)
      · exact .inl h0
      · exact .inr ⟨d, o, c, h1, by rw [hsame d o h1]; exact h2⟩
  have hkeep : Keeps w (Own N0 μ S) w' := ⟨hr.below.size, fun b hb hn => hr.below.block b hb (fun ⟨d, o, c, h1, h2⟩ => hn (.inr ⟨d, o, c, hins _ _ h1, h2⟩))⟩
  have hsub : ∀ b, b < w.heap.size → Own N0 μ { S with objs := outs ++ S.objs } b → Own N0 μ S b := by
    rintro b hb (h0 | ⟨d, o, c, h1, h2⟩)
    · exact .inl h0
    · rcases happ d o h1 with h3 | ⟨_, h4⟩
      · obtain ⟨q, h5, h6, _⟩ := hso1 d o h3
        exact .inr ⟨d, q, c, hins _ _ h5, by rw [h6]; exact h2⟩
      · exact .inr ⟨d, o, c, h4, h2⟩
  refine ⟨⟨h.defers, h.size, hb1.below, h.n0, h.fresh, fun d o hd => ?_, fun d o d' o' g c c' h1 h2 h3 h4 => hb1.inj d o d' o' g c c' h1 h2 (by rw [hsame d o h1]; exact h3) (by rw [hsame d' o' h2]; exact h4), fun t v hv => ⟨(h.env t v hv).1, (h.env t v hv).2.keep hkeep hsub (fun _ _ _ hh => hh)⟩⟩, ?_⟩
  · rcases happ d o hd with h1 | ⟨h1, h2⟩
    · obtain ⟨l, hl, hob⟩ := hb1.objs d o hd
      rw [hsame d o hd] at hl
      refine ⟨l, hl, ?_⟩
      obtain ⟨_, _, _, hpe⟩ := hso1 d o h1
      cases l with
      | none => exact hob
      | some gc =>
        obtain ⟨o1, o2, o3, o4, arr, o5, o6, o7⟩ := hob
        refine ⟨o1, o2, o3, o4, arr, o5, o6, fun k e j c he hj => ?_⟩
        obtain ⟨y, hy, hey⟩ := o7 k e j c he hj
        refine ⟨y, hy, .pur ?_⟩
        rw [← hown]
        exact hey.pureC (List.all_eq_true.1 (List.all_eq_true.1 hpe e (List.mem_of_getElem? he)) c (List.mem_of_getElem? hj))
    · obtain ⟨l, hl, hob⟩ := h.objs d o h2
      refine ⟨l, hl, hob.keep hkeep hsub (fun _ _ _ hh => hh) (fun g c e => ?_)⟩
      subst e
      refine hr.below.block g (h.block_lt h2 hl) ?_
      rintro ⟨d', q, c', h4, h5⟩
      have := h.inj d o d' q g c c' h2 (hins _ _ h4) hl h5
      subst this
      rw [hcov d h1] at h4
      cases h4
  · rw [← hown]
    exact hb2.pureV hp

/-- A call that writes into objects of the call's own. -/
theorem sx_callS {X : List Nat} {ops : List Oper} {i : Nat} {o : Oper} {f : Operand} {fid : FuncId} {fn : Func} {args : Array Operand} {ats : Array TypeId} {vs : List V} {ins outs : List (Nat × Ob)} {res : V}
    (hX : i ∈ X) (hc : ACS P fid vs ins (fun r q => r = res ∧ q = outs) (fun _ => False)) (hso : storeOnly ins outs = true) (hp : res.pureV = true) (hfn : P.funcs[fid]? = some fn) (hb : fn.body.isSome = true) (hn : (fn.name == "runtime.NumGoroutine") = false)
    (hg : S.gv ops o = some true) (ho : o.op = .call { callee := .value f, args := args, argTypes := ats }) (hf : S.evc true f = some (.fn fid))
    (ha : S.args true args.toList = some vs) (hins : ∀ k q, get ins k = some q → get S.objs k = some q) (hs : ({ S with objs := outs ++ S.objs } : AS).putv o.dst (wrapG o true res) = some S') : StepX P kb w0 X ops i o S S' := by
  obtain ⟨hs1, hs2⟩ := putv_ap hs
  refine .inr (.inr ⟨hX, wrapG o true res, outs, by rw [hs1]; rfl, fun T hT hob N0 D a w hr hi hDb K Q' hK => ?_⟩)
  replace hg : T.gv ops o = some true := by rw [← hT.gv]; exact hg
  replace hf : T.evc true f = some (.fn fid) := by rw [← hT.evc (by rw [ho]; simp [Op.operands, Call.operands])]; exact hf
  replace ha : T.args true args.toList = some vs := by rw [← args_congr (S := S) (T := T) (fun x hx => hT.evc (by rw [ho]; simp [Op.operands, Call.operands]; right; simpa using hx) true)]; exact ha
  replace hins : ∀ k q, get ins k = some q → get T.objs k = some q := fun k q hk => by rw [← hob]; exact hins k q hk
  obtain ⟨μ, hr⟩ := hr
  rw [wanted_of hr hg, if_pos rfl]
  obtain ⟨h1, h2⟩ := args_spec hr rfl ha
  have hfresh := hr.fresh_lt hDb
  have hhand := hr.hand (nx := T.nx + ops.length + 1) hfresh (vs := vs) (xs := args.toList.map a.eval) (ins := ins) (by simp [h1]) hins (fun j x v hx hv => by
    simp only [List.getElem?_map, Option.map_eq_some_iff] at hx
    obtain ⟨y, hy, rfl⟩ := hx
    exact h2 j y v hy hv)
  have hcall := hc ⟨w, OwnB μ ins, μ, []⟩ _ μ (T.nx + ops.length + 1) (args.toList.map a.eval) (by simp [h1]) rfl hhand
  refine call_run ho (fn_eval hr hf) hfn hb hn hcall ?_ ?_ ?_
  · rintro x w' (⟨x', r, outs', nx', μ', he, ⟨rfl, rfl⟩, hnx, hrel⟩ | ⟨ch, he, _⟩)
    · injection he with he
      subst he
      obtain ⟨hb1, hb2⟩ := hr.back0 hins hso hp hrel
      have hput := ap_putv (S := { T with objs := outs' ++ T.objs }) (dst := o.dst) (wrapG o true r) (fun d hd => by have := hs2 d hd; simp only at this ⊢; rw [← hT.2.1]; exact this)
      refine hK _ _ ⟨μ, (hb1.putv hput ?_).more (fun j hj => .inl hj)⟩
      unfold wrapG
      split
      · exact .pur hb2
      · exact .whn _ _ _ (fun _ => .pur hb2) (fun hf => by cases hf)
    · cases he
  · rintro ch w' (⟨x', r, outs', nx', μ', he, _⟩ | ⟨ch', _, hE, _⟩)
    · cases he
    · exact hE.elim
  · rintro w' (⟨x', r, outs', nx', μ', he, _⟩ | ⟨ch', he, _⟩) <;> cases he

/-- A call that panics. -/
theorem pan_callS {ops : List Oper} {i : Nat} {o : Oper} {f : Operand} {fid : FuncId} {fn : Func} {args : Array Operand} {ats : Array TypeId} {vs : List V} {ins : List (Nat × Ob)} {E : List PanicEntry → Prop}
    (hc : ACS P fid vs ins (fun _ _ => False) E) (hfn : P.funcs[fid]? = some fn) (hb : fn.body.isSome = true) (hn : (fn.name == "runtime.NumGoroutine") = false)
    (hg : S.gv ops o = some true) (ho : o.op = .call { callee := .value f, args := args, argTypes := ats }) (hf : S.evc true f = some (.fn fid))
    (ha : S.args true args.toList = some vs) (hins : ∀ k q, get ins k = some q → get S.objs k = some q) {objs : List (Nat × Ob)} (hobj : ∀ k q, get objs k = some q → get S.objs k = some q ∧ get ins k = none)
    (hE : ∀ ch, E ch → Q (.panic ch) ⟨[], objs, S.nx + ops.length + 1, S.nt⟩) : PanStep P w0 ops i o Q S := by
  intro T hT hob N0 D a w hr hi hDb
  replace hg : T.gv ops o = some true := by rw [← hT.gv]; exact hg
  replace hf : T.evc true f = some (.fn fid) := by rw [← hT.evc (by rw [ho]; simp [Op.operands, Call.operands])]; exact hf
  replace ha : T.args true args.toList = some vs := by rw [← args_congr (S := S) (T := T) (fun x hx => hT.evc (by rw [ho]; simp [Op.operands, Call.operands]; right; simpa using hx) true)]; exact ha
  replace hins : ∀ k q, get ins k = some q → get T.objs k = some q := fun k q hk => by rw [← hob]; exact hins k q hk
  replace hobj : ∀ k q, get objs k = some q → get T.objs k = some q ∧ get ins k = none := fun k q hk => by rw [← hob]; exact hobj k q hk
  obtain ⟨μ, hr⟩ := hr
  refine ⟨wanted_of hr hg, fun K => ?_⟩
  obtain ⟨h1, h2⟩ := args_spec hr rfl ha
  have hfresh := hr.fresh_lt hDb
  have hhand := hr.hand (nx := T.nx + ops.length + 1) hfresh (vs := vs) (xs := args.toList.map a.eval) (ins := ins) (by simp [h1]) hins (fun j x v hx hv => by
    simp only [List.getElem?_map, Option.map_eq_some_iff] at hx
    obtain ⟨y, hy, rfl⟩ := hx
    exact h2 j y v hy hv)
  have hcall := hc ⟨w, OwnB μ ins, μ, []⟩ _ μ (T.nx + ops.length + 1) (args.toList.map a.eval) (by simp [h1]) rfl hhand
  refine call_run ho (fn_eval hr hf) hfn hb hn hcall ?_ ?_ ?_
  · rintro x w' (⟨x', r, outs', nx', μ', he, hF, _⟩ | ⟨ch, he, _⟩)
    · exact hF.elim
    · cases he
  · rintro ch w' (⟨x', r, outs', nx', μ', he, _⟩ | ⟨ch', he, hEc, hbw⟩)
    · cases he
    · injection he with he
      subst he
      have hl := hr.lost hfresh hins hobj hbw
      refine ⟨_, hE ch hEc, μ, hl.defers, by rw [hT.2.1]; exact hl.size, hl.below, hl.n0, by rw [hT.2.2]; exact hl.fresh, hl.objs, hl.inj, fun t v hv => by simp [get] at hv⟩
  · rintro w' (⟨x', r, outs', nx', μ', he, _⟩ | ⟨ch', he, _⟩) <;> cases he

/-- The value of an interface that holds no memory. -/
def V.val1 : V → Option Value
  | .bool b => some (.bool b)
  | .int k n => some (.int k n)
  | .str l => some (.string ⟨l.toArray⟩)
  | _ => none
theorem Enc.val1 {w : World} {N : Nat → Prop} {μ : Mu} {x y : Value} {v : V} (h : Enc w N μ x v) (hv : v.val1 = some y) : x = y := by
  cases v <;> simp only [V.val1, Option.some.injEq] at hv <;> try (cases hv; done)
  all_goals
    subst hv
    cases h with
    | pur h => cases h; rfl
/-- panic(x). -/
theorem awl_panic {ops : List Oper} {i : Nat} {o : Oper} {rest : List Oper} {x : Operand} {t : TypeId} {v : V} {y : Value} (hg : S.gv ops o = some true) (ho : o.op = .panic x) (hx : S.evc true x = some (.ifc t v)) (hy : v.val1 = some y)
    (h : Q (.panic [{ v := .iface t y, recovered := false }]) { S with nx := S.nx + i + 1 }) : AWL P w0 N0 ops Q i (o :: rest) S := by
  rintro D a w hD ⟨μ, hr⟩
  refine wpList_step fun K hK => ?_
  rw [wanted_of hr hg, if_pos rfl]
  have hxe := hr.evc hx rfl
  have he : a.eval x = .iface t y := by
    generalize a.eval x = z at hxe
    cases hxe with
    | pur hxe => cases hxe with
      | ifc _ z' _ _ hz => rw [(Enc.pur (μ := μ) hz).val1 hy]
    | ifc _ z' _ _ hz => rw [hz.val1 hy]
  unfold Oper.wp
  have hrun : (execOp a.eval o).run P w = .halt (.panic (.iface t y)) w := by
    unfold execOp
    rw [ho]
    simp only [he, Instr.panic, goPanic, Sem.run_bind]
    rfl
  rw [hrun]
  refine ⟨_, h, μ, hr.defers, hr.size, hr.below, hr.n0, fun d v hv => .inl (hr.fresh_lt hD d v hv), hr.objs, hr.inj, hr.env⟩
end
end Go.Eng
