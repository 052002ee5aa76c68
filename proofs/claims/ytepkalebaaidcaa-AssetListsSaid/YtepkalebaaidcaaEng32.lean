/- Regions whose order is left open, with guarded operations that make memory, calls on the call's own rows, and ways that part. No condition. -/
import Derived.Test.YtepkalebaaidcaaEng31
set_option linter.unusedSimpArgs false
namespace Go.Eng
open Go.RowKit

/-- A guarded operation that makes or writes memory and is run. -/
def GActStep (P : Program) (ops : List Oper) (i : Nat) (o : Oper) (S S' : AS) : Prop :=
  ∃ j want O v, o.guard = some (j, want) ∧ S.gd ops j want = some true ∧ acore P i S o.dst o.op = some (O, v) ∧ ({ S with objs := O } : AS).putv o.dst (.whn true v) = some S'
/-- A step that the model takes, whatever it is. -/
def GenStep (P : Program) (w0 : World) (ops : List Oper) (i : Nat) (o : Oper) (S S' : AS) : Prop :=
  ∀ (N0 : Nat → Prop) (D : Nat → Prop) (a : Act) (w : World), RelD D w0 N0 S a w → ¬ D i → ∀ (K : Act → World → Prop) (Q' : Exit → Act → World → Prop), (∀ a' w', RelD (fun j => D j ∨ j = i) w0 N0 S' a' w' → K a' w') →
    if Region.wanted o (yielded ops.toArray a.tmps) = true then o.wp P a w K Q' else K (a.put o.dst undef) w
def StepX (P : Program) (w0 : World) (X : List Nat) (ops : List Oper) (i : Nat) (o : Oper) (S S' : AS) : Prop := Step P w0 ops i o S S' ∨ GActStep P ops i o S S' ∨ (i ∈ X ∧ GenStep P w0 ops i o S S')
/-- What must not be passed over. -/
def opq (X : List Nat) (j : Nat) (o : Oper) : Bool := mapUp o.op || X.contains j

section
variable {P : Program} {w0 : World} {N0 : Nat → Prop} {Q : Exit → AS → Prop}

theorem RelM.whn {D : Nat → Prop} {μ : Mu} {S S1 S' : AS} {a : Act} {w : World} {dst : Option Nat} {v : V} (h1 : S.putv dst v = some S1) (h2 : S.putv dst (.whn true v) = some S') (h : RelM D w0 N0 μ S1 a w) : RelM D w0 N0 μ S' a w := by
  obtain ⟨rfl, _⟩ := putv_ap h1
  obtain ⟨rfl, _⟩ := putv_ap h2
  refine ⟨h.defers, h.size, h.below, h.n0, h.fresh, h.objs, h.inj, fun t u hu => ?_⟩
  cases dst with
  | none => exact h.env t u hu
  | some d =>
    simp only [AS.ap, get_cons] at hu
    by_cases hd : d = t
    · rw [if_pos hd] at hu
      injection hu with hu
      subst hu
      have := h.env t v (by simp only [AS.ap, get_cons]; rw [if_pos hd])
      exact ⟨this.1, .whn _ _ _ (fun _ => this.2) (fun hf => by cases hf)⟩
    · rw [if_neg hd] at hu
      exact h.env t u (by simp only [AS.ap, get_cons]; rw [if_neg hd]; exact hu)

theorem RelM.of_eqv {D : Nat → Prop} {μ : Mu} {S T : AS} {a : Act} {w : World} (he : S.eqv T) (h : RelM D w0 N0 μ S a w) : RelM D w0 N0 μ T a w := by
  have hown : Own N0 μ T = Own N0 μ S := by
    funext b
    unfold Own
    simp only [he.2.1]
  refine ⟨h.defers, by rw [← he.2.2.2]; exact h.size, h.below, h.n0, fun d v hv => by rw [← he.2.2.1]; exact h.fresh d v hv, fun d o ho => ?_, fun d o d' o' g c c' h1 h2 => h.inj d o d' o' g c c' (by rw [he.2.1]; exact h1) (by rw [he.2.1]; exact h2), fun t v hv => ?_⟩
  · rw [hown]; exact h.objs d o (by rw [he.2.1]; exact ho)
  · rw [hown, ← he.2.2.2]; exact h.env t v (by rw [he.1]; exact hv)
theorem RelD.of_eqv {D : Nat → Prop} {S T : AS} {a : Act} {w : World} (he : S.eqv T) : RelD D w0 N0 S a w → RelD D w0 N0 T a w := fun ⟨μ, h⟩ => ⟨μ, h.of_eqv he⟩
theorem AS.eqv.refl (S : AS) : S.eqv S := ⟨fun _ => rfl, fun _ => rfl, rfl, rfl⟩

theorem gact_sound {S S' : AS} {ops : List Oper} {i : Nat} {o : Oper} (hs : GActStep P ops i o S S') : GenStep P w0 ops i o S S' := by
  intro N0 D a w hr hi K Q' hK
  obtain ⟨j, want, O, v, hg, hc, hco, hput⟩ := hs
  obtain ⟨μ, hr⟩ := hr
  rw [gd_spec hr hg hc, if_pos rfl]
  obtain ⟨h1, h2⟩ := putv_ap hput
  have heff : aeff P i S o.dst o.op = some (({ S with objs := O } : AS).ap o.dst v []) := by
    unfold aeff
    simp only [hco]
    exact ap_putv v h2
  obtain ⟨x, w', hdo, μ', hrel⟩ := aeff_run hr hi heff
  have hrel' : RelD (fun j => D j ∨ j = i) w0 N0 S' (a.put o.dst x) w' := ⟨μ', hrel.whn (ap_putv v h2) hput⟩
  unfold Oper.wp
  rcases hdo with hx | ⟨hx, rfl⟩
  · rw [hx]; exact hK _ _ hrel'
  · rw [hx]; exact hK _ _ hrel'

theorem stepX_sound {X : List Nat} {S S' : AS} {D : Nat → Prop} {a : Act} {w : World} {ops : List Oper} {i : Nat} {o : Oper} (hr : RelD D w0 N0 S a w) (hi : ¬ D i) (hs : StepX P w0 X ops i o S S') {K : Act → World → Prop} {Q' : Exit → Act → World → Prop}
    (hK : ∀ a' w', RelD (fun j => D j ∨ j = i) w0 N0 S' a' w' → K a' w') :
    if Region.wanted o (yielded ops.toArray a.tmps) = true then o.wp P a w K Q' else K (a.put o.dst undef) w := by
  rcases hs with hs | hs | ⟨_, hs⟩
  · exact step_sound hr hi hs hK
  · exact gact_sound hs N0 D a w hr hi K Q' hK
  · exact hs N0 D a w hr hi K Q' hK

theorem gact_alike {ops : List Oper} {i : Nat} {o : Oper} {S S' : AS} (hs : GActStep P ops i o S S') : ∃ d ob v, S' = S.ap o.dst (.whn true v) [(d, ob)] ∧ acts o.op = true ∧ (makes o.op = true → o.dst = some d) ∧
    ∀ T, Alike ops o S T → (∀ d, get S.objs d = get T.objs d) → GActStep P ops i o T (T.ap o.dst (.whn true v) [(d, ob)]) := by
  obtain ⟨j, want, O, v, hg, hc, hco, hput⟩ := hs
  obtain ⟨h1, h2⟩ := putv_ap hput
  obtain ⟨d, ob, rfl, _, hmk⟩ := acore_congr (ops := ops) (T := S) ⟨fun _ _ => rfl, rfl, rfl⟩ (fun _ => rfl) hco
  refine ⟨d, ob, v, by rw [h1]; rfl, ?_, hmk, fun T hT hob => ?_⟩
  · cases h0 : acts o.op with
    | true => rfl
    | false => rw [acts_core h0] at hco; cases hco
  · obtain ⟨d', ob', he, hcT, _⟩ := acore_congr hT hob hco
    injection he with he _
    injection he with he1 he2
    subst he1; subst he2
    have hgvS : S.gv ops o = some true := by simp only [AS.gv, hg]; exact hc
    have hgT : T.gd ops j want = some true := by have := hT.gv; rw [hgvS] at this; simp only [AS.gv, hg] at this; exact this.symm
    refine ⟨j, want, _, v, hg, hgT, hcT, ?_⟩
    have := ap_putv (S := { T with objs := (d, ob) :: T.objs }) (dst := o.dst) (.whn true v) (fun d1 hd1 => by have := h2 d1 hd1; simp only at this ⊢; rw [← hT.2.1]; exact this)
    rw [this]
    rfl

theorem stepX_eqv {X : List Nat} {ops : List Oper} {i : Nat} {o : Oper} {S S' T : AS} (hs : StepX P w0 X ops i o S S') (h : S.eqv T) : ∃ T', StepX P w0 X ops i o T T' ∧ S'.eqv T' := by
  rcases hs with hs | hs | ⟨hX, hs⟩
  · obtain ⟨T', h1, h2⟩ := step_eqv hs h
    exact ⟨T', .inl h1, h2⟩
  · obtain ⟨d, ob, v, rfl, _, _, hall⟩ := gact_alike hs
    exact ⟨_, .inr (.inl (hall T ⟨fun t _ => h.1 t, h.2.2.2, h.2.2.1⟩ h.2.1)), ap_eqv h _ _ _⟩
  · exact ⟨S', .inr (.inr ⟨hX, fun N0 D a w hr hi K Q' hK => hs N0 D a w (hr.of_eqv h.symm) hi K Q' hK⟩), AS.eqv.refl _⟩

theorem stepX_spec {X : List Nat} {ops : List Oper} {i : Nat} {o : Oper} {S S' : AS} (hs : StepX P w0 X ops i o S S') (hmu : opq X i o = false) :
    ∃ u O, S' = S.ap o.dst u O ∧ (acts o.op = false → O = []) ∧ (makes o.op = true → ∀ d ob, (d, ob) ∈ O → o.dst = some d) ∧
      ∀ T, Alike ops o S T → (acts o.op = true → ∀ d, get S.objs d = get T.objs d) → (loads o.op = true → ∀ p r, S.place p = some r → T.place p = some r) → StepX P w0 X ops i o T (T.ap o.dst u O) := by
  simp only [opq, Bool.or_eq_false_iff] at hmu
  rcases hs with hs | hs | ⟨hX, hs⟩
  · obtain ⟨u, O, h1, h2, h3, h4⟩ := step_spec hs (.inl hmu.1)
    exact ⟨u, O, h1, h2, h3, fun T a b c => .inl (h4 T a b c)⟩
  · obtain ⟨d, ob, v, h1, h2, h3, h4⟩ := gact_alike hs
    refine ⟨_, _, h1, fun h0 => (by rw [h2] at h0; cases h0), fun hm d' ob' hmem => ?_, fun T a b c => .inr (.inl (h4 T a (b h2)))⟩
    simp at hmem
    rw [hmem.1]
    exact h3 hm
  · have := hmu.2
    simp [hX] at this

/-- Whatever order is picked. -/
def xAny (P : Program) (w0 : World) (X : List Nat) (ops : List Oper) (K : AS → Prop) : Nat → Array Bool → AS → Prop
  | 0, listed, S => Region.ready .any ops.toArray listed = [] ∧ K S
  | n + 1, listed, S => (Region.ready .any ops.toArray listed = [] → K S) ∧ ∀ i ∈ Region.ready .any ops.toArray listed, ∃ o S', ops[i]? = some o ∧ StepX P w0 X ops i o S S' ∧ xAny P w0 X ops K n (listed.setIfInBounds i true) S'

theorem xany_eqv {X : List Nat} {ops : List Oper} {K : AS → Prop} (hK : ∀ S T, S.eqv T → K S → K T) : ∀ (n : Nat) (listed : Array Bool) (S T : AS), S.eqv T → xAny P w0 X ops K n listed S → xAny P w0 X ops K n listed T
  | 0, _, _, _, h, ha => ⟨ha.1, hK _ _ h ha.2⟩
  | n + 1, listed, S, T, h, ha => ⟨fun h0 => hK _ _ h (ha.1 h0), fun i hi => by
    obtain ⟨o, S', ho, hs, hrest⟩ := ha.2 i hi
    obtain ⟨T', hT, he⟩ := stepX_eqv hs h
    exact ⟨o, T', ho, hT, xany_eqv hK n _ S' T' he hrest⟩⟩

/-- The model follows whatever order is picked. -/
theorem xany_sound {X : List Nat} {ops : List Oper} {K : AS → Prop} (hK : ∀ S a w, K S → RelD (fun j => j < ops.length) w0 N0 S a w → post w0 N0 Q .normal a w) : ∀ (n : Nat) (listed : Array Bool) (S : AS) (a : Act) (w : World), listed.size = ops.length →
    RelD (fun j => listed.getD j false = true) w0 N0 S a w → xAny P w0 X ops K n listed S → wpAny P .any ops.toArray (post w0 N0 Q) n listed a w
  | 0, listed, S, a, w, hsz, hr, ha => by
    obtain ⟨μ, hr⟩ := hr
    refine ⟨ha.1, hK S a w ha.2 ⟨μ, hr.more (fun j hj => ?_)⟩⟩
    rcases Nat.lt_or_ge j listed.size with h | h
    · omega
    · simp [Array.getElem?_eq_none h] at hj
  | n + 1, listed, S, a, w, hsz, hr, ha => by
    refine ⟨fun h0 => ?_, fun i hi => ?_⟩
    · obtain ⟨μ, hr⟩ := hr
      refine hK S a w (ha.1 h0) ⟨μ, hr.more (fun j hj => ?_)⟩
      rcases Nat.lt_or_ge j listed.size with h | h
      · omega
      · simp [Array.getElem?_eq_none h] at hj
    · obtain ⟨o, S', ho, hs, hrest⟩ := ha.2 i hi
      have hun := (mem_ready.1 hi).1
      have hil : i < listed.size := by
        rcases Nat.lt_or_ge i listed.size with h | h
        · exact h
        · simp [Array.getElem?_eq_none h] at hun
      have hni : ¬ (listed.getD i false = true) := by
        intro h1
        simp [hil] at hun h1
        rw [hun] at h1
        cases h1
      unfold wpOp
      have ho' : ops.toArray[i]? = some o := by simpa using ho
      simp only [ho']
      have := stepX_sound (P := P) hr hni hs (K := wpAny P .any ops.toArray (post w0 N0 Q) n (listed.setIfInBounds i true)) (Q' := post w0 N0 Q) (fun a' w' hr' => by
        obtain ⟨μ', hr'⟩ := hr'
        refine xany_sound hK n _ S' a' w' (by simpa using hsz) ⟨μ', hr'.more (fun j hj => ?_)⟩ hrest
        rcases hj with hj | hj
        · by_cases hij : i = j
          · subst hij; simp [hil]
          · rw [getD_set_ne false hij]; exact hj
        · subst hj; simp [hil])
      split
      · rename_i hw; rw [if_pos hw] at this; exact .inl this
      · rename_i hw; rw [if_neg hw] at this; exact this

theorem xany_first {X : List Nat} {ops : List Oper} {K : AS → Prop} (hK : ∀ S T, S.eqv T → K S → K T) {i : Nat} {oi : Oper} (hi : ops[i]? = some oi) (hq : acts oi.op = false) (hxi : opq X i oi = false) (hnd : mkOk ops = true) (B : List Nat) :
    ∀ (n : Nat) (listed : Array Bool) (S S1 : AS), Waits ops listed i B →
      (∀ j oj, ops[j]? = some oj → j ≠ i → listed.getD j true = false → j ∉ B → oi.apart ops.toArray oj = true ∧ (loads oi.op = true → acts oj.op = true → makes oj.op = true) ∧ opq X j oj = false) →
      (loads oi.op = true → ∀ j oj d, ops[j]? = some oj → listed.getD j true = false → makes oj.op = true → oj.dst = some d → get S.objs d = none) →
      i ∈ Region.ready .any ops.toArray listed → StepX P w0 X ops i oi S S1 →
      xAny P w0 X ops K n (listed.setIfInBounds i true) S1 → xAny P w0 X ops K (n + 1) listed S := by
  intro n
  induction n with
  | zero =>
    intro listed S S1 _ _ _ hr hs H
    refine ⟨fun h => (by rw [h] at hr; cases hr), fun j hj => ?_⟩
    by_cases hji : j = i
    · subst hji; exact ⟨oi, S1, hi, hs, H⟩
    · have := ready_mono hj hji
      rw [H.1] at this
      cases this
  | succ n ih =>
    intro listed S S1 hB hfree hfr hr hs H
    refine ⟨fun h => (by rw [h] at hr; cases hr), fun j hj => ?_⟩
    by_cases hji : j = i
    · subst hji; exact ⟨oi, S1, hi, hs, H⟩
    · obtain ⟨oj, T', hoj, hsj, hrest⟩ := H.2 j (ready_mono hj hji)
      obtain ⟨hjun, oj', hoj', hall⟩ := mem_ready.1 hj
      have : oj' = oj := by
        have h1 : ops[j]? = some oj' := by simpa using hoj'
        rw [hoj] at h1
        exact (Option.some.inj h1).symm
      subst this
      have hiun := (mem_ready.1 hr).1
      have hun1 : ∀ k, listed.getD k true = false → ∀ e ∈ oj'.after, Region.binds .any e = true → e.on ≠ k := fun k hk e he hb heq => by
        have h1 := hall e he hb
        rw [heq] at h1
        rcases Nat.lt_or_ge k listed.size with h' | h'
        · simp [h'] at hk h1; rw [hk] at h1; cases h1
        · simp [Array.getElem?_eq_none h'] at h1
      have hnot : j ∉ B := fun hjB => by
        obtain ⟨_, oq, hoq, e, he, hb, hon⟩ := hB j hjB
        have : oq = oj' := by rw [hoj] at hoq; exact (Option.some.inj hoq).symm
        subst this
        rcases hon with hon | hon
        · exact hun1 i hiun e he hb hon
        · exact hun1 e.on (hB e.on hon).1 e he hb rfl
      obtain ⟨hap, hload, hmuj⟩ := hfree j oj' hoj hji hjun hnot
      obtain ⟨a1, a2, a3⟩ := Oper.apart_spec hap
      obtain ⟨u, O, rfl, hO, _, hall1⟩ := stepX_spec hs hxi
      have hOn := hO hq
      subst hOn
      obtain ⟨u2, O2, rfl, hO2, hmk2, hall2⟩ := stepX_spec hsj hmuj
      -- j before i
      have hjS : StepX P w0 X ops j oj' S (S.ap oj'.dst u2 O2) := by
        refine hall2 S ⟨fun t ht => ?_, rfl, rfl⟩ (fun _ d => rfl) (fun _ p r hp => by rw [← place_congr (S := S.ap oj'.dst u2 [] |>.ap none u2 []) (T := S) (fun d => rfl)]; rw [place_congr (S := S.ap oi.dst u []) (T := S.ap oj'.dst u2 [] |>.ap none u2 []) (fun d => rfl)] at hp; exact hp)
        cases hd : oi.dst with
        | none => rfl
        | some d =>
          simp only [AS.ap, get_cons]
          rw [if_neg (fun e => a1 d hd (by rw [e]; exact ht))]
      -- i behind j
      have hplace : loads oi.op = true → ∀ p r, S.place p = some r → (S.ap oj'.dst u2 O2).place p = some r := by
        intro hl p r hp
        cases hact : acts oj'.op with
        | false =>
          rw [hO2 hact]
          rw [← place_congr (S := S) (T := S.ap oj'.dst u2 []) (fun d => rfl)]
          exact hp
        | true =>
          have hm := hload hl hact
          have hk : ∀ d, get S.objs d ≠ none → get (S.ap oj'.dst u2 O2).objs d = get S.objs d := by
            intro d hd
            have hnotin : ∀ ob, (d, ob) ∉ O2 := fun ob hmem => by
              have := hmk2 hm d ob hmem
              exact hd (hfr hl j oj' d hoj hjun hm this)
            show get (O2 ++ S.objs) d = get S.objs d
            clear hmk2 hall2 hsj hrest hjS hO2
            induction O2 with
            | nil => rfl
            | cons q O2 ihq =>
              obtain ⟨k, ob⟩ := q
              simp only [List.cons_append, get_cons]
              rw [if_neg (fun e => hnotin ob (by rw [e]; simp))]
              exact ihq (fun ob' hmem => hnotin ob' (by simp [hmem]))
          cases p <;> simp only [AS.place] at hp ⊢ <;> try (first | exact hp | (cases hp; done))
          rename_i d v sz k off
          cases hg : get S.objs d with
          | none => rw [hg] at hp; cases hp
          | some ob =>
            rw [hk d (by rw [hg]; simp)]
            exact hp
      have hiT : StepX P w0 X ops i oi (S.ap oj'.dst u2 O2) ((S.ap oj'.dst u2 O2).ap oi.dst u []) := by
        refine hall1 _ ⟨fun t ht => ?_, rfl, rfl⟩ (fun h0 => by rw [hq] at h0; cases h0) hplace
        cases hd : oj'.dst with
        | none => rfl
        | some d =>
          simp only [AS.ap, get_cons]
          rw [if_neg (fun e => a3 d hd (by rw [e]; exact ht))]
      have heq : ((S.ap oi.dst u []).ap oj'.dst u2 O2).eqv ((S.ap oj'.dst u2 O2).ap oi.dst u []) := by
        refine ⟨fun t => ?_, fun d => rfl, rfl, rfl⟩
        cases hd1 : oi.dst with
        | none => rfl
        | some d1 =>
          cases hd2 : oj'.dst with
          | none => rfl
          | some d2 =>
            have hne : d2 ≠ d1 := fun e => a2 d1 hd1 (by rw [hd2, e])
            simp only [AS.ap, get_cons]
            by_cases h1 : d1 = t <;> by_cases h2 : d2 = t <;> simp [h1, h2]
            exact absurd (h2.trans h1.symm) hne
      refine ⟨oj', _, hoj, hjS, ih (listed.setIfInBounds j true) _ _ (fun k hk => by
        have hjk : j ≠ k := by rintro rfl; exact hnot hk
        exact ⟨by rw [getD_set_ne true hjk]; exact (hB k hk).1, (hB k hk).2⟩) (fun k ok hk hki hun hno => hfree k ok hk hki ?_ hno) (fun hl k ok d hk hun hm hd => ?_) (ready_mono hr (Ne.symm hji)) hiT ?_⟩
      · by_cases hjk : j = k
        · subst hjk; exact hjun
        · rw [getD_set_ne true hjk] at hun; exact hun
      · have hjk : j ≠ k := by
          rintro rfl
          have hjl : j < listed.size := by
            rcases Nat.lt_or_ge j listed.size with h | h
            · exact h
            · simp [Array.getElem?_eq_none h] at hjun
          simp [hjl] at hun
        have hun' : listed.getD k true = false := by rwa [getD_set_ne true hjk] at hun
        have h0 := hfr hl k ok d hk hun' hm hd
        show get (O2 ++ S.objs) d = none
        cases hact : acts oj'.op with
        | false => rw [hO2 hact]; exact h0
        | true =>
          have hmj := hload hl hact
          have hnotin : ∀ ob, (d, ob) ∉ O2 := fun ob hmem => by
            have hdj := hmk2 hmj d ob hmem
            exact hjk (mkOk_spec hnd hoj hk hmj hm (by rw [hdj, hd]))
          clear hmk2 hall2 hsj hrest hjS hO2 hplace hiT heq
          induction O2 with
          | nil => exact h0
          | cons q O2 ihq =>
            obtain ⟨k', ob⟩ := q
            simp only [List.cons_append, get_cons]
            rw [if_neg (fun e => hnotin ob (by rw [e]; simp))]
            exact ihq (fun ob' hmem => hnotin ob' (by simp [hmem]))
      · rw [Array.setIfInBounds_comm _ _ hji]
        exact xany_eqv hK n _ _ _ heq hrest


/-- What is asked of an operation that is taken first. -/
def xfirstOk (X : List Nat) (ops : List Oper) (listed : Array Bool) (i : Nat) (oi : Oper) : Bool :=
  blkOk ops listed i (blk ops listed i) && (List.range ops.length).all fun j => j == i || listed.getD j true || (match ops[j]? with
    | some oj => (blk ops listed i).contains j || (oi.apart ops.toArray oj && !opq X j oj && (!loads oi.op || !acts oj.op || makes oj.op))
    | none => true)
theorem xfirstOk_spec {X : List Nat} {ops : List Oper} {listed : Array Bool} {i : Nat} {oi : Oper} (h : xfirstOk X ops listed i oi = true) : ∃ B, Waits ops listed i B ∧ ∀ j oj, ops[j]? = some oj → j ≠ i → listed.getD j true = false → j ∉ B →
    oi.apart ops.toArray oj = true ∧ (loads oi.op = true → acts oj.op = true → makes oj.op = true) ∧ opq X j oj = false := by
  unfold xfirstOk at h
  rw [Bool.and_eq_true] at h
  refine ⟨blk ops listed i, blkOk_spec h.1, ?_⟩
  intro j oj hj hji hun hno
  have hlt : j < ops.length := (List.getElem?_eq_some_iff.1 hj).1
  have h1 := List.all_eq_true.1 h.2 j (List.mem_range.2 hlt)
  simp only [hj, hun, Bool.or_false, Bool.or_eq_true, beq_iff_eq, Bool.and_eq_true] at h1
  rcases h1 with h1 | h1 | h1
  · exact absurd h1 hji
  · exact absurd (by simpa using h1) hno
  · refine ⟨h1.1.1, fun hl ha => ?_, by simpa using h1.1.2⟩
    rcases h1.2 with (h2 | h2) | h2
    · simp [hl] at h2
    · simp [ha] at h2
    · exact h2
def xmayTake (X : List Nat) (ops : List Oper) (listed : Array Bool) (i : Nat) (ks : List Nat) : Bool :=
  match ops[i]? with
  | some o => (!acts o.op && !opq X i o && (Region.ready .any ops.toArray listed).contains i && xfirstOk X ops listed i o && (!loads o.op || (List.range ops.length).all fun j => listed.getD j true || (match ops[j]? with
      | some oj => !makes oj.op || (match oj.dst with | some d => ks.contains d | none => true)
      | none => true))) || (Region.ready .any ops.toArray listed == [i])
  | none => false

/-- What is done so far, as the model lists it. -/
def lst (ops : List Oper) : List Nat → Array Bool
  | [] => Array.replicate ops.length false
  | i :: l => (lst ops l).setIfInBounds i true
/-- A region of which the operations 'done' are done. -/
def AT (P : Program) (w0 : World) (X : List Nat) (ops : List Oper) (Q : Exit → AS → Prop) (done : List Nat) (S : AS) : Prop :=
  xAny P w0 X ops (fun S => ∃ S', ({ S with nx := S.nx + ops.length } : AS).le S' ∧ Q .normal S') (ops.length - done.length) (lst ops done) S
theorem K_eqv {ops : List Oper} {S T : AS} (he : S.eqv T) (h : ∃ S', ({ S with nx := S.nx + ops.length } : AS).le S' ∧ Q .normal S') : ∃ S', ({ T with nx := T.nx + ops.length } : AS).le S' ∧ Q .normal S' := by
  obtain ⟨S2, h5, h6⟩ := h
  have he' : ({ T with nx := T.nx + ops.length } : AS).eqv { S with nx := S.nx + ops.length } := ⟨fun t => (he.1 t).symm, fun d => (he.2.1 d).symm, by simp only; rw [he.2.2.1], he.2.2.2.symm⟩
  exact ⟨S2, AS.le_trans he'.le h5, h6⟩

variable {X : List Nat} {ops : List Oper} {done : List Nat} {S S' : AS}
theorem at_fin (h0 : (Region.ready .any ops.toArray (lst ops done)).isEmpty = true) (hle : ({ S with nx := S.nx + ops.length } : AS).le S') (h : Q .normal S') : AT P w0 X ops Q done S := by
  have h0' : Region.ready .any ops.toArray (lst ops done) = [] := by simpa using h0
  unfold AT
  cases ops.length - done.length with
  | zero => exact ⟨h0', S', hle, h⟩
  | succ n => exact ⟨fun _ => ⟨S', hle, h⟩, fun i hi => by rw [h0'] at hi; cases hi⟩
theorem at_step {i : Nat} {ks : List Nat} {o : Oper} (hc : (Nat.blt done.length ops.length && mkOk ops && xmayTake X ops (lst ops done) i ks) = true) (hi : ops[i]? = some o) (hks : (ks.all fun d => (get S.objs d).isNone) = true) (hs : StepX P w0 X ops i o S S') (h : AT P w0 X ops Q (i :: done) S') : AT P w0 X ops Q done S := by
  simp only [Bool.and_eq_true, Nat.blt_eq] at hc
  obtain ⟨⟨hlt, hk⟩, hm⟩ := hc
  unfold AT at h ⊢
  rw [show ops.length - done.length = (ops.length - (i :: done).length) + 1 by simp only [List.length_cons]; omega]
  unfold xmayTake at hm
  simp only [hi, Bool.or_eq_true, Bool.and_eq_true, beq_iff_eq] at hm
  rcases hm with ⟨⟨⟨⟨h1, h1'⟩, h2⟩, h3⟩, h4⟩ | hm
  · obtain ⟨B, hB, hfree⟩ := xfirstOk_spec h3
    refine xany_first (fun S T he hh => K_eqv (Q := Q) (ops := ops) he hh) hi (by simpa using h1) (by simpa using h1') hk B _ _ S S' hB hfree (fun hl j oj d hj hun hmk hd => ?_) (by simpa using h2) hs h
    rcases h4 with h4 | h4
    · simp [hl] at h4
    · have h5 := List.all_eq_true.1 h4 j (List.mem_range.2 (List.getElem?_eq_some_iff.1 hj).1)
      simp only [hun, hj, hmk, hd, Bool.not_true, Bool.false_or] at h5
      have h6 := List.all_eq_true.1 hks d (by simpa using h5)
      simpa using h6
  · refine ⟨fun h0 => (by rw [hm] at h0; cases h0), fun j hj => ?_⟩
    rw [hm] at hj
    have : j = i := by simpa using hj
    subst this
    exact ⟨o, S', hi, hs, h⟩
/-- Ways that part. -/
theorem at_fork (l : List Nat) (hc : (Nat.blt done.length ops.length && Region.ready .any ops.toArray (lst ops done) == l && !l.isEmpty) = true) (h : ∀ i ∈ l, ∃ o S', ops[i]? = some o ∧ StepX P w0 X ops i o S S' ∧ AT P w0 X ops Q (i :: done) S') : AT P w0 X ops Q done S := by
  simp only [Bool.and_eq_true, Nat.blt_eq, beq_iff_eq] at hc
  obtain ⟨⟨hlt, hm⟩, hne⟩ := hc
  unfold AT
  rw [show ops.length - done.length = (ops.length - (done.length + 1)) + 1 by omega]
  refine ⟨fun h0 => ?_, fun i hi => ?_⟩
  · rw [hm] at h0; subst h0; simp at hne
  · rw [hm] at hi
    obtain ⟨o, S', h1, h2, h3⟩ := h i hi
    exact ⟨o, S', h1, h2, h3⟩
/-- States that hold the same; what is done counts as a set. -/
theorem at_perm {done' : List Nat} (hl : (lst ops done == lst ops done' && done.length == done'.length) = true) (he : S'.eqv S) (h : AT P w0 X ops Q done' S') : AT P w0 X ops Q done S := by
  simp only [Bool.and_eq_true, beq_iff_eq] at hl
  unfold AT at h ⊢
  rw [hl.1, hl.2]
  exact xany_eqv (fun S T he hh => K_eqv (Q := Q) (ops := ops) he hh) _ _ _ _ he h

def xgood (X : List Nat) (ops : List Oper) : List Nat → List (Nat × List Nat) → Bool
  | _, [] => true
  | done, (i, ks) :: l => Nat.blt done.length ops.length && mkOk ops && xmayTake X ops (lst ops done) i ks && xgood X ops (i :: done) l
def xdone : List Nat → List (Nat × List Nat) → List Nat
  | done, [] => done
  | done, (i, _) :: l => xdone (i :: done) l
theorem at_go : ∀ (l : List (Nat × List Nat)) {done : List Nat} {S S1 : AS}, xgood X ops done l = true → runO P ops l S = some S1 → AT P w0 X ops Q (xdone done l) S1 → AT P w0 X ops Q done S
  | [], done, S, S1, _, hs, h => by
    simp only [runO, Option.some.injEq] at hs
    subst hs
    exact h
  | (i, ks) :: l, done, S, S1, hg, hs, h => by
    simp only [xgood, Bool.and_eq_true] at hg
    simp only [runO] at hs
    split at hs
    case h_2 => cases hs
    rename_i o ho
    split at hs
    case isFalse => cases hs
    rename_i hks
    split at hs
    case h_2 => cases hs
    rename_i S2 h2
    rw [nth_eq] at ho
    exact at_step (by simp only [Bool.and_eq_true]; exact hg.1) ho hks (.inl (.inl h2)) (at_go l hg.2 hs h)

theorem aw_drawX {id : Nat} {l : List Oper} {S : AS} (X : List Nat) (hm : P.follows .mixedOrders = true) (h : AT P w0 X l Q [] S) : AW P w0 N0 (.region id l.toArray true) Q S := by
  rintro a w ⟨μ, hr⟩
  refine wp_region_any hm ?_
  have hsz : l.toArray.size = l.length := by simp
  rw [hsz]
  refine xany_sound (K := fun S => ∃ S', ({ S with nx := S.nx + l.length } : AS).le S' ∧ Q .normal S') ?_ l.length _ S a _ (by simp) ⟨μ, ?_⟩ h
  · rintro S a w ⟨S', h1, h2⟩ ⟨μ, hr⟩
    refine ⟨S', h2, h1 _ _ _ _ ⟨μ, ⟨hr.defers, hr.size, hr.below, hr.n0, fun d v hv => ?_, hr.objs, hr.inj, hr.env⟩⟩⟩
    rcases hr.fresh d v hv with h3 | ⟨j, hj, e⟩
    · exact .inl (by simp only; omega)
    · exact .inl (by simp only; omega)
  · have := hr.drew
    exact this.more (fun j hj => hj.elim)

/-- The step of a guarded operation that is run. -/
def gact (P : Program) (ops : List Oper) (i : Nat) (o : Oper) (S : AS) : Option AS :=
  match o.guard with
  | none => none
  | some (j, want) => match S.gd ops j want with
    | some true => match acore P i S o.dst o.op with
      | some (O, v) => ({ S with objs := O } : AS).putv o.dst (.whn true v)
      | none => none
    | _ => none
theorem gact_spec {i : Nat} {o : Oper} (h : gact P ops i o S = some S') : GActStep P ops i o S S' := by
  unfold gact at h
  split at h
  · cases h
  · rename_i j want hg
    split at h
    · rename_i hc
      split at h
      · rename_i O v hco
        exact ⟨j, want, O, v, hg, hc, hco, h⟩
      · cases h
    · cases h
theorem sx_act {i : Nat} {o : Oper} (h : gact P ops i o S = some S') : StepX P w0 X ops i o S S' := .inr (.inl (gact_spec h))
theorem sx_go {i : Nat} {o : Oper} (h : astep P ops i o S = some S') : StepX P w0 X ops i o S S' := .inl (.inl h)

theorem wanted_of {D : Nat → Prop} {μ : Mu} {a : Act} {w : World} {o : Oper} (hr : RelM D w0 N0 μ S a w) (hg : S.gv ops o = some true) : Region.wanted o (yielded ops.toArray a.tmps) = true := by
  unfold AS.gv at hg
  split at hg
  · rename_i hgn; simp [Region.wanted, hgn]
  · rename_i j want hgn; exact gd_spec hr hgn hg

/-- A call that reads slices of the call's own and hands back a value without memory. -/
theorem sx_callv {i : Nat} {o : Oper} {f : Operand} {fid : FuncId} {fn : Func} {args : Array Operand} {ats : Array TypeId} {vs us : List V} {res : V}
    (hX : i ∈ X) (hc : AC P fid us (fun r => r = res)) (hfn : P.funcs[fid]? = some fn) (hb : fn.body.isSome = true) (hn : (fn.name == "runtime.NumGoroutine") = false)
    (hg : S.gv ops o = some true) (ho : o.op = .call { callee := .value f, args := args, argTypes := ats }) (hf : S.evc true f = some (.fn fid))
    (ha : S.args true args.toList = some vs) (hp : S.views vs = some us) (hl : res.light = true) (hs : S.putv o.dst (wrapG o true res) = some S') : StepX P w0 X ops i o S S' := by
  refine .inr (.inr ⟨hX, fun N0 D a w hr hi K Q' hK => ?_⟩)
  obtain ⟨μ, hr⟩ := hr
  rw [wanted_of hr hg, if_pos rfl]
  have hfv := hr.evc hf rfl
  have hfe : a.eval f = .func (.func fid) #[] #[] := by
    generalize a.eval f = y at hfv
    cases hfv with
    | pur hfv => cases hfv with
      | fn => rfl
  obtain ⟨h1, h2⟩ := args_spec hr rfl ha
  obtain ⟨h3, h4⟩ := views_spec hp
  unfold Oper.wp
  rw [run_call_fn ho hfe hfn hb hn]
  have hcall := hc w N0 (args.toList.map a.eval) (fun b hb => Nat.lt_of_lt_of_le (hr.n0 b hb) hr.below.size) (by simp [h1, h3]) (fun j x v hx hv => by
    simp only [List.getElem?_map, Option.map_eq_some_iff] at hx
    obtain ⟨y, hy, rfl⟩ := hx
    have hj : j < vs.length := by rw [← h3]; exact (List.getElem?_eq_some_iff.1 hv).1
    exact hr.view (h2 j y vs[j] hy (List.getElem?_eq_getElem hj)) (h4 j vs[j] v (List.getElem?_eq_getElem hj) hv))
  have harr : (args.toList.map a.eval).toArray = args.map a.eval := by apply Array.ext'; simp
  rw [harr] at hcall
  refine hcall.mono ?_
  rintro e w' ⟨x, r, rfl, rfl, hpx, hbw⟩
  refine hK _ _ ⟨μ, ((hr.later hbw).putv hs ?_).more (fun j hj => .inl hj)⟩
  unfold wrapG
  split
  · exact .pur (hpx.of_light hl)
  · exact .whn _ _ _ (fun _ => .pur (hpx.of_light hl)) (fun hf => by cases hf)

/-- A call that hands back a new row d. -/
theorem sx_callO {i : Nat} {o : Oper} {f : Operand} {fid : FuncId} {fn : Func} {args : Array Operand} {ats : Array TypeId} {vs us : List V} {sz : Nat} {ty : TypeId} {F : Nat → Nat → V} {es : List V} (d : Nat)
    (hX : i ∈ X) (hc : ACO P fid us sz ty (fun F' es' => F' = F ∧ es' = es)) (hfn : P.funcs[fid]? = some fn) (hb : fn.body.isSome = true) (hn : (fn.name == "runtime.NumGoroutine") = false)
    (hg : S.gv ops o = some true) (ho : o.op = .call { callee := .value f, args := args, argTypes := ats }) (hf : S.evc true f = some (.fn fid))
    (ha : S.args true args.toList = some vs) (hp : S.views vs = some us) (hs : ({ S with objs := (d, ⟨S.nx + i, sz, ty, es⟩) :: S.objs } : AS).putv o.dst (wrapG o true (F d (S.nx + i))) = some S') : StepX P w0 X ops i o S S' := by
  refine .inr (.inr ⟨hX, fun N0 D a w hr hi K Q' hK => ?_⟩)
  obtain ⟨μ, hr⟩ := hr
  rw [wanted_of hr hg, if_pos rfl]
  have hfv := hr.evc hf rfl
  have hfe : a.eval f = .func (.func fid) #[] #[] := by
    generalize a.eval f = y at hfv
    cases hfv with
    | pur hfv => cases hfv with
      | fn => rfl
  obtain ⟨h1, h2⟩ := args_spec hr rfl ha
  obtain ⟨h3, h4⟩ := views_spec hp
  unfold Oper.wp
  rw [run_call_fn ho hfe hfn hb hn]
  have hcall := hc w N0 (args.toList.map a.eval) (fun b hb => Nat.lt_of_lt_of_le (hr.n0 b hb) hr.below.size) (by simp [h1, h3]) (fun j x v hx hv => by
    simp only [List.getElem?_map, Option.map_eq_some_iff] at hx
    obtain ⟨y, hy, rfl⟩ := hx
    have hj : j < vs.length := by rw [← h3]; exact (List.getElem?_eq_some_iff.1 hv).1
    exact hr.view (h2 j y vs[j] hy (List.getElem?_eq_getElem hj)) (h4 j vs[j] v (List.getElem?_eq_getElem hj) hv))
  have harr : (args.toList.map a.eval).toArray = args.map a.eval := by apply Array.ext'; simp
  rw [harr] at hcall
  refine hcall.mono ?_
  rintro e w' ⟨x, F', es', l, rfl, ⟨rfl, rfl⟩, hbw, hpx⟩
  have hmono := hr.muSet_mono hi d l
  obtain ⟨hrel, _⟩ := hr.update (D' := fun j => D j ∨ j = i) (d := d) (o' := ⟨S.nx + i, sz, ty, es'⟩) (l' := l) (w' := w') (μ' := muSet μ d (S.nx + i) l) hmono (hr.muSet_fresh i d _) (muSet_same _ _ _ _)
    (hr.below.trans (hbw.mono hr.below.size)) (Keeps.of_below hbw _) (fun d1 o1 g c _ h1 h2 => hbw.block g (hr.block_lt h1 h2))
    (fun g c e => by
      have := (hpx d (S.nx + i) (muSet μ d (S.nx + i) l) (fun _ => False) (muSet_same _ _ _ _)).2
      rw [e] at this
      exact .inl this.1)
    (fun N' _ => by
      have := (hpx d (S.nx + i) (muSet μ d (S.nx + i) l) N' (muSet_same _ _ _ _)).2
      cases l with
      | none => exact this
      | some gc => exact ⟨Nat.le_trans hr.below.size this.1, this.2⟩)
  refine hK _ _ ⟨_, hrel.putv hs ?_⟩
  unfold wrapG
  split
  · exact (hpx d (S.nx + i) _ _ (muSet_same _ _ _ _)).1
  · exact .whn _ _ _ (fun _ => (hpx d (S.nx + i) _ _ (muSet_same _ _ _ _)).1) (fun hf => by cases hf)

theorem at_call {i : Nat} {ks : List Nat} {o : Oper} {c : Bool} {f : Operand} {fid : FuncId} {fn : Func} {args : Array Operand} {ats : Array TypeId} {vs : List V} {res : V}
    (hm : (Nat.blt done.length ops.length && mkOk ops && xmayTake X ops (lst ops done) i ks) = true)
    (hc : c = true → AC P fid vs (fun r => r = res)) (hfn : P.funcs[fid]? = some fn) (hb : fn.body.isSome = true) (hn : (fn.name == "runtime.NumGoroutine") = false) (hi : nth ops i = some o) (hks : (ks.all fun d => (get S.objs d).isNone) = true)
    (hg : S.gv ops o = some c) (ho : o.op = .call { callee := .value f, args := args, argTypes := ats }) (hf : S.evc c f = some (.fn fid)) (ha : S.args c args.toList = some vs) (hp : vs.all V.pureV = true) (hs : S.putv o.dst (wrapG o c res) = some S') (h : AT P w0 X ops Q (i :: done) S') : AT P w0 X ops Q done S := by
  rw [nth_eq] at hi
  exact at_step hm hi hks (.inl (.inr (.inl ⟨c, f, args, ats, fid, fn, vs, res, hg, ho, hf, hfn, hb, hn, ha, hp, hc, hs⟩))) h
def fin (l : List Oper) (L M : List Nat) (S : AS) : AS := (S.bump l.length).keep L M
theorem at_end (L M : List Nat) (h0 : (Region.ready .any ops.toArray (lst ops done)).isEmpty = true) (hs : fin ops L M S = S') (h : Q .normal S') : AT P w0 X ops Q done S := by
  subst hs
  exact at_fin h0 (le_keep _ L M) h
attribute [simp] gact fin xdone
end
end Go.Eng
