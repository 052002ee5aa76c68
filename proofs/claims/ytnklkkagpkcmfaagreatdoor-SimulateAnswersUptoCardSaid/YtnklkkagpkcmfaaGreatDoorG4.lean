import Derived.Test.YtnklkkagpkcmfaaGreatDoorG3
import Derived.SizedLaws
import Derived.ChangeArms
import Derived.Recover
import Derived.Laws.CopyOwn
import Derived.Laws.IdiomCopy
set_option linter.all false
namespace Go.Eng
open Go.RowKit
def GActStep (P : Program) (kb : Nat) (ops : List Oper) (i : Nat) (o : Oper) (S S' : AS) : Prop :=
  ∃ j want O v, o.guard = some (j, want) ∧ S.gd ops j want = some true ∧ acore P i S o.dst (kb + o.dst.getD 0) o.op = some (O, v) ∧ ({ S with objs := O } : AS).putv o.dst (.whn true v) = some S'
def GenStep (P : Program) (w0 : Bs) (ops : List Oper) (i : Nat) (o : Oper) (S S' : AS) : Prop :=
  ∀ (N0 : Nat → Prop) (D : Nat → Prop) (a : Act) (w : World), RelD D w0 N0 S a w → ¬ D i → (∀ j, D j → j < ops.length) → ∀ (K : Act → World → Prop) (Q' : Exit → Act → World → Prop), (∀ a' w', RelD (fun j => D j ∨ j = i) w0 N0 S' a' w' → K a' w') →
    if Region.wanted o (yielded ops.toArray a.tmps) = true then o.wp P a w K Q' else K (a.put o.dst undef) w
def OpqStep (P : Program) (w0 : Bs) (ops : List Oper) (i : Nat) (o : Oper) (S S' : AS) : Prop :=
  ∃ u O, S' = S.ap o.dst u O ∧ ∀ T, Alike ops o S T → (∀ d, get S.objs d = get T.objs d) → GenStep P w0 ops i o T (T.ap o.dst u O)
def PanStep (P : Program) (w0 : Bs) (ops : List Oper) (i : Nat) (o : Oper) (Q : Exit → AS → Prop) (S : AS) : Prop :=
  ∀ T, Alike ops o S T → (∀ d, get S.objs d = get T.objs d) → ∀ (N0 : Nat → Prop) (D : Nat → Prop) (a : Act) (w : World), RelD D w0 N0 T a w → ¬ D i → (∀ j, D j → j < ops.length) →
    Region.wanted o (yielded ops.toArray a.tmps) = true ∧ ∀ (K : Act → World → Prop), o.wp P a w K (post w0 N0 Q)
def StepX (P : Program) (kb : Nat) (w0 : Bs) (X : List Nat) (ops : List Oper) (i : Nat) (o : Oper) (S S' : AS) : Prop := Step P kb w0 ops i o S S' ∨ GActStep P kb ops i o S S' ∨ (i ∈ X ∧ OpqStep P w0 ops i o S S')
def actX (X : List Nat) (j : Nat) (o : Oper) : Bool := acts o.op || X.contains j
def makX (X : List Nat) (j : Nat) (o : Oper) : Bool := makes o.op && !X.contains j
section
variable {P : Program} {kb : Nat} {w0 : Bs} {N0 : Nat → Prop} {Q : Exit → AS → Prop}
theorem RelM.whn {D : Nat → Prop} {μ : Mu} {S S1 S' : AS} {a : Act} {w : World} {dst : Option Nat} {v : V} (h1 : S.putv dst v = some S1) (h2 : S.putv dst (.whn true v) = some S') (h : RelM D w0 N0 μ S1 a w) : RelM D w0 N0 μ S' a w := by
  obtain ⟨rfl, _⟩ := putv_ap h1
  obtain ⟨rfl, _⟩ := putv_ap h2
  refine ⟨h.defers, h.size, h.below, h.n0, h.fresh, h.objs, h.inj, fun t u hu => ?_⟩
  cases dst with
  | none => exact h.env t u hu
  | some d =>
    simp only [AS.ap, get_cons] at hu
    by_cases hd : d = t
    · rw [if_pos hd] at hu
      injection hu with hu
      subst hu
      have := h.env t v (by simp only [AS.ap, get_cons]; rw [if_pos hd])
      exact ⟨this.1, .whn _ _ _ (fun _ => this.2) (fun hf => by cases hf)⟩
    · rw [if_neg hd] at hu
      exact h.env t u (by simp only [AS.ap, get_cons]; rw [if_neg hd]; exact hu)
theorem gact_sound {S S' : AS} {ops : List Oper} {i : Nat} {o : Oper} (hs : GActStep P kb ops i o S S') : GenStep P w0 ops i o S S' := by
  intro N0 D a w hr hi _ K Q' hK
  obtain ⟨j, want, O, v, hg, hc, hco, hput⟩ := hs
  obtain ⟨μ, hr⟩ := hr
  rw [gd_spec hr hg hc, if_pos rfl]
  obtain ⟨h1, h2⟩ := putv_ap hput
  have heff : aeff P i S o.dst (kb + o.dst.getD 0) o.op = some (({ S with objs := O } : AS).ap o.dst v []) := by
    unfold aeff
    simp only [hco]
    exact ap_putv v h2
  obtain ⟨x, w', hdo, μ', hrel⟩ := aeff_run hr hi heff
  have hrel' : RelD (fun j => D j ∨ j = i) w0 N0 S' (a.put o.dst x) w' := ⟨μ', hrel.whn (ap_putv v h2) hput⟩
  unfold Oper.wp
  rcases hdo with hx | ⟨hx, rfl⟩
  · rw [hx]; exact hK _ _ hrel'
  · rw [hx]; exact hK _ _ hrel'
theorem stepX_sound {X : List Nat} {S S' : AS} {D : Nat → Prop} {a : Act} {w : World} {ops : List Oper} {i : Nat} {o : Oper} (hr : RelD D w0 N0 S a w) (hi : ¬ D i) (hDb : ∀ j, D j → j < ops.length) (hs : StepX P kb w0 X ops i o S S') {K : Act → World → Prop} {Q' : Exit → Act → World → Prop}
    (hK : ∀ a' w', RelD (fun j => D j ∨ j = i) w0 N0 S' a' w' → K a' w') :
    if Region.wanted o (yielded ops.toArray a.tmps) = true then o.wp P a w K Q' else K (a.put o.dst undef) w := by
  rcases hs with hs | hs | ⟨_, hs⟩
  · exact step_sound hr hi hs hK
  · exact gact_sound hs N0 D a w hr hi hDb K Q' hK
  · obtain ⟨u, O, rfl, hall⟩ := hs
    exact hall S ⟨fun _ _ => rfl, rfl, rfl⟩ (fun _ => rfl) N0 D a w hr hi hDb K Q' hK
theorem gact_alike {ops : List Oper} {i : Nat} {o : Oper} {S S' : AS} (hs : GActStep P kb ops i o S S') : ∃ d ob v, S' = S.ap o.dst (.whn true v) [(d, ob)] ∧ acts o.op = true ∧ (makes o.op = true → ∃ e, o.dst = some e ∧ d = kb + e) ∧
    ∀ T, Alike ops o S T → (∀ d, get S.objs d = get T.objs d) → GActStep P kb ops i o T (T.ap o.dst (.whn true v) [(d, ob)]) := by
  obtain ⟨j, want, O, v, hg, hc, hco, hput⟩ := hs
  obtain ⟨h1, h2⟩ := putv_ap hput
  obtain ⟨d, ob, rfl, _, hmk⟩ := acore_congr (ops := ops) (T := S) ⟨fun _ _ => rfl, rfl, rfl⟩ (fun _ => rfl) hco
  refine ⟨d, ob, v, by rw [h1]; rfl, ?_, fun hm => by
    obtain ⟨m1, m2⟩ := hmk hm
    obtain ⟨e, he⟩ := Option.isSome_iff_exists.1 m1
    exact ⟨e, he, by rw [m2, he]; rfl⟩, fun T hT hob => ?_⟩
  · cases h0 : acts o.op with
    | true => rfl
    | false => rw [acts_core h0] at hco; cases hco
  · obtain ⟨d', ob', he, hcT, _⟩ := acore_congr hT hob hco
    injection he with he _
    injection he with he1 he2
    subst he1; subst he2
    have hgvS : S.gv ops o = some true := by simp only [AS.gv, hg]; exact hc
    have hgT : T.gd ops j want = some true := by have := hT.gv; rw [hgvS] at this; simp only [AS.gv, hg] at this; exact this.symm
    refine ⟨j, want, _, v, hg, hgT, hcT, ?_⟩
    have := ap_putv (S := { T with objs := (d, ob) :: T.objs }) (dst := o.dst) (.whn true v) (fun d1 hd1 => by have := h2 d1 hd1; simp only at this ⊢; rw [← hT.2.1]; exact this)
    rw [this]
    rfl
theorem stepX_eqv {X : List Nat} {ops : List Oper} {i : Nat} {o : Oper} {S S' T : AS} (hs : StepX P kb w0 X ops i o S S') (h : S.eqv T) : ∃ T', StepX P kb w0 X ops i o T T' ∧ S'.eqv T' := by
  rcases hs with hs | hs | ⟨hX, hs⟩
  · obtain ⟨T', h1, h2⟩ := step_eqv hs h
    exact ⟨T', .inl h1, h2⟩
  · obtain ⟨d, ob, v, rfl, _, _, hall⟩ := gact_alike hs
    exact ⟨_, .inr (.inl (hall T ⟨fun t _ => h.1 t, h.2.2.2, h.2.2.1⟩ h.2.1)), ap_eqv h _ _ _⟩
  · obtain ⟨u, O, rfl, hall⟩ := hs
    refine ⟨T.ap o.dst u O, .inr (.inr ⟨hX, u, O, rfl, fun T' hT hob => hall T' ⟨fun t ht => (h.1 t).trans (hT.1 t ht), h.2.2.2.trans hT.2.1, h.2.2.1.trans hT.2.2⟩ (fun d => (h.2.1 d).trans (hob d))⟩), ap_eqv h _ _ _⟩
theorem stepX_spec {X : List Nat} {ops : List Oper} {i : Nat} {o : Oper} {S S' : AS} (hs : StepX P kb w0 X ops i o S S') (hmu : mapUp o.op = false) :
    ∃ u O, S' = S.ap o.dst u O ∧ (actX X i o = false → O = []) ∧ (makX X i o = true → ∀ d ob, (d, ob) ∈ O → ∃ e, o.dst = some e ∧ d = kb + e) ∧
      ∀ T, Alike ops o S T → (actX X i o = true → ∀ d, get S.objs d = get T.objs d) → (loads o.op = true → ∀ p r, S.place p = some r → T.place p = some r) → StepX P kb w0 X ops i o T (T.ap o.dst u O) := by
  have hacts : actX X i o = false → acts o.op = false := fun h => by simp only [actX, Bool.or_eq_false_iff] at h; exact h.1
  have hacts' : acts o.op = true → actX X i o = true := fun h => by simp [actX, h]
  have hmakes : makX X i o = true → makes o.op = true := fun h => by simp only [makX, Bool.and_eq_true] at h; exact h.1
  rcases hs with hs | hs | ⟨hX, u, O, h1, hall⟩
  · obtain ⟨u, O, h1, h2, h3, h4⟩ := step_spec hs (.inl hmu)
    exact ⟨u, O, h1, fun h => h2 (hacts h), fun h => h3 (hmakes h), fun T a b c => .inl (h4 T a (fun h => b (hacts' h)) c)⟩
  · obtain ⟨d, ob, v, h1, h2, h3, h4⟩ := gact_alike hs
    refine ⟨_, _, h1, fun h0 => (by rw [hacts' h2] at h0; cases h0), fun hm d' ob' hmem => ?_, fun T a b c => .inr (.inl (h4 T a (b (hacts' h2))))⟩
    simp at hmem
    rw [hmem.1]
    exact h3 (hmakes hm)
  · have hax : actX X i o = true := by simp [actX, hX]
    refine ⟨u, O, h1, fun h0 => (by rw [hax] at h0; cases h0), fun hm => ?_, fun T a b c => .inr (.inr ⟨hX, u, O, rfl, fun T' hT hob => hall T' ⟨fun t ht => (a.1 t ht).trans (hT.1 t ht), a.2.1.trans hT.2.1, a.2.2.trans hT.2.2⟩ (fun d => (b hax d).trans (hob d))⟩)⟩
    simp [makX, hX] at hm
theorem panStep_alike {ops : List Oper} {i : Nat} {o : Oper} {S T : AS} (h : PanStep P w0 ops i o Q S) (hT : Alike ops o S T) (hob : ∀ d, get S.objs d = get T.objs d) : PanStep P w0 ops i o Q T :=
  fun T' hT' hob' => h T' ⟨fun t ht => (hT.1 t ht).trans (hT'.1 t ht), hT.2.1.trans hT'.2.1, hT.2.2.trans hT'.2.2⟩ (fun d => (hob d).trans (hob' d))
def xAny (P : Program) (kb : Nat) (w0 : Bs) (X : List Nat) (ops : List Oper) (Q : Exit → AS → Prop) (K : AS → Prop) : Nat → Array Bool → AS → Prop
  | 0, listed, S => Region.ready .any ops.toArray listed = [] ∧ K S
  | n + 1, listed, S => (Region.ready .any ops.toArray listed = [] → K S) ∧ ∀ i ∈ Region.ready .any ops.toArray listed, (∃ o S', ops[i]? = some o ∧ StepX P kb w0 X ops i o S S' ∧ xAny P kb w0 X ops Q K n (listed.setIfInBounds i true) S') ∨ ∃ o, ops[i]? = some o ∧ PanStep P w0 ops i o Q S
theorem xany_eqv {X : List Nat} {ops : List Oper} {K : AS → Prop} (hK : ∀ S T, S.eqv T → K S → K T) : ∀ (n : Nat) (listed : Array Bool) (S T : AS), S.eqv T → xAny P kb w0 X ops Q K n listed S → xAny P kb w0 X ops Q K n listed T
  | 0, _, _, _, h, ha => ⟨ha.1, hK _ _ h ha.2⟩
  | n + 1, listed, S, T, h, ha => ⟨fun h0 => hK _ _ h (ha.1 h0), fun i hi => by
    rcases ha.2 i hi with ⟨o, S', ho, hs, hrest⟩ | ⟨o, ho, hp⟩
    · obtain ⟨T', hT, he⟩ := stepX_eqv hs h
      exact .inl ⟨o, T', ho, hT, xany_eqv hK n _ S' T' he hrest⟩
    · exact .inr ⟨o, ho, panStep_alike hp ⟨fun t _ => h.1 t, h.2.2.2, h.2.2.1⟩ h.2.1⟩⟩
theorem xany_sound {X : List Nat} {ops : List Oper} {K : AS → Prop} (hK : ∀ S a w, K S → RelD (fun j => j < ops.length) w0 N0 S a w → post w0 N0 Q .normal a w) : ∀ (n : Nat) (listed : Array Bool) (S : AS) (a : Act) (w : World), listed.size = ops.length →
    RelD (fun j => listed.getD j false = true) w0 N0 S a w → xAny P kb w0 X ops Q K n listed S → wpAny P .any ops.toArray (post w0 N0 Q) n listed a w
  | 0, listed, S, a, w, hsz, hr, ha => by
    obtain ⟨μ, hr⟩ := hr
    refine ⟨ha.1, hK S a w ha.2 ⟨μ, hr.more (fun j hj => ?_)⟩⟩
    rcases Nat.lt_or_ge j listed.size with h | h
    · omega
    · simp [Array.getElem?_eq_none h] at hj
  | n + 1, listed, S, a, w, hsz, hr, ha => by
    refine ⟨fun h0 => ?_, fun i hi => ?_⟩
    · obtain ⟨μ, hr⟩ := hr
      refine hK S a w (ha.1 h0) ⟨μ, hr.more (fun j hj => ?_)⟩
      rcases Nat.lt_or_ge j listed.size with h | h
      · omega
      · simp [Array.getElem?_eq_none h] at hj
    · have hun := (mem_ready.1 hi).1
      have hil : i < listed.size := by
        rcases Nat.lt_or_ge i listed.size with h | h
        · exact h
        · simp [Array.getElem?_eq_none h] at hun
      have hni : ¬ (listed.getD i false = true) := by
        intro h1
        simp [hil] at hun h1
        rw [hun] at h1
        cases h1
      have hDb : ∀ j, listed.getD j false = true → j < ops.length := fun j hj => by
        rcases Nat.lt_or_ge j listed.size with h | h
        · omega
        · simp [Array.getElem?_eq_none h] at hj
      rcases ha.2 i hi with ⟨o, S', ho, hs, hrest⟩ | ⟨o, ho, hp⟩
      case inr =>
        unfold wpOp
        have ho' : ops.toArray[i]? = some o := by simpa using ho
        simp only [ho']
        obtain ⟨hw, hwp⟩ := hp S ⟨fun _ _ => rfl, rfl, rfl⟩ (fun _ => rfl) N0 _ a w hr hni hDb
        rw [if_pos hw]
        exact .inl (hwp _)
      unfold wpOp
      have ho' : ops.toArray[i]? = some o := by simpa using ho
      simp only [ho']
      have := stepX_sound (P := P) hr hni hDb hs (K := wpAny P .any ops.toArray (post w0 N0 Q) n (listed.setIfInBounds i true)) (Q' := post w0 N0 Q) (fun a' w' hr' => by
        obtain ⟨μ', hr'⟩ := hr'
        refine xany_sound hK n _ S' a' w' (by simpa using hsz) ⟨μ', hr'.more (fun j hj => ?_)⟩ hrest
        rcases hj with hj | hj
        · by_cases hij : i = j
          · subst hij; simp [hil]
          · rw [getD_set_ne false hij]; exact hj
        · subst hj; simp [hil])
      split
      · rename_i hw; rw [if_pos hw] at this; exact .inl this
      · rename_i hw; rw [if_neg hw] at this; exact this
theorem xany_first {X : List Nat} {ops : List Oper} {K : AS → Prop} (hK : ∀ S T, S.eqv T → K S → K T) {i : Nat} {oi : Oper} (hi : ops[i]? = some oi) (hq : actX X i oi = false) (hxi : mapUp oi.op = false) (hnd : mkOk ops = true) (B : List Nat) :
    ∀ (n : Nat) (listed : Array Bool) (S S1 : AS), Waits ops listed i B →
      (∀ j oj, ops[j]? = some oj → j ≠ i → listed.getD j true = false → j ∉ B → oi.apart ops.toArray oj = true ∧ (loads oi.op = true → actX X j oj = true → makX X j oj = true) ∧ mapUp oj.op = false) →
      (loads oi.op = true → ∀ j oj d, ops[j]? = some oj → listed.getD j true = false → makX X j oj = true → oj.dst = some d → get S.objs (kb + d) = none) →
      i ∈ Region.ready .any ops.toArray listed → StepX P kb w0 X ops i oi S S1 →
      xAny P kb w0 X ops Q K n (listed.setIfInBounds i true) S1 → xAny P kb w0 X ops Q K (n + 1) listed S := by
  intro n
  induction n with
  | zero =>
    intro listed S S1 _ _ _ hr hs H
    refine ⟨fun h => (by rw [h] at hr; cases hr), fun j hj => ?_⟩
    by_cases hji : j = i
    · subst hji; exact .inl ⟨oi, S1, hi, hs, H⟩
    · have := ready_mono hj hji
      rw [H.1] at this
      cases this
  | succ n ih =>
    intro listed S S1 hB hfree hfr hr hs H
    refine ⟨fun h => (by rw [h] at hr; cases hr), fun j hj => ?_⟩
    by_cases hji : j = i
    · subst hji; exact .inl ⟨oi, S1, hi, hs, H⟩
    · obtain ⟨hjun, oj', hoj', hall⟩ := mem_ready.1 hj
      have hoj : ops[j]? = some oj' := by simpa using hoj'
      have hiun := (mem_ready.1 hr).1
      have hun1 : ∀ k, listed.getD k true = false → ∀ e ∈ oj'.after, Region.binds .any e = true → e.on ≠ k := fun k hk e he hb heq => by
        have h1 := hall e he hb
        rw [heq] at h1
        rcases Nat.lt_or_ge k listed.size with h' | h'
        · simp [h'] at hk h1; rw [hk] at h1; cases h1
        · simp [Array.getElem?_eq_none h'] at h1
      have hnot : j ∉ B := fun hjB => by
        obtain ⟨_, oq, hoq, e, he, hb, hon⟩ := hB j hjB
        have : oq = oj' := by rw [hoj] at hoq; exact (Option.some.inj hoq).symm
        subst this
        rcases hon with hon | hon
        · exact hun1 i hiun e he hb hon
        · exact hun1 e.on (hB e.on hon).1 e he hb rfl
      obtain ⟨hap, hload, hmuj⟩ := hfree j oj' hoj hji hjun hnot
      obtain ⟨a1, a2, a3⟩ := Oper.apart_spec hap
      obtain ⟨u, O, rfl, hO, _, hall1⟩ := stepX_spec hs hxi
      have hOn := hO hq
      subst hOn
      rcases H.2 j (ready_mono hj hji) with ⟨oj, T', hoj2, hsj, hrest⟩ | ⟨oj, hoj2, hpj⟩
      case inr =>
        rw [hoj] at hoj2
        have := Option.some.inj hoj2
        subst this
        refine .inr ⟨oj', hoj, panStep_alike hpj ⟨fun t ht => ?_, rfl, rfl⟩ (fun _ => rfl)⟩
        cases hd : oi.dst with
        | none => rfl
        | some d =>
          simp only [AS.ap, get_cons]
          rw [if_neg (fun e => a1 d hd (by rw [e]; exact ht))]
      rw [hoj] at hoj2
      have := Option.some.inj hoj2
      subst this
      obtain ⟨u2, O2, rfl, hO2, hmk2, hall2⟩ := stepX_spec hsj hmuj
      -- j before i
      have hjS : StepX P kb w0 X ops j oj' S (S.ap oj'.dst u2 O2) := by
        refine hall2 S ⟨fun t ht => ?_, rfl, rfl⟩ (fun _ d => rfl) (fun _ p r hp => by rw [← place_congr (S := S.ap oj'.dst u2 [] |>.ap none u2 []) (T := S) (fun d => rfl)]; rw [place_congr (S := S.ap oi.dst u []) (T := S.ap oj'.dst u2 [] |>.ap none u2 []) (fun d => rfl)] at hp; exact hp)
        cases hd : oi.dst with
        | none => rfl
        | some d =>
          simp only [AS.ap, get_cons]
          rw [if_neg (fun e => a1 d hd (by rw [e]; exact ht))]
      -- i behind j
      have hplace : loads oi.op = true → ∀ p r, S.place p = some r → (S.ap oj'.dst u2 O2).place p = some r := by
        intro hl p r hp
        cases hact : actX X j oj' with
        | false =>
          rw [hO2 hact]
          rw [← place_congr (S := S) (T := S.ap oj'.dst u2 []) (fun d => rfl)]
          exact hp
        | true =>
          have hm := hload hl hact
          have hk : ∀ d, get S.objs d ≠ none → get (S.ap oj'.dst u2 O2).objs d = get S.objs d := by
            intro d hd
            have hnotin : ∀ ob, (d, ob) ∉ O2 := fun ob hmem => by
              obtain ⟨e, he, hde⟩ := hmk2 hm d ob hmem
              exact hd (by rw [hde]; exact hfr hl j oj' e hoj hjun hm he)
            show get (O2 ++ S.objs) d = get S.objs d
            clear hmk2 hall2 hsj hrest hjS hO2
            induction O2 with
            | nil => rfl
            | cons q O2 ihq =>
              obtain ⟨k, ob⟩ := q
              simp only [List.cons_append, get_cons]
              rw [if_neg (fun e => hnotin ob (by rw [e]; simp))]
              exact ihq (fun ob' hmem => hnotin ob' (by simp [hmem]))
          cases p <;> simp only [AS.place] at hp ⊢ <;> try (first | exact hp | (cases hp; done))
          rename_i d v sz k off
          cases hg : get S.objs d with
          | none => rw [hg] at hp; cases hp
          | some ob =>
            rw [hk d (by rw [hg]; simp)]
            exact hp
      have hiT : StepX P kb w0 X ops i oi (S.ap oj'.dst u2 O2) ((S.ap oj'.dst u2 O2).ap oi.dst u []) := by
        refine hall1 _ ⟨fun t ht => ?_, rfl, rfl⟩ (fun h0 => by rw [hq] at h0; cases h0) hplace
        cases hd : oj'.dst with
        | none => rfl
        | some d =>
          simp only [AS.ap, get_cons]
          rw [if_neg (fun e => a3 d hd (by rw [e]; exact ht))]
      have heq : ((S.ap oi.dst u []).ap oj'.dst u2 O2).eqv ((S.ap oj'.dst u2 O2).ap oi.dst u []) := by
        refine ⟨fun t => ?_, fun d => rfl, rfl, rfl⟩
        cases hd1 : oi.dst with
        | none => rfl
        | some d1 =>
          cases hd2 : oj'.dst with
          | none => rfl
          | some d2 =>
            have hne : d2 ≠ d1 := fun e => a2 d1 hd1 (by rw [hd2, e])
            simp only [AS.ap, get_cons]
            by_cases h1 : d1 = t <;> by_cases h2 : d2 = t <;> simp [h1, h2]
            exact absurd (h2.trans h1.symm) hne
      refine .inl ⟨oj', _, hoj, hjS, ih (listed.setIfInBounds j true) _ _ (fun k hk => by
        have hjk : j ≠ k := by rintro rfl; exact hnot hk
        exact ⟨by rw [getD_set_ne true hjk]; exact (hB k hk).1, (hB k hk).2⟩) (fun k ok hk hki hun hno => hfree k ok hk hki ?_ hno) (fun hl k ok d hk hun hm hd => ?_) (ready_mono hr (Ne.symm hji)) hiT ?_⟩
      · by_cases hjk : j = k
        · subst hjk; exact hjun
        · rw [getD_set_ne true hjk] at hun; exact hun
      · have hjk : j ≠ k := by
          rintro rfl
          have hjl : j < listed.size := by
            rcases Nat.lt_or_ge j listed.size with h | h
            · exact h
            · simp [Array.getElem?_eq_none h] at hjun
          simp [hjl] at hun
        have hun' : listed.getD k true = false := by rwa [getD_set_ne true hjk] at hun
        have h0 := hfr hl k ok d hk hun' hm hd
        show get (O2 ++ S.objs) (kb + d) = none
        cases hact : actX X j oj' with
        | false => rw [hO2 hact]; exact h0
        | true =>
          have hmj := hload hl hact
          have hnotin : ∀ ob, (kb + d, ob) ∉ O2 := fun ob hmem => by
            obtain ⟨e, hdj, hde⟩ := hmk2 hmj _ ob hmem
            have hed : d = e := Nat.add_left_cancel hde
            exact hjk (mkOk_spec hnd hoj hk (by simp only [makX, Bool.and_eq_true] at hmj; exact hmj.1) (by simp only [makX, Bool.and_eq_true] at hm; exact hm.1) (by rw [hdj, hd, hed]))
          clear hmk2 hall2 hsj hrest hjS hO2 hplace hiT heq
          induction O2 with
          | nil => exact h0
          | cons q O2 ihq =>
            obtain ⟨k', ob⟩ := q
            simp only [List.cons_append, get_cons]
            rw [if_neg (fun e => hnotin ob (by rw [e]; simp))]
            exact ihq (fun ob' hmem => hnotin ob' (by simp [hmem]))
      · rw [Array.setIfInBounds_comm _ _ hji]
        exact xany_eqv hK n _ _ _ heq hrest
def xfirstOk (X : List Nat) (ops : List Oper) (listed : Array Bool) (i : Nat) (oi : Oper) : Bool :=
  blkOk ops listed i (blk ops listed i) && (List.range ops.length).all fun j => j == i || listed.getD j true || (match ops[j]? with
    | some oj => (blk ops listed i).contains j || (oi.apart ops.toArray oj && !mapUp oj.op && (!loads oi.op || !actX X j oj || makX X j oj))
    | none => true)
theorem xfirstOk_spec {X : List Nat} {ops : List Oper} {listed : Array Bool} {i : Nat} {oi : Oper} (h : xfirstOk X ops listed i oi = true) : ∃ B, Waits ops listed i B ∧ ∀ j oj, ops[j]? = some oj → j ≠ i → listed.getD j true = false → j ∉ B →
    oi.apart ops.toArray oj = true ∧ (loads oi.op = true → actX X j oj = true → makX X j oj = true) ∧ mapUp oj.op = false := by
  unfold xfirstOk at h
  rw [Bool.and_eq_true] at h
  refine ⟨blk ops listed i, blkOk_spec h.1, ?_⟩
  intro j oj hj hji hun hno
  have hlt : j < ops.length := (List.getElem?_eq_some_iff.1 hj).1
  have h1 := List.all_eq_true.1 h.2 j (List.mem_range.2 hlt)
  simp only [hj, hun, Bool.or_false, Bool.or_eq_true, beq_iff_eq, Bool.and_eq_true] at h1
  rcases h1 with h1 | h1 | h1
  · exact absurd h1 hji
  · exact absurd (by simpa using h1) hno
  · refine ⟨h1.1.1, fun hl ha => ?_, by simpa using h1.1.2⟩
    rcases h1.2 with (h2 | h2) | h2
    · simp [hl] at h2
    · simp [ha] at h2
    · exact h2
def xmayTake (X : List Nat) (ops : List Oper) (listed : Array Bool) (i : Nat) (ks : List Nat) : Bool :=
  match ops[i]? with
  | some o => (!actX X i o && !mapUp o.op && (Region.ready .any ops.toArray listed).contains i && xfirstOk X ops listed i o && (!loads o.op || (List.range ops.length).all fun j => listed.getD j true || (match ops[j]? with
      | some oj => !makX X j oj || (match oj.dst with | some d => ks.contains d | none => true)
      | none => true))) || (Region.ready .any ops.toArray listed == [i])
  | none => false
def lst (ops : List Oper) : List Nat → Array Bool
  | [] => Array.replicate ops.length false
  | i :: l => (lst ops l).setIfInBounds i true
def AT (P : Program) (kb : Nat) (w0 : Bs) (X : List Nat) (ops : List Oper) (Q : Exit → AS → Prop) (done : List Nat) (S : AS) : Prop :=
  xAny P kb w0 X ops Q (fun S => ∃ S', ({ S with nx := S.nx + ops.length } : AS).le S' ∧ Q .normal S') (ops.length - done.length) (lst ops done) S
theorem K_eqv {ops : List Oper} {S T : AS} (he : S.eqv T) (h : ∃ S', ({ S with nx := S.nx + ops.length } : AS).le S' ∧ Q .normal S') : ∃ S', ({ T with nx := T.nx + ops.length } : AS).le S' ∧ Q .normal S' := by
  obtain ⟨S2, h5, h6⟩ := h
  have he' : ({ T with nx := T.nx + ops.length } : AS).eqv { S with nx := S.nx + ops.length } := ⟨fun t => (he.1 t).symm, fun d => (he.2.1 d).symm, by simp only; rw [he.2.2.1], he.2.2.2.symm⟩
  exact ⟨S2, AS.le_trans he'.le h5, h6⟩
variable {X : List Nat} {ops : List Oper} {done : List Nat} {S S' : AS}
theorem at_fin (h0 : (Region.ready .any ops.toArray (lst ops done)).isEmpty = true) (hle : ({ S with nx := S.nx + ops.length } : AS).le S') (h : Q .normal S') : AT P kb w0 X ops Q done S := by
  have h0' : Region.ready .any ops.toArray (lst ops done) = [] := by simpa using h0
  unfold AT
  cases ops.length - done.length with
  | zero => exact ⟨h0', S', hle, h⟩
  | succ n => exact ⟨fun _ => ⟨S', hle, h⟩, fun i hi => by rw [h0'] at hi; cases hi⟩
theorem at_step {i : Nat} {ks : List Nat} {o : Oper} (hc : (Nat.blt done.length ops.length && mkOk ops && xmayTake X ops (lst ops done) i ks) = true) (hi : ops[i]? = some o) (hks : (ks.all fun d => (get S.objs (kb + d)).isNone) = true) (hs : StepX P kb w0 X ops i o S S') (h : AT P kb w0 X ops Q (i :: done) S') : AT P kb w0 X ops Q done S := by
  simp only [Bool.and_eq_true, Nat.blt_eq] at hc
  obtain ⟨⟨hlt, hk⟩, hm⟩ := hc
  unfold AT at h ⊢
  rw [show ops.length - done.length = (ops.length - (i :: done).length) + 1 by simp only [List.length_cons]; omega]
  unfold xmayTake at hm
  simp only [hi, Bool.or_eq_true, Bool.and_eq_true, beq_iff_eq] at hm
  rcases hm with ⟨⟨⟨⟨h1, h1'⟩, h2⟩, h3⟩, h4⟩ | hm
  · obtain ⟨B, hB, hfree⟩ := xfirstOk_spec h3
    refine xany_first (fun S T he hh => K_eqv (Q := Q) (ops := ops) he hh) hi (by simpa using h1) (by simpa using h1') hk B _ _ S S' hB hfree (fun hl j oj d hj hun hmk hd => ?_) (by simpa using h2) hs h
    rcases h4 with h4 | h4
    · simp [hl] at h4
    · have h5 := List.all_eq_true.1 h4 j (List.mem_range.2 (List.getElem?_eq_some_iff.1 hj).1)
      simp only [hun, hj, hmk, hd, Bool.not_true, Bool.false_or] at h5
      have h6 := List.all_eq_true.1 hks d (by simpa using h5)
      simpa using h6
  · refine ⟨fun h0 => (by rw [hm] at h0; cases h0), fun j hj => ?_⟩
    rw [hm] at hj
    have : j = i := by simpa using hj
    subst this
    exact .inl ⟨o, S', hi, hs, h⟩
theorem at_fork (l : List Nat) (hc : (Nat.blt done.length ops.length && Region.ready .any ops.toArray (lst ops done) == l && !l.isEmpty) = true) (h : ∀ i ∈ l, ∃ o S', ops[i]? = some o ∧ StepX P kb w0 X ops i o S S' ∧ AT P kb w0 X ops Q (i :: done) S') : AT P kb w0 X ops Q done S := by
  simp only [Bool.and_eq_true, Nat.blt_eq, beq_iff_eq] at hc
  obtain ⟨⟨hlt, hm⟩, hne⟩ := hc
  unfold AT
  rw [show ops.length - done.length = (ops.length - (done.length + 1)) + 1 by omega]
  refine ⟨fun h0 => ?_, fun i hi => ?_⟩
  · rw [hm] at h0; subst h0; simp at hne
  · rw [hm] at hi
    obtain ⟨o, S', h1, h2, h3⟩ := h i hi
    exact .inl ⟨o, S', h1, h2, h3⟩
theorem awk_drawX {id : Nat} {l : List Oper} {S : AS} (kb : Nat) (X : List Nat) (hm : P.follows .mixedOrders = true) (h : AT P kb w0 X l Q [] S) : AW P w0 N0 (.region id l.toArray true) Q S := by
  rintro a w ⟨μ, hr⟩
  refine wp_region_any hm ?_
  have hsz : l.toArray.size = l.length := by simp
  rw [hsz]
  refine xany_sound (K := fun S => ∃ S', ({ S with nx := S.nx + l.length } : AS).le S' ∧ Q .normal S') ?_ l.length _ S a _ (by simp) ⟨μ, ?_⟩ h
  · rintro S a w ⟨S', h1, h2⟩ ⟨μ, hr⟩
    refine ⟨S', h2, h1 _ _ _ _ ⟨μ, ⟨hr.defers, hr.size, hr.below, hr.n0, fun d v hv => ?_, hr.objs, hr.inj, hr.env⟩⟩⟩
    rcases hr.fresh d v hv with h3 | ⟨j, hj, e⟩
    · exact .inl (by simp only; omega)
    · exact .inl (by simp only; omega)
  · have := hr.drew
    exact this.more (fun j hj => hj.elim)
def gact (P : Program) (kb : Nat) (ops : List Oper) (i : Nat) (o : Oper) (S : AS) : Option AS :=
  match o.guard with
  | none => none
  | some (j, want) => match S.gd ops j want with
    | some true => match acore P i S o.dst (kb + o.dst.getD 0) o.op with
      | some (O, v) => ({ S with objs := O } : AS).putv o.dst (.whn true v)
      | none => none
    | _ => none
theorem gact_spec {i : Nat} {o : Oper} (h : gact P kb ops i o S = some S') : GActStep P kb ops i o S S' := by
  unfold gact at h
  split at h
  · cases h
  · rename_i j want hg
    split at h
    · rename_i hc
      split at h
      · rename_i O v hco
        exact ⟨j, want, O, v, hg, hc, hco, h⟩
      · cases h
    · cases h
theorem sx_act {i : Nat} {o : Oper} (h : gact P kb ops i o S = some S') : StepX P kb w0 X ops i o S S' := .inr (.inl (gact_spec h))
theorem sx_go {i : Nat} {o : Oper} (h : astepK P kb ops i o S = some S') : StepX P kb w0 X ops i o S S' := .inl (.inl h)
theorem views_congr {S T : AS} (h : ∀ d, get S.objs d = get T.objs d) : ∀ (vs : List V), S.views vs = T.views vs := by
  have hC : ∀ v, S.viewC v = T.viewC v := by
    intro v
    cases v <;> simp only [AS.viewC] <;> rw [elems_congr h]
  have hL : ∀ l, S.viewL l = T.viewL l := by
    intro l
    induction l with
    | nil => rfl
    | cons v l ih => simp only [AS.viewL, hC, ih]
  have hV : ∀ v, S.view v = T.view v := by
    intro v
    cases v <;> simp only [AS.view, hC, hL]
  intro vs
  induction vs with
  | nil => rfl
  | cons v l ih => simp only [AS.views, hV, ih]
theorem wanted_of {D : Nat → Prop} {μ : Mu} {a : Act} {w : World} {o : Oper} (hr : RelM D w0 N0 μ S a w) (hg : S.gv ops o = some true) : Region.wanted o (yielded ops.toArray a.tmps) = true := by
  unfold AS.gv at hg
  split at hg
  · rename_i hgn; simp [Region.wanted, hgn]
  · rename_i j want hgn; exact gd_spec hr hgn hg
theorem sx_callv {i : Nat} {o : Oper} {f : Operand} {fid : FuncId} {fn : Func} {args : Array Operand} {ats : Array TypeId} {vs us : List V} {res : V}
    (hX : i ∈ X) (hc : AC P fid us (fun r => r = res)) (hfn : P.funcs[fid]? = some fn) (hb : fn.body.isSome = true) (hn : (fn.name == "runtime.NumGoroutine") = false)
    (hg : S.gv ops o = some true) (ho : o.op = .call { callee := .value f, args := args, argTypes := ats }) (hf : S.evc true f = some (.fn fid))
    (ha : S.args true args.toList = some vs) (hp : S.views vs = some us) (hl : res.light = true) (hs : S.putv o.dst (wrapG o true res) = some S') : StepX P kb w0 X ops i o S S' := by
  obtain ⟨hs1, hs2⟩ := putv_ap hs
  refine .inr (.inr ⟨hX, wrapG o true res, [], hs1, fun T hT hob N0 D a w hr hi hDb K Q' hK => ?_⟩)
  replace hg : T.gv ops o = some true := by rw [← hT.gv]; exact hg
  replace hf : T.evc true f = some (.fn fid) := by rw [← hT.evc (by rw [ho]; simp [Op.operands, Call.operands])]; exact hf
  replace ha : T.args true args.toList = some vs := by rw [← args_congr (S := S) (T := T) (fun x hx => hT.evc (by rw [ho]; simp [Op.operands, Call.operands]; right; simpa using hx) true)]; exact ha
  replace hp : T.views vs = some us := by rw [← views_congr hob]; exact hp
  have hs := ap_putv (S := T) (wrapG o true res) (fun d hd => by rw [← hT.2.1]; exact hs2 d hd)
  obtain ⟨μ, hr⟩ := hr
  rw [wanted_of hr hg, if_pos rfl]
  have hfv := hr.evc hf rfl
  have hfe : a.eval f = .func (.func fid) #[] #[] := by
    generalize a.eval f = y at hfv
    cases hfv with
    | pur hfv => cases hfv with
      | fn => rfl
  obtain ⟨h1, h2⟩ := args_spec hr rfl ha
  obtain ⟨h3, h4⟩ := views_spec hp
  unfold Oper.wp
  rw [run_call_fn ho hfe hfn hb hn]
  have hcall := hc w N0 (args.toList.map a.eval) (fun b hb => Nat.lt_of_lt_of_le (hr.n0.1 b hb).1 hr.below.size) (by simp [h1, h3]) (fun j x v hx hv => by
    simp only [List.getElem?_map, Option.map_eq_some_iff] at hx
    obtain ⟨y, hy, rfl⟩ := hx
    have hj : j < vs.length := by rw [← h3]; exact (List.getElem?_eq_some_iff.1 hv).1
    exact hr.view (h2 j y vs[j] hy (List.getElem?_eq_getElem hj)) (h4 j vs[j] v (List.getElem?_eq_getElem hj) hv))
  have harr : (args.toList.map a.eval).toArray = args.map a.eval := by apply Array.ext'; simp
  rw [harr] at hcall
  refine hcall.mono ?_
  rintro e w' ⟨x, r, rfl, rfl, hpx, hbw⟩
  refine hK _ _ ⟨μ, ((hr.later hbw).putv hs ?_).more (fun j hj => .inl hj)⟩
  unfold wrapG
  split
  · exact .pur (hpx.of_light hl)
  · exact .whn _ _ _ (fun _ => .pur (hpx.of_light hl)) (fun hf => by cases hf)
theorem sx_callO {i : Nat} {o : Oper} {f : Operand} {fid : FuncId} {fn : Func} {args : Array Operand} {ats : Array TypeId} {vs us : List V} {sz : Nat} {ty : TypeId} {F : Nat → Nat → V} {es : List V} (d : Nat)
    (hX : i ∈ X) (hc : ACO P fid us sz ty (fun F' es' => F' = F ∧ es' = es)) (hfn : P.funcs[fid]? = some fn) (hb : fn.body.isSome = true) (hn : (fn.name == "runtime.NumGoroutine") = false)
    (hg : S.gv ops o = some true) (ho : o.op = .call { callee := .value f, args := args, argTypes := ats }) (hf : S.evc true f = some (.fn fid))
    (ha : S.args true args.toList = some vs) (hp : S.views vs = some us) (hs : ({ S with objs := (d, ⟨S.nx + i, sz, ty, es⟩) :: S.objs } : AS).putv o.dst (wrapG o true (F d (S.nx + i))) = some S') : StepX P kb w0 X ops i o S S' := by
  obtain ⟨hs1, hs2⟩ := putv_ap hs
  refine .inr (.inr ⟨hX, wrapG o true (F d (S.nx + i)), [(d, ⟨S.nx + i, sz, ty, es⟩)], hs1, fun T hT hob N0 D a w hr hi hDb K Q' hK => ?_⟩)
  replace hg : T.gv ops o = some true := by rw [← hT.gv]; exact hg
  replace hf : T.evc true f = some (.fn fid) := by rw [← hT.evc (by rw [ho]; simp [Op.operands, Call.operands])]; exact hf
  replace ha : T.args true args.toList = some vs := by rw [← args_congr (S := S) (T := T) (fun x hx => hT.evc (by rw [ho]; simp [Op.operands, Call.operands]; right; simpa using hx) true)]; exact ha
  replace hp : T.views vs = some us := by rw [← views_congr hob]; exact hp
  have hnx : S.nx = T.nx := hT.2.2
  have hs := ap_putv (S := { T with objs := (d, ⟨T.nx + i, sz, ty, es⟩) :: T.objs }) (dst := o.dst) (wrapG o true (F d (T.nx + i))) (fun d hd => by have := hs2 d hd; simp only at this ⊢; rw [← hT.2.1]; exact this)
  rw [hnx] at hK
  obtain ⟨μ, hr⟩ := hr
  rw [wanted_of hr hg, if_pos rfl]
  have hfv := hr.evc hf rfl
  have hfe : a.eval f = .func (.func fid) #[] #[] := by
    generalize a.eval f = y at hfv
    cases hfv with
    | pur hfv => cases hfv with
      | fn => rfl
  obtain ⟨h1, h2⟩ := args_spec hr rfl ha
  obtain ⟨h3, h4⟩ := views_spec hp
  unfold Oper.wp
  rw [run_call_fn ho hfe hfn hb hn]
  have hcall := hc w N0 (args.toList.map a.eval) (fun b hb => Nat.lt_of_lt_of_le (hr.n0.1 b hb).1 hr.below.size) (by simp [h1, h3]) (fun j x v hx hv => by
    simp only [List.getElem?_map, Option.map_eq_some_iff] at hx
    obtain ⟨y, hy, rfl⟩ := hx
    have hj : j < vs.length := by rw [← h3]; exact (List.getElem?_eq_some_iff.1 hv).1
    exact hr.view (h2 j y vs[j] hy (List.getElem?_eq_getElem hj)) (h4 j vs[j] v (List.getElem?_eq_getElem hj) hv))
  have harr : (args.toList.map a.eval).toArray = args.map a.eval := by apply Array.ext'; simp
  rw [harr] at hcall
  refine hcall.mono ?_
  rintro e w' ⟨x, F', es', l, rfl, ⟨rfl, rfl⟩, hbw, hpx⟩
  have hmono := hr.muSet_mono hi d l
  obtain ⟨hrel, _⟩ := hr.update (D' := fun j => D j ∨ j = i) (d := d) (o' := ⟨T.nx + i, sz, ty, es'⟩) (l' := l) (w' := w') (μ' := muSet μ d (T.nx + i) l) hmono (hr.muSet_fresh i d _) (muSet_same _ _ _ _)
    (hr.below.trans (hbw.mono hr.below.size)) (Keeps.of_below hbw _) (fun d1 o1 g c _ h1 h2 => hbw.block g (hr.block_lt h1 h2))
    (fun g c e => by
      have := (hpx d (T.nx + i) (muSet μ d (T.nx + i) l) (fun _ => False) (muSet_same _ _ _ _)).2
      rw [e] at this
      exact .inl (this.1.elim id (fun h => h.elim)))
    (fun N' _ => by
      have := (hpx d (T.nx + i) (muSet μ d (T.nx + i) l) N' (muSet_same _ _ _ _)).2
      cases l with
      | none => exact this
      | some gc => exact ⟨.inl (Nat.le_trans hr.below.size (this.1.elim id (fun h => h.elim))), this.2⟩)
  refine hK _ _ ⟨_, hrel.putv hs ?_⟩
  unfold wrapG
  split
  · exact (hpx d (T.nx + i) _ _ (muSet_same _ _ _ _)).1
  · exact .whn _ _ _ (fun _ => (hpx d (T.nx + i) _ _ (muSet_same _ _ _ _)).1) (fun hf => by cases hf)
def fin (l : List Oper) (L M : List Nat) (S : AS) : AS := (S.bump l.length).keep L M
attribute [simp] gact fin
end
end Go.Eng

namespace Go.Eng
open Go.ChangeShapes Go.WideShapes Go.ChangeAt Go.RowKit
end Go.Eng

namespace Go.Eng
open Go.RowKit
def aresR (P : Program) (S : AS) : List ResultVar → Option (List V)
  | [] => some []
  | r :: rs => match aresult P S r, aresR P S rs with
    | some v, some vs => some (v :: vs)
    | _, _ => none
def aresT (P : Program) (S : AS) (rs : List ResultVar) : Option V :=
  match aresR P S rs with
  | some [v] => some v
  | some vs => some (.tup vs)
  | none => none
attribute [simp] aresR aresT
def ACS (P : Program) (f : FuncId) (args : List V) (ins : List (Nat × Ob)) (R : V → List (Nat × Ob) → Prop) (E : List PanicEntry → Prop) : Prop :=
  ∀ (B : Bs) (N : Nat → Prop) (μ : Mu) (nx : Nat) (xs : List Value), xs.length = args.length → B.df = [] →
    RelM (fun _ => False) B N μ ⟨env0 0 args, ins, nx, args.length⟩ ⟨xs.toArray, []⟩ B.w →
    Calls P f xs.toArray B.w (fun e w' => (∃ x r outs nx' μ', e = .returned x ∧ R r outs ∧ nx ≤ nx' ∧ RelM (fun _ => False) B N μ' ⟨[(0, r)], outs, nx', 1⟩ ⟨#[x], []⟩ w') ∨ (∃ ch, e = .panicked ch ∧ E ch ∧ B.Below w'))
section
variable {P : Program} {w0 : Bs} {N0 : Nat → Prop} {Q : Exit → AS → Prop} {S : AS}
theorem aresT_run {D : Nat → Prop} {μ : Mu} {a : Act} {w : World} (h : RelM D w0 N0 μ S a w) {fn : Func} {r : V} (hv : aresT P S fn.results.toList = some r) : ∃ x, (results fn a.tmps).run P w = .ok x w ∧ Enc w (Own N0 μ S) μ x r := by
  have key : ∀ (l : List ResultVar) (vs : List V), aresR P S l = some vs → ∃ xs : List Value, (l.mapM (resSem a.tmps)).run P w = .ok xs w ∧
      xs.length = vs.length ∧ ∀ (i : Nat) x v, xs[i]? = some x → vs[i]? = some v → Enc w (Own N0 μ S) μ x v := by
    intro l
    induction l with
    | nil => intro vs hvs; simp only [aresR, Option.some.injEq] at hvs; subst hvs; exact ⟨[], rfl, rfl, by simp⟩
    | cons q l ih =>
      intro vs hvs
      simp only [aresR] at hvs
      split at hvs
      case h_2 => cases hvs
      rename_i v vs' h1 h2
      injection hvs with hvs
      subst hvs
      obtain ⟨x, hx, hex⟩ := aresult_run h h1
      obtain ⟨xs, hxs, hl, hh⟩ := ih vs' h2
      refine ⟨x :: xs, ?_, by simp [hl], fun i y v hy hv => ?_⟩
      · rw [List.mapM_cons, Sem.run_bind, hx, Result.andThen_ok, Sem.run_bind, hxs, Result.andThen_ok]
        rfl
      · rcases i with _ | i
        · simp at hy hv; subst hy; subst hv; exact hex
        · simp at hy hv; exact hh i y v hy hv
  unfold aresT at hv
  have hmap : ∀ xs : List Value, (fn.results.toList.mapM (resSem a.tmps)).run P w = .ok xs w →
      (results fn a.tmps).run P w = .ok (if h : xs.toArray.size = 1 then xs.toArray[0] else .tuple xs.toArray) w := by
    intro xs hxs
    rw [results_eq, Sem.run_bind, Array.mapM_eq_mapM_toList, Sem.run_map, hxs]
    rfl
  split at hv
  · rename_i v hvs
    injection hv with hv
    subst hv
    obtain ⟨xs, h1, h2, h3⟩ := key _ _ hvs
    match xs, h2 with
    | [x], _ => exact ⟨x, hmap [x] h1, h3 0 x _ rfl rfl⟩
  · rename_i vs hne hvs
    injection hv with hv
    subst hv
    obtain ⟨xs, h1, h2, h3⟩ := key _ _ hvs
    refine ⟨.tuple xs.toArray, ?_, .tup xs vs h2 h3⟩
    rw [hmap xs h1]
    have : ¬ xs.toArray.size = 1 := by
      intro h0
      have hl : vs.length = 1 := by simp at h0; omega
      match vs, hl with
      | [v], _ => exact hne v rfl
    rw [dif_neg this]
  · cases hv
theorem RelM.enter {μ : Mu} {args : List V} {objs : List (Nat × Ob)} {nx nt : Nat} {xs : List Value} {w : World} (hlen : xs.length = args.length) (hl : args.length ≤ nt) (hd : w0.df = [])
    (h : RelM (fun _ => False) w0 N0 μ ⟨env0 0 args, objs, nx, args.length⟩ ⟨xs.toArray, []⟩ w) :
    RelM (fun _ => False) w0 N0 μ ⟨env0 0 args, objs, nx, nt⟩ { tmps := xs.toArray ++ Array.replicate (nt - xs.toArray.size) undef, defers := [] } w := by
  refine ⟨hd.symm, ?_, h.below, h.n0, h.fresh, h.objs, h.inj, fun t v hv => ?_⟩
  · simp only [Array.size_append, List.size_toArray, Array.size_replicate]; omega
  · obtain ⟨h1, h2⟩ := h.env t v hv
    refine ⟨by simp only at h1 ⊢; omega, ?_⟩
    have hget : (xs.toArray ++ Array.replicate (nt - xs.toArray.size) undef).getD t undef = xs.toArray.getD t undef := by
      simp only at h1
      simp only [Array.getD_eq_getD_getElem?]
      rw [Array.getElem?_append_left (by simp; omega)]
    rw [hget]
    exact h2
theorem RelM.leave {μ : Mu} {a : Act} {w : World} (h : RelM (fun _ => False) w0 N0 μ S a w) (hd : w0.df = []) {x : Value} {r : V} {outs : List (Nat × Ob)} (hx : Enc w (Own N0 μ S) μ x r) (ho : ∀ k o, get outs k = some o → get S.objs k = some o) :
    RelM (fun _ => False) w0 N0 μ ⟨[(0, r)], outs, S.nx, 1⟩ ⟨#[x], []⟩ w := by
  have hsub : ∀ b, b < w.heap.size → Own N0 μ ⟨[(0, r)], outs, S.nx, 1⟩ b → Own N0 μ S b := by
    rintro b _ (h0 | ⟨d, o, c, h1, h2⟩)
    · exact .inl h0
    · exact .inr ⟨d, o, c, ho d o h1, h2⟩
  have hk := Keeps.refl w (Own N0 μ S)
  refine ⟨hd.symm, rfl, h.below, h.n0, h.fresh, fun d o hd => ?_, fun d o d' o' g c c' h1 h2 => h.inj d o d' o' g c c' (ho _ _ h1) (ho _ _ h2), fun t v hv => ?_⟩
  · obtain ⟨l, hl, hob⟩ := h.objs d o (ho _ _ hd)
    exact ⟨l, hl, hob.keep hk hsub (fun _ _ _ hh => hh) (fun _ _ _ => rfl)⟩
  · simp only [get_cons, get] at hv
    split at hv
    · rename_i e
      subst e
      injection hv with hv
      subst hv
      exact ⟨Nat.one_pos, by simpa using hx.keep hk hsub (fun _ _ _ hh => hh)⟩
    · cases hv
theorem get_app {α : Type} (r : List (Nat × α)) (t : Nat) : ∀ (l : List (Nat × α)), get (l ++ r) t = match get l t with | some x => some x | none => get r t
  | [] => rfl
  | (k, x) :: l => by
    simp only [List.cons_append, get_cons]
    split
    · rfl
    · exact get_app r t l
def OwnB (μ : Mu) (objs : List (Nat × Ob)) (b : Nat) : Prop := ∃ d o cap, get objs d = some o ∧ μ d o.v = some (some (b, cap))
theorem RelM.hand {D : Nat → Prop} {μ : Mu} {a : Act} {w : World} (h : RelM D w0 N0 μ S a w) {nx : Nat} (hnx : ∀ d v, μ d v ≠ none → v < nx) {vs : List V} {xs : List Value} {ins : List (Nat × Ob)} (hlen : xs.length = vs.length)
    (hins : ∀ k o, get ins k = some o → get S.objs k = some o) (hx : ∀ (i : Nat) x v, xs[i]? = some x → vs[i]? = some v → Enc w (Own N0 μ S) μ x v) :
    RelM (fun _ => False) ⟨w, OwnB μ ins, μ, []⟩ (fun b => Own N0 μ S b ∧ ¬ OwnB μ ins b) μ ⟨env0 0 vs, ins, nx, vs.length⟩ ⟨xs.toArray, []⟩ w := by
  have hk := Keeps.refl w (Own N0 μ S)
  have hsub : ∀ b, b < w.heap.size → Own (fun b => Own N0 μ S b ∧ ¬ OwnB μ ins b) μ ⟨env0 0 vs, ins, nx, vs.length⟩ b → Own N0 μ S b := by
    rintro b _ (h0 | ⟨d, o, c, h1, h2⟩)
    · exact h0.1
    · exact .inr ⟨d, o, c, hins _ _ h1, h2⟩
  refine ⟨rfl, by simp [hlen], Bs.Below.refl _, ⟨fun b hb => ⟨?_, hb.2⟩, fun _ _ _ hh => hh⟩, fun d v hv => .inl (hnx d v hv), fun d o hd => ?_, fun d o d' o' g c c' h1 h2 => h.inj d o d' o' g c c' (hins _ _ h1) (hins _ _ h2), fun t v hv => ?_⟩
  · exact h.own_lt b hb.1
  · obtain ⟨l, hl, hob⟩ := h.objs d o (hins d o hd)
    refine ⟨l, hl, ?_⟩
    have := hob.keep hk hsub (fun _ _ _ hh => hh) (fun _ _ _ => rfl)
    cases l with
    | none => exact this
    | some gc => exact ⟨.inr ⟨d, o, gc.2, hd, hl⟩, this.2⟩
  · obtain ⟨_, h2⟩ := get_env0 hv
    simp only [Nat.sub_zero] at h2
    have ht : t < vs.length := (List.getElem?_eq_some_iff.1 h2).1
    refine ⟨ht, ?_⟩
    have hxt : xs[t]? = some xs[t] := List.getElem?_eq_getElem (by omega)
    have : xs.toArray.getD t undef = xs[t] := by simp [hxt]
    rw [this]
    exact (hx t xs[t] v hxt h2).keep hk hsub (fun _ _ _ hh => hh)
theorem RelM.back {D : Nat → Prop} {μ μ' : Mu} {a : Act} {w w' : World} (h : RelM D w0 N0 μ S a w) {ins outs : List (Nat × Ob)} {nx' : Nat} {r : V} {x : Value} (hins : ∀ k o, get ins k = some o → get S.objs k = some o)
    (hcov : ∀ k, get outs k = none → get ins k = none)
    (hr : RelM (fun _ => False) ⟨w, OwnB μ ins, μ, []⟩ (fun b => Own N0 μ S b ∧ ¬ OwnB μ ins b) μ' ⟨[(0, r)], outs, nx', 1⟩ ⟨#[x], []⟩ w') :
    RelM (fun _ => False) w0 N0 μ' { S with objs := outs ++ S.objs, nx := nx' } a w' ∧ Enc w' (Own N0 μ' { S with objs := outs ++ S.objs, nx := nx' }) μ' x r := by
  have hμ : ∀ d v l, μ d v = some l → μ' d v = some l := hr.n0.2
  have happ : ∀ d o, get (outs ++ S.objs) d = some o → get outs d = some o ∨ (get outs d = none ∧ get S.objs d = some o) := by
    intro d o hd
    rw [get_app] at hd
    cases ho : get outs d with
    | none => rw [ho] at hd; exact .inr ⟨rfl, hd⟩
    | some q => rw [ho] at hd; exact .inl hd
  -- an object that was not handed over has a block of its own
  have hrest : ∀ d o g c, get S.objs d = some o → get ins d = none → μ d o.v = some (some (g, c)) → ¬ OwnB μ ins g := by
    rintro d o g c h1 h2 h3 ⟨d', o', c', h4, h5⟩
    have := h.inj d o d' o' g c c' h1 (hins _ _ h4) h3 h5
    subst this
    rw [h2] at h4
    cases h4
  have hkeep : Keeps w (Own N0 μ S) w' := ⟨hr.below.size, fun b hb hn => hr.below.block b hb (fun ⟨d, o, c, h1, h2⟩ => hn (.inr ⟨d, o, c, hins _ _ h1, h2⟩))⟩
  have hfreeB : ∀ g, (⟨w, OwnB μ ins, μ, []⟩ : Bs).free g → w0.free g := by
    rintro g (hg | ⟨d, o, c, h1, h2⟩)
    · exact .inl (Nat.le_trans h.below.size hg)
    · obtain ⟨l, hl, hob⟩ := h.objs d o (hins _ _ h1)
      rw [h2] at hl
      injection hl with hl
      subst hl
      exact hob.1
  have houtfree : ∀ d o g c, get outs d = some o → μ' d o.v = some (some (g, c)) → (⟨w, OwnB μ ins, μ, []⟩ : Bs).free g := by
    intro d o g c h1 h2
    obtain ⟨l, hl, hob⟩ := hr.objs d o h1
    rw [h2] at hl
    injection hl with hl
    subst hl
    exact hob.1
  have hsame : ∀ d o, get S.objs d = some o → ∀ l, μ' d o.v = some l → μ d o.v = some l := by
    intro d o h1 l h2
    obtain ⟨l', hl', _⟩ := h.objs d o h1
    have := hμ _ _ _ hl'
    rw [h2] at this
    injection this with this
    rw [hl', this]
  have hsub : ∀ b, b < w.heap.size → Own N0 μ' { S with objs := outs ++ S.objs, nx := nx' } b → Own N0 μ S b := by
    rintro b hb (h0 | ⟨d, o, c, h1, h2⟩)
    · exact .inl h0
    · rcases happ d o h1 with h3 | ⟨_, h4⟩
      · rcases houtfree d o b c h3 h2 with h5 | ⟨d', o', c', h6, h7⟩
        · exact absurd hb (Nat.not_lt.2 h5)
        · exact .inr ⟨d', o', c', hins _ _ h6, h7⟩
      · exact .inr ⟨d, o, c, h4, hsame d o h4 _ h2⟩
  have hsub' : ∀ b, b < w'.heap.size → Own N0 μ' { S with objs := outs ++ S.objs, nx := nx' } b → Own (fun b => Own N0 μ S b ∧ ¬ OwnB μ ins b) μ' ⟨[(0, r)], outs, nx', 1⟩ b := by
    rintro b hb (h0 | ⟨d, o, c, h1, h2⟩)
    · by_cases hB : OwnB μ ins b
      · obtain ⟨d, o, c, h1, h2⟩ := hB
        obtain ⟨l, hl, hob⟩ := h.objs d o (hins _ _ h1)
        rw [h2] at hl
        injection hl with hl
        subst hl
        exact absurd hob.1 (fun hf => hf.elim (fun h => by have := (‹RelM D w0 N0 μ S a w›.n0.1 b h0).1; omega) (‹RelM D w0 N0 μ S a w›.n0.1 b h0).2)
      · exact .inl ⟨.inl h0, hB⟩
    · rcases happ d o h1 with h3 | ⟨h3, h4⟩
      · exact .inr ⟨d, o, c, h3, h2⟩
      · have h5 := hsame d o h4 _ h2
        exact .inl ⟨.inr ⟨d, o, c, h4, h5⟩, hrest d o b c h4 (hcov d h3) h5⟩
  refine ⟨⟨h.defers, h.size, ?_, ⟨h.n0.1, fun d v l hl => hμ _ _ _ (h.n0.2 d v l hl)⟩, fun d v hv => ?_, fun d o hd => ?_, fun d o d' o' g c c' h1 h2 h3 h4 => ?_, fun t v hv => ⟨(h.env t v hv).1, (h.env t v hv).2.keep hkeep hsub hμ⟩⟩, ?_⟩
  · refine ⟨hr.below.os.trans h.below.os, hr.below.tape.trans h.below.tape, hr.below.output.trans h.below.output, Nat.le_trans h.below.size hr.below.size, fun k hk hX => ?_⟩
    refine (hr.below.block k (Nat.lt_of_lt_of_le hk h.below.size) (fun hB => ?_)).trans (h.below.block k hk hX)
    rcases hfreeB k (.inr hB) with h1 | h1
    · omega
    · exact hX h1
  · rcases hr.fresh d v hv with h1 | ⟨j, hj, _⟩
    · exact .inl h1
    · exact hj.elim
  · rcases happ d o hd with h1 | ⟨h1, h2⟩
    · obtain ⟨l, hl, hob⟩ := hr.objs d o h1
      refine ⟨l, hl, ?_⟩
      have := hob.keep (Keeps.refl w' _) hsub' (fun _ _ _ hh => hh) (fun _ _ _ => rfl)
      cases l with
      | none => exact this
      | some gc => exact ⟨hfreeB _ this.1, this.2⟩
    · obtain ⟨l, hl, hob⟩ := h.objs d o h2
      refine ⟨l, hμ _ _ _ hl, hob.keep hkeep hsub hμ (fun g c e => ?_)⟩
      subst e
      exact hr.below.block g (h.block_lt h2 hl) (hrest d o g c h2 (hcov d h1) hl)
  · have mixed : ∀ d o d' o' g c c', get outs d = some o → μ' d o.v = some (some (g, c)) → get outs d' = none → get S.objs d' = some o' → μ' d' o'.v = some (some (g, c')) → False := by
      intro d o d' o' g c c' h1 h2 h3 h4 h5
      have h6 := hsame d' o' h4 _ h5
      rcases houtfree d o g c h1 h2 with h7 | h7
      · exact absurd (h.block_lt h4 h6) (Nat.not_lt.2 h7)
      · exact hrest d' o' g c' h4 (hcov d' h3) h6 h7
    rcases happ d o h1 with a1 | ⟨a1, a2⟩ <;> rcases happ d' o' h2 with b1 | ⟨b1, b2⟩
    · exact hr.inj d o d' o' g c c' a1 b1 h3 h4
    · exact (mixed d o d' o' g c c' a1 h3 b1 b2 h4).elim
    · exact (mixed d' o' d o g c' c b1 h4 a1 a2 h3).elim
    · exact h.inj d o d' o' g c c' a2 b2 (hsame d o a2 _ h3) (hsame d' o' b2 _ h4)
  · have := (hr.env 0 r (by simp [get])).2
    simp only [Array.getD_eq_getD_getElem?] at this
    exact Enc.keep (Keeps.refl w' _) hsub' (fun _ _ _ hh => hh) (by simpa using this)
theorem RelM.fresh_lt {D : Nat → Prop} {μ : Mu} {a : Act} {w : World} (h : RelM D w0 N0 μ S a w) {i : Nat} (hD : ∀ j, D j → j < i) : ∀ d v, μ d v ≠ none → v < S.nx + i + 1 := by
  intro d v hv
  rcases h.fresh d v hv with h1 | ⟨j, hj, e⟩
  · omega
  · have := hD j hj
    omega
theorem fn_eval {D : Nat → Prop} {μ : Mu} {a : Act} {w : World} (h : RelM D w0 N0 μ S a w) {f : Operand} {fid : FuncId} (hf : S.evc true f = some (.fn fid)) : a.eval f = .func (.func fid) #[] #[] := by
  have hfv := h.evc hf rfl
  generalize a.eval f = y at hfv
  cases hfv with
  | pur hfv => cases hfv with
    | fn => rfl
def dropK {α : Type} (L : List Nat) : List (Nat × α) → List (Nat × α)
  | [] => []
  | (k, x) :: r => if L.contains k then dropK L r else (k, x) :: dropK L r
theorem get_dropK {α : Type} {L : List Nat} : ∀ {l : List (Nat × α)} {k : Nat} {x : α}, get (dropK L l) k = some x → get l k = some x ∧ k ∉ L
  | [], k, x, h => by simp [dropK, get] at h
  | (q, y) :: r, k, x, h => by
    simp only [dropK] at h
    split at h
    · rename_i hq
      obtain ⟨h1, h2⟩ := get_dropK h
      refine ⟨?_, h2⟩
      rw [get_cons, if_neg (fun e => h2 (by rw [← e]; simpa using hq))]
      exact h1
    · rename_i hq
      rw [get_cons] at h ⊢
      split
      · rename_i e
        rw [if_pos e] at h
        exact ⟨h, by rw [← e]; simpa using hq⟩
      · rename_i e
        rw [if_neg e] at h
        exact get_dropK h
theorem get_mem {α : Type} : ∀ {l : List (Nat × α)} {k : Nat} {x : α}, get l k = some x → k ∈ l.map (·.1)
  | [], k, x, h => by simp [get] at h
  | (q, y) :: r, k, x, h => by
    rw [get_cons] at h
    split at h
    · rename_i e; simp [e]
    · exact List.mem_cons_of_mem _ (get_mem h)
theorem call_run {o : Oper} {a : Act} {w : World} {f : Operand} {fid : FuncId} {fn : Func} {args : Array Operand} {ats : Array TypeId} (ho : o.op = .call { callee := .value f, args := args, argTypes := ats }) (hf : a.eval f = .func (.func fid) #[] #[])
    (hfn : P.funcs[fid]? = some fn) (hb : fn.body.isSome = true) (hn : (fn.name == "runtime.NumGoroutine") = false) {K : Act → World → Prop} {Q' : Exit → Act → World → Prop} {R : Ending → World → Prop}
    (hc : Calls P fid (args.toList.map a.eval).toArray w R) (h1 : ∀ x w', R (.returned x) w' → K (a.put o.dst x) w') (h2 : ∀ ch w', R (.panicked ch) w' → Q' (.panic ch) a w') (h3 : ∀ w', ¬ R .outgrown w') : o.wp P a w K Q' := by
  unfold Oper.wp
  rw [run_call_fn ho hf hfn hb hn]
  have harr : (args.toList.map a.eval).toArray = args.map a.eval := by apply Array.ext'; simp
  rw [harr] at hc
  refine hc.mono ?_
  intro e w' hR
  cases e with
  | returned x => exact h1 x w' hR
  | panicked ch => exact h2 ch w' hR
  | outgrown => exact (h3 w' hR).elim
end
end Go.Eng

namespace Go.Eng
open Go.RowKit
def storeOnly (ins outs : List (Nat × Ob)) : Bool :=
  (outs.all fun p => match get ins p.1 with | some q => q.v == p.2.v && q.sz == p.2.sz && q.ty == p.2.ty && p.2.es.all V.pureE | none => false) && (ins.all fun p => (get outs p.1).isSome)
attribute [simp] storeOnly
theorem get_in {α : Type} : ∀ {l : List (Nat × α)} {k : Nat} {x : α}, get l k = some x → (k, x) ∈ l
  | [], k, x, h => by simp [get] at h
  | (q, y) :: r, k, x, h => by
    rw [get_cons] at h
    split at h
    · rename_i e; injection h with h; subst e; subst h; simp
    · exact List.mem_cons_of_mem _ (get_in h)
theorem storeOnly_spec {ins outs : List (Nat × Ob)} (h : storeOnly ins outs = true) : (∀ k o, get outs k = some o → ∃ q, get ins k = some q ∧ q.v = o.v ∧ o.es.all V.pureE = true) ∧ ∀ k, get outs k = none → get ins k = none := by
  simp only [storeOnly, Bool.and_eq_true] at h
  refine ⟨fun k o ho => ?_, fun k hk => ?_⟩
  · have := List.all_eq_true.1 h.1 (k, o) (get_in ho)
    simp only at this
    split at this
    · rename_i q hq
      simp only [Bool.and_eq_true, beq_iff_eq] at this
      exact ⟨q, hq, this.1.1.1, this.2⟩
    · cases this
  · cases hq : get ins k with
    | none => rfl
    | some q =>
      have := List.all_eq_true.1 h.2 (k, q) (get_in hq)
      simp only [hk] at this
      cases this
section
variable {P : Program} {kb : Nat} {w0 : Bs} {N0 : Nat → Prop} {Q : Exit → AS → Prop} {S S' : AS}
theorem RelM.back0 {D : Nat → Prop} {μ μ' : Mu} {a : Act} {w w' : World} (h : RelM D w0 N0 μ S a w) {ins outs : List (Nat × Ob)} {nx' : Nat} {r : V} {x : Value} (hins : ∀ k o, get ins k = some o → get S.objs k = some o)
    (hso : storeOnly ins outs = true) (hp : r.pureV = true)
    (hr : RelM (fun _ => False) ⟨w, OwnB μ ins, μ, []⟩ (fun b => Own N0 μ S b ∧ ¬ OwnB μ ins b) μ' ⟨[(0, r)], outs, nx', 1⟩ ⟨#[x], []⟩ w') :
    RelM D w0 N0 μ { S with objs := outs ++ S.objs } a w' ∧ Pur w' (Own N0 μ { S with objs := outs ++ S.objs }) x r := by
  obtain ⟨hso1, hcov⟩ := storeOnly_spec hso
  obtain ⟨hb1, hb2⟩ := h.back hins hcov hr
  have hμ : ∀ d v l, μ d v = some l → μ' d v = some l := hr.n0.2
  have happ : ∀ d o, get (outs ++ S.objs) d = some o → get outs d = some o ∨ (get outs d = none ∧ get S.objs d = some o) := by
    intro d o hd
    rw [get_app] at hd
    cases ho : get outs d with
    | none => rw [ho] at hd; exact .inr ⟨rfl, hd⟩
    | some q => rw [ho] at hd; exact .inl hd
  -- every object's name is an old one
  have hold : ∀ d o, get (outs ++ S.objs) d = some o → ∃ l, μ d o.v = some l := by
    intro d o hd
    rcases happ d o hd with h1 | ⟨_, h1⟩
    · obtain ⟨q, h2, h3, _⟩ := hso1 d o h1
      obtain ⟨l, hl, _⟩ := h.objs d q (hins _ _ h2)
      exact ⟨l, by rw [← h3]; exact hl⟩
    · obtain ⟨l, hl, _⟩ := h.objs d o h1
      exact ⟨l, hl⟩
  have hsame : ∀ d o, get (outs ++ S.objs) d = some o → μ' d o.v = μ d o.v := by
    intro d o hd
    obtain ⟨l, hl⟩ := hold d o hd
    rw [hl, hμ _ _ _ hl]
  have hown : Own N0 μ' { S with objs := outs ++ S.objs, nx := nx' } = Own N0 μ { S with objs := outs ++ S.objs } := by
    funext b
    unfold Own
    refine propext ⟨?_, ?_⟩
    · rintro (h0 | ⟨d, o, c, h1, h2⟩)
      · exact .inl h0
      · exact .inr ⟨d, o, c, h1, by rw [← hsame d o h1]; exact h2⟩
    · rintro (h0 | ⟨d, o, c, h1, h2⟩)
      · exact .inl h0
      · exact .inr ⟨d, o, c, h1, by rw [hsame d o h1]; exact h2⟩
  have hkeep : Keeps w (Own N0 μ S) w' := ⟨hr.below.size, fun b hb hn => hr.below.block b hb (fun ⟨d, o, c, h1, h2⟩ => hn (.inr ⟨d, o, c, hins _ _ h1, h2⟩))⟩
  have hsub : ∀ b, b < w.heap.size → Own N0 μ { S with objs := outs ++ S.objs } b → Own N0 μ S b := by
    rintro b hb (h0 | ⟨d, o, c, h1, h2⟩)
    · exact .inl h0
    · rcases happ d o h1 with h3 | ⟨_, h4⟩
      · obtain ⟨q, h5, h6, _⟩ := hso1 d o h3
        exact .inr ⟨d, q, c, hins _ _ h5, by rw [h6]; exact h2⟩
      · exact .inr ⟨d, o, c, h4, h2⟩
  refine ⟨⟨h.defers, h.size, hb1.below, h.n0, h.fresh, fun d o hd => ?_, fun d o d' o' g c c' h1 h2 h3 h4 => hb1.inj d o d' o' g c c' h1 h2 (by rw [hsame d o h1]; exact h3) (by rw [hsame d' o' h2]; exact h4), fun t v hv => ⟨(h.env t v hv).1, (h.env t v hv).2.keep hkeep hsub (fun _ _ _ hh => hh)⟩⟩, ?_⟩
  · rcases happ d o hd with h1 | ⟨h1, h2⟩
    · obtain ⟨l, hl, hob⟩ := hb1.objs d o hd
      rw [hsame d o hd] at hl
      refine ⟨l, hl, ?_⟩
      obtain ⟨_, _, _, hpe⟩ := hso1 d o h1
      cases l with
      | none => exact hob
      | some gc =>
        obtain ⟨o1, o2, o3, o4, arr, o5, o6, o7⟩ := hob
        refine ⟨o1, o2, o3, o4, arr, o5, o6, fun k e j c he hj => ?_⟩
        obtain ⟨y, hy, hey⟩ := o7 k e j c he hj
        refine ⟨y, hy, .pur ?_⟩
        rw [← hown]
        exact hey.pureC (List.all_eq_true.1 (List.all_eq_true.1 hpe e (List.mem_of_getElem? he)) c (List.mem_of_getElem? hj))
    · obtain ⟨l, hl, hob⟩ := h.objs d o h2
      refine ⟨l, hl, hob.keep hkeep hsub (fun _ _ _ hh => hh) (fun g c e => ?_)⟩
      subst e
      refine hr.below.block g (h.block_lt h2 hl) ?_
      rintro ⟨d', q, c', h4, h5⟩
      have := h.inj d o d' q g c c' h2 (hins _ _ h4) hl h5
      subst this
      rw [hcov d h1] at h4
      cases h4
  · rw [← hown]
    exact hb2.pureV hp
end
end Go.Eng

namespace Go.Eng
open Go.RowKit
def recv : FrameMode → Value × FrameMode
  | .panicking ({ v, recovered := false, goexit := false } :: older) => (v, .panicking ({ v, recovered := true } :: older))
  | u => (.nilIface, u)
def ACD (P : Program) (f : FuncId) (args : List V) (ins : List (Nat × Ob)) (u u' : FrameMode) (R : List (Nat × Ob) → Prop) : Prop :=
  ∀ (B : Bs) (N : Nat → Prop) (μ : Mu) (nx : Nat) (xs : List Value), xs.length = args.length → B.df = [] →
    RelM (fun _ => False) B N μ ⟨env0 0 args, ins, nx, args.length⟩ ⟨xs.toArray, []⟩ B.w →
    CallsD P f xs.toArray u B.w (fun e q w' => ∃ x outs nx' μ', e = .returned x ∧ q = u' ∧ R outs ∧ nx ≤ nx' ∧ RelM (fun _ => False) B N μ' ⟨[], outs, nx', 0⟩ ⟨#[], []⟩ w')
def EndsD (R : List (Nat × Ob) → Prop) (nx : Nat) : Exit → AS → Prop
  | .ret, S | .normal, S => nx ≤ S.nx ∧ ∃ outs, (∀ k o, get outs k = some o → get S.objs k = some o) ∧ R outs
  | _, _ => False
section
variable {P : Program} {w0 : Bs} {N0 : Nat → Prop} {Q : Exit → AS → Prop} {S : AS}
theorem opsS_of_list {ops : Array Oper} {Q' : Exit → Act → World → Prop} {QS : Exit → Act → List Frame → World → Prop} {cs : List Frame} (hout : ∀ a w, ¬ Q' .outgrown a w) (hQ : ∀ e a w, Q' e a w → QS e a cs w) :
    ∀ (l : List Oper) (k : Nat) (a : Act) (w : World), (∀ j, l[j]? = ops[k + j]?) → wpList P ops Q' l a w → wpOpsS P ops QS (List.range' k l.length) a cs w
  | [], k, a, w, _, h => hQ _ _ _ h
  | o :: l, k, a, w, hk, h => by
    have h0 : ops[k]? = some o := by simpa using (hk 0).symm
    have ih := fun a w => opsS_of_list hout hQ l (k + 1) a w (fun j => by have := hk (j + 1); simpa [Nat.add_assoc, Nat.add_comm 1 j] using this)
    simp only [List.length_cons, List.range'_succ, wpOpsS, h0]
    unfold wpList at h
    split at h
    · rename_i hw
      rw [if_pos hw]
      have h1 : o.wp P a w (wpList P ops Q' l) Q' := by
        rcases h with h | ⟨_, a', w', h⟩
        · exact h
        · exact (hout _ _ h).elim
      unfold Oper.wp at h1
      generalize (execOp a.eval o).run P w = r at h1 ⊢
      cases r with
      | ok n w' =>
        cases n <;> simp only [Oper.upon] at h1 ⊢ <;> first | exact ih _ _ h1 | (exact h1.elim) | skip
        · refine h1.mono ?_
          intro e w'' he
          cases e with
          | returned v => exact ih _ _ he
          | panicked ch => exact hQ _ _ _ he
          | outgrown => obtain ⟨a', w3, h3⟩ := he; exact (hout _ _ h3).elim
        · exact h1.mono fun v w'' he => ih _ _ he
      | halt hh w' =>
        cases hh <;> simp only [Oper.upon] at h1 ⊢ <;> first | exact hQ _ _ _ h1 | (exact h1.elim)
    · rename_i hw
      rw [if_neg hw]
      exact ih _ _ h
theorem recoverD_mode {c₀ : Frame} {cs : List Frame} {u : FrameMode} (hu : c₀.mode = u) :
    (match recoverD (c₀ :: cs) with | some (v, cs') => (v, cs') | none => (.nilIface, c₀ :: cs)) = ((recv u).1, { c₀ with mode := (recv u).2 } :: cs) := by
  have hc : ({ c₀ with mode := u } : Frame) = c₀ := by subst hu; rfl
  simp only [recoverD, hu]
  split
  · rename_i v cs' h
    split at h
    · rename_i v' older
      simp only [Option.some.injEq, Prod.mk.injEq] at h
      obtain ⟨rfl, rfl⟩ := h
      rfl
    · cases h
  · rename_i h
    split at h
    · cases h
    · rename_i hne
      have : recv u = (.nilIface, u) := by
        unfold recv
        split
        · rename_i v older
          exact absurd rfl (hne v older)
        · rfl
      rw [this]
      simp only
      rw [hc]
theorem acd_recover {f : FuncId} {fn : Func} {id : Nat} {o0 : Oper} {l : List Oper} {rest : Code} {args : List V} {ins : List (Nat × Ob)} {u : FrameMode} {v : V} {R : List (Nat × Ob) → Prop} {d0 : Nat} (hf : P.funcs[f]? = some fn) (hb : fn.body = some (.seq (.region id (o0 :: l).toArray false) rest)) (hl : args.length ≤ fn.ntmps)
    (ho : o0.op = .call { callee := .builtin .recover, args := #[], argTypes := #[] }) (hg : o0.guard = none) (hd : o0.dst = some d0) (hd0 : d0 < fn.ntmps) (hv : ∀ w N, Pur w N (recv u).1 v)
    (h : ∀ w0 N0 nx, AWL P w0 N0 (o0 :: l) (ethen (AW P w0 N0 rest (EndsD R nx)) (EndsD R nx)) 1 l ⟨(d0, v) :: env0 0 args, ins, nx, fn.ntmps⟩)
    (hres : fn.results = #[]) : ACD P f args ins u (recv u).2 R := by
  intro B N μ nx xs hlen hdf hr
  refine callsD_of_wpS hf hb (fun c₀ cs hu => wpS_seq (wpS_region ?_))
  have hrel := hr.enter hlen hl hdf
  have hrel2 : RelM (fun _ => False) B N μ ⟨(d0, v) :: env0 0 args, ins, nx, fn.ntmps⟩ (Act.put { tmps := xs.toArray ++ Array.replicate (fn.ntmps - xs.toArray.size) undef, defers := [] } o0.dst (recv u).1) B.w := by
    rw [hd]; exact hrel.put hd0 (.pur (hv _ _))
  have hwp := h B N nx (fun _ => False) _ B.w (fun j hj => hj.elim) ⟨μ, hrel2⟩
  have hend : ∀ e a w', post B N (EndsD R nx) e a w' → bodyPostS P fn c₀ cs (fun e q w' => ∃ x outs nx' μ', e = .returned x ∧ q = (recv u).2 ∧ R outs ∧ nx ≤ nx' ∧ RelM (fun _ => False) B N μ' ⟨[], outs, nx', 0⟩ ⟨#[], []⟩ w') e a ({ c₀ with mode := (recv u).2 } :: cs) w' := by
    rintro e a w' ⟨S', hE, μ', hr'⟩
    have key : nx ≤ S'.nx ∧ (∃ outs, (∀ k o, get outs k = some o → get S'.objs k = some o) ∧ R outs) → a.defers = [] ∧ ∃ u', { c₀ with mode := (recv u).2 } :: cs = { c₀ with mode := u' } :: cs ∧ ∃ v, (results fn a.tmps).run P w' = .ok v w' ∧
        ∃ x outs nx' μ', Ending.returned v = .returned x ∧ u' = (recv u).2 ∧ R outs ∧ nx ≤ nx' ∧ RelM (fun _ => False) B N μ' ⟨[], outs, nx', 0⟩ ⟨#[], []⟩ w' := by
      rintro ⟨hnx, outs, h1, h2⟩
      refine ⟨by rw [hr'.defers, hdf], (recv u).2, rfl, .tuple #[], by rw [results_eq, hres]; simp [Array.mapM_eq_mapM_toList], .tuple #[], outs, S'.nx, μ', rfl, rfl, h2, hnx, ?_⟩
      have hx : Enc w' (Own N μ' S') μ' (.bool true) (.bool true) := .pur (.bool _)
      have := hr'.leave hdf hx h1
      refine ⟨hdf.symm, rfl, this.below, this.n0, this.fresh, fun d o hd => ?_, fun d o d' o' g c c' a1 a2 => this.inj d o d' o' g c c' a1 a2, fun t v hv => by simp [get] at hv⟩
      exact this.objs d o hd
    cases e with
    | ret => exact key hE
    | normal => exact key hE
    | _ => exact hE.elim
  have hrange : List.range (o0 :: l).toArray.size = 0 :: List.range' 1 l.length := by
    rw [List.range_eq_range']
    simp [List.range'_succ]
  rw [hrange]
  have hx0 : (execOp (Act.eval { tmps := xs.toArray ++ Array.replicate (fn.ntmps - xs.toArray.size) undef, defers := [] }) o0).run P B.w = .ok .recover B.w := by
    unfold execOp
    rw [ho]
    simp [resolve, invoke, builtin]
  simp only [wpOpsS]
  have hw : Region.wanted o0 (yielded (o0 :: l).toArray (xs.toArray ++ Array.replicate (fn.ntmps - xs.toArray.size) undef)) = true := by simp [Region.wanted, hg]
  simp only [List.getElem?_toArray, List.getElem?_cons_zero, hw, if_true, hx0]
  have hmode := recoverD_mode (cs := cs) hu
  have fin : wpOpsS P (o0 :: l).toArray (Exit.thenS (rest.wpS P (bodyPostS P fn c₀ cs (fun e q w' => ∃ x outs nx' μ', e = .returned x ∧ q = (recv u).2 ∧ R outs ∧ nx ≤ nx' ∧ RelM (fun _ => False) B N μ' ⟨[], outs, nx', 0⟩ ⟨#[], []⟩ w'))) (bodyPostS P fn c₀ cs (fun e q w' => ∃ x outs nx' μ', e = .returned x ∧ q = (recv u).2 ∧ R outs ∧ nx ≤ nx' ∧ RelM (fun _ => False) B N μ' ⟨[], outs, nx', 0⟩ ⟨#[], []⟩ w'))) (List.range' 1 l.length)
      (Act.put { tmps := xs.toArray ++ Array.replicate (fn.ntmps - xs.toArray.size) undef, defers := [] } o0.dst (recv u).1) ({ c₀ with mode := (recv u).2 } :: cs) B.w := by
    refine opsS_of_list ?_ ?_ l 1 _ _ (fun j => by simp [Nat.add_comm 1 j]) hwp
    · rintro a w ⟨S', hE, _⟩
      exact hE
    · rintro e a w' ⟨S', hE, hR⟩
      cases e with
      | normal =>
        refine wpS_of_wp (wp_mono (hE a w' hR) ?_)
        intro e2 a2 w2 h2
        exact hend _ _ _ h2
      | ret => exact hend .ret a w' ⟨S', hE, hR⟩
      | _ => exact hE.elim
  split
  · rename_i v' cs' hrec
    rw [hrec] at hmode
    simp only [Prod.mk.injEq] at hmode
    rw [hmode.1, hmode.2]
    exact fin
  · rename_i hrec
    rw [hrec] at hmode
    simp only [Prod.mk.injEq] at hmode
    rw [hmode.1, hmode.2]
    exact fin
def V.isBp : V → Bool
  | .bp .. => true
  | _ => false
theorem Enc.bp_mono {w w' : World} {N N' : Nat → Prop} {μ μ' : Mu} {x : Value} {v : V} (h : Enc w N μ x v) (hb : v.isBp = true) (hμ : ∀ d v l, μ d v = some l → μ' d v = some l) : Enc w' N' μ' x v := by
  cases v <;> simp only [V.isBp] at hb <;> try (cases hb; done)
  cases h with
  | pur h => cases h
  | bp _ _ _ _ _ g cap h1 => exact .bp _ _ _ _ _ g cap (hμ _ _ _ h1)
def modeOf : Exit → Option FrameMode
  | .ret | .normal => some .returning
  | .panic ch => some (.panicking ch)
  | _ => none
def EndsF (P : Program) (fn : Func) (cf : FuncId) (cvs : List V) (R : V → Prop) (e : Exit) (S : AS) : Prop :=
  ∃ u u' ins R', modeOf e = some u ∧ (∀ k o, get ins k = some o → get S.objs k = some o) ∧ ACD P cf cvs ins u u' R' ∧ settle u' = .returning ∧
    ∀ outs nx, R' outs → (∀ k, get outs k = none → get ins k = none) ∧ ∃ r, aresults P { S with objs := outs ++ S.objs, nx := nx } fn.results.toList = some r ∧ R r
theorem ac_deferred {f : FuncId} {fn : Func} {c1 c2 : Code} {id : Nat} {om od : Oper} {args : List V} {R : V → Prop} {S1 : AS} {cf : FuncId} {cfn : Func} {caps : Array Operand} {cvs : List V} {dm : Nat} {ats : Array TypeId} (hf : P.funcs[f]? = some fn)
    (hb : fn.body = some (.seq c1 (.seq (.region id [om, od].toArray false) c2))) (hl : args.length ≤ fn.ntmps) (hcf : P.funcs[cf]? = some cfn) (hcb : cfn.body.isSome = true) (hcn : (cfn.name == "runtime.NumGoroutine") = false)
    (hom : om.op = .makeFunc (.func cf) #[] caps) (hog : om.guard = none) (hodst : om.dst = some dm) (hod : od.op = .defer { callee := .value (.tmp dm), args := #[], argTypes := ats }) (hdg : od.guard = none) (hdd : od.dst = none)
    (h1 : ∀ w0 N0, AW P w0 N0 c1 (fun e S => e = .normal ∧ S = S1) ⟨env0 0 args, [], 0, fn.ntmps⟩) (hcv : S1.args true caps.toList = some cvs) (hbp : cvs.all V.isBp = true) (hdm : dm < S1.nt)
    (h2 : ∀ w0 N0, AW P w0 N0 c2 (EndsF P fn cf cvs R) { S1 with nx := S1.nx + 2 }) (hdrop : get S1.env dm = none) : AC P f args R := by
  intro w N xs hN hlen hp
  have hr0 : RelM (fun _ => False) ⟨w, fun _ => False, fun _ _ => none, []⟩ N (fun _ _ => none) ⟨env0 0 args, [], 0, args.length⟩ ⟨xs.toArray, []⟩ w := by
    refine ⟨rfl, by simp [hlen], Bs.Below.refl _, ⟨fun b hb => ⟨hN b hb, fun h => h⟩, fun _ _ _ h => by cases h⟩, fun d v hv => absurd rfl hv, fun d o hd => by simp [get] at hd, fun d o _ _ _ _ _ hd => by simp [get] at hd, fun t v hv => ?_⟩
    obtain ⟨_, h2⟩ := get_env0 hv
    simp only [Nat.sub_zero] at h2
    have ht : t < args.length := (List.getElem?_eq_some_iff.1 h2).1
    have hxt : xs[t]? = some xs[t] := List.getElem?_eq_getElem (by omega)
    have he : xs.toArray.getD t undef = xs[t] := by simp [hxt]
    refine ⟨ht, .pur ?_⟩
    rw [he]
    exact (hp t xs[t] v hxt h2).keep (Keeps.refl _ _) (fun b hb ho => by
      rcases ho with h0 | ⟨d, o, c, h1, _⟩
      · exact h0
      · simp [get] at h1)
  refine calls_of_wp_defers hf hb (wp_seq (wp_mono (h1 ⟨w, fun _ => False, fun _ _ => none, []⟩ N _ w ⟨_, hr0.enter hlen hl rfl⟩) ?_))
  rintro e a w1 ⟨S, ⟨rfl, rfl⟩, μ1, hr1⟩
  refine wp_seq (wp_region_lit ?_)
  obtain ⟨hcl, hcx⟩ := args_spec hr1 rfl hcv
  -- the closure's value, and the deferred call
  refine wpList_plain hog fun K hK => ?_
  have hfv : (execOp a.eval om).run P w1 = .ok (.value (.func (.func cf) #[] (caps.map a.eval))) w1 := by
    unfold execOp
    rw [hom]
    simp [Instr.makeFunc]
  unfold Oper.wp
  rw [hfv, Oper.upon_value, hodst]
  refine hK _ _ (wpList_plain hdg fun K' hK' => ?_)
  have hsz : dm < a.tmps.size := by rw [hr1.size]; exact hdm
  have hev : (a.put (some dm) (.func (.func cf) #[] (caps.map a.eval))).eval (.tmp dm) = .func (.func cf) #[] (caps.map a.eval) := by
    show (a.put (some dm) _).tmps.getD dm undef = _
    rw [tmps_put a dm _ dm hsz, if_pos rfl]
  have hdf : (execOp (a.put (some dm) (.func (.func cf) #[] (caps.map a.eval))).eval od).run P w1 = .ok (.defer { target := .fn (.func cf) (caps.map a.eval), args := #[] }) w1 := by
    unfold execOp
    rw [hod]
    simp only [resolve, hev, Deferred.ofValue, Sem.run_bind, Sem.run_pure, Result.andThen_ok, List.map_toArray, List.map_nil]
    rfl
  unfold Oper.wp
  rw [hdf, Oper.upon_defer, hdd]
  refine hK' _ _ (wpList_nil ?_)
  -- the rest of the body
  have hr2 : RelM (fun _ => False) ⟨w, fun _ => False, μ1, [{ target := .fn (.func cf) (caps.map a.eval), args := #[] }]⟩ N μ1 { S with nx := S.nx + 2 } ({ (a.put (some dm) (.func (.func cf) #[] (caps.map a.eval))) with defers := { target := .fn (.func cf) (caps.map a.eval), args := #[] } :: (a.put (some dm) (.func (.func cf) #[] (caps.map a.eval))).defers } : Act) w1 := by
    have hd0 : (a.put (some dm) (.func (.func cf) #[] (caps.map a.eval))).defers = [] := hr1.defers
    refine ⟨by simp only [hd0], by simp [Act.put, hr1.size], ⟨hr1.below.os, hr1.below.tape, hr1.below.output, hr1.below.size, hr1.below.block⟩, ⟨hr1.n0.1, fun _ _ _ h => h⟩, fun d v hv => ?_, fun d o ho => ?_, hr1.inj, fun t v hv => ?_⟩
    · rcases hr1.fresh d v hv with h3 | ⟨j, hj, _⟩
      · exact .inl (by simp only; omega)
      · exact hj.elim
    · obtain ⟨l, hl', hob⟩ := hr1.objs d o ho
      refine ⟨l, hl', ?_⟩
      cases l with
      | none => exact hob
      | some gc => exact hob
    · have hne : dm ≠ t := by rintro rfl; simp only at hv; rw [hdrop] at hv; cases hv
      obtain ⟨h3, h4⟩ := hr1.env t v hv
      refine ⟨h3, ?_⟩
      simp only
      rw [tmps_put a dm _ t hsz, if_neg hne]
      exact h4
  refine wp_mono (h2 _ N _ w1 ⟨μ1, hr2⟩) ?_
  rintro e a' w2 ⟨S2, ⟨u, u', ins, R', hmode, hins, hacd, hset, hout⟩, μ2, hr3⟩
  have hdf2 : a'.defers = [{ target := .fn (.func cf) (caps.map a.eval), args := #[] }] := hr3.defers
  have hinv : (invoke (.fn (.func cf) (caps.map a.eval)) #[]).run P w2 = .ok (.enter cf (caps.map a.eval)) w2 := by
    have hn' : ¬ cfn.name = "runtime.NumGoroutine" := by simpa using hcn
    simp [invoke, callFunc, hcf, hn', Option.isNone_iff_eq_none, Option.isSome_iff_ne_none.1 hcb]
  have hleave : Leaves P fn a'.tmps (fun e w' => ∃ x r, e = .returned x ∧ R r ∧ Pur w' N x r ∧ Below w.heap.size w w') a'.defers u w2 := by
    rw [hdf2]
    have hu : u ≠ .run := by
      cases e <;> simp [modeOf] at hmode <;> rw [← hmode] <;> simp
    refine leaves_cons hu hinv ?_
    have hmono : ∀ d v l, μ1 d v = some l → μ2 d v = some l := hr3.n0.2
    have hhand := hr3.hand (nx := S2.nx + 0 + 1) (hr3.fresh_lt (fun j hj => hj.elim)) (vs := cvs) (xs := caps.toList.map a.eval) (ins := ins) (by simp [hcl]) hins (fun j x v hx hv => by
      simp only [List.getElem?_map, Option.map_eq_some_iff] at hx
      obtain ⟨y, hy, rfl⟩ := hx
      exact (hcx j y v hy hv).bp_mono (List.all_eq_true.1 hbp v (List.mem_of_getElem? hv)) hmono)
    have hcall := hacd ⟨w2, OwnB μ2 ins, μ2, []⟩ _ μ2 _ (caps.toList.map a.eval) (by simp [hcl]) rfl hhand
    have harr : (caps.toList.map a.eval).toArray = caps.map a.eval := by apply Array.ext'; simp
    rw [harr] at hcall
    refine hcall.mono ?_
    rintro e' q w3 ⟨x, outs, nx', μ3, rfl, rfl, hR', hnx, hrel⟩
    obtain ⟨hcov, r, hres, hRr⟩ := hout outs nx' hR'
    have hrel' : RelM (fun _ => False) ⟨w2, OwnB μ2 ins, μ2, []⟩ (fun b => Own N μ2 S2 b ∧ ¬ OwnB μ2 ins b) μ3 ⟨[(0, .bool true)], outs, nx', 1⟩ ⟨#[.bool true], []⟩ w3 := by
      refine ⟨rfl, rfl, hrel.below, hrel.n0, hrel.fresh, hrel.objs, hrel.inj, fun t v hv => ?_⟩
      simp only [get_cons, get] at hv
      split at hv
      · rename_i e; subst e; injection hv with hv; subst hv; exact ⟨Nat.one_pos, .pur (.bool _)⟩
      · cases hv
    obtain ⟨hb1, _⟩ := hr3.back hins hcov hrel'
    obtain ⟨y, hy, hpy⟩ := aresults_run (P := P) (fn := fn) (r := r) hb1 hres
    show Leaves P fn a'.tmps _ [] (settle q) w3
    rw [hset]
    exact ⟨y, hy, y, r, rfl, hRr, hpy, ⟨hb1.below.os, hb1.below.tape, hb1.below.output, hb1.below.size, fun k hk => hb1.below.block k hk (fun h => h)⟩⟩
  cases e with
  | ret => simp only [modeOf, Option.some.injEq] at hmode; subst hmode; exact hleave
  | normal => simp only [modeOf, Option.some.injEq] at hmode; subst hmode; exact hleave
  | panic ch => simp only [modeOf, Option.some.injEq] at hmode; subst hmode; exact hleave
  | _ => simp [modeOf] at hmode
end
end Go.Eng

namespace Go.Eng
open Go.RowKit
def ACA (P : Program) (f : FuncId) (args : List V) (sz : Nat) (ty : TypeId) (es new : List V) : Prop :=
  ∀ d v, ACS P f (.sl d v sz es.length :: args) [(d, ⟨v, sz, ty, es⟩)] (fun r outs => ∃ v', r = .sl d v' sz (es ++ new).length ∧ outs = [(d, ⟨v', sz, ty, es ++ new⟩)]) (fun _ => False)
section
variable {P : Program} {kb : Nat} {w0 : Bs} {N0 : Nat → Prop} {Q : Exit → AS → Prop} {S S' : AS}
theorem RelM.backA {D : Nat → Prop} {μ μ' : Mu} {a : Act} {w w' : World} (h : RelM D w0 N0 μ S a w) {i : Nat} (hi : ¬ D i) {d v sz nx' v' : Nat} {ty : TypeId} {es es' : List V} {x : Value} (hd : get S.objs d = some ⟨v, sz, ty, es⟩)
    (hfl : es'.all flatE = true)
    (hr : RelM (fun _ => False) ⟨w, OwnB μ [(d, ⟨v, sz, ty, es⟩)], μ, []⟩ (fun b => Own N0 μ S b ∧ ¬ OwnB μ [(d, ⟨v, sz, ty, es⟩)] b) μ' ⟨[(0, .sl d v' sz es'.length)], [(d, ⟨v', sz, ty, es'⟩)], nx', 1⟩ ⟨#[x], []⟩ w') :
    ∃ μ'', RelM (fun j => D j ∨ j = i) w0 N0 μ'' { S with objs := (d, ⟨S.nx + i, sz, ty, es'⟩) :: S.objs } a w' ∧ ∀ N, Enc w' N μ'' x (.sl d (S.nx + i) sz es'.length) := by
  have hins : ∀ k o, get [(d, (⟨v, sz, ty, es⟩ : Ob))] k = some o → get S.objs k = some o := by
    intro k o hk
    simp only [get_cons, get] at hk
    split at hk
    · rename_i e; subst e; injection hk with hk; subst hk; exact hd
    · cases hk
  obtain ⟨l, hl, hob⟩ := hr.objs d ⟨v', sz, ty, es'⟩ (by simp [get])
  simp only at hl
  have hX : ∀ b, OwnB μ [(d, (⟨v, sz, ty, es⟩ : Ob))] b → ∃ c, μ d v = some (some (b, c)) := by
    rintro b ⟨d', o', c, h1, h2⟩
    simp only [get_cons, get] at h1
    split at h1
    · rename_i e; subst e; injection h1 with h1; subst h1; exact ⟨c, h2⟩
    · cases h1
  have hkeep : Keeps w (Own N0 μ S) w' := ⟨hr.below.size, fun b hb hn => hr.below.block b hb (fun ⟨d, o, c, h1, h2⟩ => hn (.inr ⟨d, o, c, hins _ _ h1, h2⟩))⟩
  have hfreeX : ∀ b c, μ d v = some (some (b, c)) → w0.free b := by
    intro b c hm
    obtain ⟨l', hl', hob'⟩ := h.objs d _ hd
    simp only at hl'
    rw [hm] at hl'
    injection hl' with hl'
    subst hl'
    exact hob'.1
  have hbelow : w0.Below w' := by
    refine ⟨hr.below.os.trans h.below.os, hr.below.tape.trans h.below.tape, hr.below.output.trans h.below.output, Nat.le_trans h.below.size hr.below.size, fun k hk hXk => ?_⟩
    refine (hr.below.block k (Nat.lt_of_lt_of_le hk h.below.size) (fun hB => ?_)).trans (h.below.block k hk hXk)
    obtain ⟨c, hm⟩ := hX k hB
    rcases hfreeX k c hm with h1 | h1
    · omega
    · exact hXk h1
  have hmono := h.muSet_mono hi d l
  obtain ⟨hrel, _⟩ := h.update (D' := fun j => D j ∨ j = i) (d := d) (o' := ⟨S.nx + i, sz, ty, es'⟩) (l' := l) (w' := w') (μ' := muSet μ d (S.nx + i) l) hmono (h.muSet_fresh i d l) (muSet_same _ _ _ _) hbelow hkeep
    (fun d1 o1 g c hne h1 h2 => hr.below.block g (h.block_lt h1 h2) (fun hB => by
      obtain ⟨c', hm⟩ := hX g hB
      exact hne (h.inj d1 o1 d _ g c c' h1 hd h2 hm)))
    (fun g c e => by
      subst e
      rcases hob.1 with h1 | h1
      · exact .inl h1
      · obtain ⟨c', hm⟩ := hX g h1
        exact .inr ⟨_, c', hd, hm⟩)
    (fun N' _ => by
      cases l with
      | none => exact hob
      | some gc =>
        obtain ⟨o1, o2, o3, o4, arr, o5, o6, o7⟩ := hob
        refine ⟨?_, o2, o3, o4, arr, o5, o6, fun k e j c he hj => ?_⟩
        · rcases o1 with h1 | h1
          · exact .inl (Nat.le_trans h.below.size h1)
          · obtain ⟨c', hm⟩ := hX _ h1
            exact hfreeX _ _ hm
        · obtain ⟨y, hy, hey⟩ := o7 k e j c he hj
          have hfc : c.flat = true := List.all_eq_true.1 (List.all_eq_true.1 hfl e (List.mem_of_getElem? he)) c (List.mem_of_getElem? hj)
          exact ⟨y, hy, .pur ((hey.flatP hfc).of_flat hfc)⟩)
  refine ⟨_, hrel, fun N => ?_⟩
  have hx := (hr.env 0 _ (by simp [get]; rfl)).2
  have hx0 : (#[x] : Array Value).getD 0 undef = x := by simp
  rw [hx0] at hx
  have hx' := hx
  clear hx
  generalize hev : V.sl d v' sz es'.length = sv at hx'
  cases hx' with
  | pur hp => cases hp <;> cases hev
  | slr d1 v1 sz1 len1 g cap h1 h2 h3 =>
    injection hev with e1 e2 e3 e4
    subst e1; subst e2; subst e3; subst e4
    rw [hl] at h1
    injection h1 with h1
    subst h1
    exact .slr d (S.nx + i) sz _ g cap (muSet_same _ _ _ _) h2 h3
  | slv d1 v1 sz1 A h1 =>
    injection hev with e1 e2 e3 e4
    subst e1; subst e2; subst e3
    rw [hl] at h1
    injection h1 with h1
    subst h1
    rw [e4]
    exact .slv d (S.nx + i) sz A (muSet_same _ _ _ _)
  | _ => cases hev
theorem awl_gen {ops : List Oper} {i : Nat} {o : Oper} {rest : List Oper} (hlt : i < ops.length) (hs : GenStep P w0 ops i o S S') (h : AWL P w0 N0 ops Q (i + 1) rest S') : AWL P w0 N0 ops Q i (o :: rest) S := by
  intro D a w hD hr
  have hi : ¬ D i := fun hd => absurd (hD i hd) (by omega)
  refine wpList_step fun K hK => hs N0 D a w hr hi (fun j hj => Nat.lt_trans (hD j hj) hlt) _ _ (fun a' w' hr' => hK _ _ (h _ a' w' (fun j hj => ?_) hr'))
  rcases hj with hj | hj
  · have := hD j hj; omega
  · omega
end
end Go.Eng

namespace Go.Eng
open Go.RowKit
section
variable {P : Program} {kb : Nat} {w0 : Bs} {N0 : Nat → Prop} {Q : Exit → AS → Prop} {X : List Nat} {ops : List Oper} {done : List Nat} {S S' : AS}
end
end Go.Eng

namespace Go.Eng
open Go.RowKit
def Glw (b : Nat) (x : Value) (w : World) : Prop := w.cell? ⟨b, 0, none⟩ = some x
structure Glb (b : Nat) (x : Value) (B : Bs) : Prop where
  cell : Glw b x B.w
  notX : ¬ B.X b
theorem Glw.lt {b : Nat} {x : Value} {w : World} (h : Glw b x w) : b < w.heap.size := by
  rcases Nat.lt_or_ge b w.heap.size with h' | h'
  · exact h'
  · simp [Glw, World.cell?, Array.getElem?_eq_none h'] at h
theorem Glb.at {b : Nat} {x : Value} {B : Bs} {w : World} (h : Glb b x B) (hb : B.Below w) : Glw b x w := by
  have h1 := h.cell
  unfold Glw World.cell? at h1 ⊢
  simp only at h1 ⊢
  rw [hb.block b h.cell.lt h.notX]
  exact h1
section
variable {P : Program} {w0 : Bs} {N0 : Nat → Prop} {Q : Exit → AS → Prop} {S S' : AS} {b : Nat} {y : Value}
end
end Go.Eng

namespace Go.Eng
open Go.RowKit Go.ChangeShapes Go.WideShapes Go.ChangeAt
end Go.Eng

namespace Go.Eng
open Go.RowKit
theorem ACA.nil {P : Program} {f : FuncId} {args : List V} {sz : Nat} {ty : TypeId} {new : List V} (hc : ACA P f args sz ty [] new) (hfl : new.all flatE = true) :
    ACO P f (.nils :: args) sz ty (fun F es' => (F = fun d q => .sl d q sz new.length) ∧ es' = new) := by
  intro w N xs hN hlen hp
  have hbase : RelM (fun _ => False) ⟨w, fun _ => False, fun _ _ => none, []⟩ N (fun _ _ => none) ⟨env0 0 (.nils :: args), [], 0, args.length + 1⟩ ⟨xs.toArray, []⟩ w := by
    refine ⟨rfl, by simpa using hlen, Bs.Below.refl _, ⟨fun b hb => ⟨hN b hb, fun h => h⟩, fun _ _ _ h => by cases h⟩, fun d v hv => absurd rfl hv, fun d o hd => by simp [get] at hd, fun d o _ _ _ _ _ hd => by simp [get] at hd, fun t v hv => ?_⟩
    obtain ⟨_, h2⟩ := get_env0 hv
    simp only [Nat.sub_zero] at h2
    have ht : t < (V.nils :: args).length := (List.getElem?_eq_some_iff.1 h2).1
    simp only [List.length_cons] at ht hlen
    refine ⟨by simp only; omega, .pur ?_⟩
    have hx : xs[t]? = some xs[t] := List.getElem?_eq_getElem (by omega)
    have := hp t xs[t] v hx h2
    have hget : xs.toArray.getD t undef = xs[t] := by
      rw [Array.getD_eq_getD_getElem?]; simp [hx]
    rw [hget]
    exact this.keep (Keeps.refl _ _) (fun b hb ho => by
      rcases ho with h0 | ⟨d, o, c, h1, _⟩
      · exact h0
      · simp [get] at h1)
  obtain ⟨μ, hr⟩ := le_adoptS (S := ⟨env0 0 (.nils :: args), [], 0, args.length + 1⟩) (t := 0) (d := 0) (sz := sz) (ty := ty) (by simp [env0, get]) _ _ _ _ ⟨_, hbase⟩
  have hr2 : RelM (fun _ => False) ⟨w, fun _ => False, fun _ _ => none, []⟩ N μ ⟨env0 0 (.sl 0 0 sz ([] : List V).length :: args), [(0, ⟨0, sz, ty, []⟩)], 1, (V.sl 0 0 sz ([] : List V).length :: args).length⟩ ⟨xs.toArray, []⟩ w := by
    refine ⟨hr.defers, hr.size, hr.below, hr.n0, hr.fresh, hr.objs, hr.inj, fun t v hv => hr.env t v ?_⟩
    simp only [AS.adoptS, env0, get_cons] at hv ⊢
    split at hv
    · rename_i e; rw [if_pos e]; exact hv
    · rename_i e; rw [if_neg e, if_neg e]; exact hv
  refine (hc 0 0 ⟨w, fun _ => False, fun _ _ => none, []⟩ N μ 1 xs (by simpa using hlen) rfl hr2).mono ?_
  rintro e w' (⟨x, r, outs, nx', μ', rfl, ⟨v', rfl, rfl⟩, hnx, hrel⟩ | ⟨ch, _, hE, _⟩)
  · simp only [List.nil_append] at hrel
    obtain ⟨l, hl, hob⟩ := hrel.objs 0 ⟨v', sz, ty, new⟩ (by simp [get])
    simp only at hl
    refine ⟨x, _, new, l, rfl, ⟨rfl, rfl⟩, hrel.below.plain, fun d v μ' N' hμ => ⟨?_, ?_⟩⟩
    · have hx' := (hrel.env 0 _ (by simp [get]; rfl)).2
      have hx0 : (#[x] : Array Value).getD 0 undef = x := by simp
      rw [hx0] at hx'
      generalize hev : V.sl 0 v' sz new.length = sv at hx'
      cases hx' with
      | pur hp => cases hp <;> cases hev
      | slr d1 v1 sz1 len1 g cap h1 h2 h3 =>
        injection hev with e1 e2 e3 e4
        subst e1; subst e2; subst e3; subst e4
        rw [hl] at h1
        injection h1 with h1
        subst h1
        exact .slr d v sz _ g cap hμ h2 h3
      | slv d1 v1 sz1 A h1 =>
        injection hev with e1 e2 e3 e4
        subst e1; subst e2; subst e3
        rw [hl] at h1
        injection h1 with h1
        subst h1
        rw [e4]
        exact .slv d v sz A hμ
      | _ => cases hev
    · cases l with
      | none => exact hob
      | some gc =>
        obtain ⟨h1, h2, h3, h4, arr, h5, h6, h7⟩ := hob
        refine ⟨h1, h2, h3, h4, arr, h5, h6, fun k e j c he' hj => ?_⟩
        obtain ⟨y, hy, hey⟩ := h7 k e j c he' hj
        have hfc : c.flat = true := List.all_eq_true.1 (List.all_eq_true.1 hfl e (List.mem_of_getElem? he')) c (List.mem_of_getElem? hj)
        exact ⟨y, hy, .pur ((hey.flatP hfc).of_flat hfc)⟩
  · exact hE.elim
end Go.Eng

namespace Go.Eng
open Go.RowKit
structure Gp where
  P : World → Prop
  bl : Nat → Prop
  stable : ∀ w w', P w → (∀ b, bl b → w'.heap[b]? = w.heap[b]?) → P w'
  low : ∀ w, P w → ∀ b, bl b → b < w.heap.size
structure Gon (G : Gp) (B : Bs) : Prop where
  here : G.P B.w
  notX : ∀ b, G.bl b → ¬ B.X b
theorem Gon.at {G : Gp} {B : Bs} {w : World} (h : Gon G B) (hb : B.Below w) : G.P w :=
  G.stable _ _ h.here (fun b hbl => hb.block b (G.low _ h.here b hbl) (h.notX b hbl))
def ACQ (G : Gp) (P : Program) (f : FuncId) (args : List V) (R : V → Prop) : Prop :=
  ∀ (w : World) (N : Nat → Prop) (xs : List Value), G.P w → (∀ b, N b → b < w.heap.size) → xs.length = args.length → (∀ (i : Nat) x v, xs[i]? = some x → args[i]? = some v → Pur w N x v) →
    Calls P f xs.toArray w (fun e w' => ∃ x r, e = .returned x ∧ R r ∧ Pur w' N x r ∧ Below w.heap.size w w')
theorem ACQ.relaxP {G : Gp} {P : Program} {f : FuncId} {args : List V} {v' : V} (h : ACQ G P f args (fun r => Relax r v')) : ACQ G P f args (fun r => r = v') :=
  fun w N xs h0 h1 h2 h3 => (h w N xs h0 h1 h2 h3).mono fun _ _ ⟨x, _, he, hR, hp, hb⟩ => ⟨x, v', he, rfl, hR.1 _ _ _ hp, hb⟩
section
variable {P : Program} {kb : Nat} {w0 : Bs} {N0 : Nat → Prop} {Q : Exit → AS → Prop} {S S' : AS} {G : Gp}
theorem acq_intro {f : FuncId} {fn : Func} {c : Code} {args : List V} {R : V → Prop} (hf : P.funcs[f]? = some fn) (hb : fn.body = some c) (hl : args.length ≤ fn.ntmps)
    (h : ∀ w0 N0, Gon G w0 → AW P w0 N0 c (Ends P fn R) ⟨env0 0 args, [], 0, fn.ntmps⟩) : ACQ G P f args R := by
  intro w N xs hG hN hlen hp
  refine calls_of_wp hf hb (wp_mono (h ⟨w, fun _ => False, fun _ _ => none, []⟩ N ⟨hG, fun _ _ h => h⟩ _ w ⟨fun _ _ => none, ⟨rfl, ?_, Bs.Below.refl _, ⟨fun b hb => ⟨hN b hb, fun h => h⟩, fun _ _ _ h => by cases h⟩, fun d v hv => absurd rfl hv, fun d o hd => ?_, fun d o _ _ _ _ _ hd => ?_, fun t v hv => ?_⟩⟩) ?_)
  · simp only [Array.size_append, List.size_toArray, Array.size_replicate]; omega
  · simp [get] at hd
  · simp [get] at hd
  · obtain ⟨_, h2⟩ := get_env0 hv
    simp only [Nat.sub_zero] at h2
    have ht : t < args.length := (List.getElem?_eq_some_iff.1 h2).1
    refine ⟨by simp only; omega, .pur ?_⟩
    have hx : xs[t]? = some xs[t] := List.getElem?_eq_getElem (by omega)
    have := hp t xs[t] v hx h2
    have hget : (xs.toArray ++ Array.replicate (fn.ntmps - xs.toArray.size) undef).getD t undef = xs[t] := by
      rw [Array.getD_eq_getD_getElem?, Array.getElem?_append_left (by simp; omega)]
      simp [hx]
    rw [hget]
    exact this.keep (Keeps.refl _ _) (fun b hb ho => by
      rcases ho with h0 | ⟨d, o, c, h1, _⟩
      · exact h0
      · simp [get] at h1)
  · rintro e a' w' ⟨S', hE, ⟨μ, hr⟩⟩
    have key : (match aresults P S' fn.results.toList with | some r => R r | none => False) → ∃ v, (results fn a'.tmps).run P w' = .ok v w' ∧ ∃ x r, Ending.returned v = .returned x ∧ R r ∧ Pur w' N x r ∧ Below w.heap.size w w' := by
      intro hk
      split at hk
      · rename_i r hres
        obtain ⟨x, hx, hpx⟩ := aresults_run hr hres
        exact ⟨x, hx, x, r, rfl, hk, hpx, hr.below.plain⟩
      · exact hk.elim
    cases e with
    | ret => exact ⟨hr.defers, key hE⟩
    | normal => exact ⟨hr.defers, key hE⟩
    | _ => exact hE.elim
theorem opq_callQ {ops : List Oper} {i : Nat} {o : Oper} {f : Operand} {fid : FuncId} {fn : Func} {args : Array Operand} {ats : Array TypeId} {vs : List V} {res : V}
    (hG : Gon G w0) (hc : ACQ G P fid vs (fun r => r = res)) (hfn : P.funcs[fid]? = some fn) (hb : fn.body.isSome = true) (hn : (fn.name == "runtime.NumGoroutine") = false)
    (hg : S.gv ops o = some true) (ho : o.op = .call { callee := .value f, args := args, argTypes := ats }) (hf : S.evc true f = some (.fn fid))
    (ha : S.args true args.toList = some vs) (hp : vs.all V.pureV = true) (hs : S.putv o.dst (wrapG o true res) = some S') : OpqStep P w0 ops i o S S' := by
  obtain ⟨hs1, hs2⟩ := putv_ap hs
  refine ⟨wrapG o true res, [], hs1, fun T hT hob N0 D a w hr hi hDb K Q' hK => ?_⟩
  replace hg : T.gv ops o = some true := by rw [← hT.gv]; exact hg
  replace hf : T.evc true f = some (.fn fid) := by rw [← hT.evc (by rw [ho]; simp [Op.operands, Call.operands])]; exact hf
  replace ha : T.args true args.toList = some vs := by rw [← args_congr (S := S) (T := T) (fun x hx => hT.evc (by rw [ho]; simp [Op.operands, Call.operands]; right; simpa using hx) true)]; exact ha
  have hs := ap_putv (S := T) (wrapG o true res) (fun d hd => by rw [← hT.2.1]; exact hs2 d hd)
  obtain ⟨μ, hr⟩ := hr
  rw [wanted_of hr hg, if_pos rfl]
  obtain ⟨h1, h2⟩ := args_spec hr rfl ha
  unfold Oper.wp
  rw [run_call_fn ho (fn_eval hr hf) hfn hb hn]
  have hcall := hc w (Own N0 μ T) (args.toList.map a.eval) (hG.at hr.below) hr.own_lt (by simp [h1]) (fun j x v hx hv => by
    simp only [List.getElem?_map, Option.map_eq_some_iff] at hx
    obtain ⟨y, hy, rfl⟩ := hx
    exact (h2 j y v hy hv).pureV (List.all_eq_true.1 hp v (List.mem_of_getElem? hv)))
  have harr : (args.toList.map a.eval).toArray = args.map a.eval := by apply Array.ext'; simp
  rw [harr] at hcall
  refine hcall.mono ?_
  rintro e w' ⟨x, r, rfl, rfl, hpx, hbw⟩
  refine hK _ _ ⟨μ, ((hr.later hbw).putv hs ?_).more (fun j hj => .inl hj)⟩
  unfold wrapG
  split
  · exact .pur hpx
  · exact .whn _ _ _ (fun _ => .pur hpx) (fun hf => by cases hf)
theorem OpqStep.gen {ops : List Oper} {i : Nat} {o : Oper} (h : OpqStep P w0 ops i o S S') : GenStep P w0 ops i o S S' := by
  obtain ⟨u, O, rfl, h⟩ := h
  exact h S ⟨fun _ _ => rfl, rfl, rfl⟩ (fun _ => rfl)
theorem awl_callQ {ops : List Oper} {i : Nat} {o : Oper} {rest : List Oper} {f : Operand} {fid : FuncId} {fn : Func} {args : Array Operand} {ats : Array TypeId} {vs : List V} {res : V}
    (hG : Gon G w0) (hc : ACQ G P fid vs (fun r => r = res)) (hfn : P.funcs[fid]? = some fn) (hb : fn.body.isSome = true) (hn : (fn.name == "runtime.NumGoroutine") = false)
    (hlt : i < ops.length) (hg : S.gv ops o = some true) (ho : o.op = .call { callee := .value f, args := args, argTypes := ats }) (hf : S.evc true f = some (.fn fid))
    (ha : S.args true args.toList = some vs) (hp : vs.all V.pureV = true) (hs : S.putv o.dst (wrapG o true res) = some S') (h : AWL P w0 N0 ops Q (i + 1) rest S') : AWL P w0 N0 ops Q i (o :: rest) S :=
  awl_gen hlt (opq_callQ hG hc hfn hb hn hg ho hf ha hp hs).gen h
end
end Go.Eng

namespace Go.Eng
open Go.RowKit
section
variable {P : Program} {kb : Nat} {w0 : Bs} {N0 : Nat → Prop} {Q : Exit → AS → Prop} {S S' : AS} {G : Gp}
end
end Go.Eng

namespace Go.Eng
open Go.RowKit
section
variable {P : Program} {w0 : Bs} {N0 : Nat → Prop} {Q : Exit → AS → Prop} {S S' : AS}
def baseAt (w0 : Bs) (w : World) (μ : Mu) (S : AS) : Bs := ⟨w, OwnB μ S.objs, μ, w0.df⟩
structure Anch (w0 : Bs) (N0 : Nat → Prop) (μ : Mu) (S : AS) (w : World) : Prop where
  below : w0.Below w
  own : ∀ g, OwnB μ S.objs g → w0.free g
  n0 : ∀ b, N0 b → b < w0.w.heap.size ∧ ¬ w0.X b
  m : ∀ d v l, w0.M d v = some l → μ d v = some l
theorem RelM.anch {D : Nat → Prop} {μ : Mu} {a : Act} {w : World} (h : RelM D w0 N0 μ S a w) : Anch w0 N0 μ S w := by
  refine ⟨h.below, fun g ho => ?_, h.n0.1, h.n0.2⟩
  obtain ⟨d, o, c, h1, h2⟩ := ho
  obtain ⟨l, hl, hob⟩ := h.objs d o h1
  rw [h2] at hl
  injection hl with hl
  subst hl
  exact hob.1
theorem RelM.rebase {D : Nat → Prop} {μ : Mu} {a : Act} {w : World} (h : RelM D w0 N0 μ S a w) {w1 : Bs} (hdf : w1.df = w0.df) : RelM D (baseAt w1 w μ S) N0 μ S a w := by
  have han := h.anch
  refine ⟨h.defers.trans hdf.symm, h.size, Bs.Below.refl _, ⟨fun b hb => ⟨Nat.lt_of_lt_of_le (h.n0.1 b hb).1 h.below.size, fun ho => ?_⟩, fun _ _ _ hh => hh⟩, h.fresh, fun d o hd => ?_, h.inj, h.env⟩
  · rcases han.own b ho with h1 | h1
    · exact absurd (h.n0.1 b hb).1 (by omega)
    · exact (h.n0.1 b hb).2 h1
  · obtain ⟨l, hl, hob⟩ := h.objs d o hd
    refine ⟨l, hl, ?_⟩
    cases l with
    | none => exact hob
    | some gc => exact ⟨.inr ⟨d, o, gc.2, hd, hl⟩, hob.2⟩
theorem Anch.back {D2 : Nat → Prop} {μ μ2 : Mu} {a2 : Act} {w w2 : World} {S2 : AS} {N1 : Nat → Prop} (h : Anch w0 N0 μ S w) (hN : ∀ b, N0 b → N1 b) (h2 : RelM D2 (baseAt w0 w μ S) N1 μ2 S2 a2 w2) : RelM D2 w0 N0 μ2 S2 a2 w2 := by
  have hsub : ∀ b, b < w2.heap.size → Own N0 μ2 S2 b → Own N1 μ2 S2 b := fun b _ hb => hb.imp (hN b) id
  have hk : Keeps w2 (Own N1 μ2 S2) w2 := Keeps.refl _ _
  refine ⟨h2.defers, h2.size, ⟨h2.below.os.trans h.below.os, h2.below.tape.trans h.below.tape, h2.below.output.trans h.below.output, Nat.le_trans h.below.size h2.below.size, fun k hk hx => ?_⟩, ⟨h.n0, fun d v l hl => h2.n0.2 d v l (h.m d v l hl)⟩, h2.fresh, fun d o hd => ?_, h2.inj, fun t v hv => ⟨(h2.env t v hv).1, (h2.env t v hv).2.keep hk hsub (fun _ _ _ hh => hh)⟩⟩
  · refine (h2.below.block k (Nat.lt_of_lt_of_le hk h.below.size) (fun ho => ?_)).trans (h.below.block k hk hx)
    rcases h.own k ho with h1 | h1
    · omega
    · exact hx h1
  · obtain ⟨l, hl, hob⟩ := h2.objs d o hd
    refine ⟨l, hl, ?_⟩
    cases l with
    | none => exact hob
    | some gc =>
      obtain ⟨h1, h3, h4, h5, arr, h6, h7, h8⟩ := hob
      refine ⟨?_, h3, h4, h5, arr, h6, h7, fun k e j c he hj => ?_⟩
      · rcases h1 with h1 | h1
        · exact .inl (Nat.le_trans h.below.size h1)
        · exact h.own _ h1
      · obtain ⟨x, hx, hex⟩ := h8 k e j c he hj
        exact ⟨x, hx, hex.keep hk hsub (fun _ _ _ hh => hh)⟩
theorem RelM.turn {D : Nat → Prop} {μ : Mu} {a : Act} {w w1 : World} {b : Nat} (h : RelM D (baseAt w0 w μ S) N0 μ S a w) (hb : N0 b) (hk : ∀ k, k ≠ b → w1.heap[k]? = w.heap[k]?) (hsz : w1.heap.size = w.heap.size) : RelM D (baseAt w0 w1 μ S) N0 μ S a w1 := by
  have hkeep : Keeps w (Own N0 μ S) w1 := ⟨by omega, fun k _ hn => hk k (fun e => hn (.inl (e ▸ hb)))⟩
  refine ⟨h.defers, h.size, Bs.Below.refl _, ⟨fun x hx => ⟨by have := (h.n0.1 x hx).1; simp only [baseAt] at this ⊢; omega, (h.n0.1 x hx).2⟩, fun _ _ _ hh => hh⟩, h.fresh, fun d o hd => ?_, h.inj, fun t v hv => ⟨(h.env t v hv).1, (h.env t v hv).2.keep hkeep (fun _ _ hh => hh) (fun _ _ _ hh => hh)⟩⟩
  obtain ⟨l, hl, hob⟩ := h.objs d o hd
  refine ⟨l, hl, ?_⟩
  cases l with
  | none => exact hob
  | some gc =>
    obtain ⟨h1, h3, h4, h5, arr, h6, h7, h8⟩ := hob
    have hne : gc.1 ≠ b := fun e => (h.n0.1 b hb).2 (e ▸ ⟨d, o, gc.2, hd, hl⟩)
    refine ⟨.inr ⟨d, o, gc.2, hd, hl⟩, h3, h4, h5, arr, (hk _ hne).trans h6, h7, fun k e j c he hj => ?_⟩
    obtain ⟨x, hx, hex⟩ := h8 k e j c he hj
    exact ⟨x, hx, hex.keep hkeep (fun _ _ hh => hh) (fun _ _ _ hh => hh)⟩
end
end Go.Eng

namespace Go.Eng
open Go.RowKit
section
variable {P : Program} {w0 : Bs} {N0 : Nat → Prop} {Q : Exit → AS → Prop} {S S' : AS}
end
end Go.Eng

namespace Go.Eng
open Go.RowKit
section
variable {P : Program} {kb : Nat} {w0 : Bs} {N0 : Nat → Prop} {Q : Exit → AS → Prop}
theorem ACQ.b {G : Gp} (hG : Gon G w0) {f : FuncId} {args : List V} {R : V → Prop} (h : ACQ G P f args R) : ACB w0 P f args R := fun w N xs hb h1 h2 h3 => h w N xs (hG.at hb) h1 h2 h3
theorem awl_gcallQ {G : Gp} {ops : List Oper} {i : Nat} {o : Oper} {rest : List Oper} {c : Bool} {f : Operand} {fid : FuncId} {fn : Func} {args : Array Operand} {ats : Array TypeId} {vs : List V} {res : V} {S S' : AS}
    (hG : Gon G w0) (hc : c = true → ACQ G P fid vs (fun r => r = res)) (hfn : P.funcs[fid]? = some fn) (hb : fn.body.isSome = true) (hn : (fn.name == "runtime.NumGoroutine") = false)
    (hg : S.gv ops o = some c) (ho : o.op = .call { callee := .value f, args := args, argTypes := ats }) (hf : S.evc c f = some (.fn fid)) (ha : S.args c args.toList = some vs) (hp : vs.all V.pureV = true) (hs : S.putv o.dst (wrapG o c res) = some S') (h : AWL P w0 N0 ops Q (i + 1) rest S') : AWL P w0 N0 ops Q i (o :: rest) S :=
  awl_st (kb := 0) (.inr (.inl ⟨c, f, args, ats, fid, fn, vs, res, hg, ho, hf, hfn, hb, hn, ha, hp, fun h => (hc h).b hG, hs⟩)) h
end
end Go.Eng

namespace Go.Eng
open Go.RowKit
section
variable {P : Program} {kb : Nat} {w0 : Bs} {N0 : Nat → Prop} {Q : Exit → AS → Prop} {S S' : AS} {G : Gp}
end
end Go.Eng

namespace Go.Eng
open Go.RowKit Go.ChangeShapes Go.WideShapes Go.ChangeAt
inductive SmlV (n : Nat) : V → Prop
  | str {l : List UInt8} (h : l.length ≤ n) : SmlV n (.str l)
  | ro {sz : Nat} {es : List V} (h : es.length ≤ n) (k : ∀ e ∈ es, SmlV n e) : SmlV n (.ro sz es)
  | agg {cs : List V} (k : ∀ c ∈ cs, SmlV n c) : SmlV n (.agg cs)
  | bool (b : Bool) : SmlV n (.bool b)
  | int (k : IntKind) (i : Int) : SmlV n (.int k i)
  | nils : SmlV n .nils
theorem sml_mkV {n : Nat} {b : Option Bool} {cs : List V} (h : ∀ c ∈ cs, SmlV n c) : SmlV n (mkV b cs) := by
  unfold mkV
  split
  · exact .agg h
  · cases cs with
    | nil => exact .nils
    | cons c r => exact h c (by simp)
structure BulkOk {H : Type} (B : DataW H → Nat) : Prop where
  str : ∀ b : List UInt8, b.length ≤ B (.lit (.string b))
  slice : ∀ elems spare : List (DataW H), elems.length ≤ B (.slice elems spare) ∧ ∀ e ∈ elems, B e ≤ B (.slice elems spare)
  agg : ∀ parts : List (DataW H), ∀ e ∈ parts, B e ≤ B (.agg parts)
section
variable {H : Type} {enc : TypeId × Value → H} {P : Program} {w : World} {base : Nat} {spare : Nat → Bool} {held : Bool}
theorem trod_pursB {L : List TypeId} {B : DataW H → Nat} {N : Nat} (hB : BulkOk B) (hL : okL P L = true) : ∀ {fuel : Nat} {t : TypeId} {cs : List Value} {x : DataW H × List MemPlace}, t ∈ L → DataW.trod enc P w base spare held fuel t cs = some x → B x.1 ≤ N →
    ∃ vs, Purs w (fun _ => False) cs vs ∧ (∀ v ∈ vs, v.isCell = true) ∧ Rd P fuel t vs ∧ cs.length = P.cellsOf t ∧ ∀ v ∈ vs, SmlV N v
  | 0, _, _, _, _, h, _ => by simp [DataW.trod] at h
  | fuel + 1, t, cs, x, ht, h, hx => by
    have ho := List.all_eq_true.1 hL t ht
    unfold okT1 at ho
    unfold DataW.trod at h
    unfold Rd
    generalize hu : P.underlying t = u at ho h ⊢
    split at ho
    · -- bool
      clear hx
      simp only [beq_iff_eq] at ho
      split at h <;> simp_all
      rename_i b
      exact ⟨[.bool b], Purs.one (.bool _), by simp [V.isCell], by cases b <;> simp, fun v hv => by rw [List.mem_singleton.1 hv]; exact .bool _⟩
    · clear hx
      simp only [beq_iff_eq] at ho
      split at h <;> simp_all
      exact ⟨[.int _ _], Purs.one (.int _ _), by simp [V.isCell], ⟨_, rfl, h.1.2⟩, fun v hv => by rw [List.mem_singleton.1 hv]; exact .int _ _⟩
    · have hN : ∀ l : List UInt8, x.1 = .lit (.string l) → l.length ≤ N := fun l e => Nat.le_trans (hB.str l) (e ▸ hx)
      clear hx
      simp only [beq_iff_eq] at ho
      split at h
      all_goals try (cases h; done)
      all_goals try (rename_i he; cases he; done)
      rename_i s _
      simp only [Option.ite_none_right_eq_some, Option.some.injEq] at h
      have hl := hN s.data.toList (by rw [← h.2])
      refine ⟨[.str s.data.toList], Purs.one ?_, by simp [V.isCell], ⟨_, rfl, by simpa using h.1⟩, by simp [ho], fun v hv => by rw [List.mem_singleton.1 hv]; exact .str hl⟩
      have := Pur.str (w := w) (N := fun _ => False) s.data.toList
      simpa using this
    · rename_i e
      simp only [Bool.and_eq_true, beq_iff_eq, decide_eq_true_eq] at ho
      obtain ⟨⟨ho1, ho2⟩, ho3⟩ := ho
      split at h
      all_goals try (exfalso; first | (rename_i he; cases he; done) | (rename_i he _; cases he; done) | (rename_i he _ _; cases he; done) | (cases h; done))
      · refine ⟨[.ro (P.cellsOf e) []], Purs.one (.ro none ⟨0, 0, none⟩ 0 0 _ [] (fun _ _ => undef) rfl (Nat.le_refl _) (Nat.zero_le _) (fun h0 => by omega) (by simp) (by simp) (by simp)), by simp [V.isCell], ⟨[], rfl, by simp, by simp⟩, by simp [ho1], fun v hv => by rw [List.mem_singleton.1 hv]; exact .ro (by simp) (by simp)⟩
      · rename_i e' a len cap heq
        cases heq
        simp only at h
        split at h
        case isFalse => cases h
        rename_i hb
        simp only [Option.bind_eq_some_iff] at h
        obtain ⟨elems, he, hrest⟩ := h
        simp only [Option.map_eq_some_iff] at hrest
        obtain ⟨rest, _, rfl⟩ := hrest
        simp only at hx
        have hsl := hB.slice (elems.map (·.1)) (rest.map (·.1))
        have hxl : elems.length ≤ N := by have := hsl.1; simp at this; omega
        have hlen : elems.length = len := by simpa using mapM_some_length he
        have hel : ∀ i, i < len → ∃ vs : List V, ∃ ci : List Value, w.cells? base (a.add (i * P.cellsOf e)) (P.cellsOf e) = some ci ∧ Purs w (fun _ => False) ci vs ∧ (∀ v ∈ vs, v.isCell = true) ∧ Rd P fuel e vs ∧ ci.length = P.cellsOf e ∧ ∀ v ∈ vs, SmlV N v := by
          intro i hi
          have h1 := mapM_some_get he i i (by simp [hi])
          have hin : elems[i]'(by omega) ∈ elems := List.getElem_mem _
          rw [List.getElem?_eq_getElem (by omega)] at h1
          simp only [Option.bind_eq_some_iff] at h1
          obtain ⟨ci, h2, h3⟩ := h1
          obtain ⟨vs, h4, h5, h6, h7, h8⟩ := trod_pursB hB hL (by simpa using ho3) h3 (Nat.le_trans (hsl.2 _ (List.mem_map.2 ⟨_, hin, rfl⟩)) hx)
          exact ⟨vs, ci, h2, h4, h5, h6, h7, h8⟩
        obtain ⟨es, hes, hp⟩ := list_of hel
        have hcells : ∀ (k : Nat) us, es[k]? = some us → (mkV (tagg P e) us).cells = us ∧ (mkV (tagg P e) us).fits (P.cellsOf e) := by
          intro k us hk
          obtain ⟨ci, h1, h2, h3, h4, h5, h6'⟩ := hp k us hk
          have hc : (mkV (tagg P e) us).cells = us := by
            unfold mkV
            split
            · rfl
            · rename_i hna
              have h1' : us.length = 1 := by
                rw [← h2.1, h5]
                have ho4 := List.all_eq_true.1 hL e (by simpa using ho3)
                unfold okT1 at ho4
                unfold tagg at hna
                generalize P.underlying e = ue at ho4 hna
                split at ho4
                · simpa using ho4
                · simpa using ho4
                · simpa using ho4
                · simp only [Bool.and_eq_true, beq_iff_eq] at ho4; exact ho4.1.1
                · simp at hna
                · cases ho4
              match us, h1', h3 with
              | [c], _, h3 => simpa using V.cells_one (h3 c (by simp))
          exact ⟨hc, by rw [hc, ← h2.1, h5], by rw [hc]; exact h3⟩
        refine ⟨[.ro (P.cellsOf e) (es.map (mkV (tagg P e)))], Purs.one (.ro (some a) a len cap _ _ (fun k j => (w.cell? (a.add (k * P.cellsOf e + j))).getD undef) (by simp [hes]) hb.2.1 hb.2.2 (fun h0 => ⟨rfl, ?_, id⟩) ?_ ?_ ?_), by simp [V.isCell], ⟨es, rfl, by omega, ?_⟩, by simp [ho1], ?_⟩
        · obtain ⟨vs, ci, h1, _, _, _, h5, _⟩ := hel 0 h0
          obtain ⟨_, h6, h7⟩ := World.cells?_some h1
          have := h7 0 ho2
          rw [List.getElem?_eq_getElem (by omega)] at this
          have := World.block_lt_of_cell? _ _ this
          rwa [add_block, add_block] at this
        · intro v hv
          simp only [List.mem_map] at hv
          obtain ⟨us, hus, rfl⟩ := hv
          obtain ⟨k, hk⟩ := List.getElem?_of_mem hus
          exact (hcells k us hk).2
        all_goals
          try
            intro k v j c hk hj
            simp only [List.getElem?_map, Option.map_eq_some_iff] at hk
            obtain ⟨us, hk, rfl⟩ := hk
            rw [(hcells k us hk).1] at hj
            obtain ⟨ci, h1, h2, h3, h4, h5, h6'⟩ := hp k us hk
            obtain ⟨_, h6, h7⟩ := World.cells?_some h1
            have hjl : j < us.length := (List.getElem?_eq_some_iff.1 hj).1
            have hji : j < ci.length := by rw [h2.1]; exact hjl
            have h8 := h7 j (by omega)
            rw [add_add', List.getElem?_eq_getElem hji] at h8
        · rw [h8]; rfl
        · rw [h8]; exact h2.2 j _ c (List.getElem?_eq_getElem hji) hj
        · intro us hus
          obtain ⟨k, hk⟩ := List.getElem?_of_mem hus
          exact (hp k us hk).choose_spec.2.2.2.1
        · intro v hv
          rw [List.mem_singleton.1 hv]
          refine .ro (by simp; omega) (fun v hv => ?_)
          obtain ⟨us, hus, rfl⟩ := List.mem_map.1 hv
          obtain ⟨k, hk⟩ := List.getElem?_of_mem hus
          obtain ⟨ci, _, _, _, _, _, h6'⟩ := hp k us hk
          unfold mkV
          split
          · exact .agg h6'
          · cases us with
            | nil => exact .nils
            | cons c r => exact h6' c (by simp)
    · rename_i fs
      simp only [Bool.and_eq_true, List.all_eq_true] at ho
      obtain ⟨hlaid, hall⟩ := ho
      replace h : (if cs.length = P.cellsOf t then (fs.toList.mapM fun f => DataW.trod enc P w base spare held fuel f.type ((cs.drop f.offset).take (P.cellsOf f.type))).map fun xs => (DataW.agg (xs.map (·.1)), xs.flatMap (·.2)) else none) = some x := h
      split at h
      case isFalse => cases h
      rename_i hlen
      simp only [Option.map_eq_some_iff] at h
      obtain ⟨xs, hxs, hxe⟩ := h
      subst hxe
      simp only at hx
      have hag := hB.agg (xs.map (·.1))
      have hf : ∀ f ∈ fs.toList, ∃ vs, Purs w (fun _ => False) ((cs.drop f.offset).take (P.cellsOf f.type)) vs ∧ (∀ v ∈ vs, v.isCell = true) ∧ Rd P fuel f.type vs ∧ ((cs.drop f.offset).take (P.cellsOf f.type)).length = P.cellsOf f.type ∧ ∀ v ∈ vs, SmlV N v := by
        intro f hfm
        obtain ⟨i, hi⟩ := List.getElem?_of_mem hfm
        have h1 := mapM_some_get hxs i f hi
        have hl := mapM_some_length hxs
        have hil : i < xs.length := by rw [hl]; exact (List.getElem?_eq_some_iff.1 hi).1
        have hin : xs[i] ∈ xs := List.getElem_mem _
        rw [List.getElem?_eq_getElem hil] at h1
        exact trod_pursB hB hL (by simpa using hall f hfm) h1 (Nat.le_trans (hag _ (List.mem_map.2 ⟨_, hin, rfl⟩)) hx)
      have key : ∀ (l : List Field) (off : Nat), laidFs P l off (P.cellsOf t) = true → (∀ f ∈ l, ∃ vs, Purs w (fun _ => False) ((cs.drop f.offset).take (P.cellsOf f.type)) vs ∧ (∀ v ∈ vs, v.isCell = true) ∧ Rd P fuel f.type vs ∧ ((cs.drop f.offset).take (P.cellsOf f.type)).length = P.cellsOf f.type ∧ ∀ v ∈ vs, SmlV N v) →
          ∃ vs, Purs w (fun _ => False) (cs.drop off) vs ∧ (∀ v ∈ vs, v.isCell = true) ∧ RdF P (Rd P fuel) l vs ∧ ∀ v ∈ vs, SmlV N v := by
        intro l
        induction l with
        | nil =>
          intro off hl _
          simp only [laidFs, beq_iff_eq] at hl
          refine ⟨[], ⟨by simp; omega, by simp⟩, by simp, rfl, by simp⟩
        | cons f l ih =>
          intro off hl hh
          simp only [laidFs, Bool.and_eq_true, beq_iff_eq] at hl
          obtain ⟨ho, hl⟩ := hl
          subst ho
          obtain ⟨ws, h1, h2, h3, h9⟩ := ih _ hl (fun g hg => hh g (by simp [hg]))
          obtain ⟨us, g1, g2, g3, _, g9⟩ := hh f (by simp)
          refine ⟨us ++ ws, ?_, ?_, ⟨us, ws, rfl, g3, h3⟩, fun v hv => (List.mem_append.1 hv).elim (g9 v) (h9 v)⟩
          · have := g1.append h1
            rwa [← List.drop_drop, List.take_append_drop] at this
          · intro v hv
            rcases List.mem_append.1 hv with hv | hv
            · exact g2 v hv
            · exact h2 v hv
      obtain ⟨vs, h1, h2, h3, h9⟩ := key fs.toList 0 hlaid hf
      exact ⟨vs, by simpa using h1, h2, h3, hlen, h9⟩
    · cases ho
theorem arg_purB {L : List TypeId} {B : DataW H → Nat} {N : Nat} (hB : BulkOk B) (hL : okL P L = true) {r : Reach} {b0 : Nat} {t : TypeId} {v : Value} {d : DataW H} {ps : List MemPlace} (ht : t ∈ L) (hval : Value.okWide P w r b0 t v) (hd : DataW.Trod enc P w base spare held t v d ps) (hx : B d ≤ N) :
    ∃ u, Pur w (fun _ => False) v u ∧ RdW P t u ∧ SmlV N u := by
  obtain ⟨fuel, hf⟩ := hd
  obtain ⟨vs, h1, h2, h3, h4, h9⟩ := trod_pursB hB hL ht hf hx
  refine ⟨mkV (tagg P t) vs, ?_, ⟨fuel, vs, h3, rfl⟩, sml_mkV h9⟩
  have ho := List.all_eq_true.1 hL t ht
  unfold okT1 at ho
  generalize hu : P.underlying t = u at ho
  have one : v.cells = #[v] → tagg P t = some false → Pur w (fun _ => False) v (mkV (tagg P t) vs) := by
    intro hv hb
    have hl := h1.1
    rw [hv] at hl h1
    match vs, hl, h1 with
    | [c], _, h1 =>
      rw [hb]
      exact h1.2 0 v c rfl rfl
  split at ho
  · obtain ⟨b, rfl⟩ := okWide_bool hu hval
    exact one rfl (by simp [tagg, hu])
  · obtain ⟨b, rfl⟩ := okWide_int hu hval
    exact one rfl (by simp [tagg, hu])
  · obtain ⟨b, rfl⟩ := okWide_string hu hval
    exact one rfl (by simp [tagg, hu])
  · obtain ⟨a, l, c, rfl⟩ := okWide_slice hu hval
    exact one rfl (by simp [tagg, hu])
  · obtain ⟨cs, rfl, _⟩ := okWide_struct hu hval
    have : tagg P t = some true := by simp [tagg, hu]
    rw [this]
    have := Pur.agg cs.toList vs h1.1 h2 h1.2
    simpa [mkV] using this
  · cases ho
end
theorem args_purB {H : Type} {B : DataW H → Nat} {N : Nat} (hB : BulkOk B) {enc : TypeId × Value → H} {P : Program} {L : List TypeId} {W : World} {r : Reach} {b0 : Nat} {sp : Nat → Bool} {hd : Bool} (hL : okL P L = true) : ∀ {ts : List TypeId} {vs : List Value} {ds : List (DataW H)} {ps : List MemPlace}, (∀ t ∈ ts, t ∈ L) →
    (∀ (j : Nat) t v, ts[j]? = some t → vs[j]? = some v → Value.okWide P W r b0 t v) → DataW.TrodAll enc P W 0 sp hd ts vs ds ps → (∀ d ∈ ds, B d ≤ N) → ∃ us, RdAllW P ts us ∧ Purs W (fun _ => False) vs us ∧ ∀ u ∈ us, SmlV N u
  | [], vs, ds, ps, _, _, h, _ => by
    obtain ⟨rfl, rfl, rfl⟩ := trodAll_nil h
    exact ⟨[], rfl, ⟨rfl, by simp⟩, by simp⟩
  | t :: ts, vs, ds, ps, ho, hv, h, hb => by
    obtain ⟨v, vs', d, ds', p, q, rfl, rfl, rfl, h1, h2⟩ := trodAll_cons h
    obtain ⟨u, g1, g2, g5⟩ := arg_purB hB hL (ho t (by simp)) (hv 0 t v rfl rfl) h1 (hb d (by simp))
    obtain ⟨us, g3, g4, g6⟩ := args_purB hB hL (fun t ht => ho t (by simp [ht])) (fun j t' v' ht hv' => hv (j + 1) t' v' ht hv') h2 (fun d hd => hb d (by simp [hd]))
    exact ⟨u :: us, ⟨u, us, rfl, g2, g3⟩, (Purs.one g1).append g4, fun x hx => (List.mem_cons.1 hx).elim (fun e => e ▸ g5) (g6 x)⟩
theorem row_contractQB {G : Gp} {H : Type} {enc : TypeId × Value → H} {P : Program} {f : FuncId} {fn : Func} {s : ChangeSpec} {L : List TypeId} {tb : TypeId} {ts : List TypeId} (hts : fn.params.toList = ts) (hL : okL P L = true) (hok : (ts.all fun t => L.contains t && P.readableRec t && decide (t < P.types.size)) = true) (hlaid : laidOutB P = true) (hres : fn.resultTypes = #[tb]) (htb : P.underlying tb = some .bool)
    (hvars : s.vars = []) (hs : ∀ ds : List (DataW H), ds.length = ts.length → s.fn H ds = { results := [.lit (.bool true)], args := ds }) (hc : ∀ vs, RdAllW P ts vs → (∀ v ∈ vs, SmlV 1048576 v) → ACQ G P f vs (fun r => r = .bool true))
    {W : World} {base : Nat} {args : Array Value} {ds gs : List (DataW H)} {before : List MemPlace}
    (hG : G.P W) {B : DataW H → Nat} (hB : BulkOk B) (hsm : ∀ d ∈ ds, B d ≤ 1048576) (hval : ∀ (j : Nat) t v, fn.params[j]? = some t → args[j]? = some v → Value.okWide P W .any base t v) (hW : DataW.Whole enc P fn.params.toList s.vars false W args.toList ds gs before) :
    Calls P f args W fun e W' => ∃ v, e = .returned v ∧ s.post enc P fn false true false false W args v W' := by
  have hW' := hW
  obtain ⟨p, q, hA, hV, rfl, hfz, hnd⟩ := hW
  rw [hvars] at hV
  obtain ⟨rfl, rfl⟩ := trodVars_none hV
  have hdl : ds.length = ts.length := by
    have : ∀ (ts : List TypeId) (vs : List Value) (ds : List (DataW H)) (ps : List MemPlace), DataW.TrodAll enc P W 0 (fun _ => true) true ts vs ds ps → ds.length = ts.length := by
      intro ts
      induction ts with
      | nil => intro vs ds ps h; obtain ⟨_, rfl, _⟩ := trodAll_nil h; rfl
      | cons t ts ih => intro vs ds ps h; obtain ⟨v, vs', d, ds', p, q, rfl, rfl, rfl, _, h2⟩ := trodAll_cons h; simp [ih _ _ _ h2]
    rw [← hts]; exact this _ _ _ _ hA
  have hall : ∀ t ∈ ts, t ∈ L ∧ P.readableRec t = true ∧ t < P.types.size := by
    intro t ht
    have := List.all_eq_true.1 hok t ht
    simp only [Bool.and_eq_true, decide_eq_true_eq] at this
    exact ⟨by simpa using this.1.1, this.1.2, this.2⟩
  obtain ⟨us, h1, h2, h9⟩ := args_purB hB (L := L) hL (ts := ts) (fun t ht => (hall t ht).1) (fun j t v ht hv => hval j t v (by rw [← hts] at ht; simpa using ht) (by simpa using hv)) (hts ▸ hA) hsm
  have hcall := hc us h1 h9 W (fun _ => False) args.toList hG (fun _ hb => hb.elim) h2.1 h2.2
  rw [show args.toList.toArray = args by simp] at hcall
  refine hcall.mono ?_
  rintro e W1 ⟨x, r, rfl, rfl, hp, hb⟩
  obtain rfl : x = .bool true := by cases hp; rfl
  refine ⟨_, rfl, ds, [], p ++ [], [], p, [], hW', ?_, ?_, ?_, hb.frame _, fun h => by cases h⟩
  · rw [List.append_nil, hs ds hdl, hres]
    exact trodAll_mk1 (shut_bool htb true)
  · rw [List.append_nil, hs ds hdl]
    exact trodAll_below hlaid hb (fun t ht => (hall t (hts ▸ ht)).2) hA
  · rw [List.append_nil, hs ds hdl, hvars]
    exact rfl
end Go.Eng

namespace Go.Eng
open Go.RowKit
section
variable {P : Program} {w0 : Bs} {N0 : Nat → Prop} {Q : Exit → AS → Prop} {S S' : AS}
theorem flat_take1 : ∀ (es : List V) (n : Nat), (∀ e ∈ es, e.fits 1) → (flat es).take n = flat (es.take n)
  | [], n, _ => by simp [flat]
  | e :: es, 0, _ => by simp [flat]
  | e :: es, n + 1, h => by
    have h1 : e.cells.length = 1 := (h e List.mem_cons_self).1
    have ih := flat_take1 es n (fun x hx => h x (List.mem_cons_of_mem _ hx))
    show (e.cells ++ flat es).take (n + 1) = e.cells ++ flat (es.take n)
    rw [List.take_append, h1, Nat.add_sub_cancel, ih, List.take_of_length_le (by omega)]
theorem eff_copy {D : Nat → Prop} {μ : Mu} {a : Act} {w : World} (h : RelM D w0 N0 μ S a w) {d len : Nat} {dT sT te ty : TypeId} {s x : Value} {xv : V} {es : List V} {o : Ob} (ht : telem P dT = some te) (hn : tsz P te = some 1)
    (hs : Enc w (Own N0 μ S) μ s (.sl d o.v o.sz len)) (ho : get S.objs d = some o) (hlen : o.es.length = len) (hsz : o.sz = 1) (hx : Enc w (Own N0 μ S) μ x xv) (he : S.elems xv = some (1, es)) (hle : len ≤ es.length) :
    ∃ w', (Builtin.copy_ #[dT, sT] ty #[s, x]).run P w = .ok (goInt len) w' ∧ RelM D w0 N0 μ { S with objs := (d, { o with es := es.take len }) :: S.objs } a w' := by
  have hu := telem_underlying ht
  unfold tsz at hn
  obtain ⟨A, c, rfl, hlc, hrest⟩ := h.elems hx he
  have same : len = 0 → RelM D w0 N0 μ { S with objs := (d, { o with es := es.take len }) :: S.objs } a w := fun h0 => by
    have he0 : o.es = [] := List.eq_nil_of_length_eq_zero (by omega)
    have hoo : ({ o with es := es.take len } : Ob) = o := by
      rw [h0, List.take_zero, ← he0]
    rw [hoo]
    obtain ⟨l, hl, hob⟩ := h.objs d o ho
    refine (h.update (D' := D) (d := d) (o' := o) (l' := l) (μ' := μ) (fun _ _ _ hh => hh) h.fresh hl h.below (Keeps.refl _ _) (fun _ _ _ _ _ _ _ => rfl) (fun g c e => .inr ⟨o, c, ho, by rw [hl, e]⟩) (fun N' hN => ?_)).1
    exact hob.keep (w' := w) (N' := N') (μ' := μ) (Keeps.refl _ _) hN (fun _ _ _ hh => hh) (fun _ _ _ => rfl)
  cases hs with
  | pur hs => cases hs
  | slv _ _ _ B hm => exact ⟨w, run_copy_none w dT sT ty te B A 0 0 es.length c hu hn (by simp), same rfl⟩
  | slr _ _ _ _ g cap hm hle2 hmax =>
    by_cases h0 : len = 0
    · exact ⟨w, by rw [h0]; exact run_copy_none w dT sT ty te _ A 0 cap es.length c hu hn (by simp), same h0⟩
    have hne : es ≠ [] := fun e => by subst e; simp at hle; omega
    obtain ⟨hf, ad, vs, rfl, hvl, hvc, hrow⟩ := hrest hne
    obtain ⟨l, hl', hob⟩ := h.objs d o ho
    rw [hm] at hl'
    injection hl' with hl'
    subst hl'
    obtain ⟨o1, o2, o3, o4, arr, o5, o6, o7⟩ := hob
    rw [hsz, Nat.mul_one] at o6
    rw [Nat.mul_one] at hvl
    have hct : (vs.take len).length = len := by rw [List.length_take]; omega
    have hrowt := hrow.take len
    rw [flat_take1 es len hf] at hrowt
    have hone : ∀ v ∈ vs.take len, v.oneCell' = true := by
      intro v hv
      have hv := List.mem_of_mem_take hv
      obtain ⟨j, hj⟩ := List.getElem?_of_mem hv
      have hjl : j < (flat es).length := by rw [← hrow.1]; exact (List.getElem?_eq_some_iff.1 hj).1
      have hc := List.getElem?_eq_getElem hjl
      refine (hrow.2 j v _ hj hc).cell_oneCell ?_
      have hmem := List.mem_of_getElem? hc
      unfold flat at hmem
      obtain ⟨e, he1, he2⟩ := List.mem_flatMap.1 hmem
      exact (hf e he1).2 _ he2
    have hrun := run_copy_row (P := P) w dT sT ty te g 0 len cap ad es.length c arr o.ty (vs.take len) hu hn o5 (by rw [hct]; exact (Nat.min_eq_right hle).symm)
      (fun j v hj => hvc j v (by
        have hjl : j < len := by have := (List.getElem?_eq_some_iff.1 hj).1; omega
        rwa [List.getElem?_take_of_lt hjl] at hj)) (by rw [hct]; omega) hone
    rw [hct] at hrun
    simp only [List.take_zero, List.nil_append, Nat.zero_add] at hrun
    refine ⟨_, hrun, ?_⟩
    have hkeep : Keeps w (Own N0 μ S) (w.setRow g (vs.take len ++ arr.toList.drop len).toArray) :=
      ⟨by simp, fun b hb hN => setRow_other w g b _ (fun e => hN (by subst e; exact .inr ⟨d, o, cap, ho, hm⟩))⟩
    refine (h.update (D' := D) (d := d) (o' := { o with es := es.take len }) (l' := some (g, cap)) (μ' := μ) (fun _ _ _ hh => hh) h.fresh hm (bs_setRow h.below o1 _) hkeep
      (fun d1 o1' g1 c1 hne1 h1 h2 => setRow_other w g g1 _ (fun e => hne1 (by subst e; exact h.inj _ _ _ _ _ _ _ h1 ho h2 hm)))
      (fun g2 c2 e => by
        simp only [Option.some.injEq, Prod.mk.injEq] at e
        obtain ⟨rfl, rfl⟩ := e
        exact .inr ⟨o, cap, ho, hm⟩) (fun N' hN => ?_)).1
    have hfit : ∀ e1 ∈ es.take len, e1.fits o.sz := fun e1 he1 => by rw [hsz]; exact hf e1 (List.mem_of_mem_take he1)
    have htl : (es.take len).length = len := by rw [List.length_take]; omega
    refine ⟨o1, by simp only [htl]; omega, o3, hfit, _, setRow_heap w g arr _ o.ty (0, 0) o5, ?_, ?_⟩
    · simp only [List.size_toArray, List.length_append, hct, List.length_drop, Array.length_toList, hsz, Nat.mul_one]
      omega
    · refine row_cells hfit ?_
      have e1 : (vs.take len ++ arr.toList.drop len).toArray.toList.take ((es.take len).length * o.sz) = vs.take len := by
        rw [htl, hsz, Nat.mul_one]
        simp only []
        rw [List.take_append_of_le_length (by omega), List.take_of_length_le (by omega)]
      rw [e1]
      exact ⟨hrowt.1, fun j x c h1 h2 => (hrowt.2 j x c h1 h2).keep hkeep hN (fun _ _ _ hh => hh)⟩
def AS.copyT (S : AS) (x y : Operand) (dst : Option Nat) : Option AS := match S.evc true x, S.evc true y with
  | some (.sl d v sz len), some xv => match get S.objs d, S.elems xv with
    | some ob, some (n, es) => if ob.v = v ∧ ob.sz = sz ∧ sz = 1 ∧ n = 1 ∧ ob.es.length = len ∧ len ≤ es.length then AS.putv { S with objs := (d, { ob with es := es.take len }) :: S.objs } dst (.int .i64 len) else none
    | _, _ => none
  | _, _ => none
end
attribute [simp] AS.copyT
end Go.Eng

namespace Go.Eng
open Go.RowKit
inductive Tr where
  | done
  | take (i : Nat) (ks : List Nat) (t : Tr)
  | alt (i : Nat) (t r : Tr)
  | stop
def Tr.ids : Tr → List Nat
  | .alt i _ r => i :: r.ids
  | _ => []
def Tr.depth : Tr → Nat
  | .take _ _ t => t.depth + 1
  | .alt _ t r => max (t.depth + 1) r.depth
  | _ => 0
def goodTree (ops : List Oper) : Bool → Array Bool → Tr → Bool
  | inn, listed, .done => !inn && (Region.ready .any ops.toArray listed).isEmpty
  | inn, listed, .take i ks t => !inn && (mayTake ops listed i ks && goodTree ops false (listed.setIfInBounds i true) t)
  | inn, listed, .alt i t r => (inn || Region.ready .any ops.toArray listed == i :: r.ids) && (goodTree ops false (listed.setIfInBounds i true) t && goodTree ops true listed r)
  | inn, _, .stop => inn
section
variable {P : Program} {kb : Nat} {w0 : Bs} {N0 : Nat → Prop} {Q : Exit → AS → Prop}
def AWT (P : Program) (kb : Nat) (w0 : Bs) (ops : List Oper) (Q : Exit → AS → Prop) : Tr → AS → Prop
  | .done, S => ∃ S', ({ S with nx := S.nx + ops.length } : AS).le S' ∧ Q .normal S'
  | .take i ks t, S => ∃ o S', ops[i]? = some o ∧ (ks.all fun d => (get S.objs (kb + d)).isNone) = true ∧ Step P kb w0 ops i o S S' ∧ AWT P kb w0 ops Q t S'
  | .alt i t r, S => (∃ o S', ops[i]? = some o ∧ Step P kb w0 ops i o S S' ∧ AWT P kb w0 ops Q t S') ∧ AWT P kb w0 ops Q r S
  | .stop, _ => True
theorem awt_any {ops : List Oper} (hk : mkOk ops = true) : ∀ (t : Tr) (inn : Bool) (listed : Array Bool) (S : AS) (n : Nat), t.depth ≤ n → goodTree ops inn listed t = true → AWT P kb w0 ops Q t S →
    (inn = false → awAny P kb w0 ops (fun S => ∃ S', ({ S with nx := S.nx + ops.length } : AS).le S' ∧ Q .normal S') n listed S) ∧
    (inn = true → ∀ m, n = m + 1 → ∀ i ∈ t.ids, ∃ o S', ops[i]? = some o ∧ Step P kb w0 ops i o S S' ∧ awAny P kb w0 ops (fun S => ∃ S', ({ S with nx := S.nx + ops.length } : AS).le S' ∧ Q .normal S') m (listed.setIfInBounds i true) S')
  | .done, inn, listed, S, n, hd, hg, h => by
    simp only [goodTree, Bool.and_eq_true, Bool.not_eq_true', List.isEmpty_iff] at hg
    refine ⟨fun _ => ?_, fun hi => by rw [hi] at hg; cases hg.1⟩
    cases n with
    | zero => exact ⟨hg.2, h⟩
    | succ n => exact ⟨fun _ => h, fun i hi => by rw [hg.2] at hi; cases hi⟩
  | .stop, inn, listed, S, n, hd, hg, h => by
    simp only [goodTree] at hg
    exact ⟨fun hi => (by rw [hi] at hg; cases hg), fun _ m _ i hi => (by cases hi)⟩
  | .take i ks t, inn, listed, S, n, hd, hg, h => by
    simp only [goodTree, Bool.and_eq_true, Bool.not_eq_true'] at hg
    refine ⟨fun _ => ?_, fun hi => by rw [hi] at hg; cases hg.1⟩
    obtain ⟨m, rfl⟩ : ∃ m, n = m + 1 := ⟨n - 1, by simp only [Tr.depth] at hd; omega⟩
    obtain ⟨o, S', ho, hks, hs, hrest⟩ := h
    have ih := (awt_any hk t false _ S' m (by simp only [Tr.depth] at hd; omega) hg.2.2 hrest).1 rfl
    have hm := hg.2.1
    unfold mayTake at hm
    simp only [ho, Bool.or_eq_true, Bool.and_eq_true, beq_iff_eq] at hm
    rcases hm with ⟨⟨⟨h1, h2⟩, h3⟩, h4⟩ | hm
    · obtain ⟨B, hB, hfree⟩ := firstOk_spec h3
      refine any_first ?_ ho (by simpa using h1) hk B m listed S S' hB hfree (fun hl j oj d hj hun hmk hd => ?_) (by simpa using h2) hs ih
      · rintro S T he ⟨S2, h5, h6⟩
        have he' : ({ T with nx := T.nx + ops.length } : AS).eqv { S with nx := S.nx + ops.length } := ⟨fun t => (he.1 t).symm, fun d => (he.2.1 d).symm, by simp only; rw [he.2.2.1], he.2.2.2.symm⟩
        exact ⟨S2, AS.le_trans he'.le h5, h6⟩
      · rcases h4 with h4 | h4
        · simp [hl] at h4
        · have h5 := List.all_eq_true.1 h4 j (List.mem_range.2 (List.getElem?_eq_some_iff.1 hj).1)
          simp only [hun, hj, hmk, hd, Bool.not_true, Bool.false_or] at h5
          have h6 := List.all_eq_true.1 hks d (by simpa using h5)
          simpa using h6
    · exact any_only ho hm hs ih
  | .alt i t r, inn, listed, S, n, hd, hg, h => by
    simp only [goodTree, Bool.and_eq_true, Bool.or_eq_true, beq_iff_eq] at hg
    obtain ⟨h1, h2, h3⟩ := hg
    obtain ⟨⟨o, S', ho, hs, hrest⟩, hr⟩ := h
    simp only [Tr.depth] at hd
    have key : ∀ m, n = m + 1 → ∀ j ∈ i :: r.ids, ∃ o S', ops[j]? = some o ∧ Step P kb w0 ops j o S S' ∧ awAny P kb w0 ops (fun S => ∃ S', ({ S with nx := S.nx + ops.length } : AS).le S' ∧ Q .normal S') m (listed.setIfInBounds j true) S' := by
      intro m hm j hj
      rcases List.mem_cons.1 hj with rfl | hj
      · exact ⟨o, S', ho, hs, (awt_any hk t false _ S' m (by omega) h2 hrest).1 rfl⟩
      · exact (awt_any hk r true listed S n (by omega) h3 hr).2 rfl m hm j hj
    refine ⟨fun hi => ?_, fun _ => key⟩
    rcases h1 with h1 | h1
    · rw [hi] at h1; cases h1
    obtain ⟨m, rfl⟩ : ∃ m, n = m + 1 := ⟨n - 1, by omega⟩
    exact ⟨fun h0 => (by rw [h1] at h0; cases h0), fun j hj => key m rfl j (by rw [h1] at hj; exact hj)⟩
theorem aw_tree {id : Nat} {l : List Oper} {S : AS} (t : Tr) (hm : P.follows .mixedOrders = true) (hg : (goodTree l false (Array.replicate l.length false) t && (mkOk l && decide (t.depth ≤ l.length))) = true) (h : AWT P 0 w0 l Q t S) : AW P w0 N0 (.region id l.toArray true) Q S := by
  simp only [Bool.and_eq_true, decide_eq_true_iff] at hg
  obtain ⟨hg, hk, hl⟩ := hg
  rintro a w ⟨μ, hr⟩
  refine wp_region_any hm ?_
  have hsz : l.toArray.size = l.length := by simp
  rw [hsz]
  have haw := (awt_any hk t false _ S l.length hl hg h).1 rfl
  refine any_sound (K := fun S => ∃ S', ({ S with nx := S.nx + l.length } : AS).le S' ∧ Q .normal S') ?_ l.length _ S a _ (by simp) ⟨μ, ?_⟩ haw
  · rintro S a w ⟨S', h1, h2⟩ ⟨μ, hr⟩
    refine ⟨S', h2, h1 _ _ _ _ ⟨μ, ⟨hr.defers, hr.size, hr.below, hr.n0, fun d v hv => ?_, hr.objs, hr.inj, hr.env⟩⟩⟩
    rcases hr.fresh d v hv with h3 | ⟨j, hj, e⟩
    · exact .inl (by simp only; omega)
    · exact .inl (by simp only; omega)
  · have := hr.drew
    exact this.more (fun j hj => hj.elim)
def runT (P : Program) (kb : Nat) (ops : List Oper) (L M : List Nat) : Tr → AS → Option (List AS)
  | .done, S => some [(S.bump ops.length).keep L M]
  | .take i ks t, S => match runOK P kb ops [(i, ks)] S with
    | some S' => runT P kb ops L M t S'
    | none => none
  | .alt i t r, S => match runOK P kb ops [(i, [])] S with
    | some S' => match runT P kb ops L M t S', runT P kb ops L M r S with
      | some a, some b => some (a ++ b)
      | _, _ => none
    | none => none
  | .stop, _ => some []
attribute [simp] runT
theorem runOK_one {ops : List Oper} {i : Nat} {ks : List Nat} {S S1 : AS} (h : runOK P kb ops [(i, ks)] S = some S1) : ∃ o, ops[i]? = some o ∧ (ks.all fun d => (get S.objs (kb + d)).isNone) = true ∧ Step P kb w0 ops i o S S1 := by
  simp only [runOK] at h
  split at h
  case h_2 => cases h
  rename_i o ho
  split at h
  case isFalse => cases h
  rename_i hks
  split at h
  case h_2 => cases h
  rename_i S2 h2
  injection h with h
  subst h
  rw [nth_eq] at ho
  exact ⟨o, ho, hks, .inl h2⟩
theorem awt_run {ops : List Oper} {L M : List Nat} : ∀ {t : Tr} {S : AS} {l : List AS}, runT P 0 ops L M t S = some l → (∀ T ∈ l, Q .normal T) → AWT P 0 w0 ops Q t S
  | .done, S, l, h, hq => by
    simp only [runT, Option.some.injEq] at h
    subst h
    exact ⟨_, le_keep (S.bump ops.length) L M, hq _ (by simp)⟩
  | .stop, S, l, h, hq => trivial
  | .take i ks t, S, l, h, hq => by
    simp only [runT] at h
    split at h
    case h_2 => cases h
    rename_i S' h1
    obtain ⟨o, h2, h3, h4⟩ := runOK_one (w0 := w0) h1
    exact ⟨o, S', h2, h3, h4, awt_run h hq⟩
  | .alt i t r, S, l, h, hq => by
    simp only [runT] at h
    split at h
    case h_2 => cases h
    rename_i S' h1
    split at h
    case h_2 => cases h
    rename_i a b h5 h6
    injection h with h
    subst h
    obtain ⟨o, h2, h3, h4⟩ := runOK_one (w0 := w0) h1
    exact ⟨⟨o, S', h2, h4, awt_run h5 (fun T hT => hq T (List.mem_append_left _ hT))⟩, awt_run h6 (fun T hT => hq T (List.mem_append_right _ hT))⟩
end
end Go.Eng

namespace Go.Eng
open Go.RowKit
section
variable {P : Program} {kb : Nat} {w0 : Bs} {N0 : Nat → Prop} {Q : Exit → AS → Prop} {S S' : AS} {G : Gp}
theorem run_call_fv {ρ : Operand → Value} {o : Oper} {f : Operand} {fid : FuncId} {fn : Func} {args : Array Operand} {ats : Array TypeId} {w : World} {xs ys : List Value} (ho : o.op = .call { callee := .value f, args := args, argTypes := ats }) (hf : ρ f = .func (.func fid) xs.toArray ys.toArray)
    (hfn : P.funcs[fid]? = some fn) (hb : fn.body.isSome = true) (hn : (fn.name == "runtime.NumGoroutine") = false) : (execOp ρ o).run P w = .ok (.enter fid (xs ++ args.toList.map ρ ++ ys).toArray) w := by
  unfold execOp
  rw [ho]
  obtain ⟨c, hc⟩ := Option.isSome_iff_exists.1 hb
  have hn' : ¬ fn.name = "runtime.NumGoroutine" := by simpa using hn
  have harr : (xs ++ args.toList.map ρ ++ ys).toArray = xs.toArray ++ args.map ρ ++ ys.toArray := by apply Array.ext'; simp
  rw [harr]
  simp [resolve, hf, Deferred.ofValue, invoke, callFunc, hfn, hn', hc]
end
end Go.Eng

namespace Go.Eng
open Go.RowKit
section
variable {P : Program} {w0 : Bs} {N0 : Nat → Prop} {Q : Exit → AS → Prop} {S S' : AS}
theorem RelM.forget {D : Nat → Prop} {μ : Mu} {a : Act} {w : World} (h : RelM D w0 N0 μ S a w) {d : Nat} {x : Value} (hd : d < S.nt) : RelM D w0 N0 μ { S with env := dropK [d] S.env } (a.put (some d) x) w := by
  refine ⟨h.defers, by simp [Act.put, h.size], h.below, h.n0, h.fresh, h.objs, h.inj, fun t u hu => ?_⟩
  obtain ⟨h1, h2⟩ := get_dropK hu
  rw [tmps_put a d x t (by rw [h.size]; exact hd), if_neg (fun e => h2 (by simp [e]))]
  exact h.env t u h1
theorem awl_drop {ops : List Oper} {i : Nat} {o : Oper} {rest : List Oper} {d : Nat} {c : Value} (hg : o.guard = none) (ho : o.op = .assign (.const c)) (hd : o.dst = some d) (hn : d < S.nt)
    (hS : ({ S with env := dropK [d] S.env } : AS) = S') (h : AWL P w0 N0 ops Q (i + 1) rest S') : AWL P w0 N0 ops Q i (o :: rest) S := by
  rintro D a w hD ⟨μ, hr⟩
  refine wpList_plain hg fun K hK => ?_
  unfold Oper.wp
  have hrun : (execOp a.eval o).run P w = .ok (.value (a.eval (.const c))) w := by
    unfold execOp
    rw [ho]
    rfl
  rw [hrun]
  subst hS
  refine hK _ _ ?_
  rw [hd]
  exact h D _ _ (fun j hj => Nat.lt_succ_of_lt (hD j hj)) ⟨μ, hr.forget hn⟩
def EndsM (fn : Func) (R : V → Prop) (e : Exit) (S : AS) : Prop :=
  match e with
  | .ret | .normal => ∃ t v, fn.results.toList = [.tmp t] ∧ get S.env t = some v ∧ v.pureV = true ∧ R v
  | _ => False
theorem endsM_ret {fn : Func} {R : V → Prop} {t : Nat} {v : V} (h1 : fn.results.toList = [.tmp t]) (h2 : get S.env t = some v) (h3 : v.pureV = true) (h4 : R v) : EndsM fn R .ret S := ⟨t, v, h1, h2, h3, h4⟩
theorem acm_intro {f : FuncId} {fn : Func} {c : Code} {args : List V} {R : V → Prop} (hf : P.funcs[f]? = some fn) (hb : fn.body = some c) (hl : args.length ≤ fn.ntmps)
    (h : ∀ w0 N0, AW P w0 N0 c (EndsM fn R) ⟨env0 0 args, [], 0, fn.ntmps⟩) : AC P f args R := by
  intro w N xs hN hlen hp
  refine calls_of_wp hf hb (wp_mono (h ⟨w, fun _ => False, fun _ _ => none, []⟩ N _ w ⟨fun _ _ => none, ⟨rfl, ?_, Bs.Below.refl _, ⟨fun b hb => ⟨hN b hb, fun h => h⟩, fun _ _ _ h => by cases h⟩, fun d v hv => absurd rfl hv, fun d o hd => ?_, fun d o _ _ _ _ _ hd => ?_, fun t v hv => ?_⟩⟩) ?_)
  · simp only [Array.size_append, List.size_toArray, Array.size_replicate]; omega
  · simp [get] at hd
  · simp [get] at hd
  · obtain ⟨_, h2⟩ := get_env0 hv
    simp only [Nat.sub_zero] at h2
    have ht : t < args.length := (List.getElem?_eq_some_iff.1 h2).1
    refine ⟨by simp only; omega, .pur ?_⟩
    have hx : xs[t]? = some xs[t] := List.getElem?_eq_getElem (by omega)
    have := hp t xs[t] v hx h2
    have hget : (xs.toArray ++ Array.replicate (fn.ntmps - xs.toArray.size) undef).getD t undef = xs[t] := by
      rw [Array.getD_eq_getD_getElem?, Array.getElem?_append_left (by simp; omega)]
      simp [hx]
    rw [hget]
    exact this.keep (Keeps.refl _ _) (fun b hb ho => by
      rcases ho with h0 | ⟨d, o, c, h1, _⟩
      · exact h0
      · simp [get] at h1)
  · rintro e a' w' ⟨S', hE, ⟨μ, hr⟩⟩
    have key : (∃ t v, fn.results.toList = [.tmp t] ∧ get S'.env t = some v ∧ v.pureV = true ∧ R v) → ∃ v, (results fn a'.tmps).run P w' = .ok v w' ∧ ∃ x r, Ending.returned v = .returned x ∧ R r ∧ Pur w' N x r ∧ Below w.heap.size w w' := by
      rintro ⟨t, v, h1, h2, h3, h4⟩
      have h5 := (hr.env t v h2).2.pureV h3
      refine ⟨a'.tmps.getD t undef, ?_, _, v, rfl, h4, h5.keep (Keeps.refl _ _) (fun b _ hb => .inl hb), hr.below.plain⟩
      rw [results_eq, Sem.run_bind, Array.mapM_eq_mapM_toList, Sem.run_map, h1]
      rfl
    cases e with
    | ret => exact ⟨hr.defers, key hE⟩
    | normal => exact ⟨hr.defers, key hE⟩
    | _ => exact hE.elim
end
end Go.Eng

namespace Go.Eng
open Go.RowKit
section
variable {P : Program} {w0 : Bs} {N0 : Nat → Prop} {Q : Exit → AS → Prop} {S : AS}
end
end Go.Eng

namespace Go.Eng
open Go.RowKit
section
variable {P : Program} {w0 : Bs} {N0 : Nat → Prop} {Q : Exit → AS → Prop} {S S' : AS}
end
end Go.Eng

namespace Go.Eng
open Go.RowKit
section
variable {P : Program} {w0 : Bs} {N0 : Nat → Prop} {Q : Exit → AS → Prop} {S S' : AS}
theorem eff_copyS {D : Nat → Prop} {μ : Mu} {a : Act} {w : World} (h : RelM D w0 N0 μ S a w) {d len : Nat} {dT sT te ty : TypeId} {s x : Value} {xv : V} {es : List V} {o : Ob} (ht : telem P dT = some te) (hn : tsz P te = some 1)
    (hs : Enc w (Own N0 μ S) μ s (.sl d o.v o.sz len)) (ho : get S.objs d = some o) (hlen : o.es.length = len) (hsz : o.sz = 1) (hx : Enc w (Own N0 μ S) μ x xv) (he : S.elems xv = some (1, es)) (hle : es.length ≤ len) :
    ∃ w', (Builtin.copy_ #[dT, sT] ty #[s, x]).run P w = .ok (goInt es.length) w' ∧ RelM D w0 N0 μ { S with objs := (d, { o with es := es ++ o.es.drop es.length }) :: S.objs } a w' := by
  have hu := telem_underlying ht
  unfold tsz at hn
  obtain ⟨A, c, rfl, hlc, hrest⟩ := h.elems hx he
  have same : es.length = 0 → RelM D w0 N0 μ { S with objs := (d, { o with es := es ++ o.es.drop es.length }) :: S.objs } a w := fun h0 => by
    have hoo : ({ o with es := es ++ o.es.drop es.length } : Ob) = o := by
      rw [List.eq_nil_of_length_eq_zero h0]; rfl
    rw [hoo]
    obtain ⟨l, hl, hob⟩ := h.objs d o ho
    refine (h.update (D' := D) (d := d) (o' := o) (l' := l) (μ' := μ) (fun _ _ _ hh => hh) h.fresh hl h.below (Keeps.refl _ _) (fun _ _ _ _ _ _ _ => rfl) (fun g c e => .inr ⟨o, c, ho, by rw [hl, e]⟩) (fun N' hN => ?_)).1
    exact hob.keep (w' := w) (N' := N') (μ' := μ) (Keeps.refl _ _) hN (fun _ _ _ hh => hh) (fun _ _ _ => rfl)
  cases hs with
  | pur hs => cases hs
  | slv _ _ _ B hm => exact ⟨w, by rw [show es.length = 0 by omega]; exact run_copy_none w dT sT ty te B A 0 0 0 c hu hn (by simp), same (by omega)⟩
  | slr _ _ _ _ g cap hm hle2 hmax =>
    by_cases h0 : es.length = 0
    · exact ⟨w, by rw [h0]; exact run_copy_none w dT sT ty te _ A len cap 0 c hu hn (by simp), same h0⟩
    have hne : es ≠ [] := fun e => by subst e; simp at h0
    obtain ⟨hf, ad, vs, rfl, hvl, hvc, hrow⟩ := hrest hne
    obtain ⟨l, hl', hob⟩ := h.objs d o ho
    rw [hm] at hl'
    injection hl' with hl'
    subst hl'
    obtain ⟨o1, o2, o3, o4, arr, o5, o6, o7⟩ := hob
    rw [hsz, Nat.mul_one] at o6
    rw [Nat.mul_one] at hvl
    have hone : ∀ v ∈ vs, v.oneCell' = true := by
      intro v hv
      obtain ⟨j, hj⟩ := List.getElem?_of_mem hv
      have hjl : j < (flat es).length := by rw [← hrow.1]; exact (List.getElem?_eq_some_iff.1 hj).1
      have hc := List.getElem?_eq_getElem hjl
      refine (hrow.2 j v _ hj hc).cell_oneCell ?_
      have hmem := List.mem_of_getElem? hc
      unfold flat at hmem
      obtain ⟨e, he1, he2⟩ := List.mem_flatMap.1 hmem
      exact (hf e he1).2 _ he2
    have hrun := run_copy_row (P := P) w dT sT ty te g 0 len cap ad es.length c arr o.ty vs hu hn o5 (by rw [hvl]; exact (Nat.min_eq_left hle).symm)
      hvc (by omega) hone
    rw [hvl] at hrun
    simp only [List.take_zero, List.nil_append, Nat.zero_add] at hrun
    refine ⟨_, hrun, ?_⟩
    have hkeep : Keeps w (Own N0 μ S) (w.setRow g (vs ++ arr.toList.drop es.length).toArray) :=
      ⟨by simp, fun b hb hN => setRow_other w g b _ (fun e => hN (by subst e; exact .inr ⟨d, o, cap, ho, hm⟩))⟩
    refine (h.update (D' := D) (d := d) (o' := { o with es := es ++ o.es.drop es.length }) (l' := some (g, cap)) (μ' := μ) (fun _ _ _ hh => hh) h.fresh hm (bs_setRow h.below o1 _) hkeep
      (fun d1 o1' g1 c1 hne1 h1 h2 => setRow_other w g g1 _ (fun e => hne1 (by subst e; exact h.inj _ _ _ _ _ _ _ h1 ho h2 hm)))
      (fun g2 c2 e => by
        simp only [Option.some.injEq, Prod.mk.injEq] at e
        obtain ⟨rfl, rfl⟩ := e
        exact .inr ⟨o, cap, ho, hm⟩) (fun N' hN => ?_)).1
    have hfit : ∀ e1 ∈ es ++ o.es.drop es.length, e1.fits o.sz := fun e1 he1 => by
      rcases List.mem_append.1 he1 with h1 | h1
      · rw [hsz]; exact hf e1 h1
      · exact o4 e1 (List.mem_of_mem_drop h1)
    have htl : (es ++ o.es.drop es.length).length = o.es.length := by rw [List.length_append, List.length_drop]; omega
    refine ⟨o1, by simp only [htl]; exact o2, o3, hfit, _, setRow_heap w g arr _ o.ty (0, 0) o5, ?_, ?_⟩
    · simp only [List.size_toArray, List.length_append, hvl, List.length_drop, Array.length_toList, hsz, Nat.mul_one]
      omega
    · intro k e j c2 hk hj
      simp only [hsz, Nat.mul_one] at o7 ⊢
      by_cases hkm : k < es.length
      · rw [List.getElem?_append_left hkm] at hk
        have hfe := hf e (List.mem_of_getElem? hk)
        have hj0 : j = 0 := by
          have := (List.getElem?_eq_some_iff.1 hj).1
          have := hfe.1; omega
        subst hj0
        have hfl := flat_get hf hk hj
        simp only [Nat.mul_one, Nat.add_zero] at hfl ⊢
        have hxv : vs[k]? = some (vs[k]'(by omega)) := List.getElem?_eq_getElem (by omega)
        refine ⟨vs[k]'(by omega), ?_, ?_⟩
        · rw [List.getElem?_toArray, List.getElem?_append_left (by omega)]; exact hxv
        · exact (hrow.2 k _ c2 hxv hfl).keep hkeep hN (fun _ _ _ hh => hh)
      · rw [List.getElem?_append_right (by omega), List.getElem?_drop] at hk
        have hfe := o4 e (List.mem_of_getElem? hk)
        have hj0 : j = 0 := by
          have := (List.getElem?_eq_some_iff.1 hj).1
          have := hfe.1; omega
        subst hj0
        rw [show es.length + (k - es.length) = k by omega] at hk
        obtain ⟨y, hy1, hy2⟩ := o7 k e 0 c2 hk hj
        simp only [Nat.add_zero] at hy1 ⊢
        refine ⟨y, ?_, hy2.keep hkeep hN (fun _ _ _ hh => hh)⟩
        rw [List.getElem?_toArray, List.getElem?_append_right (by omega), List.getElem?_drop, hvl, show es.length + (k - es.length) = k by omega]
        rw [← hy1]; simp
def AS.copyTS (S : AS) (x y : Operand) (dst : Option Nat) : Option AS := match S.evc true x, S.evc true y with
  | some (.sl d v sz len), some xv => match get S.objs d, S.elems xv with
    | some ob, some (n, es) => if ob.v = v ∧ ob.sz = sz ∧ sz = 1 ∧ n = 1 ∧ ob.es.length = len ∧ es.length ≤ len then AS.putv { S with objs := (d, { ob with es := es ++ ob.es.drop es.length }) :: S.objs } dst (.int .i64 es.length) else none
    | _, _ => none
  | _, _ => none
end
attribute [simp] AS.copyTS
end Go.Eng

namespace Go.Eng
open Go.RowKit
def AS.viewB (S : AS) : V → Option V
  | .bp d v sz k off => if off = 0 then (match get S.objs d with
    | some o => if o.v = v ∧ o.sz = sz then (match nth o.es k with
      | some (.agg cs) => match S.viewL cs with
        | some us => some (.rp (.agg us))
        | none => none
      | _ => none) else none
    | none => none) else none
  | v => S.view v
def AS.viewsB (S : AS) : List V → Option (List V)
  | [] => some []
  | v :: r => match S.viewB v, S.viewsB r with
    | some u, some us => some (u :: us)
    | _, _ => none
section
variable {P : Program} {kb : Nat} {D : Nat → Prop} {w0 : Bs} {w : World} {N0 : Nat → Prop} {μ : Mu} {S S' : AS} {a : Act} {Q : Exit → AS → Prop}
theorem RelM.viewB (h : RelM D w0 N0 μ S a w) {x : Value} {v u : V} (hx : Enc w (Own N0 μ S) μ x v) (hv : S.viewB v = some u) : Pur w N0 x u := by
  have other : S.view v = some u → Pur w N0 x u := fun hv => h.view hx hv
  cases v <;> simp only [AS.viewB] at hv
  case bp d v sz k off =>
    split at hv
    case isFalse => cases hv
    rename_i h0
    split at hv
    case h_2 => cases hv
    rename_i o ho
    split at hv
    case isFalse => cases hv
    rename_i hvs
    obtain ⟨rfl, rfl⟩ := hvs
    split at hv
    case h_2 => cases hv
    rename_i cs hcs
    split at hv
    case h_2 => cases hv
    rename_i us hus
    injection hv with hv
    subst hv
    subst h0
    rw [nth_eq] at hcs
    obtain ⟨h1, h2⟩ := viewL_spec hus
    cases hx with
    | pur hx => cases hx
    | bp _ _ _ _ _ g cap hm =>
      obtain ⟨l, hl, hob⟩ := h.objs d o ho
      rw [hm] at hl
      injection hl with hl
      subst hl
      obtain ⟨hf, _, _, h4, arr, h5, h6, h7⟩ := hob
      have hfe := h4 _ (List.mem_of_getElem? hcs)
      have hlen : cs.length = o.sz := hfe.1
      have hcell : ∀ (j : Nat) c, us[j]? = some c → ∃ y, w.cell? ((⟨g, k * o.sz, none⟩ : Addr).add j) = some y ∧ Pur w N0 y c ∧ c.isCell = true := by
        intro j c hj
        have hlt : j < us.length := (List.getElem?_eq_some_iff.1 hj).1
        have hcj : cs[j]? = some cs[j] := List.getElem?_eq_getElem (by omega)
        obtain ⟨y, hy, hey⟩ := h7 k _ j cs[j] hcs hcj
        obtain ⟨hp, hc⟩ := h.viewC hey (h2 j cs[j] c hcj hj)
        exact ⟨y, by rw [Addr.add_lit, cell_of_row w g _ arr o.ty (0, 0) h5]; exact hy, hp, hc⟩
      refine .rp ⟨g, k * o.sz, none⟩ o.sz (.agg us) (fun j => (w.cell? ((⟨g, k * o.sz, none⟩ : Addr).add j)).getD undef) (h.block_lt ho hm) (fun hn => ?_) ⟨by show us.length = o.sz; omega, fun c hc => ?_⟩ (fun j c hj => ?_) (fun j c hj => ?_)
      · have := h.n0.1 _ hn
        exact absurd hf (fun hf => hf.elim (fun h => by have := this.1; simp only at *; omega) this.2)
      · obtain ⟨j, hj⟩ := List.getElem?_of_mem hc
        obtain ⟨_, _, _, h8⟩ := hcell j c hj
        exact h8
      · obtain ⟨y, hy, _, _⟩ := hcell j c hj
        simp only [hy, Option.getD_some]
      · obtain ⟨y, hy, hp, _⟩ := hcell j c hj
        simp only [hy, Option.getD_some]
        exact hp
  all_goals exact other hv
theorem viewsB_spec : ∀ {vs us : List V}, S.viewsB vs = some us → us.length = vs.length ∧ ∀ (i : Nat) v u, vs[i]? = some v → us[i]? = some u → S.viewB v = some u
  | [], us, h => by simp only [AS.viewsB, Option.some.injEq] at h; subst h; simp
  | c :: cs, us, h => by
    simp only [AS.viewsB] at h
    split at h
    case h_2 => cases h
    rename_i u us' h1 h2
    injection h with h
    subst h
    obtain ⟨h3, h4⟩ := viewsB_spec h2
    refine ⟨by simp [h3], fun i c' u' hc hu => ?_⟩
    rcases i with _ | i
    · simp at hc hu; subst hc; subst hu; exact h1
    · simp at hc hu; exact h4 i c' u' hc hu
theorem viewsB_congr {S T : AS} (h : ∀ d, get S.objs d = get T.objs d) : ∀ (vs : List V), S.viewsB vs = T.viewsB vs := by
  have hC : ∀ v, S.viewC v = T.viewC v := by
    intro v
    cases v <;> simp only [AS.viewC] <;> rw [elems_congr h]
  have hL : ∀ l, S.viewL l = T.viewL l := by
    intro l
    induction l with
    | nil => rfl
    | cons v l ih => simp only [AS.viewL, hC, ih]
  have hV : ∀ v, S.viewB v = T.viewB v := by
    intro v
    cases v <;> simp only [AS.viewB, AS.view, hC, hL, h]
  intro vs
  induction vs with
  | nil => rfl
  | cons v l ih => simp only [AS.viewsB, hV, ih]
theorem opq_callvBB {ops : List Oper} {i : Nat} {o : Oper} {f : Operand} {fid : FuncId} {fn : Func} {args : Array Operand} {ats : Array TypeId} {vs us : List V} {res : V}
    (hc : ACB w0 P fid us (fun r => r = res)) (hfn : P.funcs[fid]? = some fn) (hb : fn.body.isSome = true) (hn : (fn.name == "runtime.NumGoroutine") = false)
    (hg : S.gv ops o = some true) (ho : o.op = .call { callee := .value f, args := args, argTypes := ats }) (hf : S.evc true f = some (.fn fid))
    (ha : S.args true args.toList = some vs) (hp : S.viewsB vs = some us) (hl : res.light = true) (hs : S.putv o.dst (wrapG o true res) = some S') : OpqStep P w0 ops i o S S' := by
  obtain ⟨hs1, hs2⟩ := putv_ap hs
  refine ⟨wrapG o true res, [], hs1, fun T hT hob N0 D a w hr hi hDb K Q' hK => ?_⟩
  replace hg : T.gv ops o = some true := by rw [← hT.gv]; exact hg
  replace hf : T.evc true f = some (.fn fid) := by rw [← hT.evc (by rw [ho]; simp [Op.operands, Call.operands])]; exact hf
  replace ha : T.args true args.toList = some vs := by rw [← args_congr (S := S) (T := T) (fun x hx => hT.evc (by rw [ho]; simp [Op.operands, Call.operands]; right; simpa using hx) true)]; exact ha
  replace hp : T.viewsB vs = some us := by rw [← viewsB_congr hob]; exact hp
  have hs := ap_putv (S := T) (wrapG o true res) (fun d hd => by rw [← hT.2.1]; exact hs2 d hd)
  obtain ⟨μ, hr⟩ := hr
  rw [wanted_of hr hg, if_pos rfl]
  have hfv := hr.evc hf rfl
  have hfe : a.eval f = .func (.func fid) #[] #[] := by
    generalize a.eval f = y at hfv
    cases hfv with
    | pur hfv => cases hfv with
      | fn => rfl
  obtain ⟨h1, h2⟩ := args_spec hr rfl ha
  obtain ⟨h3, h4⟩ := viewsB_spec hp
  unfold Oper.wp
  rw [run_call_fn ho hfe hfn hb hn]
  have hcall := hc w N0 (args.toList.map a.eval) hr.below (fun b hb => Nat.lt_of_lt_of_le (hr.n0.1 b hb).1 hr.below.size) (by simp [h1, h3]) (fun j x v hx hv => by
    simp only [List.getElem?_map, Option.map_eq_some_iff] at hx
    obtain ⟨y, hy, rfl⟩ := hx
    have hj : j < vs.length := by rw [← h3]; exact (List.getElem?_eq_some_iff.1 hv).1
    exact hr.viewB (h2 j y vs[j] hy (List.getElem?_eq_getElem hj)) (h4 j vs[j] v (List.getElem?_eq_getElem hj) hv))
  have harr : (args.toList.map a.eval).toArray = args.map a.eval := by apply Array.ext'; simp
  rw [harr] at hcall
  refine hcall.mono ?_
  rintro e w' ⟨x, r, rfl, rfl, hpx, hbw⟩
  refine hK _ _ ⟨μ, ((hr.later hbw).putv hs ?_).more (fun j hj => .inl hj)⟩
  unfold wrapG
  split
  · exact .pur (hpx.of_light hl)
  · exact .whn _ _ _ (fun _ => .pur (hpx.of_light hl)) (fun hf => by cases hf)
end
attribute [simp] AS.viewB AS.viewsB
end Go.Eng

namespace Go.Eng
open Go.RowKit
section
variable {P : Program} {kb : Nat} {D : Nat → Prop} {w0 : Bs} {w : World} {N0 : Nat → Prop} {μ : Mu} {S S' : AS} {a : Act} {Q : Exit → AS → Prop}
theorem unwanted_of {ops : List Oper} {o : Oper} (hr : RelM D w0 N0 μ S a w) (hg : S.gv ops o = some false) : Region.wanted o (yielded ops.toArray a.tmps) = false := by
  unfold AS.gv at hg
  split at hg
  · cases hg
  · rename_i j want hgn; exact gd_spec hr hgn hg
theorem sx_skip {X : List Nat} {ops : List Oper} {i : Nat} {o : Oper} (hX : i ∈ X) (hg : S.gv ops o = some false) (hs : S.putv o.dst (.whn false (.bool true)) = some S') : StepX P kb w0 X ops i o S S' := by
  obtain ⟨hs1, hs2⟩ := putv_ap hs
  refine .inr (.inr ⟨hX, .whn false (.bool true), [], hs1, fun T hT hob N0 D a w hr hi hDb K Q' hK => ?_⟩)
  replace hg : T.gv ops o = some false := by rw [← hT.gv]; exact hg
  have hs := ap_putv (S := T) (.whn false (.bool true)) (fun d hd => by rw [← hT.2.1]; exact hs2 d hd)
  obtain ⟨μ, hr⟩ := hr
  rw [unwanted_of hr hg, if_neg (by simp)]
  exact hK _ _ ⟨μ, (hr.putv hs (.whn _ _ _ (fun hf => by cases hf) (fun _ => rfl))).more (fun j hj => .inl hj)⟩
end
end Go.Eng

namespace Go.Eng
open Go.RowKit
section
variable {P : Program} {kb : Nat} {w0 : Bs} {N0 : Nat → Prop} {S S' : AS} {Q : Exit → AS → Prop} {ops : List Oper}
def AX (P : Program) (w0 : Bs) (N0 : Nat → Prop) (ops : List Oper) (Q : Exit → AS → Prop) (n : Nat) (listed : Array Bool) (S : AS) : Prop :=
  ∀ a w, RelD (fun j => listed.getD j false = true) w0 N0 S a w → wpAny P .any ops.toArray (post w0 N0 Q) n listed a w
def RelStep (P : Program) (w0 : Bs) (N0 : Nat → Prop) (ops : List Oper) (Q : Exit → AS → Prop) (i : Nat) (o : Oper) (S : AS) (R : AS → Prop) : Prop :=
  ∀ (D : Nat → Prop) (a : Act) (w : World), RelD D w0 N0 S a w → ¬ D i → (∀ j, D j → j < ops.length) → ∀ (K : Act → World → Prop), (∀ S' a' w', R S' → RelD (fun j => D j ∨ j = i) w0 N0 S' a' w' → K a' w') →
    if Region.wanted o (yielded ops.toArray a.tmps) = true then o.wp P a w K (post w0 N0 Q) else K (a.put o.dst undef) w
theorem rs_step {X : List Nat} {i : Nat} {o : Oper} (h : StepX P kb w0 X ops i o S S') : RelStep P w0 N0 ops Q i o S (fun T => T = S') :=
  fun _ _ _ hr hi hDb _ hK => stepX_sound hr hi hDb h (fun a' w' hr' => hK S' a' w' rfl hr')
theorem ax_fork {n : Nat} {listed : Array Bool} (l : List Nat) (hc : (listed.size == ops.length && (Region.ready .any ops.toArray listed == l && !l.isEmpty)) = true)
    (h : ∀ i ∈ l, ∃ o R, ops[i]? = some o ∧ RelStep P w0 N0 ops Q i o S R ∧ ∀ S', R S' → AX P w0 N0 ops Q n (listed.setIfInBounds i true) S') : AX P w0 N0 ops Q (n + 1) listed S := by
  simp only [Bool.and_eq_true, beq_iff_eq] at hc
  obtain ⟨hsz, hl, hne⟩ := hc
  intro a w hr
  refine ⟨fun h0 => (by rw [hl] at h0; subst h0; simp at hne), fun i hi => ?_⟩
  have hun := (mem_ready.1 hi).1
  have hil : i < listed.size := by
    rcases Nat.lt_or_ge i listed.size with h | h
    · exact h
    · simp [Array.getElem?_eq_none h] at hun
  have hni : ¬ (listed.getD i false = true) := by
    intro h1
    simp [hil] at hun h1
    rw [hun] at h1
    cases h1
  have hDb : ∀ j, listed.getD j false = true → j < ops.length := fun j hj => by
    rcases Nat.lt_or_ge j listed.size with h | h
    · omega
    · simp [Array.getElem?_eq_none h] at hj
  rw [hl] at hi
  obtain ⟨o, R, ho, hs, hrest⟩ := h i hi
  unfold wpOp
  have ho' : ops.toArray[i]? = some o := by simpa using ho
  simp only [ho']
  have := hs _ a w hr hni hDb (wpAny P .any ops.toArray (post w0 N0 Q) n (listed.setIfInBounds i true)) (fun S' a' w' hR hr' => by
    obtain ⟨μ', hr'⟩ := hr'
    refine hrest S' hR a' w' ⟨μ', hr'.more (fun j hj => ?_)⟩
    rcases hj with hj | hj
    · by_cases hij : i = j
      · subst hij; simp [hil]
      · rw [getD_set_ne false hij]; exact hj
    · subst hj; simp [hil])
  split
  · rename_i hw; rw [if_pos hw] at this; exact .inl this
  · rename_i hw; rw [if_neg hw] at this; exact this
theorem aw_drawR {id : Nat} (hm : P.follows .mixedOrders = true) (h : AX P w0 N0 ops Q ops.length (Array.replicate ops.length false) S) : AW P w0 N0 (.region id ops.toArray true) Q S := by
  rintro a w ⟨μ, hr⟩
  refine wp_region_any hm ?_
  have hsz : ops.toArray.size = ops.length := by simp
  rw [hsz]
  exact h a _ ⟨μ, hr.drew.more (fun j hj => hj.elim)⟩
end
end Go.Eng
