/- Regions whose order is left open: one order serves for all (the theorem, and its use). No condition. -/
import Derived.Test.YtepkalebaaidcaaEng14
import Derived.Still
set_option linter.unusedSimpArgs false
namespace Go.Eng
open Go.RowKit

/-- Two states that hold the same. -/
def AS.eqv (S T : AS) : Prop := (∀ t, get S.env t = get T.env t) ∧ (∀ d, get S.objs d = get T.objs d) ∧ S.nx = T.nx ∧ S.nt = T.nt

theorem AS.eqv.le {S T : AS} (h : S.eqv T) : S.le T := le_of_get h.2.2.2.symm (by rw [h.2.2.1]; exact Nat.le_refl _) (fun t v hv => by rw [h.1]; exact hv) (fun d o ho => by rw [h.2.1]; exact ho)
theorem AS.eqv.symm {S T : AS} (h : S.eqv T) : T.eqv S := ⟨fun t => (h.1 t).symm, fun d => (h.2.1 d).symm, h.2.2.1.symm, h.2.2.2.symm⟩

theorem get_append {α : Type} {l r : List (Nat × α)} (h : ∀ t, get l t = get r t) : ∀ (O : List (Nat × α)) (t : Nat), get (O ++ l) t = get (O ++ r) t
  | [], t => h t
  | (k, x) :: O, t => by
    simp only [List.cons_append, get_cons]
    rw [get_append h O t]

theorem ap_eqv {S T : AS} (h : S.eqv T) (dst : Option Nat) (u : V) (O : List (Nat × Ob)) : (S.ap dst u O).eqv (T.ap dst u O) := by
  refine ⟨fun t => ?_, fun d => get_append h.2.1 O d, h.2.2.1, h.2.2.2⟩
  cases dst with
  | none => exact h.1 t
  | some d => simp only [AS.ap, get_cons]; rw [h.1 t]

section
variable {P : Program} {w0 : World} {N0 : Nat → Prop} {Q : Exit → AS → Prop}

theorem mapUp_acts {op : Op} (h : acts op = false) : mapUp op = false := by cases op <;> first | rfl | simp [acts] at h
theorem okMs_iff : ∀ {l : List (Nat × V)}, okMs l = true → ∀ t v, get l t = some v → v.okM = true
  | [], _, t, v, h => by simp [get] at h
  | (k, x) :: l, h4, t, v, h5 => by
    simp only [okMs, Bool.and_eq_true] at h4
    rw [get_cons] at h5
    split at h5
    · injection h5 with h5; subst h5; exact h4.1
    · exact okMs_iff h4.2 t v h5
theorem step_eqv {ops : List Oper} {i : Nat} {o : Oper} {S S' T : AS} (hs : Step P w0 ops i o S S') (h : S.eqv T) : ∃ T', Step P w0 ops i o T T' ∧ S'.eqv T' := by
  by_cases hm : mapUp o.op = false ∨ o.guard ≠ none
  · obtain ⟨u, O, rfl, _, _, hall⟩ := step_spec hs hm
    exact ⟨_, hall T ⟨fun t _ => h.1 t, h.2.2.2, h.2.2.1⟩ (fun _ => h.2.1) (fun _ p r hp => by rw [← place_congr (S := S) (T := T) h.2.1]; exact hp), ap_eqv h _ _ _⟩
  · have hev : ∀ x, S.evc true x = T.evc true x := fun x => by
      have : S.ev x = T.ev x := by
        cases x with
        | tmp t => exact h.1 t
        | _ => rfl
      unfold AS.evc
      rw [this]
    rcases hs with hs | ⟨c, f, args, ats, _, _, _, _, _, ho, _⟩ | ⟨t, m, x, v, b, k, es, q, u, e, hg, hd, ho, hm1, hx, hv, hu, ht, hb0, hok, rfl⟩
    · exfalso
      have hgn : o.guard = none := by
        cases hg : o.guard with
        | none => rfl
        | some p => exact absurd (.inr (by rw [hg]; simp)) hm
      have hmu : ¬ mapUp o.op = false := fun h => hm (.inl h)
      cases hop : o.op <;> rw [hop] at hmu <;> first | (exact hmu rfl) | skip
      unfold astep at hs
      rw [hgn] at hs
      simp only [hop, aval, aeff, acore] at hs
      cases hs
    · exact absurd (.inl (by rw [ho]; rfl)) hm
    · refine ⟨{ T with env := mapK (V.mset b k ((q, u) :: es)) T.env }, .inr (.inr ⟨t, m, x, v, b, k, es, q, u, e, hg, hd, ho, by rw [← hev]; exact hm1, by rw [← hev]; exact hx, by rw [← hev]; exact hv, hu, ht, hb0, fun t v hv => hok t v (by rw [h.1]; exact hv), rfl⟩), fun t => ?_, h.2.1, h.2.2.1, h.2.2.2⟩
      rw [get_mapK', get_mapK', h.1]

/-- Whatever order is picked. -/
def awAny (P : Program) (w0 : World) (ops : List Oper) (K : AS → Prop) : Nat → Array Bool → AS → Prop
  | 0, listed, S => Region.ready .any ops.toArray listed = [] ∧ K S
  | n + 1, listed, S => (Region.ready .any ops.toArray listed = [] → K S) ∧ ∀ i ∈ Region.ready .any ops.toArray listed, ∃ o S', ops[i]? = some o ∧ Step P w0 ops i o S S' ∧ awAny P w0 ops K n (listed.setIfInBounds i true) S'

theorem any_eqv {ops : List Oper} {K : AS → Prop} (hK : ∀ S T, S.eqv T → K S → K T) : ∀ (n : Nat) (listed : Array Bool) (S T : AS), S.eqv T → awAny P w0 ops K n listed S → awAny P w0 ops K n listed T
  | 0, _, _, _, h, ha => ⟨ha.1, hK _ _ h ha.2⟩
  | n + 1, listed, S, T, h, ha => ⟨fun h0 => hK _ _ h (ha.1 h0), fun i hi => by
    obtain ⟨o, S', ho, hs, hrest⟩ := ha.2 i hi
    obtain ⟨T', hT, he⟩ := step_eqv hs h
    exact ⟨o, T', ho, hT, any_eqv hK n _ S' T' he hrest⟩⟩

/-- The model follows whatever order is picked. -/
theorem any_sound {ops : List Oper} {K : AS → Prop} (hK : ∀ S a w, K S → RelD (fun j => j < ops.length) w0 N0 S a w → post w0 N0 Q .normal a w) : ∀ (n : Nat) (listed : Array Bool) (S : AS) (a : Act) (w : World), listed.size = ops.length →
    RelD (fun j => listed.getD j false = true) w0 N0 S a w → awAny P w0 ops K n listed S → wpAny P .any ops.toArray (post w0 N0 Q) n listed a w
  | 0, listed, S, a, w, hsz, hr, ha => by
    obtain ⟨μ, hr⟩ := hr
    refine ⟨ha.1, hK S a w ha.2 ⟨μ, hr.more (fun j hj => ?_)⟩⟩
    rcases Nat.lt_or_ge j listed.size with h | h
    · omega
    · simp [Array.getElem?_eq_none h] at hj
  | n + 1, listed, S, a, w, hsz, hr, ha => by
    refine ⟨fun h0 => ?_, fun i hi => ?_⟩
    · obtain ⟨μ, hr⟩ := hr
      refine hK S a w (ha.1 h0) ⟨μ, hr.more (fun j hj => ?_)⟩
      rcases Nat.lt_or_ge j listed.size with h | h
      · omega
      · simp [Array.getElem?_eq_none h] at hj
    · obtain ⟨o, S', ho, hs, hrest⟩ := ha.2 i hi
      have hun := (mem_ready.1 hi).1
      have hil : i < listed.size := by
        rcases Nat.lt_or_ge i listed.size with h | h
        · exact h
        · simp [Array.getElem?_eq_none h] at hun
      have hni : ¬ (listed.getD i false = true) := by
        intro h1
        simp [hil] at hun h1
        rw [hun] at h1
        cases h1
      unfold wpOp
      have ho' : ops.toArray[i]? = some o := by simpa using ho
      simp only [ho']
      have := step_sound (P := P) hr hni hs (K := wpAny P .any ops.toArray (post w0 N0 Q) n (listed.setIfInBounds i true)) (Q' := post w0 N0 Q) (fun a' w' hr' => by
        obtain ⟨μ', hr'⟩ := hr'
        refine any_sound hK n _ S' a' w' (by simpa using hsz) ⟨μ', hr'.more (fun j hj => ?_)⟩ hrest
        rcases hj with hj | hj
        · by_cases hij : i = j
          · subst hij; simp [hil]
          · rw [getD_set_ne false hij]; exact hj
        · subst hj; simp [hil])
      split
      · rename_i hw; rw [if_pos hw] at this; exact .inl this
      · rename_i hw; rw [if_neg hw] at this; exact this

/-- The operations that come behind operation i in every order. -/
def blk (ops : List Oper) (listed : Array Bool) (i : Nat) : List Nat :=
  (List.range ops.length).foldl (fun B j => if listed.getD j true then B else (match ops[j]? with
    | some oj => if oj.after.any (fun e => Region.binds .any e && (e.on == i || B.contains e.on)) then j :: B else B
    | none => B)) []
def blkOk (ops : List Oper) (listed : Array Bool) (i : Nat) (B : List Nat) : Bool :=
  B.all fun j => !listed.getD j true && (match ops[j]? with
    | some oj => oj.after.any (fun e => Region.binds .any e && (e.on == i || B.contains e.on))
    | none => false)
/-- What is asked of an operation that is taken first. -/
def firstOk (ops : List Oper) (listed : Array Bool) (i : Nat) (oi : Oper) : Bool :=
  blkOk ops listed i (blk ops listed i) && (List.range ops.length).all fun j => j == i || listed.getD j true || (match ops[j]? with
    | some oj => (blk ops listed i).contains j || (oi.apart ops.toArray oj && !mapUp oj.op && (!loads oi.op || !acts oj.op || makes oj.op))
    | none => true)
/-- Each operation of B waits for i or for another one of B. -/
def Waits (ops : List Oper) (listed : Array Bool) (i : Nat) (B : List Nat) : Prop :=
  ∀ j ∈ B, listed.getD j true = false ∧ ∃ oj, ops[j]? = some oj ∧ ∃ e ∈ oj.after, Region.binds .any e = true ∧ (e.on = i ∨ e.on ∈ B)
theorem blkOk_spec {ops : List Oper} {listed : Array Bool} {i : Nat} {B : List Nat} (h : blkOk ops listed i B = true) : Waits ops listed i B := by
  intro j hj
  have h1 := List.all_eq_true.1 h j hj
  simp only [Bool.and_eq_true, Bool.not_eq_true'] at h1
  refine ⟨h1.1, ?_⟩
  have h2 := h1.2
  split at h2
  · rename_i oj hoj
    obtain ⟨e, he, hb⟩ := Array.any_eq_true'.1 h2
    simp only [Bool.and_eq_true, Bool.or_eq_true, beq_iff_eq] at hb
    exact ⟨oj, hoj, e, he, hb.1, hb.2.imp id (fun h => by simpa using h)⟩
  · cases h2

/-- The objects that a region makes. -/
def mkeys (ops : List Oper) : List Nat := ops.filterMap fun o => if makes o.op then o.dst else none
/-- No two operations of a region make an object under one name. -/
def mkOk (ops : List Oper) : Bool := (List.range ops.length).all fun j => (List.range ops.length).all fun k => j == k || (match ops[j]?, ops[k]? with
  | some oj, some ok => !makes oj.op || !makes ok.op || oj.dst != ok.dst
  | _, _ => true)
theorem mkOk_spec {ops : List Oper} (h : mkOk ops = true) {j k : Nat} {oj ok : Oper} (hj : ops[j]? = some oj) (hk : ops[k]? = some ok) (hm : makes oj.op = true) (hm' : makes ok.op = true) (hd : oj.dst = ok.dst) : j = k := by
  have h1 := List.all_eq_true.1 (List.all_eq_true.1 h j (List.mem_range.2 (List.getElem?_eq_some_iff.1 hj).1)) k (List.mem_range.2 (List.getElem?_eq_some_iff.1 hk).1)
  simp only [hj, hk, hm, hm', hd, Bool.not_true, Bool.false_or, bne_self_eq_false, Bool.or_false, beq_iff_eq] at h1
  exact h1

theorem firstOk_spec {ops : List Oper} {listed : Array Bool} {i : Nat} {oi : Oper} (h : firstOk ops listed i oi = true) : ∃ B, Waits ops listed i B ∧ ∀ j oj, ops[j]? = some oj → j ≠ i → listed.getD j true = false → j ∉ B →
    oi.apart ops.toArray oj = true ∧ (loads oi.op = true → acts oj.op = true → makes oj.op = true) ∧ mapUp oj.op = false := by
  unfold firstOk at h
  rw [Bool.and_eq_true] at h
  refine ⟨blk ops listed i, blkOk_spec h.1, ?_⟩
  intro j oj hj hji hun hno
  have hlt : j < ops.length := (List.getElem?_eq_some_iff.1 hj).1
  have h1 := List.all_eq_true.1 h.2 j (List.mem_range.2 hlt)
  simp only [hj, hun, Bool.or_false, Bool.or_eq_true, beq_iff_eq, Bool.and_eq_true] at h1
  rcases h1 with h1 | h1 | h1
  · exact absurd h1 hji
  · exact absurd (by simpa using h1) hno
  · refine ⟨h1.1.1, fun hl ha => ?_, by simpa using h1.1.2⟩
    rcases h1.2 with (h2 | h2) | h2
    · simp [hl] at h2
    · simp [ha] at h2
    · exact h2

theorem any_first {ops : List Oper} {K : AS → Prop} (hK : ∀ S T, S.eqv T → K S → K T) {i : Nat} {oi : Oper} (hi : ops[i]? = some oi) (hq : acts oi.op = false) (hnd : mkOk ops = true) (B : List Nat) :
    ∀ (n : Nat) (listed : Array Bool) (S S1 : AS), Waits ops listed i B →
      (∀ j oj, ops[j]? = some oj → j ≠ i → listed.getD j true = false → j ∉ B → oi.apart ops.toArray oj = true ∧ (loads oi.op = true → acts oj.op = true → makes oj.op = true) ∧ mapUp oj.op = false) →
      (loads oi.op = true → ∀ j oj d, ops[j]? = some oj → listed.getD j true = false → makes oj.op = true → oj.dst = some d → get S.objs d = none) →
      i ∈ Region.ready .any ops.toArray listed → Step P w0 ops i oi S S1 →
      awAny P w0 ops K n (listed.setIfInBounds i true) S1 → awAny P w0 ops K (n + 1) listed S := by
  intro n
  induction n with
  | zero =>
    intro listed S S1 _ _ _ hr hs H
    refine ⟨fun h => (by rw [h] at hr; cases hr), fun j hj => ?_⟩
    by_cases hji : j = i
    · subst hji; exact ⟨oi, S1, hi, hs, H⟩
    · have := ready_mono hj hji
      rw [H.1] at this
      cases this
  | succ n ih =>
    intro listed S S1 hB hfree hfr hr hs H
    refine ⟨fun h => (by rw [h] at hr; cases hr), fun j hj => ?_⟩
    by_cases hji : j = i
    · subst hji; exact ⟨oi, S1, hi, hs, H⟩
    · obtain ⟨oj, T', hoj, hsj, hrest⟩ := H.2 j (ready_mono hj hji)
      obtain ⟨hjun, oj', hoj', hall⟩ := mem_ready.1 hj
      have : oj' = oj := by
        have h1 : ops[j]? = some oj' := by simpa using hoj'
        rw [hoj] at h1
        exact (Option.some.inj h1).symm
      subst this
      have hiun := (mem_ready.1 hr).1
      have hun1 : ∀ k, listed.getD k true = false → ∀ e ∈ oj'.after, Region.binds .any e = true → e.on ≠ k := fun k hk e he hb heq => by
        have h1 := hall e he hb
        rw [heq] at h1
        rcases Nat.lt_or_ge k listed.size with h' | h'
        · simp [h'] at hk h1; rw [hk] at h1; cases h1
        · simp [Array.getElem?_eq_none h'] at h1
      have hnot : j ∉ B := fun hjB => by
        obtain ⟨_, oq, hoq, e, he, hb, hon⟩ := hB j hjB
        have : oq = oj' := by rw [hoj] at hoq; exact (Option.some.inj hoq).symm
        subst this
        rcases hon with hon | hon
        · exact hun1 i hiun e he hb hon
        · exact hun1 e.on (hB e.on hon).1 e he hb rfl
      obtain ⟨hap, hload, hmuj⟩ := hfree j oj' hoj hji hjun hnot
      obtain ⟨a1, a2, a3⟩ := Oper.apart_spec hap
      obtain ⟨u, O, rfl, hO, _, hall1⟩ := step_spec hs (.inl (mapUp_acts hq))
      have hOn := hO hq
      subst hOn
      obtain ⟨u2, O2, rfl, hO2, hmk2, hall2⟩ := step_spec hsj (.inl hmuj)
      -- j before i
      have hjS : Step P w0 ops j oj' S (S.ap oj'.dst u2 O2) := by
        refine hall2 S ⟨fun t ht => ?_, rfl, rfl⟩ (fun _ d => rfl) (fun _ p r hp => by rw [← place_congr (S := S.ap oj'.dst u2 [] |>.ap none u2 []) (T := S) (fun d => rfl)]; rw [place_congr (S := S.ap oi.dst u []) (T := S.ap oj'.dst u2 [] |>.ap none u2 []) (fun d => rfl)] at hp; exact hp)
        cases hd : oi.dst with
        | none => rfl
        | some d =>
          simp only [AS.ap, get_cons]
          rw [if_neg (fun e => a1 d hd (by rw [e]; exact ht))]
      -- i behind j
      have hplace : loads oi.op = true → ∀ p r, S.place p = some r → (S.ap oj'.dst u2 O2).place p = some r := by
        intro hl p r hp
        cases hact : acts oj'.op with
        | false =>
          rw [hO2 hact]
          rw [← place_congr (S := S) (T := S.ap oj'.dst u2 []) (fun d => rfl)]
          exact hp
        | true =>
          have hm := hload hl hact
          have hk : ∀ d, get S.objs d ≠ none → get (S.ap oj'.dst u2 O2).objs d = get S.objs d := by
            intro d hd
            have hnotin : ∀ ob, (d, ob) ∉ O2 := fun ob hmem => by
              have := hmk2 hm d ob hmem
              exact hd (hfr hl j oj' d hoj hjun hm this)
            show get (O2 ++ S.objs) d = get S.objs d
            clear hmk2 hall2 hsj hrest hjS hO2
            induction O2 with
            | nil => rfl
            | cons q O2 ihq =>
              obtain ⟨k, ob⟩ := q
              simp only [List.cons_append, get_cons]
              rw [if_neg (fun e => hnotin ob (by rw [e]; simp))]
              exact ihq (fun ob' hmem => hnotin ob' (by simp [hmem]))
          cases p <;> simp only [AS.place] at hp ⊢ <;> try (first | exact hp | (cases hp; done))
          rename_i d v sz k off
          cases hg : get S.objs d with
          | none => rw [hg] at hp; cases hp
          | some ob =>
            rw [hk d (by rw [hg]; simp)]
            exact hp
      have hiT : Step P w0 ops i oi (S.ap oj'.dst u2 O2) ((S.ap oj'.dst u2 O2).ap oi.dst u []) := by
        refine hall1 _ ⟨fun t ht => ?_, rfl, rfl⟩ (fun h0 => by rw [hq] at h0; cases h0) hplace
        cases hd : oj'.dst with
        | none => rfl
        | some d =>
          simp only [AS.ap, get_cons]
          rw [if_neg (fun e => a3 d hd (by rw [e]; exact ht))]
      have heq : ((S.ap oi.dst u []).ap oj'.dst u2 O2).eqv ((S.ap oj'.dst u2 O2).ap oi.dst u []) := by
        refine ⟨fun t => ?_, fun d => rfl, rfl, rfl⟩
        cases hd1 : oi.dst with
        | none => rfl
        | some d1 =>
          cases hd2 : oj'.dst with
          | none => rfl
          | some d2 =>
            have hne : d2 ≠ d1 := fun e => a2 d1 hd1 (by rw [hd2, e])
            simp only [AS.ap, get_cons]
            by_cases h1 : d1 = t <;> by_cases h2 : d2 = t <;> simp [h1, h2]
            exact absurd (h2.trans h1.symm) hne
      refine ⟨oj', _, hoj, hjS, ih (listed.setIfInBounds j true) _ _ (fun k hk => by
        have hjk : j ≠ k := by rintro rfl; exact hnot hk
        exact ⟨by rw [getD_set_ne true hjk]; exact (hB k hk).1, (hB k hk).2⟩) (fun k ok hk hki hun hno => hfree k ok hk hki ?_ hno) (fun hl k ok d hk hun hm hd => ?_) (ready_mono hr (Ne.symm hji)) hiT ?_⟩
      · by_cases hjk : j = k
        · subst hjk; exact hjun
        · rw [getD_set_ne true hjk] at hun; exact hun
      · have hjk : j ≠ k := by
          rintro rfl
          have hjl : j < listed.size := by
            rcases Nat.lt_or_ge j listed.size with h | h
            · exact h
            · simp [Array.getElem?_eq_none h] at hjun
          simp [hjl] at hun
        have hun' : listed.getD k true = false := by rwa [getD_set_ne true hjk] at hun
        have h0 := hfr hl k ok d hk hun' hm hd
        show get (O2 ++ S.objs) d = none
        cases hact : acts oj'.op with
        | false => rw [hO2 hact]; exact h0
        | true =>
          have hmj := hload hl hact
          have hnotin : ∀ ob, (d, ob) ∉ O2 := fun ob hmem => by
            have hdj := hmk2 hmj d ob hmem
            exact hjk (mkOk_spec hnd hoj hk hmj hm (by rw [hdj, hd]))
          clear hmk2 hall2 hsj hrest hjS hO2 hplace hiT heq
          induction O2 with
          | nil => exact h0
          | cons q O2 ihq =>
            obtain ⟨k', ob⟩ := q
            simp only [List.cons_append, get_cons]
            rw [if_neg (fun e => hnotin ob (by rw [e]; simp))]
            exact ihq (fun ob' hmem => hnotin ob' (by simp [hmem]))
      · rw [Array.setIfInBounds_comm _ _ hji]
        exact any_eqv hK n _ _ _ heq hrest

/-- Where nothing else can come up, the step is taken. -/
theorem any_only {ops : List Oper} {K : AS → Prop} {n i : Nat} {o : Oper} {listed : Array Bool} {S S' : AS} (hi : ops[i]? = some o) (hr : Region.ready .any ops.toArray listed = [i]) (hs : Step P w0 ops i o S S') (h : awAny P w0 ops K n (listed.setIfInBounds i true) S') : awAny P w0 ops K (n + 1) listed S := by
  refine ⟨fun h0 => (by rw [hr] at h0; cases h0), fun j hj => ?_⟩
  rw [hr] at hj
  have : j = i := by simpa using hj
  subst this
  exact ⟨o, S', hi, hs, h⟩

/-- Whether operation i may be taken now; ks names the objects that are still to be made. -/
def mayTake (ops : List Oper) (listed : Array Bool) (i : Nat) (ks : List Nat) : Bool :=
  match ops[i]? with
  | some o => (!acts o.op && (Region.ready .any ops.toArray listed).contains i && firstOk ops listed i o && (!loads o.op || (List.range ops.length).all fun j => listed.getD j true || (match ops[j]? with
      | some oj => !makes oj.op || (match oj.dst with | some d => ks.contains d | none => true)
      | none => true))) || (Region.ready .any ops.toArray listed == [i])
  | none => false

/-- The order l is a way to run a region. -/
def goodOrder (ops : List Oper) : Array Bool → List (Nat × List Nat) → Bool
  | listed, [] => (Region.ready .any ops.toArray listed).isEmpty
  | listed, (i, ks) :: l => mayTake ops listed i ks && goodOrder ops (listed.setIfInBounds i true) l

/-- A region's operations in the order l, from state S on. -/
def AWO (P : Program) (w0 : World) (ops : List Oper) (Q : Exit → AS → Prop) : List (Nat × List Nat) → AS → Prop
  | [], S => ∃ S', ({ S with nx := S.nx + ops.length } : AS).le S' ∧ Q .normal S'
  | (i, ks) :: l, S => ∃ o S', ops[i]? = some o ∧ (ks.all fun d => (get S.objs d).isNone) = true ∧ Step P w0 ops i o S S' ∧ AWO P w0 ops Q l S'

theorem awo_any {ops : List Oper} (hk : mkOk ops = true) : ∀ (l : List (Nat × List Nat)) (listed : Array Bool) (S : AS), goodOrder ops listed l = true → AWO P w0 ops Q l S →
    awAny P w0 ops (fun S => ∃ S', ({ S with nx := S.nx + ops.length } : AS).le S' ∧ Q .normal S') l.length listed S
  | [], listed, S, hg, h => ⟨by simpa [goodOrder] using hg, h⟩
  | (i, ks) :: l, listed, S, hg, h => by
    simp only [goodOrder, Bool.and_eq_true] at hg
    obtain ⟨o, S', ho, hks, hs, hrest⟩ := h
    have ih := awo_any hk l _ S' hg.2 hrest
    have hm := hg.1
    unfold mayTake at hm
    simp only [ho, Bool.or_eq_true, Bool.and_eq_true, beq_iff_eq] at hm
    rcases hm with ⟨⟨⟨h1, h2⟩, h3⟩, h4⟩ | hm
    · obtain ⟨B, hB, hfree⟩ := firstOk_spec h3
      refine any_first ?_ ho (by simpa using h1) hk B l.length listed S S' hB hfree (fun hl j oj d hj hun hmk hd => ?_) (by simpa using h2) hs ih
      · rintro S T he ⟨S2, h5, h6⟩
        have he' : ({ T with nx := T.nx + ops.length } : AS).eqv { S with nx := S.nx + ops.length } := ⟨fun t => (he.1 t).symm, fun d => (he.2.1 d).symm, by simp only; rw [he.2.2.1], he.2.2.2.symm⟩
        exact ⟨S2, AS.le_trans he'.le h5, h6⟩
      · rcases h4 with h4 | h4
        · simp [hl] at h4
        · have h5 := List.all_eq_true.1 h4 j (List.mem_range.2 (List.getElem?_eq_some_iff.1 hj).1)
          simp only [hun, hj, hmk, hd, Bool.not_true, Bool.false_or] at h5
          have h6 := List.all_eq_true.1 hks d (by simpa using h5)
          simpa using h6
    · exact any_only ho hm hs ih

/-- A region whose order is left open. -/
theorem aw_draw {id : Nat} {l : List Oper} {S : AS} (ord : List (Nat × List Nat)) (hm : P.follows .mixedOrders = true) (hg : (goodOrder l (Array.replicate l.length false) ord && (mkOk l && ord.length == l.length)) = true) (h : AWO P w0 l Q ord S) : AW P w0 N0 (.region id l.toArray true) Q S := by
  simp only [Bool.and_eq_true, beq_iff_eq] at hg
  obtain ⟨hg, hk, hl⟩ := hg
  rintro a w ⟨μ, hr⟩
  refine wp_region_any hm ?_
  have hsz : l.toArray.size = l.length := by simp
  rw [hsz]
  have haw := awo_any hk ord _ S hg h
  rw [hl] at haw
  refine any_sound (K := fun S => ∃ S', ({ S with nx := S.nx + l.length } : AS).le S' ∧ Q .normal S') ?_ l.length _ S a _ (by simp) ⟨μ, ?_⟩ haw
  · rintro S a w ⟨S', h1, h2⟩ ⟨μ, hr⟩
    refine ⟨S', h2, h1 _ _ _ _ ⟨μ, ⟨hr.defers, hr.size, hr.below, hr.n0, fun d v hv => ?_, hr.objs, hr.inj, hr.env⟩⟩⟩
    rcases hr.fresh d v hv with h3 | ⟨j, hj, e⟩
    · exact .inl (by simp only; omega)
    · exact .inl (by simp only; omega)
  · have := hr.drew
    exact this.more (fun j hj => hj.elim)

/-- All operations of such a region, none of them a call. -/
def runO (P : Program) (ops : List Oper) : List (Nat × List Nat) → AS → Option AS
  | [], S => some S
  | (i, ks) :: l, S => match nth ops i with
    | some o => if (ks.all fun d => (get S.objs d).isNone) = true then (match astep P ops i o S with
      | some S' => runO P ops l S'
      | none => none) else none
    | none => none

theorem awo_run {ops : List Oper} : ∀ {l : List (Nat × List Nat)} {S S1 S' : AS}, runO P ops l S = some S1 → ({ S1 with nx := S1.nx + ops.length } : AS).le S' → Q .normal S' → AWO P w0 ops Q l S
  | [], S, S1, S', hs, hle, h => by
    simp only [runO, Option.some.injEq] at hs
    subst hs
    exact ⟨S', hle, h⟩
  | (i, ks) :: l, S, S1, S', hs, hle, h => by
    simp only [runO] at hs
    split at hs
    case h_2 => cases hs
    rename_i o ho
    split at hs
    case isFalse => cases hs
    rename_i hks
    split at hs
    case h_2 => cases hs
    rename_i S2 h2
    rw [nth_eq] at ho
    exact ⟨o, S2, ho, hks, .inl h2, awo_run hs hle h⟩
end
end Go.Eng
