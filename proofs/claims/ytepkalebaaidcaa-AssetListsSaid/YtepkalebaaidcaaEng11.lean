/- The rules by which a function's body is proved to meet a contract over pure values. No condition. -/
import Derived.Test.YtepkalebaaidcaaEng10
namespace Go.Eng
open Go.RowKit

/-- The contract: called on values that read as args, f returns a value that reads as some r of R; nothing that was there changes. -/
def AC (P : Program) (f : FuncId) (args : List V) (R : V → Prop) : Prop :=
  ∀ (w : World) (N : Nat → Prop) (xs : List Value), (∀ b, N b → b < w.heap.size) → xs.length = args.length → (∀ (i : Nat) x v, xs[i]? = some x → args[i]? = some v → Pur w N x v) →
    Calls P f xs.toArray w (fun e w' => ∃ x r, e = .returned x ∧ R r ∧ Pur w' N x r ∧ Below w.heap.size w w')

theorem AC.mono {P : Program} {f : FuncId} {args : List V} {R R' : V → Prop} (h : AC P f args R) (hr : ∀ r, R r → R' r) : AC P f args R' :=
  fun w N xs h1 h2 h3 => (h w N xs h1 h2 h3).mono fun _ _ ⟨x, r, he, hR, hp, hb⟩ => ⟨x, r, he, hr r hR, hp, hb⟩

def post (w0 : World) (N0 : Nat → Prop) (Q : Exit → AS → Prop) (e : Exit) (a : Act) (w : World) : Prop := ∃ S, Q e S ∧ Rel w0 N0 S a w

def AW (P : Program) (w0 : World) (N0 : Nat → Prop) (c : Code) (Q : Exit → AS → Prop) (S : AS) : Prop := ∀ a w, Rel w0 N0 S a w → c.wp P (post w0 N0 Q) a w

/-- A region's operations from number i on, in the order of the text. -/
def AWL (P : Program) (w0 : World) (N0 : Nat → Prop) (ops : List Oper) (Q : Exit → AS → Prop) (i : Nat) (l : List Oper) (S : AS) : Prop :=
  ∀ D a w, (∀ j, D j → j < i) → RelD D w0 N0 S a w → wpList P ops.toArray (post w0 N0 Q) l a w

section
variable {P : Program} {w0 : World} {N0 : Nat → Prop} {Q : Exit → AS → Prop} {S : AS}

theorem AW.mono {c : Code} {Q' : Exit → AS → Prop} (h : AW P w0 N0 c Q S) (hq : ∀ e S, Q e S → Q' e S) : AW P w0 N0 c Q' S :=
  fun a w hr => wp_mono (h a w hr) fun _ _ _ ⟨S', hQ, hR⟩ => ⟨S', hq _ _ hQ, hR⟩

theorem aw_le {c : Code} {S' : AS} (hle : S.le S') (h : AW P w0 N0 c Q S') : AW P w0 N0 c Q S := fun a w hr => h a w (hle _ _ _ _ hr)

@[reducible] def ethen (K : AS → Prop) (Q : Exit → AS → Prop) : Exit → AS → Prop
  | .normal, S => K S
  | e, S => Q e S
@[reducible] def einBlock (id : Nat) (Q : Exit → AS → Prop) : Exit → AS → Prop
  | .exit id', S => if id' = id then Q .normal S else Q (.exit id') S
  | e, S => Q e S

theorem aw_skip (h : Q .normal S) : AW P w0 N0 .skip Q S := fun _ _ hr => wp_skip ⟨S, h, hr⟩
theorem aw_label {l : Nat} (h : Q .normal S) : AW P w0 N0 (.label l) Q S := fun _ _ hr => wp_label ⟨S, h, hr⟩
theorem aw_exit {id : Nat} (h : Q (.exit id) S) : AW P w0 N0 (.exit id) Q S := fun _ _ hr => wp_exit ⟨S, h, hr⟩
theorem aw_ret (h : Q .ret S) : AW P w0 N0 .ret Q S := fun _ _ hr => wp_ret ⟨S, h, hr⟩
theorem aw_seq {x y : Code} (h : AW P w0 N0 x (ethen (AW P w0 N0 y Q) Q) S) : AW P w0 N0 (.seq x y) Q S := by
  intro a w hr
  refine wp_seq (wp_mono (h a w hr) ?_)
  rintro e a' w' ⟨S', hQ, hR⟩
  cases e with
  | normal => exact hQ a' w' hR
  | _ => exact ⟨S', hQ, hR⟩
theorem aw_block {id : Nat} {c : Code} (h : AW P w0 N0 c (einBlock id Q) S) : AW P w0 N0 (.block id c) Q S := by
  intro a w hr
  refine wp_block (wp_mono (h a w hr) ?_)
  rintro e a' w' ⟨S', hQ, hR⟩
  cases e with
  | exit id' =>
    simp only [einBlock] at hQ
    simp only [Exit.inBlock]
    split
    · rename_i he; rw [if_pos he] at hQ; exact ⟨S', hQ, hR⟩
    · rename_i he; rw [if_neg he] at hQ; exact ⟨S', hQ, hR⟩
  | _ => exact ⟨S', hQ, hR⟩
theorem aw_cond {c : Operand} {x y : Code} {t : Bool} (hc : S.evc true c = some (.bool t)) (ht : t = true → AW P w0 N0 x Q S) (hf : t = false → AW P w0 N0 y Q S) : AW P w0 N0 (.cond c x y) Q S := by
  intro a w hr
  obtain ⟨μ, hm⟩ := hr
  have hx := hm.evc hc rfl
  have he : a.eval c = .bool t := by
    generalize a.eval c = v at hx
    cases hx with
    | pur hx => cases hx with
      | bool => rfl
  exact wp_cond_split he (fun h => ht h a w ⟨μ, hm⟩) (fun h => hf h a w ⟨μ, hm⟩)
theorem aw_loop {α : Type} {c : Code} (st : α → AS) (Inv : α → Prop) (m : α → Nat) (x0 : α) (h0 : Inv x0) (hS : S.le (st x0))
    (round : ∀ x, Inv x → AW P w0 N0 c (ethen (fun S' => ∃ x', Inv x' ∧ m x' < m x ∧ S'.le (st x')) Q) (st x)) : AW P w0 N0 (.loop c) Q S := by
  intro a w hr
  -- the invariant names the ghost by its measure
  have key : ∀ n x, m x = n → Inv x → ∀ a w, Rel w0 N0 (st x) a w → (Code.loop c).wp P (post w0 N0 Q) a w := by
    intro n x hn hx a w hr b k cs
    have main : ∀ n x, m x = n → Inv x → ∀ a w, Rel w0 N0 (st x) a w → ∃ e a' w', post w0 N0 Q e a' w' ∧ Arrives P (lone (b.at a (.code c :: .inLoop c :: k)) cs w) b k cs e a' w' := by
      intro n
      induction n using Nat.strongRecOn with
      | _ n ih =>
        intro x hn hx a w hr
        obtain ⟨e, a1, w1, ⟨S', hQ, hR⟩, harr⟩ := round x hx a w hr b (.inLoop c :: k) cs
        cases e with
        | normal =>
          obtain ⟨x', hx', hlt, hle⟩ := hQ
          obtain ⟨e2, a2, w2, hq2, harr2⟩ := ih (m x') (hn ▸ hlt) x' rfl hx' a1 w1 (hle _ _ _ _ hR)
          exact ⟨e2, a2, w2, hq2, .of_steps (Steps.trans harr (.one step_inLoop)) harr2⟩
        | exit id => exact ⟨_, a1, w1, ⟨S', hQ, hR⟩, .pass (x := .inLoop c) rfl (fun _ _ => .inl (by simp)) harr⟩
        | goto l => exact ⟨_, a1, w1, ⟨S', hQ, hR⟩, .pass (x := .inLoop c) rfl (fun _ _ => .inl (by simp)) harr⟩
        | ret => exact ⟨_, a1, w1, ⟨S', hQ, hR⟩, .pass (x := .inLoop c) rfl (fun _ _ => .inl (by simp)) harr⟩
        | panic ch => exact ⟨_, a1, w1, ⟨S', hQ, hR⟩, .pass (x := .inLoop c) rfl (fun _ _ => .inl (by simp)) harr⟩
        | outgrown => exact ⟨_, a1, w1, ⟨S', hQ, hR⟩, .pass (x := .inLoop c) rfl (fun _ _ => .inl (by simp)) harr⟩
    obtain ⟨e, a', w', hq, harr⟩ := main n x hn hx a w hr
    exact ⟨e, a', w', hq, .of_steps (.one step_loop) harr⟩
  exact key _ x0 rfl h0 a w (hS _ _ _ _ hr)

/-- The guard of an operation: whether it runs. -/
def AS.gd (S : AS) (ops : List Oper) (j : Nat) (want : Bool) : Option Bool :=
  match ops[j]? with
  | some o => match o.dst with
    | some d => match get S.env d with
      | some (.bool g) => some (g == want)
      | some (.whn b (.bool g)) => some (b && (g == want))
      | _ => none
    | none => none
  | none => none

/-- An operation that may be passed over where its guard is false: no load through a pointer. -/
def AS.fb (S : AS) (c : Bool) : Op → Bool
  | .load _ x => match S.evc c x with
    | some (.bp ..) => false
    | some (.rp _) => false
    | _ => true
  | _ => true

def astep (P : Program) (ops : List Oper) (i : Nat) (o : Oper) (S : AS) : Option AS :=
  match o.guard with
  | none => match aval P S true o.op with
    | some v => S.putv o.dst v
    | none => aeff P i S o.dst o.op
  | some (j, want) => match S.gd ops j want with
    | some c => match aval P S c o.op with
      | some v => S.putv o.dst (.whn c v)
      | none => if c = false ∧ S.fb c o.op = true then S.putv o.dst (.whn false (.bool true)) else none
    | none => none

theorem gd_spec {D : Nat → Prop} {μ : Mu} {a : Act} {w : World} (h : RelM D w0 N0 μ S a w) {ops : List Oper} {o : Oper} {j : Nat} {want c : Bool} (hg : o.guard = some (j, want)) (hc : S.gd ops j want = some c) :
    Region.wanted o (yielded ops.toArray a.tmps) = c := by
  unfold AS.gd at hc
  split at hc
  case h_2 => cases hc
  rename_i oj hoj
  split at hc
  case h_2 => cases hc
  rename_i d hd
  have hy : ∀ (x : Value) (t : Bool), a.tmps.getD d undef = x → d < S.nt → (yielded ops.toArray a.tmps j = match x with | .bool b => some b | _ => none) := by
    intro x t hx hd'
    have hsz : d < a.tmps.size := by rw [h.size]; exact hd'
    unfold yielded
    simp only [List.getElem?_toArray, hoj, Option.bind_some, hd, Array.getElem?_eq_getElem hsz]
    rw [Array.getD_eq_getD_getElem?, Array.getElem?_eq_getElem hsz] at hx
    simp only [Option.getD_some] at hx
    rw [hx]
    split <;> simp_all
  unfold Region.wanted
  rw [hg]
  simp only
  split at hc
  · rename_i g hget
    injection hc with hc
    obtain ⟨hd', hen⟩ := h.env d _ hget
    generalize hxx : a.tmps.getD d undef = x at hen
    have h1 := hy x true hxx hd'
    cases hen with
    | pur hen =>
    cases hen with
    | bool =>
    rw [h1, ← hc]
    cases g <;> cases want <;> rfl
  · rename_i b g hget
    injection hc with hc
    obtain ⟨hd', hen⟩ := h.env d _ hget
    generalize hxx : a.tmps.getD d undef = x at hen
    have h1 := hy x true hxx hd'
    cases hen with
    | pur hen => cases hen
    | whn _ _ _ hh hu =>
    cases b with
    | false =>
      rw [h1, hu rfl, ← hc]
      cases want <;> rfl
    | true =>
      have hb := hh rfl
      cases hb with
      | pur hb =>
      cases hb with
      | bool =>
      rw [h1, ← hc]
      cases g <;> cases want <;> rfl
  · cases hc

theorem awl_nil {ops : List Oper} {i : Nat} (h : Q .normal { S with nx := S.nx + i }) : AWL P w0 N0 ops Q i [] S := by
  rintro D a w hD ⟨μ, hr⟩
  refine wpList_nil ⟨_, h, μ, ⟨hr.defers, hr.size, hr.below, hr.n0, fun d v hv => ?_, hr.objs, hr.inj, hr.env⟩⟩
  rcases hr.fresh d v hv with h1 | ⟨j, hj, e⟩
  · exact .inl (by simp only; omega)
  · have := hD j hj
    exact .inl (by simp only; omega)

theorem awl_step {ops : List Oper} {i : Nat} {o : Oper} {rest : List Oper} {S' : AS} (hs : astep P ops i o S = some S') (h : AWL P w0 N0 ops Q (i + 1) rest S') : AWL P w0 N0 ops Q i (o :: rest) S := by
  rintro D a w hD ⟨μ, hr⟩
  have hi : ¬ D i := fun hd => absurd (hD i hd) (by omega)
  have hD' : ∀ j, (D j ∨ j = i) → j < i + 1 := fun j hj => by
    rcases hj with hj | hj
    · have := hD j hj; omega
    · omega
  have hD1 : ∀ j, D j → j < i + 1 := fun j hj => hD' j (.inl hj)
  refine wpList_step fun K hK => ?_
  unfold astep at hs
  split at hs
  · rename_i hg
    have hw : Region.wanted o (yielded ops.toArray a.tmps) = true := by simp [Region.wanted, hg]
    rw [if_pos hw]
    split at hs
    · rename_i v hv
      obtain ⟨x, hx, hex⟩ := aval_run hr rfl hv
      unfold Oper.wp
      rw [hx]
      exact hK _ _ (h D _ w hD1 ⟨μ, hr.putv hs hex⟩)
    · obtain ⟨x, w', hdo, hrel⟩ := aeff_run hr hi hs
      unfold Oper.wp
      rcases hdo with hx | ⟨hx, rfl⟩
      · rw [hx]; exact hK _ _ (h _ _ w' hD' hrel)
      · rw [hx]; exact hK _ _ (h _ _ w' hD' hrel)
  · rename_i j want hg
    split at hs
    case h_2 => cases hs
    rename_i c hc
    have hwc := gd_spec hr hg hc
    rw [hwc]
    split at hs
    · rename_i v hv
      cases c with
      | true =>
        rw [if_pos rfl]
        obtain ⟨x, hx, hex⟩ := aval_run hr rfl hv
        unfold Oper.wp
        rw [hx]
        exact hK _ _ (h D _ w hD1 ⟨μ, hr.putv hs (.whn _ _ _ (fun _ => hex) (fun hf => (by cases hf)))⟩)
      | false =>
        rw [if_neg (by simp)]
        exact hK _ _ (h D _ w hD1 ⟨μ, hr.putv hs (.whn _ _ _ (fun hf => (by cases hf)) (fun _ => rfl))⟩)
    · split at hs
      case isFalse => cases hs
      rename_i hcf
      obtain ⟨rfl, _⟩ := hcf
      rw [if_neg (by simp)]
      exact hK _ _ (h D _ w hD1 ⟨μ, hr.putv hs (.whn _ _ _ (fun hf => (by cases hf)) (fun _ => rfl))⟩)

/-- All operations of a region that holds no call. -/
def runOps (P : Program) (ops : List Oper) : Nat → List Oper → AS → Option AS
  | _, [], S => some S
  | i, o :: rest, S => match astep P ops i o S with
    | some S' => runOps P ops (i + 1) rest S'
    | none => none

theorem awl_run {ops : List Oper} : ∀ {l : List Oper} {i : Nat} {S S' : AS}, runOps P ops i l S = some S' → Q .normal { S' with nx := S'.nx + (i + l.length) } → AWL P w0 N0 ops Q i l S
  | [], i, S, S', hs, h => by
    simp only [runOps, Option.some.injEq] at hs
    subst hs
    exact awl_nil h
  | o :: rest, i, S, S', hs, h => by
    simp only [runOps] at hs
    split at hs
    case h_2 => cases hs
    rename_i S1 h1
    refine awl_step h1 (awl_run hs ?_)
    rw [show i + 1 + rest.length = i + (o :: rest).length by simp; omega]
    exact h

theorem aw_region {id : Nat} {l : List Oper} (h : AWL P w0 N0 l Q 0 l S) : AW P w0 N0 (.region id l.toArray false) Q S :=
  fun a w hr => wp_region_lit (h (fun _ => False) a w (fun _ hj => hj.elim) hr)

/-- A region without a call: run, then keep what is wanted. -/
theorem aw_run {id : Nat} {l : List Oper} {S' : AS} (hs : runOps P l 0 l S = some S') (h : Q .normal { S' with nx := S'.nx + l.length }) : AW P w0 N0 (.region id l.toArray false) Q S :=
  aw_region (awl_run hs (by rw [Nat.zero_add]; exact h))

end
end Go.Eng
