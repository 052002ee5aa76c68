import Derived.Test.YtliogkkhofhfcaaGreatDoorE9
import Derived.Laws.CopyOwn
/- Regions whose order is left open, of which one operation waits for all others: it comes last. No condition. -/
set_option linter.unusedSimpArgs false
namespace Go.Eng
open Go.RowKit

/-- Each operation waits for earlier ones alone; each but the last is waited for; guards look at earlier ones. -/
def lastOk (l : List Oper) (o : Oper) : Bool :=
  ((List.range (l.length + 1)).all fun j => match (l ++ [o])[j]? with
    | some q => q.after.toList.all fun e => !Region.binds .any e || Nat.blt e.on j
    | none => true) &&
  ((List.range l.length).all fun i => (List.range (l.length + 1)).any fun j => match (l ++ [o])[j]? with
    | some q => q.after.toList.any fun e => Region.binds .any e && e.on == i
    | none => false) &&
  (l.all fun q => match q.guard with
    | some (g, _) => Nat.blt g l.length
    | none => true)
structure LastOk (l : List Oper) (o : Oper) : Prop where
  fwd : ∀ (j : Nat) (q : Oper), (l ++ [o])[j]? = some q → ∀ e ∈ q.after, Region.binds .any e = true → e.on < j
  waited : ∀ i, i < l.length → ∃ (j : Nat) (q : Oper), (l ++ [o])[j]? = some q ∧ ∃ e ∈ q.after, Region.binds .any e = true ∧ e.on = i
  guards : ∀ (q : Oper), q ∈ l → ∀ (g : Nat) (want : Bool), q.guard = some (g, want) → g < l.length
theorem lastOk_spec {l : List Oper} {o : Oper} (h : lastOk l o = true) : LastOk l o := by
  simp only [lastOk, Bool.and_eq_true] at h
  obtain ⟨⟨h1, h2⟩, h3⟩ := h
  refine ⟨fun j q hj e he hb => ?_, fun i hi => ?_, fun q hq g want hg => ?_⟩
  · have hlt : j < (l ++ [o]).length := (List.getElem?_eq_some_iff.1 hj).1
    have := List.all_eq_true.1 h1 j (List.mem_range.2 (by simpa using hlt))
    simp only [hj] at this
    have := List.all_eq_true.1 this e (by simpa using he)
    simpa [hb] using this
  · have := List.all_eq_true.1 h2 i (List.mem_range.2 hi)
    obtain ⟨j, _, hj⟩ := List.any_eq_true.1 this
    split at hj
    · rename_i q hq
      obtain ⟨e, he, hb⟩ := List.any_eq_true.1 hj
      simp only [Bool.and_eq_true, beq_iff_eq] at hb
      exact ⟨j, q, hq, e, by simpa using he, hb.1, hb.2⟩
    · cases hj
  · have := List.all_eq_true.1 h3 q hq
    simpa [hg] using this

section
variable {P : Program} {kb : Nat} {w0 : Bs} {N0 : Nat → Prop} {Q : Exit → AS → Prop}

/-- What is listed waits for nothing that is not. -/
def Closed (l : List Oper) (listed : Array Bool) : Prop := ∀ j, listed.getD j false = true → ∀ q, l[j]? = some q → ∀ e ∈ q.after, Region.binds .any e = true → listed.getD e.on false = true
theorem getD_push {listed : Array Bool} {d : Bool} {i : Nat} (h : i < listed.size) (b : Bool) : (listed.push b).getD i d = listed.getD i d := by
  simp [Array.getElem?_push, Nat.ne_of_lt h]
theorem ready_down {l : List Oper} {o : Oper} {listed : Array Bool} (ok : LastOk l o) (hs : listed.size = l.length) {i : Nat} (hi : i < l.length) : i ∈ Region.ready .any (l ++ [o]).toArray (listed.push false) ↔ i ∈ Region.ready .any l.toArray listed := by
  rw [mem_ready, mem_ready]
  rw [getD_push (by omega)]
  have e : (l ++ [o]).toArray[i]? = l.toArray[i]? := by simp [List.getElem?_append_left hi]
  rw [e]
  refine and_congr_right fun _ => ?_
  constructor
  · rintro ⟨q, hq, h⟩
    refine ⟨q, hq, fun e he hb => ?_⟩
    have hlt := ok.fwd i q (by rw [List.getElem?_append_left hi]; simpa using hq) e he hb
    have := h e he hb
    rwa [getD_push (by omega)] at this
  · rintro ⟨q, hq, h⟩
    refine ⟨q, hq, fun e he hb => ?_⟩
    have hlt := ok.fwd i q (by rw [List.getElem?_append_left hi]; simpa using hq) e he hb
    rw [getD_push (by omega)]
    exact h e he hb
/-- Where nothing is ready all is listed. -/
theorem all_listed {l : List Oper} {o : Oper} {listed : Array Bool} (ok : LastOk l o) (hs : listed.size = l.length) (h : Region.ready .any l.toArray listed = []) : ∀ i, i < l.length → listed.getD i false = true := by
  intro i
  induction i using Nat.strongRecOn with
  | _ i ih =>
    intro hi
    cases hb : listed.getD i false with
    | true => rfl
    | false =>
      exfalso
      have : i ∈ Region.ready .any l.toArray listed := by
        rw [mem_ready]
        refine ⟨?_, l[i], by simp [hi], fun e he hbd => ?_⟩
        · simp only [Array.getD_eq_getD_getElem?] at hb ⊢
          rw [Array.getElem?_eq_getElem (by omega)] at hb ⊢
          exact hb
        · have hlt := ok.fwd i l[i] (by rw [List.getElem?_append_left hi]; simp [hi]) e he hbd
          exact ih e.on hlt (by omega)
      rw [h] at this
      cases this
/-- The last one is ready only when all others are listed. -/
theorem last_ready {l : List Oper} {o : Oper} {listed : Array Bool} (ok : LastOk l o) (hs : listed.size = l.length) (hc : Closed l listed) (h : l.length ∈ Region.ready .any (l ++ [o]).toArray (listed.push false)) : ∀ i, i < l.length → listed.getD i false = true := by
  rw [mem_ready] at h
  obtain ⟨_, q, hq, hall⟩ := h
  have hqo : q = o := by simp at hq; exact hq.symm
  subst hqo
  have key : ∀ k i, l.length - i = k → i < l.length → listed.getD i false = true := by
    intro k
    induction k using Nat.strongRecOn with
    | _ k ih =>
      intro i hk hi
      obtain ⟨j, q', hj, e, he, hb, hon⟩ := ok.waited i hi
      have hij := ok.fwd j q' hj e he hb
      by_cases hjl : j < l.length
      · have := ih (l.length - j) (by omega) j rfl hjl
        have h2 := hc j this q' (by rw [List.getElem?_append_left hjl] at hj; exact hj) e he hb
        rw [hon] at h2
        exact h2
      · have hjj : j < (l ++ [q]).length := (List.getElem?_eq_some_iff.1 hj).1
        have hje : j = l.length := by simp at hjj; omega
        subst hje
        have : q' = q := by simp at hj; exact hj.symm
        subst this
        have := hall e he hb
        rw [hon, getD_push (by omega)] at this
        exact this
  exact fun i hi => key _ i rfl hi

theorem letsOut_mono {Q1 Q2 : Exit → Act → World → Prop} (hQ : ∀ e a w, e ≠ Exit.normal → Q1 e a w → Q2 e a w) (h : LetsOut Q1) : LetsOut Q2 := by
  obtain ⟨a, w, h⟩ := h
  exact ⟨a, w, hQ _ _ _ (by simp) h⟩
theorem wp_mono2 {o : Oper} {a : Act} {w : World} {K K' : Act → World → Prop} {Q1 Q2 : Exit → Act → World → Prop} (h : ∀ a w, K a w → K' a w) (hQ : ∀ e a w, e ≠ Exit.normal → Q1 e a w → Q2 e a w)
    (hh : o.wp P a w K Q1) : o.wp P a w K' Q2 := by
  unfold Oper.wp at *
  generalize (execOp a.eval o).run P w = r at *
  cases r with
  | ok n w' =>
    cases n <;> simp only [Oper.upon] at hh ⊢ <;>
      first
        | exact h _ _ hh
        | exact Calls.mono hh (fun e w'' he => by cases e <;> first | exact h _ _ he | exact hQ _ _ _ (by simp) he | exact letsOut_mono hQ he)
        | exact Rows.mono hh (fun _ _ he => h _ _ he)
  | halt x w' => cases x <;> simp only [Oper.upon] at hh ⊢ <;> first | exact hh | exact hQ _ _ _ (by simp) hh | exact letsOut_mono hQ hh
theorem push_set {listed : Array Bool} {i : Nat} (h : i < listed.size) : (listed.push false).setIfInBounds i true = (listed.setIfInBounds i true).push false := by
  apply Array.ext_getElem?
  intro j
  by_cases hij : i = j
  · subst hij
    rw [Array.getElem?_setIfInBounds_self_of_lt (by simp; omega), Array.getElem?_push_lt (by simpa using h), Array.getElem_setIfInBounds_self]
  · rw [Array.getElem?_setIfInBounds_ne hij]
    by_cases hj : j = listed.size
    · subst hj
      rw [Array.getElem?_push, if_pos rfl, Array.getElem?_push, if_pos (by simp)]
    · rw [Array.getElem?_push, if_neg hj, Array.getElem?_push, if_neg (by simpa using hj), Array.getElem?_setIfInBounds_ne hij]
theorem yielded_down {l : List Oper} {o : Oper} {tmps : Array Value} {g : Nat} (h : g < l.length) : yielded (l ++ [o]).toArray tmps g = yielded l.toArray tmps g := by
  unfold yielded
  have : (l ++ [o]).toArray[g]? = l.toArray[g]? := by simp [List.getElem?_append_left h]
  rw [this]
theorem wanted_down {l : List Oper} {o q : Oper} {tmps : Array Value} (ok : LastOk l o) (hq : q ∈ l) : Region.wanted q (yielded (l ++ [o]).toArray tmps) = Region.wanted q (yielded l.toArray tmps) := by
  unfold Region.wanted
  cases hg : q.guard with
  | none => rfl
  | some p =>
    obtain ⟨g, want⟩ := p
    simp only
    rw [yielded_down (ok.guards q hq g want hg)]
/-- The region of the others, then the last one. -/
def QM (P : Program) (w0 : Bs) (N0 : Nat → Prop) (l : List Oper) (o : Oper) (Q : Exit → AS → Prop) : Exit → AS → Prop
  | .normal, S => AWL P w0 N0 (l ++ [o]) Q l.length [o] S
  | e, S => Q e S
theorem wpAny_last {l : List Oper} {o : Oper} (ok : LastOk l o) : ∀ (n : Nat) (listed : Array Bool) (a : Act) (w : World), listed.size = l.length → Closed l listed →
    wpAny P .any l.toArray (post w0 N0 (QM P w0 N0 l o Q)) n listed a w → wpAny P .any (l ++ [o]).toArray (post w0 N0 Q) (n + 1) (listed.push false) a w := by
  have hpost : ∀ e a w, e ≠ Exit.normal → post w0 N0 (QM P w0 N0 l o Q) e a w → post w0 N0 Q e a w := by
    rintro e a w hne ⟨S, hS, hr⟩
    refine ⟨S, ?_, hr⟩
    cases e <;> first | exact absurd rfl hne | exact hS
  -- the last step
  have last : ∀ (n : Nat) (listed : Array Bool) (a : Act) (w : World), listed.size = l.length → (∀ i, i < l.length → listed.getD i false = true) → post w0 N0 (QM P w0 N0 l o Q) .normal a w →
      wpAny P .any (l ++ [o]).toArray (post w0 N0 Q) (n + 1) (listed.push false) a w := by
    intro n listed a w hs hall hp
    obtain ⟨S, hS, hr⟩ := hp
    have hstep := hS (fun _ => False) a w (fun j hj => hj.elim) hr
    have hrdy : ∀ i, i ∈ Region.ready .any (l ++ [o]).toArray (listed.push false) → i = l.length := by
      intro i hi
      rw [mem_ready] at hi
      obtain ⟨h1, q, hq, _⟩ := hi
      have hlt : i < (l ++ [o]).toArray.size := (Array.getElem?_eq_some_iff.1 hq).1
      by_cases hil : i < l.length
      · exfalso
        have h2 := hall i hil
        rw [getD_push (by omega)] at h1
        simp only [Array.getD_eq_getD_getElem?] at h1 h2
        rw [Array.getElem?_eq_getElem (by omega)] at h1 h2
        simp only [Option.getD_some] at h1 h2
        rw [h1] at h2
        cases h2
      · simp at hlt; omega
    have hm : l.length ∈ Region.ready .any (l ++ [o]).toArray (listed.push false) := by
      rw [mem_ready]
      refine ⟨?_, o, by simp, fun e he hb => ?_⟩
      · rw [← hs]; simp
      · have hlt := ok.fwd l.length o (by simp) e he hb
        rw [getD_push (by omega)]
        exact hall e.on hlt
    have hnone : Region.ready .any (l ++ [o]).toArray ((listed.push false).setIfInBounds l.length true) = [] := by
      rw [List.eq_nil_iff_forall_not_mem]
      intro i hi
      rw [mem_ready] at hi
      obtain ⟨h1, q, hq, _⟩ := hi
      have hlt : i < (l ++ [o]).toArray.size := (Array.getElem?_eq_some_iff.1 hq).1
      by_cases hil : l.length = i
      · subst hil
        rw [← hs] at h1
        simp at h1
      · rw [getD_set_ne true hil] at h1
        have hil' : i < l.length := by simp at hlt; omega
        rw [getD_push (by omega)] at h1
        have h2 := hall i hil'
        simp only [Array.getD_eq_getD_getElem?] at h1 h2
        rw [Array.getElem?_eq_getElem (by omega)] at h1 h2
        simp only [Option.getD_some] at h1 h2
        rw [h1] at h2
        cases h2
    refine ⟨fun h0 => (by rw [h0] at hm; cases hm), fun i hi => ?_⟩
    have := hrdy i hi
    subst this
    have hk : ∀ a w, post w0 N0 Q .normal a w → wpAny P .any (l ++ [o]).toArray (post w0 N0 Q) n ((listed.push false).setIfInBounds l.length true) a w := by
      intro a w hp
      cases n with
      | zero => exact ⟨hnone, hp⟩
      | succ n => exact ⟨fun _ => hp, fun i hi => by rw [hnone] at hi; cases hi⟩
    unfold wpOp
    have ho : (l ++ [o]).toArray[l.length]? = some o := by simp
    simp only [ho]
    unfold wpList at hstep
    split at hstep
    · rename_i hw
      rw [if_pos hw]
      exact hstep.imp (fun h => Oper.wp_mono (fun a w h => hk a w h) h) id
    · rename_i hw
      rw [if_neg hw]
      exact hk _ _ hstep
  intro n
  induction n with
  | zero =>
    intro listed a w hs hc H
    exact last 0 listed a w hs (all_listed ok hs H.1) H.2
  | succ n ih =>
    intro listed a w hs hc H
    by_cases h0 : Region.ready .any l.toArray listed = []
    · exact last (n + 1) listed a w hs (all_listed ok hs h0) (H.1 h0)
    · refine ⟨fun h1 => ?_, fun i hi => ?_⟩
      · exfalso
        obtain ⟨i, hi⟩ := List.exists_mem_of_ne_nil _ h0
        have hil : i < l.length := by
          obtain ⟨_, q, hq, _⟩ := mem_ready.1 hi
          have := (Array.getElem?_eq_some_iff.1 hq).1
          simpa using this
        have := (ready_down ok hs hil).2 hi
        rw [h1] at this
        cases this
      · by_cases hil : i < l.length
        · have hi' := (ready_down ok hs hil).1 hi
          have hst := H.2 i hi'
          have e : (l ++ [o]).toArray[i]? = l.toArray[i]? := by simp [List.getElem?_append_left hil]
          have hq : l.toArray[i]? = some l[i] := by simp [hil]
          unfold wpOp at hst ⊢
          rw [e]
          simp only [hq] at hst ⊢
          rw [wanted_down ok (List.getElem_mem hil)]
          have hclosed : Closed l (listed.setIfInBounds i true) := by
            intro j hj q hjq e' he hb
            by_cases hij : i = j
            · subst hij
              obtain ⟨_, q', hq', hall⟩ := mem_ready.1 hi'
              have hqq : q' = q := by
                have h1 : l[i]? = some q' := by simpa using hq'
                rw [h1] at hjq
                exact Option.some.inj hjq
              subst hqq
              exact getD_set_true (hall e' he hb)
            · rw [getD_set_ne false hij] at hj
              exact getD_set_true (hc j hj q hjq e' he hb)
          have hnext : ∀ a w, wpAny P .any l.toArray (post w0 N0 (QM P w0 N0 l o Q)) n (listed.setIfInBounds i true) a w → wpAny P .any (l ++ [o]).toArray (post w0 N0 Q) (n + 1) ((listed.push false).setIfInBounds i true) a w := by
            intro a w h
            have := ih (listed.setIfInBounds i true) a w (by simpa using hs) hclosed h
            rwa [← push_set (by omega)] at this
          split at hst
          · rename_i hw
            rw [if_pos hw]
            rcases hst with hst | ⟨h1, h2⟩
            · exact .inl (wp_mono2 hnext hpost hst)
            · exact .inr ⟨h1, letsOut_mono hpost h2⟩
          · rename_i hw
            rw [if_neg hw]
            exact hnext _ _ hst
        · exfalso
          have him : i = l.length := by
            obtain ⟨_, q, hq, _⟩ := mem_ready.1 hi
            have := (Array.getElem?_eq_some_iff.1 hq).1
            simp at this
            omega
          subst him
          have hall := last_ready ok hs hc hi
          apply h0
          rw [List.eq_nil_iff_forall_not_mem]
          intro i hi2
          obtain ⟨h1, q, hq, _⟩ := mem_ready.1 hi2
          have hil2 : i < l.length := by
            have := (Array.getElem?_eq_some_iff.1 hq).1
            simpa using this
          have h2 := hall i hil2
          simp only [Array.getD_eq_getD_getElem?] at h1 h2
          rw [Array.getElem?_eq_getElem (by omega)] at h1 h2
          simp only [Option.getD_some] at h1 h2
          rw [h1] at h2
          cases h2

/-- A region whose order is left open and whose last operation waits for all others: the others in whatever order, then the last one. -/
theorem awk_drawLast {id : Nat} {l : List Oper} {o : Oper} {S : AS} (kb : Nat) (X : List Nat) (hm : P.follows .mixedOrders = true) (hok : lastOk l o = true)
    (h : ∀ N0 : Nat → Prop, AT P kb w0 X l (QM P w0 N0 l o Q) [] S) : AW P w0 N0 (.region id (l ++ [o]).toArray true) Q S := by
  rintro a w ⟨μ, hr⟩
  refine wp_region_any hm ?_
  have ok := lastOk_spec hok
  have hsz : (l ++ [o]).toArray.size = l.length + 1 := by simp
  have hrep : Array.replicate (l.length + 1) false = (Array.replicate l.length false).push false := by
    apply Array.ext <;> simp [Array.getElem_push]
  rw [hsz, hrep]
  refine wpAny_last ok l.length _ a _ (by simp) (fun j hj => ?_) ?_
  · simp only [Array.getD_eq_getD_getElem?] at hj
    rcases Nat.lt_or_ge j l.length with h | h
    · simp [h] at hj
    · rw [Array.getElem?_eq_none (by simpa using h)] at hj; simp at hj
  refine xany_sound (K := fun S => ∃ S', ({ S with nx := S.nx + l.length } : AS).le S' ∧ QM P w0 N0 l o Q .normal S') ?_ l.length _ S a _ (by simp) ⟨μ, ?_⟩ (h N0)
  · rintro S a w ⟨S', h1, h2⟩ ⟨μ, hr⟩
    refine ⟨S', h2, h1 _ _ _ _ ⟨μ, ⟨hr.defers, hr.size, hr.below, hr.n0, fun d v hv => ?_, hr.objs, hr.inj, hr.env⟩⟩⟩
    rcases hr.fresh d v hv with h3 | ⟨j, hj, e⟩
    · exact .inl (by simp only; omega)
    · exact .inl (by simp only; omega)
  · have := hr.drew
    exact this.more (fun j hj => hj.elim)
/-- The same for a literal list: its last one is taken off. -/
theorem aw_drawLast {id : Nat} {l : List Oper} {S : AS} (m : Nat) {o : Oper} (X : List Nat) (hm : P.follows .mixedOrders = true) (hl : l = l.take m ++ [o]) (hok : lastOk (l.take m) o = true)
    (h : ∀ N0 : Nat → Prop, AT P 0 w0 X (l.take m) (QM P w0 N0 (l.take m) o Q) [] S) : AW P w0 N0 (.region id l.toArray true) Q S := by
  rw [hl]; exact awk_drawLast 0 X hm hok h
theorem awk_drawLastL {id : Nat} {l : List Oper} {S : AS} (kb m : Nat) {o : Oper} (X : List Nat) (hm : P.follows .mixedOrders = true) (hl : l = l.take m ++ [o]) (hok : lastOk (l.take m) o = true)
    (h : ∀ N0 : Nat → Prop, AT P kb w0 X (l.take m) (QM P w0 N0 (l.take m) o Q) [] S) : AW P w0 N0 (.region id l.toArray true) Q S := by
  rw [hl]; exact awk_drawLast kb X hm hok h
/-- A call on pure values in a region whose order is left open. -/
theorem sx_call1 {X : List Nat} {ops : List Oper} {i : Nat} {o : Oper} {S S' : AS} {c : Bool} {f : Operand} {fid : FuncId} {fn : Func} {args : Array Operand} {ats : Array TypeId} {vs : List V} {res : V}
    (hc : c = true → AC P fid vs (fun r => r = res)) (hfn : P.funcs[fid]? = some fn) (hb : fn.body.isSome = true) (hn : (fn.name == "runtime.NumGoroutine") = false)
    (hg : S.gv ops o = some c) (ho : o.op = .call { callee := .value f, args := args, argTypes := ats }) (hf : S.evc c f = some (.fn fid)) (ha : S.args c args.toList = some vs) (hp : vs.all V.pureV = true) (hs : S.putv o.dst (wrapG o c res) = some S') : StepX P kb w0 X ops i o S S' :=
  .inl (.inr (.inl ⟨c, f, args, ats, fid, fn, vs, res, hg, ho, hf, hfn, hb, hn, ha, hp, fun h => (hc h).b, hs⟩))
theorem ACQ.b {G : Gp} (hG : Gon G w0) {f : FuncId} {args : List V} {R : V → Prop} (h : ACQ G P f args R) : ACB w0 P f args R := fun w N xs hb h1 h2 h3 => h w N xs (hG.at hb) h1 h2 h3
/-- The same for contracts that rely on package variables. -/
theorem sx_callQ1 {G : Gp} {X : List Nat} {ops : List Oper} {i : Nat} {o : Oper} {S S' : AS} {c : Bool} {f : Operand} {fid : FuncId} {fn : Func} {args : Array Operand} {ats : Array TypeId} {vs : List V} {res : V}
    (hG : Gon G w0) (hc : c = true → ACQ G P fid vs (fun r => r = res)) (hfn : P.funcs[fid]? = some fn) (hb : fn.body.isSome = true) (hn : (fn.name == "runtime.NumGoroutine") = false)
    (hg : S.gv ops o = some c) (ho : o.op = .call { callee := .value f, args := args, argTypes := ats }) (hf : S.evc c f = some (.fn fid)) (ha : S.args c args.toList = some vs) (hp : vs.all V.pureV = true) (hs : S.putv o.dst (wrapG o c res) = some S') : StepX P kb w0 X ops i o S S' :=
  .inl (.inr (.inl ⟨c, f, args, ats, fid, fn, vs, res, hg, ho, hf, hfn, hb, hn, ha, hp, fun h => (hc h).b hG, hs⟩))
theorem awo_callQ {G : Gp} {ops : List Oper} {i : Nat} {ks : List Nat} {l : List (Nat × List Nat)} {o : Oper} {c : Bool} {f : Operand} {fid : FuncId} {fn : Func} {args : Array Operand} {ats : Array TypeId} {vs : List V} {res : V} {S S' : AS}
    (hG : Gon G w0) (hc : c = true → ACQ G P fid vs (fun r => r = res)) (hfn : P.funcs[fid]? = some fn) (hb : fn.body.isSome = true) (hn : (fn.name == "runtime.NumGoroutine") = false) (hi : nth ops i = some o) (hks : (ks.all fun d => (get S.objs (0 + d)).isNone) = true)
    (hg : S.gv ops o = some c) (ho : o.op = .call { callee := .value f, args := args, argTypes := ats }) (hf : S.evc c f = some (.fn fid)) (ha : S.args c args.toList = some vs) (hp : vs.all V.pureV = true) (hs : S.putv o.dst (wrapG o c res) = some S') (h : AWO P 0 w0 ops Q l S') : AWO P 0 w0 ops Q ((i, ks) :: l) S := by
  rw [nth_eq] at hi
  exact ⟨o, S', hi, hks, .inr (.inl ⟨c, f, args, ats, fid, fn, vs, res, hg, ho, hf, hfn, hb, hn, ha, hp, fun h => (hc h).b hG, hs⟩), h⟩
theorem awl_gcallQ {G : Gp} {ops : List Oper} {i : Nat} {o : Oper} {rest : List Oper} {c : Bool} {f : Operand} {fid : FuncId} {fn : Func} {args : Array Operand} {ats : Array TypeId} {vs : List V} {res : V} {S S' : AS}
    (hG : Gon G w0) (hc : c = true → ACQ G P fid vs (fun r => r = res)) (hfn : P.funcs[fid]? = some fn) (hb : fn.body.isSome = true) (hn : (fn.name == "runtime.NumGoroutine") = false)
    (hg : S.gv ops o = some c) (ho : o.op = .call { callee := .value f, args := args, argTypes := ats }) (hf : S.evc c f = some (.fn fid)) (ha : S.args c args.toList = some vs) (hp : vs.all V.pureV = true) (hs : S.putv o.dst (wrapG o c res) = some S') (h : AWL P w0 N0 ops Q (i + 1) rest S') : AWL P w0 N0 ops Q i (o :: rest) S :=
  awl_st (kb := 0) (.inr (.inl ⟨c, f, args, ats, fid, fn, vs, res, hg, ho, hf, hfn, hb, hn, ha, hp, fun h => (hc h).b hG, hs⟩)) h
end
end Go.Eng

/- Calls of bound methods that rely on package variables; where a function with objects ends. No condition. -/
set_option linter.unusedSimpArgs false
namespace Go.Eng
open Go.RowKit
section
variable {P : Program} {kb : Nat} {w0 : Bs} {N0 : Nat → Prop} {Q : Exit → AS → Prop} {S S' : AS} {G : Gp}

/-- A call of a bound method: first arguments ahead of the others. -/
theorem awl_callCQ {ops : List Oper} {i : Nat} {o : Oper} {rest : List Oper} {f : Operand} {fid : FuncId} {fn : Func} {args : Array Operand} {ats : Array TypeId} {us vs : List V} {ins : List (Nat × Ob)} {R : V → List (Nat × Ob) → Prop}
    (hG : Gon G w0) (hc : ACSQ G P fid (us ++ vs) ins R) (hfn : P.funcs[fid]? = some fn) (hb : fn.body.isSome = true) (hn : (fn.name == "runtime.NumGoroutine") = false)
    (hg : S.gv ops o = some true) (ho : o.op = .call { callee := .value f, args := args, argTypes := ats }) (hf : S.evc true f = some (.clo fid us []))
    (ha : S.args true args.toList = some vs) (hins : ∀ k q, get ins k = some q → get S.objs k = some q)
    (h : ∀ r outs nx, R r outs → S.nx + i + 1 ≤ nx → (∀ k, get outs k = none → get ins k = none) ∧ ∃ S', ({ S with objs := outs ++ S.objs, nx := nx } : AS).putv o.dst (wrapG o true r) = some S' ∧ AWL P w0 N0 ops Q (i + 1) rest S') : AWL P w0 N0 ops Q i (o :: rest) S := by
  rintro D a w hD ⟨μ, hr⟩
  refine wpList_step fun K hK => ?_
  rw [wanted_of hr hg, if_pos rfl]
  have hfresh := hr.fresh_lt hD
  obtain ⟨h1, h2⟩ := args_spec hr rfl ha
  obtain ⟨ys, hy1, hy2, hy3⟩ := clo_eval hr hf
  have hhand := hr.hand (nx := S.nx + i + 1) hfresh (vs := us ++ vs) (xs := ys ++ args.toList.map a.eval) (ins := ins) (by simp [h1, hy2]) hins (fun j x v hx hv => by
    by_cases hj : j < ys.length
    · rw [List.getElem?_append_left hj] at hx
      rw [List.getElem?_append_left (by rw [← hy2]; exact hj)] at hv
      exact hy3 j x v hx hv
    · rw [List.getElem?_append_right (by omega)] at hx
      rw [List.getElem?_append_right (by omega), ← hy2] at hv
      simp only [List.getElem?_map, Option.map_eq_some_iff] at hx
      obtain ⟨y, hy, rfl⟩ := hx
      exact h2 _ y v hy hv)
  have hcall := hc ⟨w, OwnB μ ins, μ, []⟩ _ μ (S.nx + i + 1) (ys ++ args.toList.map a.eval) (hG.hand hr hins) (by simp [h1, hy2]) rfl hhand
  refine call_runC ho hy1 hfn hb hn hcall ?_ ?_ ?_
  · rintro x w' ⟨x', r, outs, nx', μ', he, hR, hnx, hrel⟩
    injection he with he
    subst he
    obtain ⟨hcov, S', hs, hrest⟩ := h r outs nx' hR hnx
    obtain ⟨hb1, hb2⟩ := hr.back hins hcov hrel
    refine hK _ _ (hrest (fun _ => False) _ w' (fun j hj => hj.elim) ⟨μ', hb1.putv hs ?_⟩)
    unfold wrapG
    split
    · exact hb2
    · exact .whn _ _ _ (fun _ => hb2) (fun hf => by cases hf)
  · rintro ch w' ⟨x', r, outs, nx', μ', he, _⟩
    cases he
  · rintro w' ⟨x', r, outs, nx', μ', he, _⟩
    cases he
/-- Where a function ends whose answer is said by a predicate. -/
theorem endsSR {fn : Func} {nx : Nat} {r0 : V} {outs0 : List (Nat × Ob)} {R : V → List (Nat × Ob) → Prop} {E : List PanicEntry → Prop} (hnx : nx ≤ S.nx) (hr : aresT P S fn.results.toList = some r0) (hR : R r0 outs0) (ho : ∀ k o, get outs0 k = some o → get S.objs k = some o) :
    EndsS P fn R E nx .ret S := ⟨hnx, r0, outs0, hr, ho, hR⟩
theorem has_one {d k : Nat} {x x' : Ob} (h : Eng.get [(d, x)] k = none) : Eng.get [(d, x')] k = none := by
  simp only [Eng.get] at h ⊢
  split at h
  · cases h
  · rename_i h1; rw [if_neg h1]
end
end Go.Eng

/- The row's step of a law that relies on package variables, and where what comes in is small. No condition. -/
set_option linter.unusedSimpArgs false
namespace Go.Eng
open Go.RowKit Go.ChangeShapes Go.WideShapes Go.ChangeAt

/-- All texts and lists are of so many at most. -/
inductive SmlV (n : Nat) : V → Prop
  | str {l : List UInt8} (h : l.length ≤ n) : SmlV n (.str l)
  | ro {sz : Nat} {es : List V} (h : es.length ≤ n) (k : ∀ e ∈ es, SmlV n e) : SmlV n (.ro sz es)
  | agg {cs : List V} (k : ∀ c ∈ cs, SmlV n c) : SmlV n (.agg cs)
  | bool (b : Bool) : SmlV n (.bool b)
  | int (k : IntKind) (i : Int) : SmlV n (.int k i)
  | nils : SmlV n .nils
theorem sml_mkV {n : Nat} {b : Option Bool} {cs : List V} (h : ∀ c ∈ cs, SmlV n c) : SmlV n (mkV b cs) := by
  unfold mkV
  split
  · exact .agg h
  · cases cs with
    | nil => exact .nils
    | cons c r => exact h c (by simp)
/-- A size of what is read. -/
structure BulkOk {H : Type} (B : DataW H → Nat) : Prop where
  str : ∀ b : List UInt8, b.length ≤ B (.lit (.string b))
  slice : ∀ elems spare : List (DataW H), elems.length ≤ B (.slice elems spare) ∧ ∀ e ∈ elems, B e ≤ B (.slice elems spare)
  agg : ∀ parts : List (DataW H), ∀ e ∈ parts, B e ≤ B (.agg parts)

section
variable {H : Type} {enc : TypeId × Value → H} {P : Program} {w : World} {base : Nat} {spare : Nat → Bool} {held : Bool}

theorem trod_pursB {L : List TypeId} {B : DataW H → Nat} {N : Nat} (hB : BulkOk B) (hL : okL P L = true) : ∀ {fuel : Nat} {t : TypeId} {cs : List Value} {x : DataW H × List MemPlace}, t ∈ L → DataW.trod enc P w base spare held fuel t cs = some x → B x.1 ≤ N →
    ∃ vs, Purs w (fun _ => False) cs vs ∧ (∀ v ∈ vs, v.isCell = true) ∧ Rd P fuel t vs ∧ cs.length = P.cellsOf t ∧ ∀ v ∈ vs, SmlV N v
  | 0, _, _, _, _, h, _ => by simp [DataW.trod] at h
  | fuel + 1, t, cs, x, ht, h, hx => by
    have ho := List.all_eq_true.1 hL t ht
    unfold okT1 at ho
    unfold DataW.trod at h
    unfold Rd
    generalize hu : P.underlying t = u at ho h ⊢
    split at ho
    · -- bool
      clear hx
      simp only [beq_iff_eq] at ho
      split at h <;> simp_all
      rename_i b
      exact ⟨[.bool b], Purs.one (.bool _), by simp [V.isCell], by cases b <;> simp, fun v hv => by rw [List.mem_singleton.1 hv]; exact .bool _⟩
    · clear hx
      simp only [beq_iff_eq] at ho
      split at h <;> simp_all
      exact ⟨[.int _ _], Purs.one (.int _ _), by simp [V.isCell], ⟨_, rfl, h.1.2⟩, fun v hv => by rw [List.mem_singleton.1 hv]; exact .int _ _⟩
    · have hN : ∀ l : List UInt8, x.1 = .lit (.string l) → l.length ≤ N := fun l e => Nat.le_trans (hB.str l) (e ▸ hx)
      clear hx
      simp only [beq_iff_eq] at ho
      split at h
      all_goals try (cases h; done)
      all_goals try (rename_i he; cases he; done)
      rename_i s _
      simp only [Option.ite_none_right_eq_some, Option.some.injEq] at h
      have hl := hN s.data.toList (by rw [← h.2])
      refine ⟨[.str s.data.toList], Purs.one ?_, by simp [V.isCell], ⟨_, rfl, by simpa using h.1⟩, by simp [ho], fun v hv => by rw [List.mem_singleton.1 hv]; exact .str hl⟩
      have := Pur.str (w := w) (N := fun _ => False) s.data.toList
      simpa using this
    · rename_i e
      simp only [Bool.and_eq_true, beq_iff_eq, decide_eq_true_eq] at ho
      obtain ⟨⟨ho1, ho2⟩, ho3⟩ := ho
      split at h
      all_goals try (exfalso; first | (rename_i he; cases he; done) | (rename_i he _; cases he; done) | (rename_i he _ _; cases he; done) | (cases h; done))
      · refine ⟨[.ro (P.cellsOf e) []], Purs.one (.ro none ⟨0, 0, none⟩ 0 0 _ [] (fun _ _ => undef) rfl (Nat.le_refl _) (Nat.zero_le _) (fun h0 => by omega) (by simp) (by simp) (by simp)), by simp [V.isCell], ⟨[], rfl, by simp, by simp⟩, by simp [ho1], fun v hv => by rw [List.mem_singleton.1 hv]; exact .ro (by simp) (by simp)⟩
      · rename_i e' a len cap heq
        cases heq
        simp only at h
        split at h
        case isFalse => cases h
        rename_i hb
        simp only [Option.bind_eq_some_iff] at h
        obtain ⟨elems, he, hrest⟩ := h
        simp only [Option.map_eq_some_iff] at hrest
        obtain ⟨rest, _, rfl⟩ := hrest
        simp only at hx
        have hsl := hB.slice (elems.map (·.1)) (rest.map (·.1))
        have hxl : elems.length ≤ N := by have := hsl.1; simp at this; omega
        have hlen : elems.length = len := by simpa using mapM_some_length he
        have hel : ∀ i, i < len → ∃ vs : List V, ∃ ci : List Value, w.cells? base (a.add (i * P.cellsOf e)) (P.cellsOf e) = some ci ∧ Purs w (fun _ => False) ci vs ∧ (∀ v ∈ vs, v.isCell = true) ∧ Rd P fuel e vs ∧ ci.length = P.cellsOf e ∧ ∀ v ∈ vs, SmlV N v := by
          intro i hi
          have h1 := mapM_some_get he i i (by simp [hi])
          have hin : elems[i]'(by omega) ∈ elems := List.getElem_mem _
          rw [List.getElem?_eq_getElem (by omega)] at h1
          simp only [Option.bind_eq_some_iff] at h1
          obtain ⟨ci, h2, h3⟩ := h1
          obtain ⟨vs, h4, h5, h6, h7, h8⟩ := trod_pursB hB hL (by simpa using ho3) h3 (Nat.le_trans (hsl.2 _ (List.mem_map.2 ⟨_, hin, rfl⟩)) hx)
          exact ⟨vs, ci, h2, h4, h5, h6, h7, h8⟩
        obtain ⟨es, hes, hp⟩ := list_of hel
        have hcells : ∀ (k : Nat) us, es[k]? = some us → (mkV (tagg P e) us).cells = us ∧ (mkV (tagg P e) us).fits (P.cellsOf e) := by
          intro k us hk
          obtain ⟨ci, h1, h2, h3, h4, h5, h6'⟩ := hp k us hk
          have hc : (mkV (tagg P e) us).cells = us := by
            unfold mkV
            split
            · rfl
            · rename_i hna
              have h1' : us.length = 1 := by
                rw [← h2.1, h5]
                have ho4 := List.all_eq_true.1 hL e (by simpa using ho3)
                unfold okT1 at ho4
                unfold tagg at hna
                generalize P.underlying e = ue at ho4 hna
                split at ho4
                · simpa using ho4
                · simpa using ho4
                · simpa using ho4
                · simp only [Bool.and_eq_true, beq_iff_eq] at ho4; exact ho4.1.1
                · simp at hna
                · cases ho4
              match us, h1', h3 with
              | [c], _, h3 => simpa using V.cells_one (h3 c (by simp))
          exact ⟨hc, by rw [hc, ← h2.1, h5], by rw [hc]; exact h3⟩
        refine ⟨[.ro (P.cellsOf e) (es.map (mkV (tagg P e)))], Purs.one (.ro (some a) a len cap _ _ (fun k j => (w.cell? (a.add (k * P.cellsOf e + j))).getD undef) (by simp [hes]) hb.2.1 hb.2.2 (fun h0 => ⟨rfl, ?_, id⟩) ?_ ?_ ?_), by simp [V.isCell], ⟨es, rfl, by omega, ?_⟩, by simp [ho1], ?_⟩
        · obtain ⟨vs, ci, h1, _, _, _, h5, _⟩ := hel 0 h0
          obtain ⟨_, h6, h7⟩ := World.cells?_some h1
          have := h7 0 ho2
          rw [List.getElem?_eq_getElem (by omega)] at this
          have := World.block_lt_of_cell? _ _ this
          rwa [add_block, add_block] at this
        · intro v hv
          simp only [List.mem_map] at hv
          obtain ⟨us, hus, rfl⟩ := hv
          obtain ⟨k, hk⟩ := List.getElem?_of_mem hus
          exact (hcells k us hk).2
        all_goals
          try
            intro k v j c hk hj
            simp only [List.getElem?_map, Option.map_eq_some_iff] at hk
            obtain ⟨us, hk, rfl⟩ := hk
            rw [(hcells k us hk).1] at hj
            obtain ⟨ci, h1, h2, h3, h4, h5, h6'⟩ := hp k us hk
            obtain ⟨_, h6, h7⟩ := World.cells?_some h1
            have hjl : j < us.length := (List.getElem?_eq_some_iff.1 hj).1
            have hji : j < ci.length := by rw [h2.1]; exact hjl
            have h8 := h7 j (by omega)
            rw [add_add', List.getElem?_eq_getElem hji] at h8
        · rw [h8]; rfl
        · rw [h8]; exact h2.2 j _ c (List.getElem?_eq_getElem hji) hj
        · intro us hus
          obtain ⟨k, hk⟩ := List.getElem?_of_mem hus
          exact (hp k us hk).choose_spec.2.2.2.1
        · intro v hv
          rw [List.mem_singleton.1 hv]
          refine .ro (by simp; omega) (fun v hv => ?_)
          obtain ⟨us, hus, rfl⟩ := List.mem_map.1 hv
          obtain ⟨k, hk⟩ := List.getElem?_of_mem hus
          obtain ⟨ci, _, _, _, _, _, h6'⟩ := hp k us hk
          unfold mkV
          split
          · exact .agg h6'
          · cases us with
            | nil => exact .nils
            | cons c r => exact h6' c (by simp)
    · rename_i fs
      simp only [Bool.and_eq_true, List.all_eq_true] at ho
      obtain ⟨hlaid, hall⟩ := ho
      replace h : (if cs.length = P.cellsOf t then (fs.toList.mapM fun f => DataW.trod enc P w base spare held fuel f.type ((cs.drop f.offset).take (P.cellsOf f.type))).map fun xs => (DataW.agg (xs.map (·.1)), xs.flatMap (·.2)) else none) = some x := h
      split at h
      case isFalse => cases h
      rename_i hlen
      simp only [Option.map_eq_some_iff] at h
      obtain ⟨xs, hxs, hxe⟩ := h
      subst hxe
      simp only at hx
      have hag := hB.agg (xs.map (·.1))
      have hf : ∀ f ∈ fs.toList, ∃ vs, Purs w (fun _ => False) ((cs.drop f.offset).take (P.cellsOf f.type)) vs ∧ (∀ v ∈ vs, v.isCell = true) ∧ Rd P fuel f.type vs ∧ ((cs.drop f.offset).take (P.cellsOf f.type)).length = P.cellsOf f.type ∧ ∀ v ∈ vs, SmlV N v := by
        intro f hfm
        obtain ⟨i, hi⟩ := List.getElem?_of_mem hfm
        have h1 := mapM_some_get hxs i f hi
        have hl := mapM_some_length hxs
        have hil : i < xs.length := by rw [hl]; exact (List.getElem?_eq_some_iff.1 hi).1
        have hin : xs[i] ∈ xs := List.getElem_mem _
        rw [List.getElem?_eq_getElem hil] at h1
        exact trod_pursB hB hL (by simpa using hall f hfm) h1 (Nat.le_trans (hag _ (List.mem_map.2 ⟨_, hin, rfl⟩)) hx)
      have key : ∀ (l : List Field) (off : Nat), laidFs P l off (P.cellsOf t) = true → (∀ f ∈ l, ∃ vs, Purs w (fun _ => False) ((cs.drop f.offset).take (P.cellsOf f.type)) vs ∧ (∀ v ∈ vs, v.isCell = true) ∧ Rd P fuel f.type vs ∧ ((cs.drop f.offset).take (P.cellsOf f.type)).length = P.cellsOf f.type ∧ ∀ v ∈ vs, SmlV N v) →
          ∃ vs, Purs w (fun _ => False) (cs.drop off) vs ∧ (∀ v ∈ vs, v.isCell = true) ∧ RdF P (Rd P fuel) l vs ∧ ∀ v ∈ vs, SmlV N v := by
        intro l
        induction l with
        | nil =>
          intro off hl _
          simp only [laidFs, beq_iff_eq] at hl
          refine ⟨[], ⟨by simp; omega, by simp⟩, by simp, rfl, by simp⟩
        | cons f l ih =>
          intro off hl hh
          simp only [laidFs, Bool.and_eq_true, beq_iff_eq] at hl
          obtain ⟨ho, hl⟩ := hl
          subst ho
          obtain ⟨ws, h1, h2, h3, h9⟩ := ih _ hl (fun g hg => hh g (by simp [hg]))
          obtain ⟨us, g1, g2, g3, _, g9⟩ := hh f (by simp)
          refine ⟨us ++ ws, ?_, ?_, ⟨us, ws, rfl, g3, h3⟩, fun v hv => (List.mem_append.1 hv).elim (g9 v) (h9 v)⟩
          · have := g1.append h1
            rwa [← List.drop_drop, List.take_append_drop] at this
          · intro v hv
            rcases List.mem_append.1 hv with hv | hv
            · exact g2 v hv
            · exact h2 v hv
      obtain ⟨vs, h1, h2, h3, h9⟩ := key fs.toList 0 hlaid hf
      exact ⟨vs, by simpa using h1, h2, h3, hlen, h9⟩
    · cases ho

theorem arg_purB {L : List TypeId} {B : DataW H → Nat} {N : Nat} (hB : BulkOk B) (hL : okL P L = true) {r : Reach} {b0 : Nat} {t : TypeId} {v : Value} {d : DataW H} {ps : List MemPlace} (ht : t ∈ L) (hval : Value.okWide P w r b0 t v) (hd : DataW.Trod enc P w base spare held t v d ps) (hx : B d ≤ N) :
    ∃ u, Pur w (fun _ => False) v u ∧ RdW P t u ∧ SmlV N u := by
  obtain ⟨fuel, hf⟩ := hd
  obtain ⟨vs, h1, h2, h3, h4, h9⟩ := trod_pursB hB hL ht hf hx
  refine ⟨mkV (tagg P t) vs, ?_, ⟨fuel, vs, h3, rfl⟩, sml_mkV h9⟩
  have ho := List.all_eq_true.1 hL t ht
  unfold okT1 at ho
  generalize hu : P.underlying t = u at ho
  have one : v.cells = #[v] → tagg P t = some false → Pur w (fun _ => False) v (mkV (tagg P t) vs) := by
    intro hv hb
    have hl := h1.1
    rw [hv] at hl h1
    match vs, hl, h1 with
    | [c], _, h1 =>
      rw [hb]
      exact h1.2 0 v c rfl rfl
  split at ho
  · obtain ⟨b, rfl⟩ := okWide_bool hu hval
    exact one rfl (by simp [tagg, hu])
  · obtain ⟨b, rfl⟩ := okWide_int hu hval
    exact one rfl (by simp [tagg, hu])
  · obtain ⟨b, rfl⟩ := okWide_string hu hval
    exact one rfl (by simp [tagg, hu])
  · obtain ⟨a, l, c, rfl⟩ := okWide_slice hu hval
    exact one rfl (by simp [tagg, hu])
  · obtain ⟨cs, rfl, _⟩ := okWide_struct hu hval
    have : tagg P t = some true := by simp [tagg, hu]
    rw [this]
    have := Pur.agg cs.toList vs h1.1 h2 h1.2
    simpa [mkV] using this
  · cases ho

end

theorem args_purB {H : Type} {B : DataW H → Nat} {N : Nat} (hB : BulkOk B) {enc : TypeId × Value → H} {P : Program} {L : List TypeId} {W : World} {r : Reach} {b0 : Nat} {sp : Nat → Bool} {hd : Bool} (hL : okL P L = true) : ∀ {ts : List TypeId} {vs : List Value} {ds : List (DataW H)} {ps : List MemPlace}, (∀ t ∈ ts, t ∈ L) →
    (∀ (j : Nat) t v, ts[j]? = some t → vs[j]? = some v → Value.okWide P W r b0 t v) → DataW.TrodAll enc P W 0 sp hd ts vs ds ps → (∀ d ∈ ds, B d ≤ N) → ∃ us, RdAllW P ts us ∧ Purs W (fun _ => False) vs us ∧ ∀ u ∈ us, SmlV N u
  | [], vs, ds, ps, _, _, h, _ => by
    obtain ⟨rfl, rfl, rfl⟩ := trodAll_nil h
    exact ⟨[], rfl, ⟨rfl, by simp⟩, by simp⟩
  | t :: ts, vs, ds, ps, ho, hv, h, hb => by
    obtain ⟨v, vs', d, ds', p, q, rfl, rfl, rfl, h1, h2⟩ := trodAll_cons h
    obtain ⟨u, g1, g2, g5⟩ := arg_purB hB hL (ho t (by simp)) (hv 0 t v rfl rfl) h1 (hb d (by simp))
    obtain ⟨us, g3, g4, g6⟩ := args_purB hB hL (fun t ht => ho t (by simp [ht])) (fun j t' v' ht hv' => hv (j + 1) t' v' ht hv') h2 (fun d hd => hb d (by simp [hd]))
    exact ⟨u :: us, ⟨u, us, rfl, g2, g3⟩, (Purs.one g1).append g4, fun x hx => (List.mem_cons.1 hx).elim (fun e => e ▸ g5) (g6 x)⟩

/-- The row's step from a contract that relies on package variables. -/
theorem row_contractQ {G : Gp} {H : Type} {enc : TypeId × Value → H} {P : Program} {f : FuncId} {fn : Func} {s : ChangeSpec} {L : List TypeId} {tb : TypeId} {ts : List TypeId} (hts : fn.params.toList = ts) (hL : okL P L = true) (hok : (ts.all fun t => L.contains t && P.readableRec t && decide (t < P.types.size)) = true) (hlaid : laidOutB P = true) (hres : fn.resultTypes = #[tb]) (htb : P.underlying tb = some .bool)
    (hvars : s.vars = []) (hs : ∀ ds : List (DataW H), ds.length = ts.length → s.fn H ds = { results := [.lit (.bool true)], args := ds }) (hc : ∀ vs, RdAllW P ts vs → ACQ G P f vs (fun r => r = .bool true))
    {W : World} {base : Nat} {args : Array Value} {ds gs : List (DataW H)} {before : List MemPlace}
    (hG : G.P W) (hval : ∀ (j : Nat) t v, fn.params[j]? = some t → args[j]? = some v → Value.okWide P W .any base t v) (hW : DataW.Whole enc P fn.params.toList s.vars false W args.toList ds gs before) :
    Calls P f args W fun e W' => ∃ v, e = .returned v ∧ s.post enc P fn false true false false W args v W' := by
  have hW' := hW
  obtain ⟨p, q, hA, hV, rfl, hfz, hnd⟩ := hW
  rw [hvars] at hV
  obtain ⟨rfl, rfl⟩ := trodVars_none hV
  have hdl : ds.length = ts.length := by
    have : ∀ (ts : List TypeId) (vs : List Value) (ds : List (DataW H)) (ps : List MemPlace), DataW.TrodAll enc P W 0 (fun _ => true) true ts vs ds ps → ds.length = ts.length := by
      intro ts
      induction ts with
      | nil => intro vs ds ps h; obtain ⟨_, rfl, _⟩ := trodAll_nil h; rfl
      | cons t ts ih => intro vs ds ps h; obtain ⟨v, vs', d, ds', p, q, rfl, rfl, rfl, _, h2⟩ := trodAll_cons h; simp [ih _ _ _ h2]
    rw [← hts]; exact this _ _ _ _ hA
  have hall : ∀ t ∈ ts, t ∈ L ∧ P.readableRec t = true ∧ t < P.types.size := by
    intro t ht
    have := List.all_eq_true.1 hok t ht
    simp only [Bool.and_eq_true, decide_eq_true_eq] at this
    exact ⟨by simpa using this.1.1, this.1.2, this.2⟩
  obtain ⟨us, h1, h2⟩ := args_purL (L := L) hL (ts := ts) (fun t ht => (hall t ht).1) (fun j t v ht hv => hval j t v (by rw [← hts] at ht; simpa using ht) (by simpa using hv)) (hts ▸ hA)
  have hcall := hc us h1 W (fun _ => False) args.toList hG (fun _ hb => hb.elim) h2.1 h2.2
  rw [show args.toList.toArray = args by simp] at hcall
  refine hcall.mono ?_
  rintro e W1 ⟨x, r, rfl, rfl, hp, hb⟩
  obtain rfl : x = .bool true := by cases hp; rfl
  refine ⟨_, rfl, ds, [], p ++ [], [], p, [], hW', ?_, ?_, ?_, hb.frame _, fun h => by cases h⟩
  · rw [List.append_nil, hs ds hdl, hres]
    exact trodAll_mk1 (shut_bool htb true)
  · rw [List.append_nil, hs ds hdl]
    exact trodAll_below hlaid hb (fun t ht => (hall t (hts ▸ ht)).2) hA
  · rw [List.append_nil, hs ds hdl, hvars]
    exact rfl

/-- The same, where what comes in is small. -/
theorem row_contractQB {G : Gp} {H : Type} {enc : TypeId × Value → H} {P : Program} {f : FuncId} {fn : Func} {s : ChangeSpec} {L : List TypeId} {tb : TypeId} {ts : List TypeId} (hts : fn.params.toList = ts) (hL : okL P L = true) (hok : (ts.all fun t => L.contains t && P.readableRec t && decide (t < P.types.size)) = true) (hlaid : laidOutB P = true) (hres : fn.resultTypes = #[tb]) (htb : P.underlying tb = some .bool)
    (hvars : s.vars = []) (hs : ∀ ds : List (DataW H), ds.length = ts.length → s.fn H ds = { results := [.lit (.bool true)], args := ds }) (hc : ∀ vs, RdAllW P ts vs → (∀ v ∈ vs, SmlV 1048576 v) → ACQ G P f vs (fun r => r = .bool true))
    {W : World} {base : Nat} {args : Array Value} {ds gs : List (DataW H)} {before : List MemPlace}
    (hG : G.P W) {B : DataW H → Nat} (hB : BulkOk B) (hsm : ∀ d ∈ ds, B d ≤ 1048576) (hval : ∀ (j : Nat) t v, fn.params[j]? = some t → args[j]? = some v → Value.okWide P W .any base t v) (hW : DataW.Whole enc P fn.params.toList s.vars false W args.toList ds gs before) :
    Calls P f args W fun e W' => ∃ v, e = .returned v ∧ s.post enc P fn false true false false W args v W' := by
  have hW' := hW
  obtain ⟨p, q, hA, hV, rfl, hfz, hnd⟩ := hW
  rw [hvars] at hV
  obtain ⟨rfl, rfl⟩ := trodVars_none hV
  have hdl : ds.length = ts.length := by
    have : ∀ (ts : List TypeId) (vs : List Value) (ds : List (DataW H)) (ps : List MemPlace), DataW.TrodAll enc P W 0 (fun _ => true) true ts vs ds ps → ds.length = ts.length := by
      intro ts
      induction ts with
      | nil => intro vs ds ps h; obtain ⟨_, rfl, _⟩ := trodAll_nil h; rfl
      | cons t ts ih => intro vs ds ps h; obtain ⟨v, vs', d, ds', p, q, rfl, rfl, rfl, _, h2⟩ := trodAll_cons h; simp [ih _ _ _ h2]
    rw [← hts]; exact this _ _ _ _ hA
  have hall : ∀ t ∈ ts, t ∈ L ∧ P.readableRec t = true ∧ t < P.types.size := by
    intro t ht
    have := List.all_eq_true.1 hok t ht
    simp only [Bool.and_eq_true, decide_eq_true_eq] at this
    exact ⟨by simpa using this.1.1, this.1.2, this.2⟩
  obtain ⟨us, h1, h2, h9⟩ := args_purB hB (L := L) hL (ts := ts) (fun t ht => (hall t ht).1) (fun j t v ht hv => hval j t v (by rw [← hts] at ht; simpa using ht) (by simpa using hv)) (hts ▸ hA) hsm
  have hcall := hc us h1 h9 W (fun _ => False) args.toList hG (fun _ hb => hb.elim) h2.1 h2.2
  rw [show args.toList.toArray = args by simp] at hcall
  refine hcall.mono ?_
  rintro e W1 ⟨x, r, rfl, rfl, hp, hb⟩
  obtain rfl : x = .bool true := by cases hp; rfl
  refine ⟨_, rfl, ds, [], p ++ [], [], p, [], hW', ?_, ?_, ?_, hb.frame _, fun h => by cases h⟩
  · rw [List.append_nil, hs ds hdl, hres]
    exact trodAll_mk1 (shut_bool htb true)
  · rw [List.append_nil, hs ds hdl]
    exact trodAll_below hlaid hb (fun t ht => (hall t (hts ▸ ht)).2) hA
  · rw [List.append_nil, hs ds hdl, hvars]
    exact rfl

end Go.Eng

/- The builtin copy into a row of the call's own. No condition. -/
set_option linter.unusedSimpArgs false
namespace Go.Eng
open Go.RowKit

section
variable {P : Program} {w0 : Bs} {N0 : Nat → Prop} {Q : Exit → AS → Prop} {S S' : AS}

theorem flat_take1 : ∀ (es : List V) (n : Nat), (∀ e ∈ es, e.fits 1) → (flat es).take n = flat (es.take n)
  | [], n, _ => by simp [flat]
  | e :: es, 0, _ => by simp [flat]
  | e :: es, n + 1, h => by
    have h1 : e.cells.length = 1 := (h e List.mem_cons_self).1
    have ih := flat_take1 es n (fun x hx => h x (List.mem_cons_of_mem _ hx))
    show (e.cells ++ flat es).take (n + 1) = e.cells ++ flat (es.take n)
    rw [List.take_append, h1, Nat.add_sub_cancel, ih, List.take_of_length_le (by omega)]
theorem eff_copy {D : Nat → Prop} {μ : Mu} {a : Act} {w : World} (h : RelM D w0 N0 μ S a w) {d len : Nat} {dT sT te ty : TypeId} {s x : Value} {xv : V} {es : List V} {o : Ob} (ht : telem P dT = some te) (hn : tsz P te = some 1)
    (hs : Enc w (Own N0 μ S) μ s (.sl d o.v o.sz len)) (ho : get S.objs d = some o) (hlen : o.es.length = len) (hsz : o.sz = 1) (hx : Enc w (Own N0 μ S) μ x xv) (he : S.elems xv = some (1, es)) (hle : len ≤ es.length) :
    ∃ w', (Builtin.copy_ #[dT, sT] ty #[s, x]).run P w = .ok (goInt len) w' ∧ RelM D w0 N0 μ { S with objs := (d, { o with es := es.take len }) :: S.objs } a w' := by
  have hu := telem_underlying ht
  unfold tsz at hn
  obtain ⟨A, c, rfl, hlc, hrest⟩ := h.elems hx he
  have same : len = 0 → RelM D w0 N0 μ { S with objs := (d, { o with es := es.take len }) :: S.objs } a w := fun h0 => by
    have he0 : o.es = [] := List.eq_nil_of_length_eq_zero (by omega)
    have hoo : ({ o with es := es.take len } : Ob) = o := by
      rw [h0, List.take_zero, ← he0]
    rw [hoo]
    obtain ⟨l, hl, hob⟩ := h.objs d o ho
    refine (h.update (D' := D) (d := d) (o' := o) (l' := l) (μ' := μ) (fun _ _ _ hh => hh) h.fresh hl h.below (Keeps.refl _ _) (fun _ _ _ _ _ _ _ => rfl) (fun g c e => .inr ⟨o, c, ho, by rw [hl, e]⟩) (fun N' hN => ?_)).1
    exact hob.keep (w' := w) (N' := N') (μ' := μ) (Keeps.refl _ _) hN (fun _ _ _ hh => hh) (fun _ _ _ => rfl)
  cases hs with
  | pur hs => cases hs
  | slv _ _ _ B hm => exact ⟨w, run_copy_none w dT sT ty te B A 0 0 es.length c hu hn (by simp), same rfl⟩
  | slr _ _ _ _ g cap hm hle2 hmax =>
    by_cases h0 : len = 0
    · exact ⟨w, by rw [h0]; exact run_copy_none w dT sT ty te _ A 0 cap es.length c hu hn (by simp), same h0⟩
    have hne : es ≠ [] := fun e => by subst e; simp at hle; omega
    obtain ⟨hf, ad, vs, rfl, hvl, hvc, hrow⟩ := hrest hne
    obtain ⟨l, hl', hob⟩ := h.objs d o ho
    rw [hm] at hl'
    injection hl' with hl'
    subst hl'
    obtain ⟨o1, o2, o3, o4, arr, o5, o6, o7⟩ := hob
    rw [hsz, Nat.mul_one] at o6
    rw [Nat.mul_one] at hvl
    have hct : (vs.take len).length = len := by rw [List.length_take]; omega
    have hrowt := hrow.take len
    rw [flat_take1 es len hf] at hrowt
    have hone : ∀ v ∈ vs.take len, v.oneCell' = true := by
      intro v hv
      have hv := List.mem_of_mem_take hv
      obtain ⟨j, hj⟩ := List.getElem?_of_mem hv
      have hjl : j < (flat es).length := by rw [← hrow.1]; exact (List.getElem?_eq_some_iff.1 hj).1
      have hc := List.getElem?_eq_getElem hjl
      refine (hrow.2 j v _ hj hc).cell_oneCell ?_
      have hmem := List.mem_of_getElem? hc
      unfold flat at hmem
      obtain ⟨e, he1, he2⟩ := List.mem_flatMap.1 hmem
      exact (hf e he1).2 _ he2
    have hrun := run_copy_row (P := P) w dT sT ty te g 0 len cap ad es.length c arr o.ty (vs.take len) hu hn o5 (by rw [hct]; exact (Nat.min_eq_right hle).symm)
      (fun j v hj => hvc j v (by
        have hjl : j < len := by have := (List.getElem?_eq_some_iff.1 hj).1; omega
        rwa [List.getElem?_take_of_lt hjl] at hj)) (by rw [hct]; omega) hone
    rw [hct] at hrun
    simp only [List.take_zero, List.nil_append, Nat.zero_add] at hrun
    refine ⟨_, hrun, ?_⟩
    have hkeep : Keeps w (Own N0 μ S) (w.setRow g (vs.take len ++ arr.toList.drop len).toArray) :=
      ⟨by simp, fun b hb hN => setRow_other w g b _ (fun e => hN (by subst e; exact .inr ⟨d, o, cap, ho, hm⟩))⟩
    refine (h.update (D' := D) (d := d) (o' := { o with es := es.take len }) (l' := some (g, cap)) (μ' := μ) (fun _ _ _ hh => hh) h.fresh hm (bs_setRow h.below o1 _) hkeep
      (fun d1 o1' g1 c1 hne1 h1 h2 => setRow_other w g g1 _ (fun e => hne1 (by subst e; exact h.inj _ _ _ _ _ _ _ h1 ho h2 hm)))
      (fun g2 c2 e => by
        simp only [Option.some.injEq, Prod.mk.injEq] at e
        obtain ⟨rfl, rfl⟩ := e
        exact .inr ⟨o, cap, ho, hm⟩) (fun N' hN => ?_)).1
    have hfit : ∀ e1 ∈ es.take len, e1.fits o.sz := fun e1 he1 => by rw [hsz]; exact hf e1 (List.mem_of_mem_take he1)
    have htl : (es.take len).length = len := by rw [List.length_take]; omega
    refine ⟨o1, by simp only [htl]; omega, o3, hfit, _, setRow_heap w g arr _ o.ty (0, 0) o5, ?_, ?_⟩
    · simp only [List.size_toArray, List.length_append, hct, List.length_drop, Array.length_toList, hsz, Nat.mul_one]
      omega
    · refine row_cells hfit ?_
      have e1 : (vs.take len ++ arr.toList.drop len).toArray.toList.take ((es.take len).length * o.sz) = vs.take len := by
        rw [htl, hsz, Nat.mul_one]
        simp only []
        rw [List.take_append_of_le_length (by omega), List.take_of_length_le (by omega)]
      rw [e1]
      exact ⟨hrowt.1, fun j x c h1 h2 => (hrowt.2 j x c h1 h2).keep hkeep hN (fun _ _ _ hh => hh)⟩
/-- The state behind copy(x, y). -/
def AS.copyT (S : AS) (x y : Operand) (dst : Option Nat) : Option AS := match S.evc true x, S.evc true y with
  | some (.sl d v sz len), some xv => match get S.objs d, S.elems xv with
    | some ob, some (n, es) => if ob.v = v ∧ ob.sz = sz ∧ sz = 1 ∧ n = 1 ∧ ob.es.length = len ∧ len ≤ es.length then AS.putv { S with objs := (d, { ob with es := es.take len }) :: S.objs } dst (.int .i64 len) else none
    | _, _ => none
  | _, _ => none
/-- copy(d, s): as many elements of s as d has. -/
theorem awl_copy {ops : List Oper} {i : Nat} {o : Oper} {rest : List Oper} {x y : Operand} {dT sT te : TypeId} (hg : o.guard = none)
    (ho : o.op = .call { callee := .builtin .copy, args := #[x, y], argTypes := #[dT, sT] }) (ht : telem P dT = some te) (hn : tsz P te = some 1)
    (hs : S.copyT x y o.dst = some S') (k : AWL P w0 N0 ops Q (i + 1) rest S') : AWL P w0 N0 ops Q i (o :: rest) S := by
  unfold AS.copyT at hs
  split at hs
  case h_2 => cases hs
  rename_i d v sz len xv hx hy
  split at hs
  case h_2 => cases hs
  rename_i ob n es hob he
  split at hs
  case isFalse => cases hs
  rename_i hc
  obtain ⟨rfl, rfl, hsz, rfl, rfl, hle⟩ := hc
  rintro D a w hD ⟨μ, hr⟩
  refine wpList_plain hg fun K hK => ?_
  obtain ⟨w', hrun, hr'⟩ := eff_copy (P := P) (sT := sT) (ty := o.type) hr ht hn (hr.evc hx rfl) hob rfl hsz (hr.evc hy rfl) he hle
  unfold Oper.wp
  have hex : (execOp a.eval o).run P w = .ok (.value (goInt ob.es.length)) w' := by
    unfold execOp
    rw [ho]
    simp [resolve, invoke, builtin, hrun, Result.andThen]
  rw [hex]
  exact hK _ _ (k D _ _ (fun j hj => Nat.lt_succ_of_lt (hD j hj)) ⟨μ, hr'.putv hs (.pur (.int _ _))⟩)
end
attribute [simp] AS.copyT
end Go.Eng
