import Derived.Test.YtliogkkhofhfcaaGreatDoorE3
import Derived.WalkKit
import Derived.ProofKit
import Derived.OpenShut
import Derived.ShutString
import Derived.ChangeOld
import Derived.Carry
/- Short rules for regions whose order is left open and for guarded calls. No condition. -/
set_option linter.unusedSimpArgs false
namespace Go.Eng

def runO (P : Program) (ops : List Oper) (l : List (Nat × List Nat)) (S : AS) : Option AS := runOK P 0 ops l S
attribute [simp] runO runOK AS.gv wrapG

/-- A region whose order is left open, without a call, and what is kept behind it. -/
def runDK (P : Program) (kb : Nat) (l : List Oper) (ord : List (Nat × List Nat)) (L M : List Nat) (S : AS) : Option AS :=
  match runOK P kb l ord S with
  | some S' => some ((S'.bump l.length).keep L M)
  | none => none
def runD (P : Program) (l : List Oper) (ord : List (Nat × List Nat)) (L M : List Nat) (S : AS) : Option AS := runDK P 0 l ord L M S
attribute [simp] runD runDK

section
variable {P : Program} {kb : Nat} {w0 : Bs} {N0 : Nat → Prop} {Q : Exit → AS → Prop} {S : AS}

theorem awk_done {id : Nat} {l : List Oper} {S' : AS} (kb : Nat) (ord : List (Nat × List Nat)) (L M : List Nat) (hm : P.follows .mixedOrders = true) (hg : (goodOrder l (Array.replicate l.length false) ord && (mkOk l && ord.length == l.length)) = true) (hs : runDK P kb l ord L M S = some S') (h : Q .normal S') :
    AW P w0 N0 (.region id l.toArray true) Q S := by
  unfold runDK at hs
  split at hs
  case h_2 => cases hs
  rename_i S1 h1
  injection hs with hs
  subst hs
  exact awk_draw kb ord hm hg (awo_run h1 (le_keep _ L M) h)

theorem aw_done {id : Nat} {l : List Oper} {S' : AS} (ord : List (Nat × List Nat)) (L M : List Nat) (hm : P.follows .mixedOrders = true) (hg : (goodOrder l (Array.replicate l.length false) ord && (mkOk l && ord.length == l.length)) = true) (hs : runD P l ord L M S = some S') (h : Q .normal S') :
    AW P w0 N0 (.region id l.toArray true) Q S := awk_done 0 ord L M hm hg hs h
theorem awk_dstep {id : Nat} {l : List Oper} {rest : Code} {S' : AS} (kb : Nat) (ord : List (Nat × List Nat)) (L M : List Nat) (hm : P.follows .mixedOrders = true) (hg : (goodOrder l (Array.replicate l.length false) ord && (mkOk l && ord.length == l.length)) = true) (hs : runDK P kb l ord L M S = some S') (h : AW P w0 N0 rest Q S') :
    AW P w0 N0 (.seq (.region id l.toArray true) rest) Q S := aw_seq (awk_done kb ord L M hm hg hs h)
theorem aw_dstep {id : Nat} {l : List Oper} {rest : Code} {S' : AS} (ord : List (Nat × List Nat)) (L M : List Nat) (hm : P.follows .mixedOrders = true) (hg : (goodOrder l (Array.replicate l.length false) ord && (mkOk l && ord.length == l.length)) = true) (hs : runD P l ord L M S = some S') (h : AW P w0 N0 rest Q S') :
    AW P w0 N0 (.seq (.region id l.toArray true) rest) Q S := aw_seq (aw_done ord L M hm hg hs h)

theorem awo_app {ops : List Oper} : ∀ {l1 l2 : List (Nat × List Nat)} {S S1 : AS}, runOK P kb ops l1 S = some S1 → AWO P kb w0 ops Q l2 S1 → AWO P kb w0 ops Q (l1 ++ l2) S
  | [], l2, S, S1, hs, h => by
    simp only [runOK, Option.some.injEq] at hs
    subst hs
    exact h
  | (i, ks) :: l, l2, S, S1, hs, h => by
    simp only [runOK] at hs
    split at hs
    case h_2 => cases hs
    rename_i o ho
    split at hs
    case isFalse => cases hs
    rename_i hks
    split at hs
    case h_2 => cases hs
    rename_i S2 h2
    rw [nth_eq] at ho
    exact ⟨o, S2, ho, hks, .inl h2, awo_app hs h⟩

/-- The first n operations in the order, none of them a call. -/
theorem awo_go {ops : List Oper} {l : List (Nat × List Nat)} {S1 : AS} (n : Nat) (hs : runO P ops (l.take n) S = some S1) (h : AWO P 0 w0 ops Q (l.drop n) S1) : AWO P 0 w0 ops Q l S := by
  have := awo_app (kb := 0) (l2 := l.drop n) hs h
  rwa [List.take_append_drop] at this

/-- The rest of the order, without a call. -/
theorem awo_end {ops : List Oper} {l : List (Nat × List Nat)} {S' : AS} (L M : List Nat) (hs : runD P ops l L M S = some S') (h : Q .normal S') : AWO P 0 w0 ops Q l S := by
  unfold runD runDK at hs
  split at hs
  case h_2 => cases hs
  rename_i S1 h1
  injection hs with hs
  subst hs
  exact awo_run h1 (le_keep _ L M) h

/-- A call whose result is known. -/
theorem awo_call {ops : List Oper} {i : Nat} {ks : List Nat} {l : List (Nat × List Nat)} {o : Oper} {c : Bool} {f : Operand} {fid : FuncId} {fn : Func} {args : Array Operand} {ats : Array TypeId} {vs : List V} {res : V} {S' : AS}
    (hc : c = true → AC P fid vs (fun r => r = res)) (hfn : P.funcs[fid]? = some fn) (hb : fn.body.isSome = true) (hn : (fn.name == "runtime.NumGoroutine") = false) (hi : nth ops i = some o) (hks : (ks.all fun d => (get S.objs (0 + d)).isNone) = true)
    (hg : S.gv ops o = some c) (ho : o.op = .call { callee := .value f, args := args, argTypes := ats }) (hf : S.evc c f = some (.fn fid)) (ha : S.args c args.toList = some vs) (hp : vs.all V.pureV = true) (hs : S.putv o.dst (wrapG o c res) = some S') (h : AWO P 0 w0 ops Q l S') : AWO P 0 w0 ops Q ((i, ks) :: l) S := by
  rw [nth_eq] at hi
  exact ⟨o, S', hi, hks, .inr (.inl ⟨c, f, args, ats, fid, fn, vs, res, hg, ho, hf, hfn, hb, hn, ha, hp, fun h => (hc h).b, hs⟩), h⟩

/-- A guarded call whose result is known, in a plain region. -/
theorem awl_gcall {ops : List Oper} {i : Nat} {o : Oper} {rest : List Oper} {c : Bool} {f : Operand} {fid : FuncId} {fn : Func} {args : Array Operand} {ats : Array TypeId} {vs : List V} {res : V} {S' : AS}
    (hc : c = true → AC P fid vs (fun r => r = res)) (hfn : P.funcs[fid]? = some fn) (hb : fn.body.isSome = true) (hn : (fn.name == "runtime.NumGoroutine") = false)
    (hg : S.gv ops o = some c) (ho : o.op = .call { callee := .value f, args := args, argTypes := ats }) (hf : S.evc c f = some (.fn fid)) (ha : S.args c args.toList = some vs) (hp : vs.all V.pureV = true) (hs : S.putv o.dst (wrapG o c res) = some S') (h : AWL P w0 N0 ops Q (i + 1) rest S') : AWL P w0 N0 ops Q i (o :: rest) S :=
  awl_st (kb := 0) (.inr (.inl ⟨c, f, args, ats, fid, fn, vs, res, hg, ho, hf, hfn, hb, hn, ha, hp, fun h => (hc h).b, hs⟩)) h

/-- A loop over a counter: states 'st k nx', the invariant 'Inv k', the bound n. -/
theorem aw_count {c : Code} (st : Nat → Nat → AS) (Inv : Nat → Prop) (n : Nat) (nx0 : Nat) (h0 : Inv 0) (hS : S.le (st 0 nx0))
    (round : ∀ k nx, k ≤ n → Inv k → AW P w0 N0 c (ethen (fun S' => k < n ∧ Inv (k + 1) ∧ ∃ nx', S'.le (st (k + 1) nx')) Q) (st k nx)) : AW P w0 N0 (.loop c) Q S := by
  refine aw_loop (fun x : Nat × Nat => st x.1 x.2) (fun x => x.1 ≤ n ∧ Inv x.1) (fun x => n - x.1) (0, nx0) ⟨Nat.zero_le _, h0⟩ hS ?_
  rintro ⟨k, nx⟩ ⟨hk, hI⟩
  refine (round k nx hk hI).mono ?_
  intro e T hT
  cases e with
  | normal =>
    obtain ⟨h1, h2, nx', h3⟩ := hT
    exact ⟨(k + 1, nx'), ⟨h1, h2⟩, by simp only; omega, h3⟩
  | _ => exact hT
end
end Go.Eng

/- A nil slice taken over as a row of the call's own, so that it can be appended to. No condition. -/
set_option linter.unusedSimpArgs false
namespace Go.Eng
open Go.RowKit

/-- The nil slice in slot t becomes row d. -/
def AS.adoptS (S : AS) (t d sz : Nat) (ty : TypeId) : AS := { S with env := (t, .sl d S.nx sz 0) :: S.env, objs := (d, ⟨S.nx, sz, ty, []⟩) :: S.objs, nx := S.nx + 1 }
/-- The nil slice in cell i of variable k becomes row d. -/
def AS.adoptC (S : AS) (k i d sz : Nat) (ty : TypeId) : Option AS :=
  match get S.objs k with
  | some o => match o.es with
    | [.agg cs] => match nth cs i with
      | some .nils => if k = d then none else some { S with objs := (k, { o with es := [.agg (cs.set i (.sl d S.nx sz 0))] }) :: (d, ⟨S.nx, sz, ty, []⟩) :: S.objs, nx := S.nx + 1 }
      | _ => none
    | _ => none
  | none => none

section
variable {P : Program} {w0 : Bs} {N0 : Nat → Prop} {Q : Exit → AS → Prop} {S : AS} {μ : Mu} {a : Act} {w : World}

theorem RelM.addRow (h : RelM (fun _ => False) w0 N0 μ S a w) (d sz : Nat) (ty : TypeId) :
    RelM (fun _ => False) w0 N0 (muSet μ d S.nx none) { S with objs := (d, ⟨S.nx, sz, ty, []⟩) :: S.objs, nx := S.nx + 1 } a w := by
  have hmono := h.muSet_mono (i := 0) (fun hf => hf) d none
  have hfr := h.muSet_fresh 0 d none
  simp only [Nat.add_zero] at hmono hfr
  obtain ⟨hr, _⟩ := h.update (D' := fun j => False ∨ j = 0) (d := d) (o' := ⟨S.nx, sz, ty, []⟩) (l' := none) (w' := w) (μ' := muSet μ d S.nx none) hmono hfr (muSet_same _ _ _ _) h.below (Keeps.refl _ _)
    (fun _ _ _ _ _ _ _ => rfl) (fun g c e => by cases e) (fun N' hN => rfl)
  refine ⟨hr.defers, hr.size, hr.below, hr.n0, fun d v hv => ?_, hr.objs, hr.inj, hr.env⟩
  rcases hr.fresh d v hv with h1 | ⟨j, hj, e⟩
  · exact .inl (by simp only at h1 ⊢; omega)
  · rcases hj with hj | hj
    · exact hj.elim
    · subst hj; exact .inl (by simp only at e ⊢; omega)

theorem le_adoptS {t d sz : Nat} {ty : TypeId} (ht : get S.env t = some .nils) : S.le (S.adoptS t d sz ty) := by
  rintro w0 N0 a w ⟨μ, h⟩
  have hr := h.addRow d sz ty
  refine ⟨_, ⟨hr.defers, hr.size, hr.below, hr.n0, hr.fresh, hr.objs, hr.inj, fun t' v hv => ?_⟩⟩
  simp only [AS.adoptS, get_cons] at hv
  split at hv
  · rename_i e
    subst e
    injection hv with hv
    subst hv
    obtain ⟨h1, h2⟩ := hr.env t .nils ht
    refine ⟨h1, ?_⟩
    generalize a.tmps.getD t undef = x at h2
    cases h2 with
    | pur h2 => cases h2 with
      | nils A => exact .slv d S.nx sz A (muSet_same _ _ _ _)
  · exact hr.env t' v hv

theorem le_adoptC {k i d sz : Nat} {ty : TypeId} {S' : AS} (hs : S.adoptC k i d sz ty = some S') : S.le S' := by
  unfold AS.adoptC at hs
  split at hs
  case h_2 => cases hs
  rename_i o ho
  split at hs
  case h_2 => cases hs
  rename_i cs hcs
  split at hs
  case h_2 => cases hs
  rename_i hc
  rw [nth_eq] at hc
  split at hs
  case isTrue => cases hs
  rename_i hkd
  injection hs with hs
  subst hs
  rintro w0 N0 a w ⟨μ, h⟩
  have hr := h.addRow d sz ty
  have hko : get ((d, (⟨S.nx, sz, ty, []⟩ : Ob)) :: S.objs) k = some o := by rw [get_cons, if_neg (fun e => hkd e.symm)]; exact ho
  obtain ⟨l, hl, hob⟩ := hr.objs k o hko
  -- the block of variable k is known
  cases l with
  | none =>
    have : o.es = [] := hob
    rw [hcs] at this
    cases this
  | some gc =>
    obtain ⟨g, cap⟩ := gc
    obtain ⟨o1, o2, o3, o4, arr, o5, o6, o7⟩ := hob
    have hsub : ∀ b, b < w.heap.size → Own N0 (muSet μ d S.nx none) { S with objs := (k, { o with es := [.agg (cs.set i (.sl d S.nx sz 0))] }) :: (d, ⟨S.nx, sz, ty, []⟩) :: S.objs, nx := S.nx + 1 } b → Own N0 (muSet μ d S.nx none) { S with objs := (d, ⟨S.nx, sz, ty, []⟩) :: S.objs, nx := S.nx + 1 } b := by
      rintro b _ (h0 | ⟨d1, q, c, h1, h2⟩)
      · exact .inl h0
      · simp only [get_cons k] at h1
        split at h1
        · rename_i e
          subst e
          injection h1 with h1
          subst h1
          exact .inr ⟨k, o, c, hko, h2⟩
        · exact .inr ⟨d1, q, c, h1, h2⟩
    have hk := Keeps.refl w (Own N0 (muSet μ d S.nx none) { S with objs := (d, ⟨S.nx, sz, ty, []⟩) :: S.objs, nx := S.nx + 1 })
    have hfo := o4 (.agg cs) (by rw [hcs]; simp)
    refine ⟨muSet μ d S.nx none, ⟨hr.defers, hr.size, hr.below, hr.n0, hr.fresh, fun d1 q hq => ?_, fun d1 q d2 q2 g1 c1 c2 h1 h2 h3 h4 => ?_, fun t v hv => ⟨(hr.env t v hv).1, (hr.env t v hv).2.keep hk hsub (fun _ _ _ hh => hh)⟩⟩⟩
    · simp only [get_cons k] at hq
      split at hq
      · rename_i e
        subst e
        injection hq with hq
        subst hq
        have hfit : (V.agg (cs.set i (.sl d S.nx sz 0))).fits o.sz := by
          refine ⟨by have := hfo.1; simpa [V.cells] using this, fun c hc' => ?_⟩
          rcases List.mem_or_eq_of_mem_set hc' with h1 | h1
          · exact hfo.2 c h1
          · subst h1; rfl
        refine ⟨some (g, cap), hl, o1, by rw [hcs] at o2; exact o2, o3, fun e he => by simp at he; subst he; exact hfit, arr, o5, o6, fun k' e j c hk' hj => ?_⟩
        rcases k' with _ | k'
        · simp at hk'
          subst hk'
          simp only [V.cells] at hj
          by_cases hij : i = j
          · subst hij
            have hlt : i < cs.length := (List.getElem?_eq_some_iff.1 hc).1
            rw [List.getElem?_set_self hlt] at hj
            injection hj with hj
            subst hj
            obtain ⟨x, hx, hex⟩ := o7 0 (.agg cs) i .nils (by rw [hcs]; rfl) hc
            refine ⟨x, hx, ?_⟩
            cases hex with
            | pur hex => cases hex with
              | nils A => exact .slv d S.nx sz A (muSet_same _ _ _ _)
          · rw [List.getElem?_set_ne hij] at hj
            obtain ⟨x, hx, hex⟩ := o7 0 (.agg cs) j c (by rw [hcs]; rfl) hj
            exact ⟨x, hx, hex.keep hk hsub (fun _ _ _ hh => hh)⟩
        · simp at hk'
      · obtain ⟨l1, hl1, hob1⟩ := hr.objs d1 q hq
        exact ⟨l1, hl1, hob1.keep hk hsub (fun _ _ _ hh => hh) (fun _ _ _ => rfl)⟩
    · have key : ∀ d1 q c1, get ((k, ({ o with es := [.agg (cs.set i (.sl d S.nx sz 0))] } : Ob)) :: (d, (⟨S.nx, sz, ty, []⟩ : Ob)) :: S.objs) d1 = some q → muSet μ d S.nx none d1 q.v = some (some (g1, c1)) →
          ∃ q', get ((d, (⟨S.nx, sz, ty, []⟩ : Ob)) :: S.objs) d1 = some q' ∧ muSet μ d S.nx none d1 q'.v = some (some (g1, c1)) := by
        intro d1 q c1 hq hm
        rw [get_cons k] at hq
        split at hq
        · rename_i e
          subst e
          injection hq with hq
          subst hq
          exact ⟨o, hko, hm⟩
        · exact ⟨q, hq, hm⟩
      obtain ⟨q1, a1, a2⟩ := key d1 q c1 h1 h3
      obtain ⟨q3, b1, b2⟩ := key d2 q2 c2 h2 h4
      exact hr.inj _ _ _ _ _ _ _ a1 b1 a2 b2

theorem aw_adoptS {c : Code} {S' : AS} (t d sz : Nat) (ty : TypeId) (L M : List Nat) (ht : get S.env t = some .nils) (hS : (S.adoptS t d sz ty).keep L M = S') (h : AW P w0 N0 c Q S') : AW P w0 N0 c Q S := by
  subst hS
  exact aw_le (AS.le_trans (le_adoptS ht) (le_keep _ L M)) h
def AS.adoptCK (S : AS) (k i d sz : Nat) (ty : TypeId) (L M : List Nat) : Option AS :=
  match S.adoptC k i d sz ty with
  | some S' => some (S'.keep L M)
  | none => none
theorem aw_adoptC {c : Code} {S' : AS} (k i d sz : Nat) (ty : TypeId) (L M : List Nat) (hS : S.adoptCK k i d sz ty L M = some S') (h : AW P w0 N0 c Q S') : AW P w0 N0 c Q S := by
  unfold AS.adoptCK at hS
  split at hS
  case h_2 => cases hS
  rename_i S1 h1
  injection hS with hS
  subst hS
  exact aw_le (AS.le_trans (le_adoptC h1) (le_keep _ L M)) h
end
attribute [simp] AS.adoptS AS.adoptC AS.adoptCK
end Go.Eng

/- From the given rows to contracts over pure values: what comes in reads as pure values; a contract 'true' gives the row's step. No condition. -/
namespace Go.Eng
open Go.RowKit Go.ChangeShapes Go.WideShapes
set_option linter.unusedSimpArgs false

def laidFs (P : Program) : List Field → Nat → Nat → Bool
  | [], off, tot => off == tot
  | f :: r, off, tot => (f.offset == off) && laidFs P r (off + P.cellsOf f.type) tot

/-- Types that the reading covers: flags, numbers, texts, slices, structs. -/
def okT (P : Program) : Nat → TypeId → Bool
  | 0, _ => false
  | n + 1, t => match P.underlying t with
    | some .bool | some (.int _) | some .string => P.cellsOf t == 1
    | some (.slice e) => (P.cellsOf t == 1) && decide (0 < P.cellsOf e) && okT P n e
    | some (.struct fs) => laidFs P fs.toList 0 (P.cellsOf t) && fs.toList.all fun f => okT P n f.type
    | _ => false

def mkV (b : Option Bool) (cs : List V) : V := if b = some true then .agg cs else cs.headD .nils

def RdF (P : Program) (r : TypeId → List V → Prop) : List Field → List V → Prop
  | [], vs => vs = []
  | f :: fs, vs => ∃ us ws, vs = us ++ ws ∧ r f.type us ∧ RdF P r fs ws

/-- What the cells of a value of a type look like. -/
def Rd (P : Program) : Nat → TypeId → List V → Prop
  | 0, _, _ => False
  | n + 1, t, vs => match P.underlying t with
    | some .bool => ∃ b, vs = [.bool b]
    | some (.int k) => ∃ i, vs = [.int k i] ∧ (Lit.int k i).wf = true
    | some .string => ∃ l, vs = [.str l] ∧ l.length ≤ maxLen
    | some (.slice e) => ∃ es : List (List V), vs = [.ro (P.cellsOf e) (es.map (mkV (tagg P e)))] ∧ es.length ≤ maxLen ∧ ∀ x ∈ es, Rd P n e x
    | some (.struct fs) => RdF P (Rd P n) fs.toList vs
    | _ => False

def Purs (w : World) (N : Nat → Prop) (cs : List Value) (vs : List V) : Prop :=
  cs.length = vs.length ∧ ∀ (i : Nat) x v, cs[i]? = some x → vs[i]? = some v → Pur w N x v

theorem Purs.append {w : World} {N : Nat → Prop} {a b : List Value} {u v : List V} (h : Purs w N a u) (k : Purs w N b v) : Purs w N (a ++ b) (u ++ v) := by
  refine ⟨by simp [h.1, k.1], fun i x y hx hy => ?_⟩
  by_cases hi : i < a.length
  · rw [List.getElem?_append_left hi] at hx
    rw [List.getElem?_append_left (by rw [← h.1]; exact hi)] at hy
    exact h.2 i x y hx hy
  · rw [List.getElem?_append_right (by omega)] at hx
    rw [List.getElem?_append_right (by rw [← h.1]; omega), ← h.1] at hy
    exact k.2 _ x y hx hy

theorem Purs.one {w : World} {N : Nat → Prop} {x : Value} {v : V} (h : Pur w N x v) : Purs w N [x] [v] := by
  refine ⟨rfl, fun i y u hy hu => ?_⟩
  rcases i with _ | i
  · simp at hy hu; subst hy; subst hu; exact h
  · simp at hy

theorem laidFs_le {P : Program} : ∀ {fs : List Field} {off tot : Nat}, laidFs P fs off tot = true → off ≤ tot
  | [], off, tot, h => by simp [laidFs] at h; omega
  | f :: r, off, tot, h => by simp only [laidFs, Bool.and_eq_true] at h; have := laidFs_le h.2; omega

theorem list_of {α : Type} {p : Nat → α → Prop} : ∀ {n : Nat}, (∀ i, i < n → ∃ y, p i y) → ∃ l : List α, l.length = n ∧ ∀ i y, l[i]? = some y → p i y
  | 0, _ => ⟨[], rfl, by simp⟩
  | n + 1, h => by
    obtain ⟨l, hl, hp⟩ := list_of (n := n) (fun i hi => h i (by omega))
    obtain ⟨y, hy⟩ := h n (by omega)
    refine ⟨l ++ [y], by simp [hl], fun i z hz => ?_⟩
    by_cases hi : i < l.length
    · rw [List.getElem?_append_left hi] at hz; exact hp i z hz
    · rw [List.getElem?_append_right (by omega)] at hz
      have : i - l.length = 0 := by
        rcases h0 : i - l.length with _ | k
        · rfl
        · rw [h0] at hz; simp at hz
      rw [this] at hz
      simp at hz
      subst hz
      have : i = n := by omega
      subst this
      exact hy

theorem map_of {α β : Type} {f : α → β} : ∀ {l : List β}, (∀ x ∈ l, ∃ y, x = f y) → ∃ l' : List α, l = l'.map f
  | [], _ => ⟨[], rfl⟩
  | x :: r, h => by
    obtain ⟨y, hy⟩ := h x (by simp)
    obtain ⟨l', hl'⟩ := map_of (fun x hx => h x (by simp [hx]) : ∀ x ∈ r, ∃ y, x = f y)
    exact ⟨y :: l', by simp [hy, hl']⟩

section
variable {H : Type} {enc : TypeId × Value → H} {P : Program} {w : World} {base : Nat} {spare : Nat → Bool} {held : Bool}

theorem trod_purs : ∀ (n : Nat) {fuel : Nat} {t : TypeId} {cs : List Value} {x : DataW H × List MemPlace}, okT P n t = true → DataW.trod enc P w base spare held fuel t cs = some x →
    ∃ vs, Purs w (fun _ => False) cs vs ∧ (∀ v ∈ vs, v.isCell = true) ∧ Rd P n t vs ∧ cs.length = P.cellsOf t
  | 0, _, _, _, _, h, _ => by simp [okT] at h
  | _ + 1, 0, _, _, _, _, h => by simp [DataW.trod] at h
  | n + 1, fuel + 1, t, cs, x, ho, h => by
    unfold okT at ho
    unfold DataW.trod at h
    unfold Rd
    generalize hu : P.underlying t = u at ho h ⊢
    split at ho
    · -- bool
      simp only [beq_iff_eq] at ho
      split at h <;> simp_all
      rename_i b
      exact ⟨[.bool b], Purs.one (.bool _), by simp [V.isCell], by cases b <;> simp⟩
    · simp only [beq_iff_eq] at ho
      split at h <;> simp_all
      exact ⟨[.int _ _], Purs.one (.int _ _), by simp [V.isCell], _, rfl, h.1.2⟩
    · simp only [beq_iff_eq] at ho
      split at h <;> simp_all
      rename_i s
      refine ⟨[.str s.data.toList], Purs.one ?_, by simp [V.isCell], _, rfl, by simpa using h.1⟩
      have := Pur.str (w := w) (N := fun _ => False) s.data.toList
      simpa using this
    · rename_i e
      simp only [Bool.and_eq_true, beq_iff_eq, decide_eq_true_eq] at ho
      obtain ⟨⟨ho1, ho2⟩, ho3⟩ := ho
      split at h
      all_goals try (exfalso; first | (rename_i he; cases he; done) | (rename_i he _; cases he; done) | (rename_i he _ _; cases he; done) | (cases h; done))
      · refine ⟨[.ro (P.cellsOf e) []], Purs.one (.ro none ⟨0, 0, none⟩ 0 0 _ [] (fun _ _ => undef) rfl (Nat.le_refl _) (Nat.zero_le _) (fun h0 => by omega) (by simp) (by simp) (by simp)), by simp [V.isCell], ⟨[], rfl, by simp, by simp⟩, by simp [ho1]⟩
      · rename_i e' a len cap heq
        cases heq
        simp only at h
        split at h
        case isFalse => cases h
        rename_i hb
        simp only [Option.bind_eq_some_iff] at h
        obtain ⟨elems, he, _⟩ := h
        have hlen : elems.length = len := by simpa using mapM_some_length he
        have hel : ∀ i, i < len → ∃ vs : List V, ∃ ci : List Value, w.cells? base (a.add (i * P.cellsOf e)) (P.cellsOf e) = some ci ∧ Purs w (fun _ => False) ci vs ∧ (∀ v ∈ vs, v.isCell = true) ∧ Rd P n e vs ∧ ci.length = P.cellsOf e := by
          intro i hi
          have h1 := mapM_some_get he i i (by simp [hi])
          rw [List.getElem?_eq_getElem (by omega)] at h1
          simp only [Option.bind_eq_some_iff] at h1
          obtain ⟨ci, h2, h3⟩ := h1
          obtain ⟨vs, h4, h5, h6, h7⟩ := trod_purs n ho3 h3
          exact ⟨vs, ci, h2, h4, h5, h6, h7⟩
        obtain ⟨es, hes, hp⟩ := list_of hel
        have hcells : ∀ (k : Nat) us, es[k]? = some us → (mkV (tagg P e) us).cells = us ∧ (mkV (tagg P e) us).fits (P.cellsOf e) := by
          intro k us hk
          obtain ⟨ci, h1, h2, h3, h4, h5⟩ := hp k us hk
          have hc : (mkV (tagg P e) us).cells = us := by
            unfold mkV
            split
            · rfl
            · rename_i hna
              have h1' : us.length = 1 := by
                rw [← h2.1, h5]
                cases n with
                | zero => simp [okT] at ho3
                | succ n =>
                  unfold okT at ho3
                  unfold tagg at hna
                  generalize P.underlying e = ue at ho3 hna
                  split at ho3
                  · simpa using ho3
                  · simpa using ho3
                  · simpa using ho3
                  · simp only [Bool.and_eq_true, beq_iff_eq] at ho3; exact ho3.1.1
                  · simp at hna
                  · cases ho3
              match us, h1', h3 with
              | [c], _, h3 => simpa using V.cells_one (h3 c (by simp))
          exact ⟨hc, by rw [hc, ← h2.1, h5], by rw [hc]; exact h3⟩
        refine ⟨[.ro (P.cellsOf e) (es.map (mkV (tagg P e)))], Purs.one (.ro (some a) a len cap _ _ (fun k j => (w.cell? (a.add (k * P.cellsOf e + j))).getD undef) (by simp [hes]) hb.2.1 hb.2.2 (fun h0 => ⟨rfl, ?_, id⟩) ?_ ?_ ?_), by simp [V.isCell], ⟨es, rfl, by omega, ?_⟩, by simp [ho1]⟩
        · obtain ⟨vs, ci, h1, _, _, _, h5⟩ := hel 0 h0
          obtain ⟨_, h6, h7⟩ := World.cells?_some h1
          have := h7 0 ho2
          rw [List.getElem?_eq_getElem (by omega)] at this
          have := World.block_lt_of_cell? _ _ this
          rwa [add_block, add_block] at this
        · intro v hv
          simp only [List.mem_map] at hv
          obtain ⟨us, hus, rfl⟩ := hv
          obtain ⟨k, hk⟩ := List.getElem?_of_mem hus
          exact (hcells k us hk).2
        all_goals
          try
            intro k v j c hk hj
            simp only [List.getElem?_map, Option.map_eq_some_iff] at hk
            obtain ⟨us, hk, rfl⟩ := hk
            rw [(hcells k us hk).1] at hj
            obtain ⟨ci, h1, h2, h3, h4, h5⟩ := hp k us hk
            obtain ⟨_, h6, h7⟩ := World.cells?_some h1
            have hjl : j < us.length := (List.getElem?_eq_some_iff.1 hj).1
            have hji : j < ci.length := by rw [h2.1]; exact hjl
            have h8 := h7 j (by omega)
            rw [add_add', List.getElem?_eq_getElem hji] at h8
        · rw [h8]; rfl
        · rw [h8]; exact h2.2 j _ c (List.getElem?_eq_getElem hji) hj
        · intro us hus
          obtain ⟨k, hk⟩ := List.getElem?_of_mem hus
          exact (hp k us hk).choose_spec.2.2.2.1
    · rename_i fs
      simp only [Bool.and_eq_true, List.all_eq_true] at ho
      obtain ⟨hlaid, hall⟩ := ho
      replace h : (if cs.length = P.cellsOf t then (fs.toList.mapM fun f => DataW.trod enc P w base spare held fuel f.type ((cs.drop f.offset).take (P.cellsOf f.type))).map fun xs => (DataW.agg (xs.map (·.1)), xs.flatMap (·.2)) else none) = some x := h
      split at h
      case isFalse => cases h
      rename_i hlen
      simp only [Option.map_eq_some_iff] at h
      obtain ⟨xs, hxs, _⟩ := h
      have hf : ∀ f ∈ fs.toList, ∃ vs, Purs w (fun _ => False) ((cs.drop f.offset).take (P.cellsOf f.type)) vs ∧ (∀ v ∈ vs, v.isCell = true) ∧ Rd P n f.type vs ∧ ((cs.drop f.offset).take (P.cellsOf f.type)).length = P.cellsOf f.type := by
        intro f hfm
        obtain ⟨i, hi⟩ := List.getElem?_of_mem hfm
        have h1 := mapM_some_get hxs i f hi
        have hl := mapM_some_length hxs
        have hil : i < xs.length := by rw [hl]; exact (List.getElem?_eq_some_iff.1 hi).1
        rw [List.getElem?_eq_getElem hil] at h1
        exact trod_purs n (hall f hfm) h1
      have key : ∀ (l : List Field) (off : Nat), laidFs P l off (P.cellsOf t) = true → (∀ f ∈ l, ∃ vs, Purs w (fun _ => False) ((cs.drop f.offset).take (P.cellsOf f.type)) vs ∧ (∀ v ∈ vs, v.isCell = true) ∧ Rd P n f.type vs ∧ ((cs.drop f.offset).take (P.cellsOf f.type)).length = P.cellsOf f.type) →
          ∃ vs, Purs w (fun _ => False) (cs.drop off) vs ∧ (∀ v ∈ vs, v.isCell = true) ∧ RdF P (Rd P n) l vs := by
        intro l
        induction l with
        | nil =>
          intro off hl _
          simp only [laidFs, beq_iff_eq] at hl
          refine ⟨[], ⟨by simp; omega, by simp⟩, by simp, rfl⟩
        | cons f l ih =>
          intro off hl hh
          simp only [laidFs, Bool.and_eq_true, beq_iff_eq] at hl
          obtain ⟨ho, hl⟩ := hl
          subst ho
          obtain ⟨ws, h1, h2, h3⟩ := ih _ hl (fun g hg => hh g (by simp [hg]))
          obtain ⟨us, g1, g2, g3, _⟩ := hh f (by simp)
          refine ⟨us ++ ws, ?_, ?_, us, ws, rfl, g3, h3⟩
          · have := g1.append h1
            rwa [← List.drop_drop, List.take_append_drop] at this
          · intro v hv
            rcases List.mem_append.1 hv with hv | hv
            · exact g2 v hv
            · exact h2 v hv
      obtain ⟨vs, h1, h2, h3⟩ := key fs.toList 0 hlaid hf
      exact ⟨vs, by simpa using h1, h2, h3, hlen⟩
    · cases ho

/-- What an argument of a type looks like. -/
def RdV (P : Program) (n : Nat) (t : TypeId) (v : V) : Prop := ∃ vs, Rd P n t vs ∧ v = mkV (tagg P t) vs

theorem arg_pur {n : Nat} {r : Reach} {b0 : Nat} {t : TypeId} {v : Value} {d : DataW H} {ps : List MemPlace} (ho : okT P n t = true) (hval : Value.okWide P w r b0 t v) (hd : DataW.Trod enc P w base spare held t v d ps) :
    ∃ u, Pur w (fun _ => False) v u ∧ RdV P n t u := by
  obtain ⟨fuel, hf⟩ := hd
  obtain ⟨vs, h1, h2, h3, h4⟩ := trod_purs n ho hf
  refine ⟨mkV (tagg P t) vs, ?_, vs, h3, rfl⟩
  cases n with
  | zero => simp [okT] at ho
  | succ n =>
  unfold okT at ho
  generalize hu : P.underlying t = u at ho
  have one : v.cells = #[v] → tagg P t = some false → Pur w (fun _ => False) v (mkV (tagg P t) vs) := by
    intro hv hb
    have hl := h1.1
    rw [hv] at hl h1
    match vs, hl, h1 with
    | [c], _, h1 =>
      rw [hb]
      exact h1.2 0 v c rfl rfl
  split at ho
  · obtain ⟨b, rfl⟩ := okWide_bool hu hval
    exact one rfl (by simp [tagg, hu])
  · obtain ⟨b, rfl⟩ := okWide_int hu hval
    exact one rfl (by simp [tagg, hu])
  · obtain ⟨b, rfl⟩ := okWide_string hu hval
    exact one rfl (by simp [tagg, hu])
  · obtain ⟨a, l, c, rfl⟩ := okWide_slice hu hval
    exact one rfl (by simp [tagg, hu])
  · obtain ⟨cs, rfl, _⟩ := okWide_struct hu hval
    have : tagg P t = some true := by simp [tagg, hu]
    rw [this]
    have := Pur.agg cs.toList vs h1.1 h2 h1.2
    simpa [mkV] using this
  · cases ho

end

/-- Values one by one of their types. -/
def RdAll (P : Program) (n : Nat) : List TypeId → List V → Prop
  | [], vs => vs = []
  | t :: ts, vs => ∃ u us, vs = u :: us ∧ RdV P n t u ∧ RdAll P n ts us

theorem args_pur {H : Type} {enc : TypeId × Value → H} {P : Program} {n : Nat} {W : World} {r : Reach} {b0 : Nat} {sp : Nat → Bool} {hd : Bool} : ∀ {ts : List TypeId} {vs : List Value} {ds : List (DataW H)} {ps : List MemPlace}, (∀ t ∈ ts, okT P n t = true) →
    (∀ (j : Nat) t v, ts[j]? = some t → vs[j]? = some v → Value.okWide P W r b0 t v) → DataW.TrodAll enc P W 0 sp hd ts vs ds ps → ∃ us, RdAll P n ts us ∧ Purs W (fun _ => False) vs us
  | [], vs, ds, ps, _, _, h => by
    obtain ⟨rfl, rfl, rfl⟩ := trodAll_nil h
    exact ⟨[], rfl, rfl, by simp⟩
  | t :: ts, vs, ds, ps, ho, hv, h => by
    obtain ⟨v, vs', d, ds', p, q, rfl, rfl, rfl, h1, h2⟩ := trodAll_cons h
    obtain ⟨u, g1, g2⟩ := arg_pur (ho t (by simp)) (hv 0 t v rfl rfl) h1
    obtain ⟨us, g3, g4⟩ := args_pur (fun t ht => ho t (by simp [ht])) (fun j t' v' ht hv' => hv (j + 1) t' v' ht hv') h2
    exact ⟨u :: us, ⟨u, us, rfl, g2, g3⟩, (Purs.one g1).append g4⟩

theorem trodAll_below {H : Type} {enc : TypeId × Value → H} {P : Program} {W W' : World} (hl : laidOutB P = true) (hb : Below W.heap.size W W') : ∀ {ts : List TypeId} {vs : List Value} {ds : List (DataW H)} {ps : List MemPlace},
    (∀ t ∈ ts, P.readableRec t = true ∧ t < P.types.size) → DataW.TrodAll enc P W 0 (fun _ => true) true ts vs ds ps → DataW.TrodAll enc P W' 0 (fun b => decide (b < W.heap.size)) true ts vs ds ps
  | [], vs, ds, ps, _, h => by
    obtain ⟨rfl, rfl, rfl⟩ := trodAll_nil h
    exact trodAll_mk0
  | t :: ts, vs, ds, ps, ho, h => by
    obtain ⟨v, vs', d, ds', p, q, rfl, rfl, rfl, h1, h2⟩ := trodAll_cons h
    have k0 := h1
    have lt0 : ∀ x ∈ p, x.block < W.heap.size := by obtain ⟨m, hm⟩ := k0; exact DataW.trod_lt m _ _ _ hm
    exact trodAll_cons_mk (Below.trod hl (ho t (by simp)).1 (ho t (by simp)).2 h1 hb lt0) (trodAll_below hl hb (fun t ht => ho t (by simp [ht])) h2)

/-- The row's step from a contract: for all that can come in the law returns true. -/
theorem row_contract {H : Type} {enc : TypeId × Value → H} {P : Program} {f : FuncId} {fn : Func} {s : ChangeSpec} {n : Nat} {tb : TypeId} {ts : List TypeId} (hts : fn.params.toList = ts) (hok : (ts.all fun t => okT P n t && P.readableRec t && decide (t < P.types.size)) = true) (hlaid : laidOutB P = true) (hres : fn.resultTypes = #[tb]) (htb : P.underlying tb = some .bool)
    (hvars : s.vars = []) (hs : ∀ ds : List (DataW H), ds.length = ts.length → s.fn H ds = { results := [.lit (.bool true)], args := ds }) (hc : ∀ vs, RdAll P n ts vs → AC P f vs (fun r => r = .bool true))
    {W : World} {base : Nat} {args : Array Value} {ds gs : List (DataW H)} {before : List MemPlace}
    (hval : ∀ (j : Nat) t v, fn.params[j]? = some t → args[j]? = some v → Value.okWide P W .any base t v) (hW : DataW.Whole enc P fn.params.toList s.vars false W args.toList ds gs before) :
    Calls P f args W fun e W' => ∃ v, e = .returned v ∧ s.post enc P fn false true false false W args v W' := by
  have hW' := hW
  obtain ⟨p, q, hA, hV, rfl, hfz, hnd⟩ := hW
  rw [hvars] at hV
  obtain ⟨rfl, rfl⟩ := trodVars_none hV
  have hdl : ds.length = ts.length := by
    have : ∀ (ts : List TypeId) (vs : List Value) (ds : List (DataW H)) (ps : List MemPlace), DataW.TrodAll enc P W 0 (fun _ => true) true ts vs ds ps → ds.length = ts.length := by
      intro ts
      induction ts with
      | nil => intro vs ds ps h; obtain ⟨_, rfl, _⟩ := trodAll_nil h; rfl
      | cons t ts ih => intro vs ds ps h; obtain ⟨v, vs', d, ds', p, q, rfl, rfl, rfl, _, h2⟩ := trodAll_cons h; simp [ih _ _ _ h2]
    rw [← hts]; exact this _ _ _ _ hA
  have hall : ∀ t ∈ ts, okT P n t = true ∧ P.readableRec t = true ∧ t < P.types.size := by
    intro t ht
    have := List.all_eq_true.1 hok t ht
    simp only [Bool.and_eq_true, decide_eq_true_eq] at this
    exact ⟨this.1.1, this.1.2, this.2⟩
  obtain ⟨us, h1, h2⟩ := args_pur (n := n) (ts := ts) (fun t ht => (hall t ht).1) (fun j t v ht hv => hval j t v (by rw [← hts] at ht; simpa using ht) (by simpa using hv)) (hts ▸ hA)
  have hcall := hc us h1 W (fun _ => False) args.toList (fun _ hb => hb.elim) h2.1 h2.2
  rw [show args.toList.toArray = args by simp] at hcall
  refine hcall.mono ?_
  rintro e W1 ⟨x, r, rfl, rfl, hp, hb⟩
  obtain rfl : x = .bool true := by cases hp; rfl
  refine ⟨_, rfl, ds, [], p ++ [], [], p, [], hW', ?_, ?_, ?_, hb.frame _, fun h => by cases h⟩
  · rw [List.append_nil, hs ds hdl, hres]
    exact trodAll_mk1 (shut_bool htb true)
  · rw [List.append_nil, hs ds hdl]
    exact trodAll_below hlaid hb (fun t ht => (hall t (hts ▸ ht)).2) hA
  · rw [List.append_nil, hs ds hdl, hvars]
    exact rfl

section
variable {P : Program} {n : Nat} {t e : TypeId} {k : IntKind} {vs : List V} {fs : Array Field}
theorem rd_bool (hu : P.underlying t = some .bool) (h : Rd P n t vs) : ∃ b, vs = [.bool b] := by
  cases n with
  | zero => exact h.elim
  | succ n => unfold Rd at h; rw [hu] at h; exact h
theorem rd_int (hu : P.underlying t = some (.int k)) (h : Rd P n t vs) : ∃ i, vs = [.int k i] ∧ (Lit.int k i).wf = true := by
  cases n with
  | zero => exact h.elim
  | succ n => unfold Rd at h; rw [hu] at h; exact h
theorem rd_str (hu : P.underlying t = some .string) (h : Rd P n t vs) : ∃ l, vs = [.str l] ∧ l.length ≤ maxLen := by
  cases n with
  | zero => exact h.elim
  | succ n => unfold Rd at h; rw [hu] at h; exact h
theorem rd_slice (hu : P.underlying t = some (.slice e)) (h : Rd P n t vs) : ∃ es : List (List V), vs = [.ro (P.cellsOf e) (es.map (mkV (tagg P e)))] ∧ es.length ≤ maxLen ∧ ∀ x ∈ es, Rd P (n - 1) e x := by
  cases n with
  | zero => exact h.elim
  | succ n => unfold Rd at h; rw [hu] at h; exact h
theorem rd_struct (hu : P.underlying t = some (.struct fs)) (h : Rd P n t vs) : RdF P (Rd P (n - 1)) fs.toList vs := by
  cases n with
  | zero => exact h.elim
  | succ n => unfold Rd at h; rw [hu] at h; exact h
end
theorem map_map_of {α β γ : Type} {f : α → β} {g : β → γ} {l : List β} {f' : α → γ} (h : ∀ x ∈ l, ∃ y, x = f y) (hg : ∀ y, g (f y) = f' y) : ∃ l' : List α, l.map g = l'.map f' ∧ l'.length = l.length := by
  obtain ⟨l', rfl⟩ := map_of h
  exact ⟨l', by rw [List.map_map]; exact List.map_congr_left fun y _ => hg y, by simp⟩

end Go.Eng

/- Contracts of functions that hand back a row which the caller may write and append to. No condition. -/
set_option linter.unusedSimpArgs false
namespace Go.Eng
open Go.RowKit

/-- The contract: the result is F of a new row's name, the row holds es; the rest of the result holds no memory. -/
def ACO (P : Program) (f : FuncId) (args : List V) (sz : Nat) (ty : TypeId) (R : (Nat → Nat → V) → List V → Prop) : Prop :=
  ∀ (w : World) (N : Nat → Prop) (xs : List Value), (∀ b, N b → b < w.heap.size) → xs.length = args.length → (∀ (i : Nat) x v, xs[i]? = some x → args[i]? = some v → Pur w N x v) →
    Calls P f xs.toArray w (fun e w' => ∃ x F es l, e = .returned x ∧ R F es ∧ Below w.heap.size w w' ∧
      ∀ d v μ N', μ d v = some l → Enc w' N' μ x (F d v) ∧ ObEnc w' N' μ ⟨w, fun _ => False, fun _ _ => none, []⟩ ⟨v, sz, ty, es⟩ l)

theorem ACO.mono {P : Program} {f : FuncId} {args : List V} {sz : Nat} {ty : TypeId} {R R' : (Nat → Nat → V) → List V → Prop} (h : ACO P f args sz ty R) (hr : ∀ F es, R F es → R' F es) : ACO P f args sz ty R' :=
  fun w N xs h1 h2 h3 => (h w N xs h1 h2 h3).mono fun _ _ ⟨x, F, es, l, he, hR, hp⟩ => ⟨x, F, es, l, he, hr F es hR, hp⟩

def flatE (e : V) : Bool := e.cells.all V.flat
def V.reC (q vq d v : Nat) : V → V
  | .sl d' v' sz len => if d' = q ∧ v' = vq then .sl d v sz len else .sl d' v' sz len
  | u => u
def V.re (q vq d v : Nat) : V → V
  | .agg cs => .agg (cs.map (V.reC q vq d v))
  | u => u.reC q vq d v
def V.liteC (q vq : Nat) : V → Bool
  | .sl d' v' _ _ => (d' == q) && (v' == vq)
  | u => u.flat
def V.liteE (q vq : Nat) : V → Bool
  | .agg cs => cs.all (V.liteC q vq)
  | u => u.liteC q vq

section
variable {P : Program} {w0 : Bs} {N0 : Nat → Prop} {Q : Exit → AS → Prop} {S : AS}

theorem Enc.reC {w : World} {N N' : Nat → Prop} {μ μ' : Mu} {q vq d v : Nat} {x : Value} {u : V} (h : Enc w N μ x u) (hl : u.liteC q vq = true) (hμ : ∀ l, μ q vq = some l → μ' d v = some l) : Enc w N' μ' x (u.reC q vq d v) ∧ (u.reC q vq d v).isCell = true := by
  cases h with
  | pur h =>
    cases h with
    | bool b => exact ⟨.pur (.bool b), rfl⟩
    | int k n => exact ⟨.pur (.int k n), rfl⟩
    | str l => exact ⟨.pur (.str l), rfl⟩
    | nils A => exact ⟨.pur (.nils A), rfl⟩
    | fn f => exact ⟨.pur (.fn f), rfl⟩
    | nilp => exact ⟨.pur .nilp, rfl⟩
    | nili => exact ⟨.pur .nili, rfl⟩
    | nilf => exact ⟨.pur .nilf, rfl⟩
    | ifc t x v h1 h2 => exact ⟨.pur (.ifc t x v h1 (h2.of_flat2 h1)), rfl⟩
    | agg | tup | ro | rp | mp => simp [V.liteC, V.flat] at hl
  | slr d' v' sz len g cap h1 h2 h3 =>
    simp only [V.liteC, Bool.and_eq_true, beq_iff_eq] at hl
    obtain ⟨rfl, rfl⟩ := hl
    simp only [V.reC, and_self, if_true]
    exact ⟨.slr d v sz len g cap (hμ _ h1) h2 h3, rfl⟩
  | slv d' v' sz A h1 =>
    simp only [V.liteC, Bool.and_eq_true, beq_iff_eq] at hl
    obtain ⟨rfl, rfl⟩ := hl
    simp only [V.reC, and_self, if_true]
    exact ⟨.slv d v sz A (hμ _ h1), rfl⟩
  | ifc t x v hc h => exact ⟨.pur ((Pur.ifc t x v hl (h.flat2 hc hl)).of_flat hl), rfl⟩
  | ss | bp | agg | tup | whn | clo => simp [V.liteC, V.flat] at hl

theorem Enc.re {w : World} {N N' : Nat → Prop} {μ μ' : Mu} {q vq d v : Nat} {x : Value} {u : V} (h : Enc w N μ x u) (hl : u.liteE q vq = true) (hμ : ∀ l, μ q vq = some l → μ' d v = some l) : Enc w N' μ' x (u.re q vq d v) := by
  have key : ∀ (xs : List Value) (cs : List V), xs.length = cs.length → (∀ (i : Nat) x c, xs[i]? = some x → cs[i]? = some c → Enc w N μ x c) → cs.all (V.liteC q vq) = true → Enc w N' μ' (.agg xs.toArray) (.agg (cs.map (V.reC q vq d v))) := by
    intro xs cs h1 h2 h3
    refine .agg xs _ (by simp [h1]) (fun c hc => ?_) (fun i x c hx hc => ?_)
    · simp only [List.mem_map] at hc
      obtain ⟨c0, hc0, rfl⟩ := hc
      obtain ⟨i, hi⟩ := List.getElem?_of_mem hc0
      have hlt : i < xs.length := by rw [h1]; exact (List.getElem?_eq_some_iff.1 hi).1
      exact ((h2 i xs[i] c0 (List.getElem?_eq_getElem hlt) hi).reC (N' := N') (List.all_eq_true.1 h3 c0 hc0) hμ).2
    · simp only [List.getElem?_map, Option.map_eq_some_iff] at hc
      obtain ⟨c0, hc0, rfl⟩ := hc
      exact ((h2 i x c0 hx hc0).reC (List.all_eq_true.1 h3 c0 (List.mem_of_getElem? hc0)) hμ).1
  cases u with
  | agg cs =>
    cases h with
    | pur h => cases h with
      | agg xs _ h1 h2 h3 => exact key xs cs h1 (fun i x c a b => .pur (h3 i x c a b)) hl
    | agg xs _ h1 h2 h3 => exact key xs cs h1 h3 hl
  | _ => exact (h.reC hl hμ).1

/-- A call that hands back a new row d. -/
theorem awl_callO {ops : List Oper} {i : Nat} {o : Oper} {rest : List Oper} {f : Operand} {fid : FuncId} {fn : Func} {args : Array Operand} {ats : Array TypeId} {vs us : List V} {sz : Nat} {ty : TypeId} {R : (Nat → Nat → V) → List V → Prop} (d : Nat)
    (hg : o.guard = none) (ho : o.op = .call { callee := .value f, args := args, argTypes := ats }) (hf : S.evc true f = some (.fn fid)) (hfn : P.funcs[fid]? = some fn) (hb : fn.body.isSome = true) (hn : (fn.name == "runtime.NumGoroutine") = false)
    (ha : S.args true args.toList = some vs) (hp : S.views vs = some us) (hc : ACO P fid us sz ty R)
    (h : ∀ F es, R F es → ∃ S', ({ S with objs := (d, ⟨S.nx + i, sz, ty, es⟩) :: S.objs } : AS).putv o.dst (F d (S.nx + i)) = some S' ∧ AWL P w0 N0 ops Q (i + 1) rest S') : AWL P w0 N0 ops Q i (o :: rest) S := by
  rintro D a w hD ⟨μ, hr⟩
  refine wpList_plain hg fun K hK => ?_
  have hfv := hr.evc hf rfl
  have hfe : a.eval f = .func (.func fid) #[] #[] := by
    generalize a.eval f = y at hfv
    cases hfv with
    | pur hfv => cases hfv with
      | fn => rfl
  obtain ⟨h1, h2⟩ := args_spec hr rfl ha
  obtain ⟨h3, h4⟩ := views_spec hp
  unfold Oper.wp
  rw [run_call_fn ho hfe hfn hb hn]
  have hcall := hc w N0 (args.toList.map a.eval) (fun b hb => Nat.lt_of_lt_of_le (hr.n0.1 b hb).1 hr.below.size) (by simp [h1, h3]) (fun j x v hx hv => by
    simp only [List.getElem?_map, Option.map_eq_some_iff] at hx
    obtain ⟨y, hy, rfl⟩ := hx
    have hj : j < vs.length := by rw [← h3]; exact (List.getElem?_eq_some_iff.1 hv).1
    exact hr.view (h2 j y vs[j] hy (List.getElem?_eq_getElem hj)) (h4 j vs[j] v (List.getElem?_eq_getElem hj) hv))
  have harr : (args.toList.map a.eval).toArray = args.map a.eval := by apply Array.ext'; simp
  rw [harr] at hcall
  refine hcall.mono ?_
  rintro e w' ⟨x, F, es, l, rfl, hR, hbw, hpx⟩
  obtain ⟨S', hs, hrest⟩ := h F es hR
  have hi : ¬ D i := fun hd => absurd (hD i hd) (by omega)
  have hmono := hr.muSet_mono hi d l
  obtain ⟨hrel, _⟩ := hr.update (D' := fun j => D j ∨ j = i) (d := d) (o' := ⟨S.nx + i, sz, ty, es⟩) (l' := l) (w' := w') (μ' := muSet μ d (S.nx + i) l) hmono (hr.muSet_fresh i d _) (muSet_same _ _ _ _)
    (hr.below.trans (hbw.mono hr.below.size)) (Keeps.of_below hbw _) (fun d1 o1 g c _ h1 h2 => hbw.block g (hr.block_lt h1 h2))
    (fun g c e => by
      have := (hpx d (S.nx + i) (muSet μ d (S.nx + i) l) (fun _ => False) (muSet_same _ _ _ _)).2
      rw [e] at this
      exact .inl (this.1.elim id (fun h => h.elim)))
    (fun N' _ => by
      have := (hpx d (S.nx + i) (muSet μ d (S.nx + i) l) N' (muSet_same _ _ _ _)).2
      cases l with
      | none => exact this
      | some gc => exact ⟨.inl (Nat.le_trans hr.below.size (this.1.elim id (fun h => h.elim))), this.2⟩)
  refine hK _ _ (hrest (fun j => D j ∨ j = i) _ w' (fun j hj => ?_) ⟨_, hrel.putv hs (hpx d (S.nx + i) _ _ (muSet_same _ _ _ _)).1⟩)
  rcases hj with hj | hj
  · have := hD j hj; omega
  · omega

theorem awl_callO1 {ops : List Oper} {i : Nat} {o : Oper} {rest : List Oper} {f : Operand} {fid : FuncId} {fn : Func} {args : Array Operand} {ats : Array TypeId} {vs us : List V} {sz : Nat} {ty : TypeId} {F : Nat → Nat → V} {es : List V} {S' : AS} (d : Nat)
    (hc : ACO P fid us sz ty (fun F' es' => F' = F ∧ es' = es)) (hfn : P.funcs[fid]? = some fn) (hb : fn.body.isSome = true) (hn : (fn.name == "runtime.NumGoroutine") = false)
    (hg : o.guard = none) (ho : o.op = .call { callee := .value f, args := args, argTypes := ats }) (hf : S.evc true f = some (.fn fid))
    (ha : S.args true args.toList = some vs) (hp : S.views vs = some us) (hs : ({ S with objs := (d, ⟨S.nx + i, sz, ty, es⟩) :: S.objs } : AS).putv o.dst (F d (S.nx + i)) = some S')
    (h : AWL P w0 N0 ops Q (i + 1) rest S') : AWL P w0 N0 ops Q i (o :: rest) S :=
  awl_callO d hg ho hf hfn hb hn ha hp hc (fun _ _ ⟨h1, h2⟩ => by subst h1; subst h2; exact ⟨S', hs, h⟩)

def aresL (P : Program) (S : AS) : List ResultVar → Option (List V)
  | [] => some []
  | r :: rs => match aresult P S r, aresL P S rs with
    | some v, some vs => some (v :: vs)
    | _, _ => none

/-- The results as a function of the name of row q of version vq. -/
def aresO (P : Program) (S : AS) (q vq : Nat) (rs : List ResultVar) : Option (Nat → Nat → V) :=
  match aresL P S rs with
  | some [v] => if v.liteE q vq = true then some (fun d w => v.re q vq d w) else none
  | some vs => if vs.all (V.liteE q vq) = true then some (fun d w => .tup (vs.map (V.re q vq d w))) else none
  | none => none

def EndsO (P : Program) (fn : Func) (sz : Nat) (ty : TypeId) (R : (Nat → Nat → V) → List V → Prop) (e : Exit) (S : AS) : Prop :=
  (e = .ret ∨ e = .normal) ∧ ((∃ q o F, get S.objs q = some o ∧ o.sz = sz ∧ o.ty = ty ∧ o.es.all flatE = true ∧ aresO P S q o.v fn.results.toList = some F ∧ R F o.es) ∨
    ∃ F, aresO P S 0 (S.nx + 1) fn.results.toList = some F ∧ R F [])

theorem aresO_run {D : Nat → Prop} {μ : Mu} {a : Act} {w : World} (h : RelM D w0 N0 μ S a w) {fn : Func} {q vq : Nat} {F : Nat → Nat → V} (hv : aresO P S q vq fn.results.toList = some F) :
    ∃ x, (results fn a.tmps).run P w = .ok x w ∧ ∀ d v (μ' : Mu) N', (∀ l, μ q vq = some l → μ' d v = some l) → Enc w N' μ' x (F d v) := by
  have key : ∀ (l : List ResultVar) (vs : List V), aresL P S l = some vs → ∃ xs : List Value, (l.mapM (resSem a.tmps)).run P w = .ok xs w ∧
      xs.length = vs.length ∧ ∀ (i : Nat) x v, xs[i]? = some x → vs[i]? = some v → Enc w (Own N0 μ S) μ x v := by
    intro l
    induction l with
    | nil => intro vs hvs; simp only [aresL, Option.some.injEq] at hvs; subst hvs; exact ⟨[], rfl, rfl, by simp⟩
    | cons q l ih =>
      intro vs hvs
      simp only [aresL] at hvs
      split at hvs
      case h_2 => cases hvs
      rename_i v vs' h1 h2
      injection hvs with hvs
      subst hvs
      obtain ⟨x, hx, hex⟩ := aresult_run h h1
      obtain ⟨xs, hxs, hl, hh⟩ := ih vs' h2
      refine ⟨x :: xs, ?_, by simp [hl], fun i y v hy hv => ?_⟩
      · rw [List.mapM_cons, Sem.run_bind, hx, Result.andThen_ok, Sem.run_bind, hxs, Result.andThen_ok]
        rfl
      · rcases i with _ | i
        · simp at hy hv; subst hy; subst hv; exact hex
        · simp at hy hv; exact hh i y v hy hv
  have hmap : ∀ xs : List Value, (fn.results.toList.mapM (resSem a.tmps)).run P w = .ok xs w →
      (results fn a.tmps).run P w = .ok (if h : xs.toArray.size = 1 then xs.toArray[0] else .tuple xs.toArray) w := by
    intro xs hxs
    rw [results_eq, Sem.run_bind, Array.mapM_eq_mapM_toList, Sem.run_map, hxs]
    rfl
  unfold aresO at hv
  split at hv
  · rename_i v hvs
    split at hv
    case isFalse => cases hv
    rename_i hl
    injection hv with hv
    subst hv
    obtain ⟨xs, h1, h2, h3⟩ := key _ _ hvs
    match xs, h2 with
    | [x], _ => exact ⟨x, hmap [x] h1, fun d v' μ' N' hμ => (h3 0 x _ rfl rfl).re hl hμ⟩
  · rename_i vs hne hvs
    split at hv
    case isFalse => cases hv
    rename_i hl
    injection hv with hv
    subst hv
    obtain ⟨xs, h1, h2, h3⟩ := key _ _ hvs
    refine ⟨.tuple xs.toArray, ?_, fun d v' μ' N' hμ => .tup xs _ (by simp [h2]) (fun i x c hx hc => ?_)⟩
    · rw [hmap xs h1]
      have : ¬ xs.toArray.size = 1 := by
        intro h0
        have hl : vs.length = 1 := by simp at h0; omega
        match vs, hl with
        | [v], _ => exact hne v rfl
      rw [dif_neg this]
    · simp only [List.getElem?_map, Option.map_eq_some_iff] at hc
      obtain ⟨c0, hc0, rfl⟩ := hc
      exact (h3 i x c0 hx hc0).re (List.all_eq_true.1 hl c0 (List.mem_of_getElem? hc0)) hμ
  · cases hv

theorem aco_intro {f : FuncId} {fn : Func} {c : Code} {args : List V} {sz : Nat} {ty : TypeId} {R : (Nat → Nat → V) → List V → Prop} (hf : P.funcs[f]? = some fn) (hb : fn.body = some c) (hl : args.length ≤ fn.ntmps)
    (h : ∀ w0 N0, AW P w0 N0 c (EndsO P fn sz ty R) ⟨env0 0 args, [], 0, fn.ntmps⟩) : ACO P f args sz ty R := by
  intro w N xs hN hlen hp
  refine calls_of_wp hf hb (wp_mono (h ⟨w, fun _ => False, fun _ _ => none, []⟩ N _ w ⟨fun _ _ => none, ⟨rfl, ?_, Bs.Below.refl _, ⟨fun b hb => ⟨hN b hb, fun h => h⟩, fun _ _ _ h => by cases h⟩, fun d v hv => absurd rfl hv, fun d o hd => ?_, fun d o _ _ _ _ _ hd => ?_, fun t v hv => ?_⟩⟩) ?_)
  · simp only [Array.size_append, List.size_toArray, Array.size_replicate]; omega
  · simp [get] at hd
  · simp [get] at hd
  · obtain ⟨_, h2⟩ := get_env0 hv
    simp only [Nat.sub_zero] at h2
    have ht : t < args.length := (List.getElem?_eq_some_iff.1 h2).1
    refine ⟨by simp only; omega, .pur ?_⟩
    have hx : xs[t]? = some xs[t] := List.getElem?_eq_getElem (by omega)
    have := hp t xs[t] v hx h2
    have hget : (xs.toArray ++ Array.replicate (fn.ntmps - xs.toArray.size) undef).getD t undef = xs[t] := by
      rw [Array.getD_eq_getD_getElem?, Array.getElem?_append_left (by simp; omega)]
      simp [hx]
    rw [hget]
    exact this.keep (Keeps.refl _ _) (fun b hb ho => by
      rcases ho with h0 | ⟨d, o, c, h1, _⟩
      · exact h0
      · simp [get] at h1)
  · rintro e a' w' ⟨S', ⟨he, hE⟩, ⟨μ, hr⟩⟩
    have key : ∃ v, (results fn a'.tmps).run P w' = .ok v w' ∧ ∃ x F es l, Ending.returned v = .returned x ∧ R F es ∧ Below w.heap.size w w' ∧
        ∀ d v μ N', μ d v = some l → Enc w' N' μ x (F d v) ∧ ObEnc w' N' μ ⟨w, fun _ => False, fun _ _ => none, []⟩ ⟨v, sz, ty, es⟩ l := by
      rcases hE with ⟨q, o, F, hq, hsz, hty, hfl, hres, hR⟩ | ⟨F, hres, hR⟩
      · obtain ⟨x, hx, hex⟩ := aresO_run hr hres
        obtain ⟨l, hl, hob⟩ := hr.objs q o hq
        refine ⟨x, hx, x, F, o.es, l, rfl, hR, hr.below.plain, fun d v μ' N' hμ => ⟨hex d v μ' N' (fun l' hl' => ?_), ?_⟩⟩
        · rw [hl] at hl'; injection hl' with hl'; subst hl'; exact hμ
        · subst hsz; subst hty
          cases l with
          | none => exact hob
          | some gc =>
            obtain ⟨h1, h2, h3, h4, arr, h5, h6, h7⟩ := hob
            refine ⟨h1, h2, h3, h4, arr, h5, h6, fun k e j c he' hj => ?_⟩
            obtain ⟨y, hy, hey⟩ := h7 k e j c he' hj
            have hfc : c.flat = true := List.all_eq_true.1 (List.all_eq_true.1 hfl e (List.mem_of_getElem? he')) c (List.mem_of_getElem? hj)
            refine ⟨y, hy, ?_⟩
            exact .pur ((hey.flatP hfc).of_flat hfc)
      · obtain ⟨x, hx, hex⟩ := aresO_run hr hres
        refine ⟨x, hx, x, F, [], none, rfl, hR, hr.below.plain, fun d v μ' N' hμ => ⟨hex d v μ' N' (fun l' hl' => ?_), rfl⟩⟩
        exfalso
        rcases hr.fresh 0 (S'.nx + 1) (by rw [hl']; simp) with h1 | ⟨j, hj, _⟩
        · omega
        · exact hj
    rcases he with rfl | rfl
    · exact ⟨hr.defers, key⟩
    · exact ⟨hr.defers, key⟩

theorem endso_row {fn : Func} {sz : Nat} {ty : TypeId} {R : (Nat → Nat → V) → List V → Prop} {F : Nat → Nat → V} (q : Nat) {o : Ob} (ho : get S.objs q = some o) (hsz : o.sz = sz) (hty : o.ty = ty) (hfl : o.es.all flatE = true) (hr : aresO P S q o.v fn.results.toList = some F) (h : R F o.es) : EndsO P fn sz ty R .ret S :=
  ⟨.inl rfl, .inl ⟨q, o, F, ho, hsz, hty, hfl, hr, h⟩⟩
theorem endso_none {fn : Func} {sz : Nat} {ty : TypeId} {R : (Nat → Nat → V) → List V → Prop} {F : Nat → Nat → V} (hr : aresO P S 0 (S.nx + 1) fn.results.toList = some F) (h : R F []) : EndsO P fn sz ty R .ret S :=
  ⟨.inl rfl, .inr ⟨F, hr, h⟩⟩

attribute [simp] aresO aresL V.liteE V.liteC V.re V.reC flatE

end
end Go.Eng

/- Comparing a slice with nil: the answer is known only of a slice that has elements. No condition. -/
set_option linter.unusedSimpArgs false
namespace Go.Eng
open Go.RowKit

def V.slen : V → Option Nat
  | .ro _ es => some es.length
  | .nils => some 0
  | .sl _ _ _ n => some n
  | .ss _ _ _ _ n => some n
  | _ => none
attribute [simp] V.slen
def tslice (P : Program) (t : TypeId) : Bool := match P.underlying t with | some (.slice _) => true | _ => false

section
variable {P : Program} {w0 : Bs} {N0 : Nat → Prop} {Q : Exit → AS → Prop} {S : AS}

theorem Enc.slen {w : World} {N : Nat → Prop} {μ : Mu} {x : Value} {v : V} {n : Nat} (h : Enc w N μ x v) (hn : v.slen = some n) : ∃ A l c, x = .slice A l c ∧ (A = none → n = 0) := by
  cases h with
  | pur h =>
    cases h with
    | ro A ad m cap sz es g h1 h2 h3 h4 =>
      simp only [V.slen, Option.some.injEq] at hn
      refine ⟨A, m, cap, rfl, fun hA => ?_⟩
      rcases Nat.eq_zero_or_pos m with h0 | h0
      · omega
      · have := (h4 h0).1; rw [hA] at this; cases this
    | nils A => simp only [V.slen, Option.some.injEq] at hn; exact ⟨A, 0, 0, rfl, fun _ => hn.symm⟩
    | _ => simp [V.slen] at hn
  | slr d v sz len g cap h1 h2 h3 => exact ⟨_, _, _, rfl, fun hA => by cases hA⟩
  | slv d v sz A h1 => simp only [V.slen, Option.some.injEq] at hn; exact ⟨A, 0, 0, rfl, fun _ => hn.symm⟩
  | ss d v sz off len g c cap A h1 h2 h3 =>
    simp only [V.slen, Option.some.injEq] at hn
    refine ⟨A, len, c, rfl, fun hA => ?_⟩
    rcases Nat.eq_zero_or_pos len with h0 | h0
    · omega
    · have := (h3 h0).2; rw [hA] at this; cases this
  | _ => simp [V.slen] at hn

theorem run_equal_nil {t e : TypeId} {w : World} (hty : P.underlying t = some (.slice e)) (A : Option Addr) (m c l c' : Nat) : ∀ d, (Op.equalIn (d + 1) t (.slice A m c) (.slice none l c')).run P w = .ok A.isNone w := by
  intro d
  have hu := run_underlying (w := w) hty
  cases A with
  | none => simp [Op.equalIn, hu]
  | some ad => simp [Op.equalIn, hu]

theorem awl_isnil {ops : List Oper} {i : Nat} {o : Oper} {rest : List Oper} {x : Operand} {t t' : TypeId} {v : V} {n l c : Nat} (hg : o.guard = none) (ho : o.op = .binOp .eql t x (.const (.slice none l c)) t') (hx : S.evc true x = some v) (hn : v.slen = some n) (ht : tslice P t = true)
    (h : ∀ b : Bool, (b = true → n = 0) → ∃ S', S.putv o.dst (.bool b) = some S' ∧ AWL P w0 N0 ops Q (i + 1) rest S') : AWL P w0 N0 ops Q i (o :: rest) S := by
  rintro D a w hD ⟨μ, hr⟩
  refine wpList_plain hg fun K hK => ?_
  obtain ⟨A, m, cc, he, hA⟩ := (hr.evc hx rfl).slen hn
  obtain ⟨S', hs, hrest⟩ := h A.isNone (fun hb => hA (by simpa using hb))
  have hty : ∃ e, P.underlying t = some (.slice e) := by
    unfold tslice at ht
    split at ht
    · exact ⟨_, by assumption⟩
    · cases ht
  obtain ⟨e, hty⟩ := hty
  unfold Oper.wp
  have hrun : (execOp a.eval o).run P w = .ok (.value (.bool A.isNone)) w := by
    unfold execOp
    rw [ho]
    have hq := run_equal_nil (w := w) hty A m cc l c 9999
    have hb : (binOp .eql t (.slice A m cc) (.slice none l c) : Sem Value) = (do pure (.bool (← Op.equalIn (9999 + 1) t (.slice A m cc) (.slice none l c)))) := rfl
    have he2 : a.eval (.const (.slice none l c)) = .slice none l c := rfl
    have hgd : (eqGuard .eql t x (.const (.slice none l c)) (.slice A m cc) (.slice none l c) : Sem Unit) = pure () := rfl
    simp only [he, he2, hgd, hb, Sem.run_bind, Sem.run_pure, Result.andThen_ok, hq]
  rw [hrun]
  exact hK _ _ (hrest D _ w (fun j hj => Nat.lt_succ_of_lt (hD j hj)) ⟨μ, hr.putv hs (.pur (.bool _))⟩)
end
end Go.Eng
