/- Short rules for regions whose order is left open and for guarded calls. No condition. -/
import Derived.Test.YtepkalebaaidcaaEng13
import Derived.Test.YtepkalebaaidcaaEng15
set_option linter.unusedSimpArgs false
namespace Go.Eng

attribute [simp] runO AS.gv wrapG

/-- A region whose order is left open, without a call, and what is kept behind it. -/
def runD (P : Program) (l : List Oper) (ord : List (Nat × List Nat)) (L M : List Nat) (S : AS) : Option AS :=
  match runO P l ord S with
  | some S' => some ((S'.bump l.length).keep L M)
  | none => none
attribute [simp] runD

section
variable {P : Program} {w0 : World} {N0 : Nat → Prop} {Q : Exit → AS → Prop} {S : AS}

theorem aw_done {id : Nat} {l : List Oper} {S' : AS} (ord : List (Nat × List Nat)) (L M : List Nat) (hm : P.follows .mixedOrders = true) (hg : (goodOrder l (Array.replicate l.length false) ord && (mkOk l && ord.length == l.length)) = true) (hs : runD P l ord L M S = some S') (h : Q .normal S') :
    AW P w0 N0 (.region id l.toArray true) Q S := by
  unfold runD at hs
  split at hs
  case h_2 => cases hs
  rename_i S1 h1
  injection hs with hs
  subst hs
  exact aw_draw ord hm hg (awo_run h1 (le_keep _ L M) h)

theorem aw_dstep {id : Nat} {l : List Oper} {rest : Code} {S' : AS} (ord : List (Nat × List Nat)) (L M : List Nat) (hm : P.follows .mixedOrders = true) (hg : (goodOrder l (Array.replicate l.length false) ord && (mkOk l && ord.length == l.length)) = true) (hs : runD P l ord L M S = some S') (h : AW P w0 N0 rest Q S') :
    AW P w0 N0 (.seq (.region id l.toArray true) rest) Q S := aw_seq (aw_done ord L M hm hg hs h)

theorem awo_app {ops : List Oper} : ∀ {l1 l2 : List (Nat × List Nat)} {S S1 : AS}, runO P ops l1 S = some S1 → AWO P w0 ops Q l2 S1 → AWO P w0 ops Q (l1 ++ l2) S
  | [], l2, S, S1, hs, h => by
    simp only [runO, Option.some.injEq] at hs
    subst hs
    exact h
  | (i, ks) :: l, l2, S, S1, hs, h => by
    simp only [runO] at hs
    split at hs
    case h_2 => cases hs
    rename_i o ho
    split at hs
    case isFalse => cases hs
    rename_i hks
    split at hs
    case h_2 => cases hs
    rename_i S2 h2
    rw [nth_eq] at ho
    exact ⟨o, S2, ho, hks, .inl h2, awo_app hs h⟩

/-- The first n operations in the order, none of them a call. -/
theorem awo_go {ops : List Oper} {l : List (Nat × List Nat)} {S1 : AS} (n : Nat) (hs : runO P ops (l.take n) S = some S1) (h : AWO P w0 ops Q (l.drop n) S1) : AWO P w0 ops Q l S := by
  have := awo_app (l2 := l.drop n) hs h
  rwa [List.take_append_drop] at this

/-- The rest of the order, without a call. -/
theorem awo_end {ops : List Oper} {l : List (Nat × List Nat)} {S' : AS} (L M : List Nat) (hs : runD P ops l L M S = some S') (h : Q .normal S') : AWO P w0 ops Q l S := by
  unfold runD at hs
  split at hs
  case h_2 => cases hs
  rename_i S1 h1
  injection hs with hs
  subst hs
  exact awo_run h1 (le_keep _ L M) h

/-- A call whose result is known. -/
theorem awo_call {ops : List Oper} {i : Nat} {ks : List Nat} {l : List (Nat × List Nat)} {o : Oper} {c : Bool} {f : Operand} {fid : FuncId} {fn : Func} {args : Array Operand} {ats : Array TypeId} {vs : List V} {res : V} {S' : AS}
    (hc : c = true → AC P fid vs (fun r => r = res)) (hfn : P.funcs[fid]? = some fn) (hb : fn.body.isSome = true) (hn : (fn.name == "runtime.NumGoroutine") = false) (hi : nth ops i = some o) (hks : (ks.all fun d => (get S.objs d).isNone) = true)
    (hg : S.gv ops o = some c) (ho : o.op = .call { callee := .value f, args := args, argTypes := ats }) (hf : S.evc c f = some (.fn fid)) (ha : S.args c args.toList = some vs) (hp : vs.all V.pureV = true) (hs : S.putv o.dst (wrapG o c res) = some S') (h : AWO P w0 ops Q l S') : AWO P w0 ops Q ((i, ks) :: l) S := by
  rw [nth_eq] at hi
  exact ⟨o, S', hi, hks, .inr (.inl ⟨c, f, args, ats, fid, fn, vs, res, hg, ho, hf, hfn, hb, hn, ha, hp, hc, hs⟩), h⟩

/-- A guarded call whose result is known, in a plain region. -/
theorem awl_gcall {ops : List Oper} {i : Nat} {o : Oper} {rest : List Oper} {c : Bool} {f : Operand} {fid : FuncId} {fn : Func} {args : Array Operand} {ats : Array TypeId} {vs : List V} {res : V} {S' : AS}
    (hc : c = true → AC P fid vs (fun r => r = res)) (hfn : P.funcs[fid]? = some fn) (hb : fn.body.isSome = true) (hn : (fn.name == "runtime.NumGoroutine") = false)
    (hg : S.gv ops o = some c) (ho : o.op = .call { callee := .value f, args := args, argTypes := ats }) (hf : S.evc c f = some (.fn fid)) (ha : S.args c args.toList = some vs) (hp : vs.all V.pureV = true) (hs : S.putv o.dst (wrapG o c res) = some S') (h : AWL P w0 N0 ops Q (i + 1) rest S') : AWL P w0 N0 ops Q i (o :: rest) S :=
  awl_st (.inr (.inl ⟨c, f, args, ats, fid, fn, vs, res, hg, ho, hf, hfn, hb, hn, ha, hp, hc, hs⟩)) h

/-- A loop over a counter: states 'st k nx', the invariant 'Inv k', the bound n. -/
theorem aw_count {c : Code} (st : Nat → Nat → AS) (Inv : Nat → Prop) (n : Nat) (nx0 : Nat) (h0 : Inv 0) (hS : S.le (st 0 nx0))
    (round : ∀ k nx, k ≤ n → Inv k → AW P w0 N0 c (ethen (fun S' => k < n ∧ Inv (k + 1) ∧ ∃ nx', S'.le (st (k + 1) nx')) Q) (st k nx)) : AW P w0 N0 (.loop c) Q S := by
  refine aw_loop (fun x : Nat × Nat => st x.1 x.2) (fun x => x.1 ≤ n ∧ Inv x.1) (fun x => n - x.1) (0, nx0) ⟨Nat.zero_le _, h0⟩ hS ?_
  rintro ⟨k, nx⟩ ⟨hk, hI⟩
  refine (round k nx hk hI).mono ?_
  intro e T hT
  cases e with
  | normal =>
    obtain ⟨h1, h2, nx', h3⟩ := hT
    exact ⟨(k + 1, nx'), ⟨h1, h2⟩, by simp only; omega, h3⟩
  | _ => exact hT
end
end Go.Eng
