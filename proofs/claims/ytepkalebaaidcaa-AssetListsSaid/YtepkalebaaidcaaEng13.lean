/- What simp may open to run an abstract state; short rules for a region and what follows. No condition. -/
import Derived.Test.YtepkalebaaidcaaEng12
namespace Go.Eng

attribute [simp] eqC eqL AS.fb nth runOps astep aval aeff acore AS.evc AS.ev get constV AS.place V.part V.cells AS.putv abin aint isShift ashift astr aun AS.gd AS.evs AS.evo abounds afill tplace cellOk asets AS.elems V.setPart
attribute [simp] AS.viewC AS.viewL AS.view AS.views AS.args V.pureV V.pureE V.pureC V.isCell keepL AS.keep aresult aresultsL aresults env0 V.light V.flat

def AS.bump (S : AS) (n : Nat) : AS := { S with nx := S.nx + n }
attribute [simp] AS.bump

/-- A region without a call, and what is kept behind it. -/
def runR (P : Program) (l : List Oper) (L M : List Nat) (S : AS) : Option AS :=
  match runOps P l 0 l S with
  | some S' => some ((S'.bump l.length).keep L M)
  | none => none
attribute [simp] runR

section
variable {P : Program} {w0 : World} {N0 : Nat → Prop} {Q : Exit → AS → Prop} {S : AS}

theorem aw_one {id : Nat} {l : List Oper} {S' : AS} (L M : List Nat) (hs : runR P l L M S = some S') (h : Q .normal S') : AW P w0 N0 (.region id l.toArray false) Q S := by
  unfold runR at hs
  split at hs
  case h_2 => cases hs
  rename_i S1 h1
  injection hs with hs
  subst hs
  intro a w hr
  refine wp_mono (aw_run (Q := fun e T => e = .normal ∧ T = S1.bump l.length) (id := id) h1 ⟨rfl, rfl⟩ a w hr) ?_
  rintro e a' w' ⟨T, ⟨rfl, rfl⟩, hR⟩
  exact ⟨_, h, le_keep _ L M _ _ _ _ hR⟩

theorem aw_step {id : Nat} {l : List Oper} {rest : Code} {S' : AS} (L M : List Nat) (hs : runR P l L M S = some S') (h : AW P w0 N0 rest Q S') : AW P w0 N0 (.seq (.region id l.toArray false) rest) Q S :=
  aw_seq (aw_one L M hs h)

/-- if, with something behind it. -/
theorem aw_if {c : Operand} {x y rest : Code} {t : Bool} (hc : S.evc true c = some (.bool t)) (ht : t = true → AW P w0 N0 x (ethen (AW P w0 N0 rest Q) Q) S) (hf : t = false → AW P w0 N0 y (ethen (AW P w0 N0 rest Q) Q) S) : AW P w0 N0 (.seq (.cond c x y) rest) Q S :=
  aw_seq (aw_cond hc ht hf)

/-- if without else. -/
theorem aw_if1 {c : Operand} {x rest : Code} {t : Bool} (hc : S.evc true c = some (.bool t)) (ht : t = true → AW P w0 N0 x (ethen (AW P w0 N0 rest Q) Q) S) (hf : t = false → AW P w0 N0 rest Q S) : AW P w0 N0 (.seq (.cond c x .skip) rest) Q S :=
  aw_seq (aw_cond hc ht (fun h => aw_skip (hf h)))

theorem aw_keep {c : Code} (L M : List Nat) {S' : AS} (hS : S.keep L M = S') (h : AW P w0 N0 c Q S') : AW P w0 N0 c Q S := by
  subst hS
  exact aw_le (le_keep S L M) h


theorem ends_ret {fn : Func} {R : V → Prop} {r : V} (hr : aresults P S fn.results.toList = some r) (h : R r) : Ends P fn R .ret S := by
  unfold Ends
  simp only [hr]
  exact h
theorem ends_normal {fn : Func} {R : V → Prop} {r : V} (hr : aresults P S fn.results.toList = some r) (h : R r) : Ends P fn R .normal S := by
  unfold Ends
  simp only [hr]
  exact h

/-- Continues with the first operation of a region (one that is no call). -/
theorem awl_run1 {ops : List Oper} {i : Nat} {o : Oper} {rest : List Oper} {S' : AS} (hs : astep P ops i o S = some S') (h : AWL P w0 N0 ops Q (i + 1) rest S') : AWL P w0 N0 ops Q i (o :: rest) S := awl_step hs h

theorem awl_nil_le {ops : List Oper} {i : Nat} {S' : AS} (hle : (S.bump i).le S') (h : Q .normal S') : AWL P w0 N0 ops Q i [] S := by
  intro D a w hD hr
  obtain ⟨T, ⟨_, rfl⟩, hT⟩ := awl_nil (P := P) (w0 := w0) (N0 := N0) (ops := ops) (i := i) (S := S) (Q := fun e T => e = .normal ∧ T = S.bump i) ⟨rfl, rfl⟩ D a w hD hr
  exact wpList_nil ⟨S', h, hle _ _ _ _ hT⟩

theorem awl_run_le {ops : List Oper} : ∀ {l : List Oper} {i : Nat} {S S1 S' : AS}, runOps P ops i l S = some S1 → (S1.bump (i + l.length)).le S' → Q .normal S' → AWL P w0 N0 ops Q i l S
  | [], i, S, S1, S', hs, hle, h => by
    simp only [runOps, Option.some.injEq] at hs
    subst hs
    exact awl_nil_le hle h
  | o :: rest, i, S, S1, S', hs, hle, h => by
    simp only [runOps] at hs
    split at hs
    case h_2 => cases hs
    rename_i S2 h1
    refine awl_step h1 (awl_run_le hs ?_ h)
    rw [show i + 1 + rest.length = i + (o :: rest).length by simp; omega]
    exact hle

/-- The rest of a region without a call. -/
theorem awl_end {ops l : List Oper} {i : Nat} {S' : AS} (L M : List Nat) (hs : (match runOps P ops i l S with | some S1 => some ((S1.bump (i + l.length)).keep L M) | none => none) = some S') (h : Q .normal S') : AWL P w0 N0 ops Q i l S := by
  split at hs
  case h_2 => cases hs
  rename_i S1 h1
  injection hs with hs
  subst hs
  exact awl_run_le h1 (le_keep _ L M) h

theorem awl_app {ops : List Oper} : ∀ {l1 l2 : List Oper} {i : Nat} {S S1 : AS}, runOps P ops i l1 S = some S1 → AWL P w0 N0 ops Q (i + l1.length) l2 S1 → AWL P w0 N0 ops Q i (l1 ++ l2) S
  | [], l2, i, S, S1, hs, h => by
    simp only [runOps, Option.some.injEq] at hs
    subst hs
    exact h
  | o :: rest, l2, i, S, S1, hs, h => by
    simp only [runOps] at hs
    split at hs
    case h_2 => cases hs
    rename_i S2 h1
    refine awl_step h1 (awl_app hs ?_)
    rw [show i + 1 + rest.length = i + (o :: rest).length by simp; omega]
    exact h

/-- The first n operations of a region, none of them a call. -/
theorem awl_go {ops l : List Oper} {i : Nat} {S1 : AS} (n : Nat) (hs : runOps P ops i (l.take n) S = some S1) (h : AWL P w0 N0 ops Q (i + (l.take n).length) (l.drop n) S1) : AWL P w0 N0 ops Q i l S := by
  have := awl_app (l2 := l.drop n) hs h
  rwa [List.take_append_drop] at this

/-- A call whose result is known. -/
theorem awl_call1 {ops : List Oper} {i : Nat} {o : Oper} {rest : List Oper} {f : Operand} {fid : FuncId} {fn : Func} {args : Array Operand} {ats : Array TypeId} {vs : List V} {res : V} {S' : AS}
    (hc : AC P fid vs (fun r => r = res)) (hfn : P.funcs[fid]? = some fn) (hb : fn.body.isSome = true) (hn : (fn.name == "runtime.NumGoroutine") = false)
    (hg : o.guard = none) (ho : o.op = .call { callee := .value f, args := args, argTypes := ats }) (hf : S.evc true f = some (.fn fid))
    (ha : S.args true args.toList = some vs) (hp : vs.all V.pureV = true) (hs : S.putv o.dst res = some S') (h : AWL P w0 N0 ops Q (i + 1) rest S') : AWL P w0 N0 ops Q i (o :: rest) S :=
  awl_call hg ho hf hfn hb hn ha hp hc (fun r hr => by subst hr; exact ⟨S', hs, h⟩)

/-- A call whose result is known, which reads slices of the call's own. -/
theorem awl_call1v {ops : List Oper} {i : Nat} {o : Oper} {rest : List Oper} {f : Operand} {fid : FuncId} {fn : Func} {args : Array Operand} {ats : Array TypeId} {vs us : List V} {res : V} {S' : AS}
    (hc : AC P fid us (fun r => r = res)) (hfn : P.funcs[fid]? = some fn) (hb : fn.body.isSome = true) (hn : (fn.name == "runtime.NumGoroutine") = false)
    (hg : o.guard = none) (ho : o.op = .call { callee := .value f, args := args, argTypes := ats }) (hf : S.evc true f = some (.fn fid))
    (ha : S.args true args.toList = some vs) (hp : S.views vs = some us) (hl : res.light = true) (hs : S.putv o.dst res = some S') (h : AWL P w0 N0 ops Q (i + 1) rest S') : AWL P w0 N0 ops Q i (o :: rest) S :=
  awl_call_view hg ho hf hfn hb hn ha hp hc (fun r hr => by subst hr; exact ⟨hl, S', hs, h⟩)
end
end Go.Eng
