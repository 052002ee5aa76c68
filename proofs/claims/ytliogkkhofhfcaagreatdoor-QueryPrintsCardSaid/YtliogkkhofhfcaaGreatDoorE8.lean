import Derived.Test.YtliogkkhofhfcaaGreatDoorE7
import Derived.Recover
/- Deferred closures that recover. No condition. -/
set_option linter.unusedSimpArgs false
namespace Go.Eng
open Go.RowKit

/-- What recover finds in a frame of the mode u, and the mode that it leaves. -/
def recv : FrameMode → Value × FrameMode
  | .panicking ({ v, recovered := false, goexit := false } :: older) => (v, .panicking ({ v, recovered := true } :: older))
  | u => (.nilIface, u)

/-- The contract of a deferred closure: run by a frame of the mode u, on captured values that read as args, with the objects ins, it leaves the objects outs, as R says, and the mode u'. -/
def ACD (P : Program) (f : FuncId) (args : List V) (ins : List (Nat × Ob)) (u u' : FrameMode) (R : List (Nat × Ob) → Prop) : Prop :=
  ∀ (B : Bs) (N : Nat → Prop) (μ : Mu) (nx : Nat) (xs : List Value), xs.length = args.length → B.df = [] →
    RelM (fun _ => False) B N μ ⟨env0 0 args, ins, nx, args.length⟩ ⟨xs.toArray, []⟩ B.w →
    CallsD P f xs.toArray u B.w (fun e q w' => ∃ x outs nx' μ', e = .returned x ∧ q = u' ∧ R outs ∧ nx ≤ nx' ∧ RelM (fun _ => False) B N μ' ⟨[], outs, nx', 0⟩ ⟨#[], []⟩ w')

/-- What must hold where such a closure ends. -/
def EndsD (R : List (Nat × Ob) → Prop) (nx : Nat) : Exit → AS → Prop
  | .ret, S | .normal, S => nx ≤ S.nx ∧ ∃ outs, (∀ k o, get outs k = some o → get S.objs k = some o) ∧ R outs
  | _, _ => False

section
variable {P : Program} {w0 : Bs} {N0 : Nat → Prop} {Q : Exit → AS → Prop} {S : AS}

theorem opsS_of_list {ops : Array Oper} {Q' : Exit → Act → World → Prop} {QS : Exit → Act → List Frame → World → Prop} {cs : List Frame} (hout : ∀ a w, ¬ Q' .outgrown a w) (hQ : ∀ e a w, Q' e a w → QS e a cs w) :
    ∀ (l : List Oper) (k : Nat) (a : Act) (w : World), (∀ j, l[j]? = ops[k + j]?) → wpList P ops Q' l a w → wpOpsS P ops QS (List.range' k l.length) a cs w
  | [], k, a, w, _, h => hQ _ _ _ h
  | o :: l, k, a, w, hk, h => by
    have h0 : ops[k]? = some o := by simpa using (hk 0).symm
    have ih := fun a w => opsS_of_list hout hQ l (k + 1) a w (fun j => by have := hk (j + 1); simpa [Nat.add_assoc, Nat.add_comm 1 j] using this)
    simp only [List.length_cons, List.range'_succ, wpOpsS, h0]
    unfold wpList at h
    split at h
    · rename_i hw
      rw [if_pos hw]
      have h1 : o.wp P a w (wpList P ops Q' l) Q' := by
        rcases h with h | ⟨_, a', w', h⟩
        · exact h
        · exact (hout _ _ h).elim
      unfold Oper.wp at h1
      generalize (execOp a.eval o).run P w = r at h1 ⊢
      cases r with
      | ok n w' =>
        cases n <;> simp only [Oper.upon] at h1 ⊢ <;> first | exact ih _ _ h1 | (exact h1.elim) | skip
        · refine h1.mono ?_
          intro e w'' he
          cases e with
          | returned v => exact ih _ _ he
          | panicked ch => exact hQ _ _ _ he
          | outgrown => obtain ⟨a', w3, h3⟩ := he; exact (hout _ _ h3).elim
        · exact h1.mono fun v w'' he => ih _ _ he
      | halt hh w' =>
        cases hh <;> simp only [Oper.upon] at h1 ⊢ <;> first | exact hQ _ _ _ h1 | (exact h1.elim)
    · rename_i hw
      rw [if_neg hw]
      exact ih _ _ h

theorem recoverD_mode {c₀ : Frame} {cs : List Frame} {u : FrameMode} (hu : c₀.mode = u) :
    (match recoverD (c₀ :: cs) with | some (v, cs') => (v, cs') | none => (.nilIface, c₀ :: cs)) = ((recv u).1, { c₀ with mode := (recv u).2 } :: cs) := by
  have hc : ({ c₀ with mode := u } : Frame) = c₀ := by subst hu; rfl
  simp only [recoverD, hu]
  split
  · rename_i v cs' h
    split at h
    · rename_i v' older
      simp only [Option.some.injEq, Prod.mk.injEq] at h
      obtain ⟨rfl, rfl⟩ := h
      rfl
    · cases h
  · rename_i h
    split at h
    · cases h
    · rename_i hne
      have : recv u = (.nilIface, u) := by
        unfold recv
        split
        · rename_i v older
          exact absurd rfl (hne v older)
        · rfl
      rw [this]
      simp only
      rw [hc]

/-- A closure that begins with recover(). -/
theorem acd_recover {f : FuncId} {fn : Func} {id : Nat} {o0 : Oper} {l : List Oper} {rest : Code} {args : List V} {ins : List (Nat × Ob)} {u : FrameMode} {v : V} {R : List (Nat × Ob) → Prop} {d0 : Nat} (hf : P.funcs[f]? = some fn) (hb : fn.body = some (.seq (.region id (o0 :: l).toArray false) rest)) (hl : args.length ≤ fn.ntmps)
    (ho : o0.op = .call { callee := .builtin .recover, args := #[], argTypes := #[] }) (hg : o0.guard = none) (hd : o0.dst = some d0) (hd0 : d0 < fn.ntmps) (hv : ∀ w N, Pur w N (recv u).1 v)
    (h : ∀ w0 N0 nx, AWL P w0 N0 (o0 :: l) (ethen (AW P w0 N0 rest (EndsD R nx)) (EndsD R nx)) 1 l ⟨(d0, v) :: env0 0 args, ins, nx, fn.ntmps⟩)
    (hres : fn.results = #[]) : ACD P f args ins u (recv u).2 R := by
  intro B N μ nx xs hlen hdf hr
  refine callsD_of_wpS hf hb (fun c₀ cs hu => wpS_seq (wpS_region ?_))
  have hrel := hr.enter hlen hl hdf
  have hrel2 : RelM (fun _ => False) B N μ ⟨(d0, v) :: env0 0 args, ins, nx, fn.ntmps⟩ (Act.put { tmps := xs.toArray ++ Array.replicate (fn.ntmps - xs.toArray.size) undef, defers := [] } o0.dst (recv u).1) B.w := by
    rw [hd]; exact hrel.put hd0 (.pur (hv _ _))
  have hwp := h B N nx (fun _ => False) _ B.w (fun j hj => hj.elim) ⟨μ, hrel2⟩
  have hend : ∀ e a w', post B N (EndsD R nx) e a w' → bodyPostS P fn c₀ cs (fun e q w' => ∃ x outs nx' μ', e = .returned x ∧ q = (recv u).2 ∧ R outs ∧ nx ≤ nx' ∧ RelM (fun _ => False) B N μ' ⟨[], outs, nx', 0⟩ ⟨#[], []⟩ w') e a ({ c₀ with mode := (recv u).2 } :: cs) w' := by
    rintro e a w' ⟨S', hE, μ', hr'⟩
    have key : nx ≤ S'.nx ∧ (∃ outs, (∀ k o, get outs k = some o → get S'.objs k = some o) ∧ R outs) → a.defers = [] ∧ ∃ u', { c₀ with mode := (recv u).2 } :: cs = { c₀ with mode := u' } :: cs ∧ ∃ v, (results fn a.tmps).run P w' = .ok v w' ∧
        ∃ x outs nx' μ', Ending.returned v = .returned x ∧ u' = (recv u).2 ∧ R outs ∧ nx ≤ nx' ∧ RelM (fun _ => False) B N μ' ⟨[], outs, nx', 0⟩ ⟨#[], []⟩ w' := by
      rintro ⟨hnx, outs, h1, h2⟩
      refine ⟨by rw [hr'.defers, hdf], (recv u).2, rfl, .tuple #[], by rw [results_eq, hres]; simp [Array.mapM_eq_mapM_toList], .tuple #[], outs, S'.nx, μ', rfl, rfl, h2, hnx, ?_⟩
      have hx : Enc w' (Own N μ' S') μ' (.bool true) (.bool true) := .pur (.bool _)
      have := hr'.leave hdf hx h1
      refine ⟨hdf.symm, rfl, this.below, this.n0, this.fresh, fun d o hd => ?_, fun d o d' o' g c c' a1 a2 => this.inj d o d' o' g c c' a1 a2, fun t v hv => by simp [get] at hv⟩
      exact this.objs d o hd
    cases e with
    | ret => exact key hE
    | normal => exact key hE
    | _ => exact hE.elim
  have hrange : List.range (o0 :: l).toArray.size = 0 :: List.range' 1 l.length := by
    rw [List.range_eq_range']
    simp [List.range'_succ]
  rw [hrange]
  have hx0 : (execOp (Act.eval { tmps := xs.toArray ++ Array.replicate (fn.ntmps - xs.toArray.size) undef, defers := [] }) o0).run P B.w = .ok .recover B.w := by
    unfold execOp
    rw [ho]
    simp [resolve, invoke, builtin]
  simp only [wpOpsS]
  have hw : Region.wanted o0 (yielded (o0 :: l).toArray (xs.toArray ++ Array.replicate (fn.ntmps - xs.toArray.size) undef)) = true := by simp [Region.wanted, hg]
  simp only [List.getElem?_toArray, List.getElem?_cons_zero, hw, if_true, hx0]
  have hmode := recoverD_mode (cs := cs) hu
  have fin : wpOpsS P (o0 :: l).toArray (Exit.thenS (rest.wpS P (bodyPostS P fn c₀ cs (fun e q w' => ∃ x outs nx' μ', e = .returned x ∧ q = (recv u).2 ∧ R outs ∧ nx ≤ nx' ∧ RelM (fun _ => False) B N μ' ⟨[], outs, nx', 0⟩ ⟨#[], []⟩ w'))) (bodyPostS P fn c₀ cs (fun e q w' => ∃ x outs nx' μ', e = .returned x ∧ q = (recv u).2 ∧ R outs ∧ nx ≤ nx' ∧ RelM (fun _ => False) B N μ' ⟨[], outs, nx', 0⟩ ⟨#[], []⟩ w'))) (List.range' 1 l.length)
      (Act.put { tmps := xs.toArray ++ Array.replicate (fn.ntmps - xs.toArray.size) undef, defers := [] } o0.dst (recv u).1) ({ c₀ with mode := (recv u).2 } :: cs) B.w := by
    refine opsS_of_list ?_ ?_ l 1 _ _ (fun j => by simp [Nat.add_comm 1 j]) hwp
    · rintro a w ⟨S', hE, _⟩
      exact hE
    · rintro e a w' ⟨S', hE, hR⟩
      cases e with
      | normal =>
        refine wpS_of_wp (wp_mono (hE a w' hR) ?_)
        intro e2 a2 w2 h2
        exact hend _ _ _ h2
      | ret => exact hend .ret a w' ⟨S', hE, hR⟩
      | _ => exact hE.elim
  split
  · rename_i v' cs' hrec
    rw [hrec] at hmode
    simp only [Prod.mk.injEq] at hmode
    rw [hmode.1, hmode.2]
    exact fin
  · rename_i hrec
    rw [hrec] at hmode
    simp only [Prod.mk.injEq] at hmode
    rw [hmode.1, hmode.2]
    exact fin

def V.isBp : V → Bool
  | .bp .. => true
  | _ => false

theorem Enc.bp_mono {w w' : World} {N N' : Nat → Prop} {μ μ' : Mu} {x : Value} {v : V} (h : Enc w N μ x v) (hb : v.isBp = true) (hμ : ∀ d v l, μ d v = some l → μ' d v = some l) : Enc w' N' μ' x v := by
  cases v <;> simp only [V.isBp] at hb <;> try (cases hb; done)
  cases h with
  | pur h => cases h
  | bp _ _ _ _ _ g cap h1 => exact .bp _ _ _ _ _ g cap (hμ _ _ _ h1)

/-- The mode in which a body that ends so leaves its frame. -/
def modeOf : Exit → Option FrameMode
  | .ret | .normal => some .returning
  | .panic ch => some (.panicking ch)
  | _ => none

/-- What must hold where the body of a function ends that has deferred the closure cf. -/
def EndsF (P : Program) (fn : Func) (cf : FuncId) (cvs : List V) (R : V → Prop) (e : Exit) (S : AS) : Prop :=
  ∃ u u' ins R', modeOf e = some u ∧ (∀ k o, get ins k = some o → get S.objs k = some o) ∧ ACD P cf cvs ins u u' R' ∧ settle u' = .returning ∧
    ∀ outs nx, R' outs → (∀ k, get outs k = none → get ins k = none) ∧ ∃ r, aresults P { S with objs := outs ++ S.objs, nx := nx } fn.results.toList = some r ∧ R r

/-- A function that defers a closure over variables of its own. -/
theorem ac_deferred {f : FuncId} {fn : Func} {c1 c2 : Code} {id : Nat} {om od : Oper} {args : List V} {R : V → Prop} {S1 : AS} {cf : FuncId} {cfn : Func} {caps : Array Operand} {cvs : List V} {dm : Nat} {ats : Array TypeId} (hf : P.funcs[f]? = some fn)
    (hb : fn.body = some (.seq c1 (.seq (.region id [om, od].toArray false) c2))) (hl : args.length ≤ fn.ntmps) (hcf : P.funcs[cf]? = some cfn) (hcb : cfn.body.isSome = true) (hcn : (cfn.name == "runtime.NumGoroutine") = false)
    (hom : om.op = .makeFunc (.func cf) #[] caps) (hog : om.guard = none) (hodst : om.dst = some dm) (hod : od.op = .defer { callee := .value (.tmp dm), args := #[], argTypes := ats }) (hdg : od.guard = none) (hdd : od.dst = none)
    (h1 : ∀ w0 N0, AW P w0 N0 c1 (fun e S => e = .normal ∧ S = S1) ⟨env0 0 args, [], 0, fn.ntmps⟩) (hcv : S1.args true caps.toList = some cvs) (hbp : cvs.all V.isBp = true) (hdm : dm < S1.nt)
    (h2 : ∀ w0 N0, AW P w0 N0 c2 (EndsF P fn cf cvs R) { S1 with nx := S1.nx + 2 }) (hdrop : get S1.env dm = none) : AC P f args R := by
  intro w N xs hN hlen hp
  have hr0 : RelM (fun _ => False) ⟨w, fun _ => False, fun _ _ => none, []⟩ N (fun _ _ => none) ⟨env0 0 args, [], 0, args.length⟩ ⟨xs.toArray, []⟩ w := by
    refine ⟨rfl, by simp [hlen], Bs.Below.refl _, ⟨fun b hb => ⟨hN b hb, fun h => h⟩, fun _ _ _ h => by cases h⟩, fun d v hv => absurd rfl hv, fun d o hd => by simp [get] at hd, fun d o _ _ _ _ _ hd => by simp [get] at hd, fun t v hv => ?_⟩
    obtain ⟨_, h2⟩ := get_env0 hv
    simp only [Nat.sub_zero] at h2
    have ht : t < args.length := (List.getElem?_eq_some_iff.1 h2).1
    have hxt : xs[t]? = some xs[t] := List.getElem?_eq_getElem (by omega)
    have he : xs.toArray.getD t undef = xs[t] := by simp [hxt]
    refine ⟨ht, .pur ?_⟩
    rw [he]
    exact (hp t xs[t] v hxt h2).keep (Keeps.refl _ _) (fun b hb ho => by
      rcases ho with h0 | ⟨d, o, c, h1, _⟩
      · exact h0
      · simp [get] at h1)
  refine calls_of_wp_defers hf hb (wp_seq (wp_mono (h1 ⟨w, fun _ => False, fun _ _ => none, []⟩ N _ w ⟨_, hr0.enter hlen hl rfl⟩) ?_))
  rintro e a w1 ⟨S, ⟨rfl, rfl⟩, μ1, hr1⟩
  refine wp_seq (wp_region_lit ?_)
  obtain ⟨hcl, hcx⟩ := args_spec hr1 rfl hcv
  -- the closure's value, and the deferred call
  refine wpList_plain hog fun K hK => ?_
  have hfv : (execOp a.eval om).run P w1 = .ok (.value (.func (.func cf) #[] (caps.map a.eval))) w1 := by
    unfold execOp
    rw [hom]
    simp [Instr.makeFunc]
  unfold Oper.wp
  rw [hfv, Oper.upon_value, hodst]
  refine hK _ _ (wpList_plain hdg fun K' hK' => ?_)
  have hsz : dm < a.tmps.size := by rw [hr1.size]; exact hdm
  have hev : (a.put (some dm) (.func (.func cf) #[] (caps.map a.eval))).eval (.tmp dm) = .func (.func cf) #[] (caps.map a.eval) := by
    show (a.put (some dm) _).tmps.getD dm undef = _
    rw [tmps_put a dm _ dm hsz, if_pos rfl]
  have hdf : (execOp (a.put (some dm) (.func (.func cf) #[] (caps.map a.eval))).eval od).run P w1 = .ok (.defer { target := .fn (.func cf) (caps.map a.eval), args := #[] }) w1 := by
    unfold execOp
    rw [hod]
    simp only [resolve, hev, Deferred.ofValue, Sem.run_bind, Sem.run_pure, Result.andThen_ok, List.map_toArray, List.map_nil]
    rfl
  unfold Oper.wp
  rw [hdf, Oper.upon_defer, hdd]
  refine hK' _ _ (wpList_nil ?_)
  -- the rest of the body
  have hr2 : RelM (fun _ => False) ⟨w, fun _ => False, μ1, [{ target := .fn (.func cf) (caps.map a.eval), args := #[] }]⟩ N μ1 { S with nx := S.nx + 2 } ({ (a.put (some dm) (.func (.func cf) #[] (caps.map a.eval))) with defers := { target := .fn (.func cf) (caps.map a.eval), args := #[] } :: (a.put (some dm) (.func (.func cf) #[] (caps.map a.eval))).defers } : Act) w1 := by
    have hd0 : (a.put (some dm) (.func (.func cf) #[] (caps.map a.eval))).defers = [] := hr1.defers
    refine ⟨by simp only [hd0], by simp [Act.put, hr1.size], ⟨hr1.below.os, hr1.below.tape, hr1.below.output, hr1.below.size, hr1.below.block⟩, ⟨hr1.n0.1, fun _ _ _ h => h⟩, fun d v hv => ?_, fun d o ho => ?_, hr1.inj, fun t v hv => ?_⟩
    · rcases hr1.fresh d v hv with h3 | ⟨j, hj, _⟩
      · exact .inl (by simp only; omega)
      · exact hj.elim
    · obtain ⟨l, hl', hob⟩ := hr1.objs d o ho
      refine ⟨l, hl', ?_⟩
      cases l with
      | none => exact hob
      | some gc => exact hob
    · have hne : dm ≠ t := by rintro rfl; simp only at hv; rw [hdrop] at hv; cases hv
      obtain ⟨h3, h4⟩ := hr1.env t v hv
      refine ⟨h3, ?_⟩
      simp only
      rw [tmps_put a dm _ t hsz, if_neg hne]
      exact h4
  refine wp_mono (h2 _ N _ w1 ⟨μ1, hr2⟩) ?_
  rintro e a' w2 ⟨S2, ⟨u, u', ins, R', hmode, hins, hacd, hset, hout⟩, μ2, hr3⟩
  have hdf2 : a'.defers = [{ target := .fn (.func cf) (caps.map a.eval), args := #[] }] := hr3.defers
  have hinv : (invoke (.fn (.func cf) (caps.map a.eval)) #[]).run P w2 = .ok (.enter cf (caps.map a.eval)) w2 := by
    have hn' : ¬ cfn.name = "runtime.NumGoroutine" := by simpa using hcn
    simp [invoke, callFunc, hcf, hn', Option.isNone_iff_eq_none, Option.isSome_iff_ne_none.1 hcb]
  have hleave : Leaves P fn a'.tmps (fun e w' => ∃ x r, e = .returned x ∧ R r ∧ Pur w' N x r ∧ Below w.heap.size w w') a'.defers u w2 := by
    rw [hdf2]
    have hu : u ≠ .run := by
      cases e <;> simp [modeOf] at hmode <;> rw [← hmode] <;> simp
    refine leaves_cons hu hinv ?_
    have hmono : ∀ d v l, μ1 d v = some l → μ2 d v = some l := hr3.n0.2
    have hhand := hr3.hand (nx := S2.nx + 0 + 1) (hr3.fresh_lt (fun j hj => hj.elim)) (vs := cvs) (xs := caps.toList.map a.eval) (ins := ins) (by simp [hcl]) hins (fun j x v hx hv => by
      simp only [List.getElem?_map, Option.map_eq_some_iff] at hx
      obtain ⟨y, hy, rfl⟩ := hx
      exact (hcx j y v hy hv).bp_mono (List.all_eq_true.1 hbp v (List.mem_of_getElem? hv)) hmono)
    have hcall := hacd ⟨w2, OwnB μ2 ins, μ2, []⟩ _ μ2 _ (caps.toList.map a.eval) (by simp [hcl]) rfl hhand
    have harr : (caps.toList.map a.eval).toArray = caps.map a.eval := by apply Array.ext'; simp
    rw [harr] at hcall
    refine hcall.mono ?_
    rintro e' q w3 ⟨x, outs, nx', μ3, rfl, rfl, hR', hnx, hrel⟩
    obtain ⟨hcov, r, hres, hRr⟩ := hout outs nx' hR'
    have hrel' : RelM (fun _ => False) ⟨w2, OwnB μ2 ins, μ2, []⟩ (fun b => Own N μ2 S2 b ∧ ¬ OwnB μ2 ins b) μ3 ⟨[(0, .bool true)], outs, nx', 1⟩ ⟨#[.bool true], []⟩ w3 := by
      refine ⟨rfl, rfl, hrel.below, hrel.n0, hrel.fresh, hrel.objs, hrel.inj, fun t v hv => ?_⟩
      simp only [get_cons, get] at hv
      split at hv
      · rename_i e; subst e; injection hv with hv; subst hv; exact ⟨Nat.one_pos, .pur (.bool _)⟩
      · cases hv
    obtain ⟨hb1, _⟩ := hr3.back hins hcov hrel'
    obtain ⟨y, hy, hpy⟩ := aresults_run (P := P) (fn := fn) (r := r) hb1 hres
    show Leaves P fn a'.tmps _ [] (settle q) w3
    rw [hset]
    exact ⟨y, hy, y, r, rfl, hRr, hpy, ⟨hb1.below.os, hb1.below.tape, hb1.below.output, hb1.below.size, fun k hk => hb1.below.block k hk (fun h => h)⟩⟩
  cases e with
  | ret => simp only [modeOf, Option.some.injEq] at hmode; subst hmode; exact hleave
  | normal => simp only [modeOf, Option.some.injEq] at hmode; subst hmode; exact hleave
  | panic ch => simp only [modeOf, Option.some.injEq] at hmode; subst hmode; exact hleave
  | _ => simp [modeOf] at hmode
end
end Go.Eng

/- Functions that append to a row that is handed in. No condition. -/
set_option linter.unusedSimpArgs false
namespace Go.Eng
open Go.RowKit

/-- The contract: handed the row es as its first argument, f hands it back with new behind it. -/
def ACA (P : Program) (f : FuncId) (args : List V) (sz : Nat) (ty : TypeId) (es new : List V) : Prop :=
  ∀ d v, ACS P f (.sl d v sz es.length :: args) [(d, ⟨v, sz, ty, es⟩)] (fun r outs => ∃ v', r = .sl d v' sz (es ++ new).length ∧ outs = [(d, ⟨v', sz, ty, es ++ new⟩)]) (fun _ => False)

@[simp] theorem kb_ne (d k : Nat) : (d + 1 + k = d) = False := by simp; omega
@[simp] theorem kb_ne' (d k : Nat) : (d = d + 1 + k) = False := by simp; omega
@[simp] theorem kb_lt (d k : Nat) : (d < d + 1 + k) = True := by simp; omega

section
variable {P : Program} {kb : Nat} {w0 : Bs} {N0 : Nat → Prop} {Q : Exit → AS → Prop} {S S' : AS}

/-- The caller's state behind such a call: the row has a new name. -/
theorem RelM.backA {D : Nat → Prop} {μ μ' : Mu} {a : Act} {w w' : World} (h : RelM D w0 N0 μ S a w) {i : Nat} (hi : ¬ D i) {d v sz nx' v' : Nat} {ty : TypeId} {es es' : List V} {x : Value} (hd : get S.objs d = some ⟨v, sz, ty, es⟩)
    (hfl : es'.all flatE = true)
    (hr : RelM (fun _ => False) ⟨w, OwnB μ [(d, ⟨v, sz, ty, es⟩)], μ, []⟩ (fun b => Own N0 μ S b ∧ ¬ OwnB μ [(d, ⟨v, sz, ty, es⟩)] b) μ' ⟨[(0, .sl d v' sz es'.length)], [(d, ⟨v', sz, ty, es'⟩)], nx', 1⟩ ⟨#[x], []⟩ w') :
    ∃ μ'', RelM (fun j => D j ∨ j = i) w0 N0 μ'' { S with objs := (d, ⟨S.nx + i, sz, ty, es'⟩) :: S.objs } a w' ∧ ∀ N, Enc w' N μ'' x (.sl d (S.nx + i) sz es'.length) := by
  have hins : ∀ k o, get [(d, (⟨v, sz, ty, es⟩ : Ob))] k = some o → get S.objs k = some o := by
    intro k o hk
    simp only [get_cons, get] at hk
    split at hk
    · rename_i e; subst e; injection hk with hk; subst hk; exact hd
    · cases hk
  obtain ⟨l, hl, hob⟩ := hr.objs d ⟨v', sz, ty, es'⟩ (by simp [get])
  simp only at hl
  have hX : ∀ b, OwnB μ [(d, (⟨v, sz, ty, es⟩ : Ob))] b → ∃ c, μ d v = some (some (b, c)) := by
    rintro b ⟨d', o', c, h1, h2⟩
    simp only [get_cons, get] at h1
    split at h1
    · rename_i e; subst e; injection h1 with h1; subst h1; exact ⟨c, h2⟩
    · cases h1
  have hkeep : Keeps w (Own N0 μ S) w' := ⟨hr.below.size, fun b hb hn => hr.below.block b hb (fun ⟨d, o, c, h1, h2⟩ => hn (.inr ⟨d, o, c, hins _ _ h1, h2⟩))⟩
  have hfreeX : ∀ b c, μ d v = some (some (b, c)) → w0.free b := by
    intro b c hm
    obtain ⟨l', hl', hob'⟩ := h.objs d _ hd
    simp only at hl'
    rw [hm] at hl'
    injection hl' with hl'
    subst hl'
    exact hob'.1
  have hbelow : w0.Below w' := by
    refine ⟨hr.below.os.trans h.below.os, hr.below.tape.trans h.below.tape, hr.below.output.trans h.below.output, Nat.le_trans h.below.size hr.below.size, fun k hk hXk => ?_⟩
    refine (hr.below.block k (Nat.lt_of_lt_of_le hk h.below.size) (fun hB => ?_)).trans (h.below.block k hk hXk)
    obtain ⟨c, hm⟩ := hX k hB
    rcases hfreeX k c hm with h1 | h1
    · omega
    · exact hXk h1
  have hmono := h.muSet_mono hi d l
  obtain ⟨hrel, _⟩ := h.update (D' := fun j => D j ∨ j = i) (d := d) (o' := ⟨S.nx + i, sz, ty, es'⟩) (l' := l) (w' := w') (μ' := muSet μ d (S.nx + i) l) hmono (h.muSet_fresh i d l) (muSet_same _ _ _ _) hbelow hkeep
    (fun d1 o1 g c hne h1 h2 => hr.below.block g (h.block_lt h1 h2) (fun hB => by
      obtain ⟨c', hm⟩ := hX g hB
      exact hne (h.inj d1 o1 d _ g c c' h1 hd h2 hm)))
    (fun g c e => by
      subst e
      rcases hob.1 with h1 | h1
      · exact .inl h1
      · obtain ⟨c', hm⟩ := hX g h1
        exact .inr ⟨_, c', hd, hm⟩)
    (fun N' _ => by
      cases l with
      | none => exact hob
      | some gc =>
        obtain ⟨o1, o2, o3, o4, arr, o5, o6, o7⟩ := hob
        refine ⟨?_, o2, o3, o4, arr, o5, o6, fun k e j c he hj => ?_⟩
        · rcases o1 with h1 | h1
          · exact .inl (Nat.le_trans h.below.size h1)
          · obtain ⟨c', hm⟩ := hX _ h1
            exact hfreeX _ _ hm
        · obtain ⟨y, hy, hey⟩ := o7 k e j c he hj
          have hfc : c.flat = true := List.all_eq_true.1 (List.all_eq_true.1 hfl e (List.mem_of_getElem? he)) c (List.mem_of_getElem? hj)
          exact ⟨y, hy, .pur ((hey.flatP hfc).of_flat hfc)⟩)
  refine ⟨_, hrel, fun N => ?_⟩
  have hx := (hr.env 0 _ (by simp [get]; rfl)).2
  have hx0 : (#[x] : Array Value).getD 0 undef = x := by simp
  rw [hx0] at hx
  have hx' := hx
  clear hx
  generalize hev : V.sl d v' sz es'.length = sv at hx'
  cases hx' with
  | pur hp => cases hp <;> cases hev
  | slr d1 v1 sz1 len1 g cap h1 h2 h3 =>
    injection hev with e1 e2 e3 e4
    subst e1; subst e2; subst e3; subst e4
    rw [hl] at h1
    injection h1 with h1
    subst h1
    exact .slr d (S.nx + i) sz _ g cap (muSet_same _ _ _ _) h2 h3
  | slv d1 v1 sz1 A h1 =>
    injection hev with e1 e2 e3 e4
    subst e1; subst e2; subst e3
    rw [hl] at h1
    injection h1 with h1
    subst h1
    rw [e4]
    exact .slv d (S.nx + i) sz A (muSet_same _ _ _ _)
  | _ => cases hev

/-- The model takes such a call. -/
theorem gen_callA {ops : List Oper} {i : Nat} {o : Oper} {f : Operand} {fid : FuncId} {fn : Func} {args : Array Operand} {ats : Array TypeId} {d v sz : Nat} {ty : TypeId} {es new vs : List V}
    (hc : ACA P fid vs sz ty es new) (hfl : (es ++ new).all flatE = true) (hfn : P.funcs[fid]? = some fn) (hb : fn.body.isSome = true) (hn : (fn.name == "runtime.NumGoroutine") = false)
    (hg : S.gv ops o = some true) (ho : o.op = .call { callee := .value f, args := args, argTypes := ats }) (hf : S.evc true f = some (.fn fid))
    (ha : S.args true args.toList = some (.sl d v sz es.length :: vs)) (hd : get S.objs d = some ⟨v, sz, ty, es⟩) (hs : ({ S with objs := (d, ⟨S.nx + i, sz, ty, es ++ new⟩) :: S.objs } : AS).putv o.dst (wrapG o true (.sl d (S.nx + i) sz (es ++ new).length)) = some S') : GenStep P w0 ops i o S S' := by
  intro N0 D a w hr hi hDb K Q' hK
  obtain ⟨μ, hr⟩ := hr
  rw [wanted_of hr hg, if_pos rfl]
  obtain ⟨h1, h2⟩ := args_spec hr rfl ha
  have hins : ∀ k o, get [(d, (⟨v, sz, ty, es⟩ : Ob))] k = some o → get S.objs k = some o := by
    intro k o hk
    simp only [get_cons, get] at hk
    split at hk
    · rename_i e; subst e; injection hk with hk; subst hk; exact hd
    · cases hk
  have hfresh := hr.fresh_lt hDb
  have hhand := hr.hand (nx := S.nx + ops.length + 1) hfresh (vs := .sl d v sz es.length :: vs) (xs := args.toList.map a.eval) (ins := [(d, ⟨v, sz, ty, es⟩)]) (by simp [h1]) hins (fun j x v hx hv => by
    simp only [List.getElem?_map, Option.map_eq_some_iff] at hx
    obtain ⟨y, hy, rfl⟩ := hx
    exact h2 j y v hy hv)
  have hcall := hc d v ⟨w, OwnB μ [(d, ⟨v, sz, ty, es⟩)], μ, []⟩ _ μ (S.nx + ops.length + 1) (args.toList.map a.eval) (by simp [h1]) rfl hhand
  refine call_run ho (fn_eval hr hf) hfn hb hn hcall ?_ ?_ ?_
  · rintro x w' (⟨x', r, outs', nx', μ', he, ⟨v', rfl, rfl⟩, hnx, hrel⟩ | ⟨ch, he, _⟩)
    · injection he with he
      subst he
      obtain ⟨μ'', hb1, hb2⟩ := hr.backA hi hd hfl hrel
      refine hK _ _ ⟨μ'', hb1.putv hs ?_⟩
      unfold wrapG
      split
      · exact hb2 _
      · exact .whn _ _ _ (fun _ => hb2 _) (fun hf => by cases hf)
    · cases he
  · rintro ch w' (⟨x', r, outs', nx', μ', he, _⟩ | ⟨ch', _, hE, _⟩)
    · cases he
    · exact hE.elim
  · rintro w' (⟨x', r, outs', nx', μ', he, _⟩ | ⟨ch', he, _⟩) <;> cases he

theorem awl_gen {ops : List Oper} {i : Nat} {o : Oper} {rest : List Oper} (hlt : i < ops.length) (hs : GenStep P w0 ops i o S S') (h : AWL P w0 N0 ops Q (i + 1) rest S') : AWL P w0 N0 ops Q i (o :: rest) S := by
  intro D a w hD hr
  have hi : ¬ D i := fun hd => absurd (hD i hd) (by omega)
  refine wpList_step fun K hK => hs N0 D a w hr hi (fun j hj => Nat.lt_trans (hD j hj) hlt) _ _ (fun a' w' hr' => hK _ _ (h _ a' w' (fun j hj => ?_) hr'))
  rcases hj with hj | hj
  · have := hD j hj; omega
  · omega

/-- A call that appends to a row of the call's own. -/
theorem awl_callA {ops : List Oper} {i : Nat} {o : Oper} {rest : List Oper} {f : Operand} {fid : FuncId} {fn : Func} {args : Array Operand} {ats : Array TypeId} {d v sz : Nat} {ty : TypeId} {es new vs : List V}
    (hc : ACA P fid vs sz ty es new) (hfl : (es ++ new).all flatE = true) (hfn : P.funcs[fid]? = some fn) (hb : fn.body.isSome = true) (hn : (fn.name == "runtime.NumGoroutine") = false)
    (hlt : i < ops.length) (hg : S.gv ops o = some true) (ho : o.op = .call { callee := .value f, args := args, argTypes := ats }) (hf : S.evc true f = some (.fn fid))
    (ha : S.args true args.toList = some (.sl d v sz es.length :: vs)) (hd : get S.objs d = some ⟨v, sz, ty, es⟩) (hs : ({ S with objs := (d, ⟨S.nx + i, sz, ty, es ++ new⟩) :: S.objs } : AS).putv o.dst (wrapG o true (.sl d (S.nx + i) sz (es ++ new).length)) = some S')
    (h : AWL P w0 N0 ops Q (i + 1) rest S') : AWL P w0 N0 ops Q i (o :: rest) S := awl_gen hlt (gen_callA hc hfl hfn hb hn hg ho hf ha hd hs) h

/-- The same in a region whose order is left open. -/
theorem sx_callA {X : List Nat} {ops : List Oper} {i : Nat} {o : Oper} {f : Operand} {fid : FuncId} {fn : Func} {args : Array Operand} {ats : Array TypeId} {d v sz : Nat} {ty : TypeId} {es new vs : List V}
    (hX : i ∈ X) (hc : ACA P fid vs sz ty es new) (hfl : (es ++ new).all flatE = true) (hfn : P.funcs[fid]? = some fn) (hb : fn.body.isSome = true) (hn : (fn.name == "runtime.NumGoroutine") = false)
    (hg : S.gv ops o = some true) (ho : o.op = .call { callee := .value f, args := args, argTypes := ats }) (hf : S.evc true f = some (.fn fid))
    (ha : S.args true args.toList = some (.sl d v sz es.length :: vs)) (hd : get S.objs d = some ⟨v, sz, ty, es⟩) (hs : ({ S with objs := (d, ⟨S.nx + i, sz, ty, es ++ new⟩) :: S.objs } : AS).putv o.dst (wrapG o true (.sl d (S.nx + i) sz (es ++ new).length)) = some S') : StepX P kb w0 X ops i o S S' := by
  obtain ⟨hs1, hs2⟩ := putv_ap hs
  refine .inr (.inr ⟨hX, _, [(d, ⟨S.nx + i, sz, ty, es ++ new⟩)], by rw [hs1]; rfl, fun T hT hob => ?_⟩)
  have hnx : S.nx = T.nx := hT.2.2
  refine gen_callA (S := T) (d := d) (v := v) hc hfl hfn hb hn (by rw [← hT.gv]; exact hg) ho (by rw [← hT.evc (by rw [ho]; simp [Op.operands, Call.operands])]; exact hf)
    (by rw [← args_congr (S := S) (T := T) (fun x hx => hT.evc (by rw [ho]; simp [Op.operands, Call.operands]; right; simpa using hx) true)]; exact ha) (by rw [← hob]; exact hd) ?_
  rw [ap_putv _ (fun q hq => by have := hs2 q hq; simp only at this ⊢; rw [← hT.2.1]; exact this), hnx]
  rfl

/-- A contract of this form from the body. -/
theorem aca_intro {f : FuncId} {fn : Func} {c : Code} {args : List V} {sz : Nat} {ty : TypeId} {es new : List V} (hf : P.funcs[f]? = some fn) (hb : fn.body = some c) (hl : args.length + 1 ≤ fn.ntmps)
    (h : ∀ d v w0 N0 nx, AW P w0 N0 c (EndsS P fn (fun r outs => ∃ v', r = .sl d v' sz (es ++ new).length ∧ outs = [(d, ⟨v', sz, ty, es ++ new⟩)]) (fun _ => False) nx) ⟨(0, .sl d v sz es.length) :: env0 1 args, [(d, ⟨v, sz, ty, es⟩)], nx, fn.ntmps⟩) : ACA P f args sz ty es new :=
  fun d v => acs_intro hf hb (by simpa using hl) (fun w0 N0 nx => h d v w0 N0 nx)

/-- Where such a function ends. -/
theorem endsA {fn : Func} {d v' sz nx : Nat} {ty : TypeId} {es' : List V} {E : List PanicEntry → Prop} (hnx : nx ≤ S.nx) (hr : aresT P S fn.results.toList = some (.sl d v' sz es'.length)) (ho : get S.objs d = some ⟨v', sz, ty, es'⟩) :
    EndsS P fn (fun r outs => ∃ v', r = .sl d v' sz es'.length ∧ outs = [(d, ⟨v', sz, ty, es'⟩)]) E nx .ret S := by
  refine ⟨hnx, _, [(d, ⟨v', sz, ty, es'⟩)], hr, fun k o hk => ?_, v', rfl, rfl⟩
  simp only [get_cons, get] at hk
  split at hk
  · rename_i e; subst e; injection hk with hk; subst hk; exact ho
  · cases hk
end
end Go.Eng

/- Ways that part, of which some end by a panic. No condition. -/
set_option linter.unusedSimpArgs false
namespace Go.Eng
open Go.RowKit

section
variable {P : Program} {kb : Nat} {w0 : Bs} {N0 : Nat → Prop} {Q : Exit → AS → Prop} {X : List Nat} {ops : List Oper} {done : List Nat} {S S' : AS}

theorem at_forkP (l : List Nat) (hc : (Nat.blt done.length ops.length && Region.ready .any ops.toArray (lst ops done) == l && !l.isEmpty) = true) (h : ∀ i ∈ l, (∃ o S', ops[i]? = some o ∧ StepX P kb w0 X ops i o S S' ∧ AT P kb w0 X ops Q (i :: done) S') ∨ ∃ o, ops[i]? = some o ∧ PanStep P w0 ops i o Q S) : AT P kb w0 X ops Q done S := by
  simp only [Bool.and_eq_true, Nat.blt_eq, beq_iff_eq] at hc
  obtain ⟨⟨hlt, hm⟩, hne⟩ := hc
  unfold AT
  rw [show ops.length - done.length = (ops.length - (done.length + 1)) + 1 by omega]
  refine ⟨fun h0 => ?_, fun i hi => ?_⟩
  · rw [hm] at h0; subst h0; simp at hne
  · rw [hm] at hi
    rcases h i hi with ⟨o, S', h1, h2, h3⟩ | h4
    · exact .inl ⟨o, S', h1, h2, h3⟩
    · exact .inr h4

/-- Two steps one behind the other that meet in one state. -/
theorem aw_seqE {x y : Code} (st : AS) (h1 : AW P w0 N0 x (ethen (fun S' => S' = st) Q) S) (h2 : AW P w0 N0 y Q st) : AW P w0 N0 (.seq x y) Q S :=
  aw_seq (h1.mono fun e S' h => by
    cases e with
    | normal => simp only [ethen] at h ⊢; subst h; exact h2
    | _ => exact h)

/-- Where a function with objects handed in ends. -/
theorem endsS {fn : Func} {nx : Nat} {r0 : V} {outs0 : List (Nat × Ob)} {E : List PanicEntry → Prop} (hnx : nx ≤ S.nx) (hr : aresT P S fn.results.toList = some r0) (ho : ∀ k o, get outs0 k = some o → get S.objs k = some o) :
    EndsS P fn (fun r outs => r = r0 ∧ outs = outs0) E nx .ret S := ⟨hnx, r0, outs0, hr, ho, rfl, rfl⟩
theorem get_one {d k : Nat} {o q : Ob} {l : List (Nat × Ob)} (h : get l d = some q) (hk : get [(d, q)] k = some o) : get l k = some o := by
  simp only [get_cons, get] at hk
  split at hk
  · rename_i e; subst e; injection hk with hk; subst hk; exact h
  · cases hk

/-- A call that is handed one object and writes into it. -/
theorem awl_callS1 {ops : List Oper} {i : Nat} {o : Oper} {rest : List Oper} {f : Operand} {fid : FuncId} {fn : Func} {args : Array Operand} {ats : Array TypeId} {vs : List V} {ins outs : List (Nat × Ob)} {res : V}
    (hc : ACS P fid vs ins (fun r q => r = res ∧ q = outs) (fun _ => False)) (hfn : P.funcs[fid]? = some fn) (hb : fn.body.isSome = true) (hn : (fn.name == "runtime.NumGoroutine") = false) (hso : storeOnly ins outs = true) (hp : res.pureV = true)
    (hlt : i < ops.length) (hg : S.gv ops o = some true) (ho : o.op = .call { callee := .value f, args := args, argTypes := ats }) (hf : S.evc true f = some (.fn fid))
    (ha : S.args true args.toList = some vs) (hins : ∀ k q, get ins k = some q → get S.objs k = some q) (hs : ({ S with objs := outs ++ S.objs } : AS).putv o.dst (wrapG o true res) = some S')
    (h : AWL P w0 N0 ops Q (i + 1) rest S') : AWL P w0 N0 ops Q i (o :: rest) S := by
  have hx := sx_callS (kb := 0) (w0 := w0) (X := [i]) (ops := ops) (i := i) (by simp) hc hso hp hfn hb hn hg ho hf ha hins hs
  refine awl_gen hlt ?_ h
  intro N0 D a w hr hi hDb K Q' hK
  exact stepX_sound hr hi hDb hx hK

/-- A call that panics. -/
theorem awl_panS {ops : List Oper} {i : Nat} {o : Oper} {rest : List Oper} {f : Operand} {fid : FuncId} {fn : Func} {args : Array Operand} {ats : Array TypeId} {vs : List V} {ins : List (Nat × Ob)} {E : List PanicEntry → Prop}
    (hc : ACS P fid vs ins (fun _ _ => False) E) (hfn : P.funcs[fid]? = some fn) (hb : fn.body.isSome = true) (hn : (fn.name == "runtime.NumGoroutine") = false)
    (hg : S.gv ops o = some true) (ho : o.op = .call { callee := .value f, args := args, argTypes := ats }) (hf : S.evc true f = some (.fn fid))
    (ha : S.args true args.toList = some vs) (hins : ∀ k q, get ins k = some q → get S.objs k = some q) (hE : ∀ ch, E ch → Q (.panic ch) { S with objs := dropK (ins.map (·.1)) S.objs, nx := S.nx + i + 1 }) : AWL P w0 N0 ops Q i (o :: rest) S :=
  awl_callS hc hfn hb hn hg ho hf ha hins (fun _ _ _ hF _ => hF.elim) hE
end
end Go.Eng

/- Contracts of functions that read a package variable: the variable's cell stands as it did. No condition. -/
set_option linter.unusedSimpArgs false
namespace Go.Eng
open Go.RowKit

/-- The package variable at block b reads x. -/
def Glw (b : Nat) (x : Value) (w : World) : Prop := w.cell? ⟨b, 0, none⟩ = some x
structure Glb (b : Nat) (x : Value) (B : Bs) : Prop where
  cell : Glw b x B.w
  notX : ¬ B.X b
theorem Glw.lt {b : Nat} {x : Value} {w : World} (h : Glw b x w) : b < w.heap.size := by
  rcases Nat.lt_or_ge b w.heap.size with h' | h'
  · exact h'
  · simp [Glw, World.cell?, Array.getElem?_eq_none h'] at h
theorem Glb.at {b : Nat} {x : Value} {B : Bs} {w : World} (h : Glb b x B) (hb : B.Below w) : Glw b x w := by
  have h1 := h.cell
  unfold Glw World.cell? at h1 ⊢
  simp only at h1 ⊢
  rw [hb.block b h.cell.lt h.notX]
  exact h1

def ACG (b : Nat) (x : Value) (P : Program) (f : FuncId) (args : List V) (R : V → Prop) : Prop :=
  ∀ (w : World) (N : Nat → Prop) (xs : List Value), Glw b x w → (∀ b, N b → b < w.heap.size) → xs.length = args.length → (∀ (i : Nat) x v, xs[i]? = some x → args[i]? = some v → Pur w N x v) →
    Calls P f xs.toArray w (fun e w' => ∃ x r, e = .returned x ∧ R r ∧ Pur w' N x r ∧ Below w.heap.size w w')
theorem ACG.mono {b : Nat} {y : Value} {P : Program} {f : FuncId} {args : List V} {R R' : V → Prop} (h : ACG b y P f args R) (hr : ∀ r, R r → R' r) : ACG b y P f args R' :=
  fun w N xs h0 h1 h2 h3 => (h w N xs h0 h1 h2 h3).mono fun _ _ ⟨x, r, he, hR, hp, hb⟩ => ⟨x, r, he, hr r hR, hp, hb⟩
theorem ACG.relax {b : Nat} {y : Value} {P : Program} {f : FuncId} {args : List V} {v v' : V} (h : ACG b y P f args (fun r => r = v)) (hr : Relax v v') : ACG b y P f args (fun r => r = v') :=
  fun w N xs h0 h1 h2 h3 => (h w N xs h0 h1 h2 h3).mono fun _ _ ⟨x, _, he, hR, hp, hb⟩ => ⟨x, v', he, rfl, hr.1 _ _ _ (hR ▸ hp), hb⟩
theorem ACG.relaxP {b : Nat} {y : Value} {P : Program} {f : FuncId} {args : List V} {v' : V} (h : ACG b y P f args (fun r => Relax r v')) : ACG b y P f args (fun r => r = v') :=
  fun w N xs h0 h1 h2 h3 => (h w N xs h0 h1 h2 h3).mono fun _ _ ⟨x, _, he, hR, hp, hb⟩ => ⟨x, v', he, rfl, hR.1 _ _ _ hp, hb⟩
theorem ACG.argsR {b : Nat} {y : Value} {P : Program} {f : FuncId} {args args' : List V} {R : V → Prop} (h : ACG b y P f args' R) (hr : RelaxL args args') : ACG b y P f args R :=
  fun w N xs h0 h1 h2 h3 => h w N xs h0 h1 (by rw [h2, hr.length]) (fun i x v hx hv => by
    obtain ⟨u, h4, h5⟩ := hr.get i v hv
    exact h5.1 _ _ _ (h3 i x u hx h4))

section
variable {P : Program} {w0 : Bs} {N0 : Nat → Prop} {Q : Exit → AS → Prop} {S S' : AS} {b : Nat} {y : Value}

theorem acg_intro {f : FuncId} {fn : Func} {c : Code} {args : List V} {R : V → Prop} (hf : P.funcs[f]? = some fn) (hb : fn.body = some c) (hl : args.length ≤ fn.ntmps)
    (h : ∀ w0 N0, Glb b y w0 → AW P w0 N0 c (Ends P fn R) ⟨env0 0 args, [], 0, fn.ntmps⟩) : ACG b y P f args R := by
  intro w N xs hG hN hlen hp
  refine calls_of_wp hf hb (wp_mono (h ⟨w, fun _ => False, fun _ _ => none, []⟩ N ⟨hG, fun h => h⟩ _ w ⟨fun _ _ => none, ⟨rfl, ?_, Bs.Below.refl _, ⟨fun b hb => ⟨hN b hb, fun h => h⟩, fun _ _ _ h => by cases h⟩, fun d v hv => absurd rfl hv, fun d o hd => ?_, fun d o _ _ _ _ _ hd => ?_, fun t v hv => ?_⟩⟩) ?_)
  · simp only [Array.size_append, List.size_toArray, Array.size_replicate]; omega
  · simp [get] at hd
  · simp [get] at hd
  · obtain ⟨_, h2⟩ := get_env0 hv
    simp only [Nat.sub_zero] at h2
    have ht : t < args.length := (List.getElem?_eq_some_iff.1 h2).1
    refine ⟨by simp only; omega, .pur ?_⟩
    have hx : xs[t]? = some xs[t] := List.getElem?_eq_getElem (by omega)
    have := hp t xs[t] v hx h2
    have hget : (xs.toArray ++ Array.replicate (fn.ntmps - xs.toArray.size) undef).getD t undef = xs[t] := by
      rw [Array.getD_eq_getD_getElem?, Array.getElem?_append_left (by simp; omega)]
      simp [hx]
    rw [hget]
    exact this.keep (Keeps.refl _ _) (fun b hb ho => by
      rcases ho with h0 | ⟨d, o, c, h1, _⟩
      · exact h0
      · simp [get] at h1)
  · rintro e a' w' ⟨S', hE, ⟨μ, hr⟩⟩
    have key : (match aresults P S' fn.results.toList with | some r => R r | none => False) → ∃ v, (results fn a'.tmps).run P w' = .ok v w' ∧ ∃ x r, Ending.returned v = .returned x ∧ R r ∧ Pur w' N x r ∧ Below w.heap.size w w' := by
      intro hk
      split at hk
      · rename_i r hres
        obtain ⟨x, hx, hpx⟩ := aresults_run hr hres
        exact ⟨x, hx, x, r, rfl, hk, hpx, hr.below.plain⟩
      · exact hk.elim
    cases e with
    | ret => exact ⟨hr.defers, key hE⟩
    | normal => exact ⟨hr.defers, key hE⟩
    | _ => exact hE.elim

theorem awl_callG {ops : List Oper} {i : Nat} {o : Oper} {rest : List Oper} {f : Operand} {fid : FuncId} {fn : Func} {args : Array Operand} {ats : Array TypeId} {vs : List V} {R : V → Prop}
    (hG : Glb b y w0) (hc : ACG b y P fid vs R) (hfn : P.funcs[fid]? = some fn) (hb : fn.body.isSome = true) (hn : (fn.name == "runtime.NumGoroutine") = false) (hg : o.guard = none) (ho : o.op = .call { callee := .value f, args := args, argTypes := ats }) (hf : S.evc true f = some (.fn fid))
    (ha : S.args true args.toList = some vs) (hp : vs.all V.pureV = true) (h : ∀ r, R r → ∃ S', S.putv o.dst r = some S' ∧ AWL P w0 N0 ops Q (i + 1) rest S') : AWL P w0 N0 ops Q i (o :: rest) S := by
  rintro D a w hD ⟨μ, hr⟩
  refine wpList_plain hg fun K hK => ?_
  have hfv := hr.evc hf rfl
  have hfe : a.eval f = .func (.func fid) #[] #[] := by
    generalize a.eval f = y at hfv
    cases hfv with
    | pur hfv => cases hfv with
      | fn => rfl
  obtain ⟨h1, h2⟩ := args_spec hr rfl ha
  unfold Oper.wp
  rw [run_call_fn ho hfe hfn hb hn]
  have hcall := hc w (Own N0 μ S) (args.toList.map a.eval) (hG.at hr.below) hr.own_lt (by simp [h1]) (fun j x v hx hv => by
    simp only [List.getElem?_map, Option.map_eq_some_iff] at hx
    obtain ⟨y, hy, rfl⟩ := hx
    exact (h2 j y v hy hv).pureV (List.all_eq_true.1 hp v (List.mem_of_getElem? hv)))
  have harr : (args.toList.map a.eval).toArray = args.map a.eval := by apply Array.ext'; simp
  rw [harr] at hcall
  refine hcall.mono ?_
  rintro e w' ⟨x, r, rfl, hR, hpx, hbw⟩
  obtain ⟨S', hs, hrest⟩ := h r hR
  exact hK _ _ (hrest D _ w' (fun j hj => Nat.lt_succ_of_lt (hD j hj)) ⟨μ, (hr.later hbw).putv hs (.pur hpx)⟩)
theorem awl_call1G {ops : List Oper} {i : Nat} {o : Oper} {rest : List Oper} {f : Operand} {fid : FuncId} {fn : Func} {args : Array Operand} {ats : Array TypeId} {vs : List V} {res : V}
    (hG : Glb b y w0) (hc : ACG b y P fid vs (fun r => r = res)) (hfn : P.funcs[fid]? = some fn) (hb : fn.body.isSome = true) (hn : (fn.name == "runtime.NumGoroutine") = false)
    (hg : o.guard = none) (ho : o.op = .call { callee := .value f, args := args, argTypes := ats }) (hf : S.evc true f = some (.fn fid))
    (ha : S.args true args.toList = some vs) (hp : vs.all V.pureV = true) (hs : S.putv o.dst res = some S') (h : AWL P w0 N0 ops Q (i + 1) rest S') : AWL P w0 N0 ops Q i (o :: rest) S :=
  awl_callG hG hc hfn hb hn hg ho hf ha hp (fun r hr => by subst hr; exact ⟨S', hs, h⟩)

/-- A contract with objects handed in, of a function that reads the variable. -/
def ACSG (b : Nat) (y : Value) (P : Program) (f : FuncId) (args : List V) (ins : List (Nat × Ob)) (R : V → List (Nat × Ob) → Prop) : Prop :=
  ∀ (B : Bs) (N : Nat → Prop) (μ : Mu) (nx : Nat) (xs : List Value), Glb b y B → xs.length = args.length → B.df = [] →
    RelM (fun _ => False) B N μ ⟨env0 0 args, ins, nx, args.length⟩ ⟨xs.toArray, []⟩ B.w →
    Calls P f xs.toArray B.w (fun e w' => ∃ x r outs nx' μ', e = .returned x ∧ R r outs ∧ nx ≤ nx' ∧ RelM (fun _ => False) B N μ' ⟨[(0, r)], outs, nx', 1⟩ ⟨#[x], []⟩ w')

theorem awl_callSG {ops : List Oper} {i : Nat} {o : Oper} {rest : List Oper} {f : Operand} {fid : FuncId} {fn : Func} {args : Array Operand} {ats : Array TypeId} {vs : List V} {ins : List (Nat × Ob)} {R : V → List (Nat × Ob) → Prop}
    (hG : Glb b y w0) (hc : ACSG b y P fid vs ins R) (hfn : P.funcs[fid]? = some fn) (hb : fn.body.isSome = true) (hn : (fn.name == "runtime.NumGoroutine") = false)
    (hg : S.gv ops o = some true) (ho : o.op = .call { callee := .value f, args := args, argTypes := ats }) (hf : S.evc true f = some (.fn fid))
    (ha : S.args true args.toList = some vs) (hins : ∀ k q, get ins k = some q → get S.objs k = some q)
    (h : ∀ r outs nx, R r outs → S.nx + i + 1 ≤ nx → (∀ k, get outs k = none → get ins k = none) ∧ ∃ S', ({ S with objs := outs ++ S.objs, nx := nx } : AS).putv o.dst (wrapG o true r) = some S' ∧ AWL P w0 N0 ops Q (i + 1) rest S') : AWL P w0 N0 ops Q i (o :: rest) S := by
  rintro D a w hD ⟨μ, hr⟩
  refine wpList_step fun K hK => ?_
  rw [wanted_of hr hg, if_pos rfl]
  have hfresh := hr.fresh_lt hD
  obtain ⟨h1, h2⟩ := args_spec hr rfl ha
  have hhand := hr.hand (nx := S.nx + i + 1) hfresh (vs := vs) (xs := args.toList.map a.eval) (ins := ins) (by simp [h1]) hins (fun j x v hx hv => by
    simp only [List.getElem?_map, Option.map_eq_some_iff] at hx
    obtain ⟨y, hy, rfl⟩ := hx
    exact h2 j y v hy hv)
  have hGB : Glb b y ⟨w, OwnB μ ins, μ, []⟩ := ⟨hG.at hr.below, by
    rintro ⟨d, q, c, h3, h4⟩
    obtain ⟨l, hl, hob⟩ := hr.objs d q (hins _ _ h3)
    rw [h4] at hl
    injection hl with hl
    subst hl
    rcases hob.1 with h5 | h5
    · exact absurd hG.cell.lt (by omega)
    · exact hG.notX h5⟩
  have hcall := hc ⟨w, OwnB μ ins, μ, []⟩ _ μ (S.nx + i + 1) (args.toList.map a.eval) hGB (by simp [h1]) rfl hhand
  refine call_run ho (fn_eval hr hf) hfn hb hn hcall ?_ ?_ ?_
  · rintro x w' ⟨x', r, outs, nx', μ', he, hR, hnx, hrel⟩
    injection he with he
    subst he
    obtain ⟨hcov, S', hs, hrest⟩ := h r outs nx' hR hnx
    obtain ⟨hb1, hb2⟩ := hr.back hins hcov hrel
    refine hK _ _ (hrest (fun _ => False) _ w' (fun j hj => hj.elim) ⟨μ', hb1.putv hs ?_⟩)
    unfold wrapG
    split
    · exact hb2
    · exact .whn _ _ _ (fun _ => hb2) (fun hf => by cases hf)
  · rintro ch w' ⟨x', r, outs, nx', μ', he, _⟩
    cases he
  · rintro w' ⟨x', r, outs, nx', μ', he, _⟩
    cases he
end
end Go.Eng

/- A law over read values that also reads a package variable. No condition. -/
set_option linter.unusedSimpArgs false
namespace Go.Eng
open Go.RowKit Go.ChangeShapes Go.WideShapes Go.ChangeAt
theorem row_contractLG {H : Type} {enc : TypeId × Value → H} {P : Program} {f : FuncId} {fn : Func} {s : ChangeSpec} {L : List TypeId} {tb : TypeId} {ts : List TypeId} (hts : fn.params.toList = ts) (hL : okL P L = true) (hok : (ts.all fun t => L.contains t && P.readableRec t && decide (t < P.types.size)) = true) (hlaid : laidOutB P = true) (hres : fn.resultTypes = #[tb]) (htb : P.underlying tb = some .bool)
    (hvars : s.vars = []) (hs : ∀ ds : List (DataW H), ds.length = ts.length → s.fn H ds = { results := [.lit (.bool true)], args := ds }) {b : Nat} {y : Value} (hc : ∀ vs, RdAllW P ts vs → ACG b y P f vs (fun r => r = .bool true))
    {W : World} {base : Nat} {args : Array Value} {ds gs : List (DataW H)} {before : List MemPlace}
    (hG : Glw b y W) (hval : ∀ (j : Nat) t v, fn.params[j]? = some t → args[j]? = some v → Value.okWide P W .any base t v) (hW : DataW.Whole enc P fn.params.toList s.vars false W args.toList ds gs before) :
    Calls P f args W fun e W' => ∃ v, e = .returned v ∧ s.post enc P fn false true false false W args v W' := by
  have hW' := hW
  obtain ⟨p, q, hA, hV, rfl, hfz, hnd⟩ := hW
  rw [hvars] at hV
  obtain ⟨rfl, rfl⟩ := trodVars_none hV
  have hdl : ds.length = ts.length := by
    have : ∀ (ts : List TypeId) (vs : List Value) (ds : List (DataW H)) (ps : List MemPlace), DataW.TrodAll enc P W 0 (fun _ => true) true ts vs ds ps → ds.length = ts.length := by
      intro ts
      induction ts with
      | nil => intro vs ds ps h; obtain ⟨_, rfl, _⟩ := trodAll_nil h; rfl
      | cons t ts ih => intro vs ds ps h; obtain ⟨v, vs', d, ds', p, q, rfl, rfl, rfl, _, h2⟩ := trodAll_cons h; simp [ih _ _ _ h2]
    rw [← hts]; exact this _ _ _ _ hA
  have hall : ∀ t ∈ ts, t ∈ L ∧ P.readableRec t = true ∧ t < P.types.size := by
    intro t ht
    have := List.all_eq_true.1 hok t ht
    simp only [Bool.and_eq_true, decide_eq_true_eq] at this
    exact ⟨by simpa using this.1.1, this.1.2, this.2⟩
  obtain ⟨us, h1, h2⟩ := args_purL (L := L) hL (ts := ts) (fun t ht => (hall t ht).1) (fun j t v ht hv => hval j t v (by rw [← hts] at ht; simpa using ht) (by simpa using hv)) (hts ▸ hA)
  have hcall := hc us h1 W (fun _ => False) args.toList hG (fun _ hb => hb.elim) h2.1 h2.2
  rw [show args.toList.toArray = args by simp] at hcall
  refine hcall.mono ?_
  rintro e W1 ⟨x, r, rfl, rfl, hp, hb⟩
  obtain rfl : x = .bool true := by cases hp; rfl
  refine ⟨_, rfl, ds, [], p ++ [], [], p, [], hW', ?_, ?_, ?_, hb.frame _, fun h => by cases h⟩
  · rw [List.append_nil, hs ds hdl, hres]
    exact trodAll_mk1 (shut_bool htb true)
  · rw [List.append_nil, hs ds hdl]
    exact trodAll_below hlaid hb (fun t ht => (hall t (hts ▸ ht)).2) hA
  · rw [List.append_nil, hs ds hdl, hvars]
    exact rfl

end Go.Eng
