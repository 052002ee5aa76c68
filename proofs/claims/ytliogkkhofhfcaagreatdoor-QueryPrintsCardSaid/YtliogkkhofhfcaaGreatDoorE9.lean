import Derived.Test.YtliogkkhofhfcaaGreatDoorE8
/- A function that appends to a row, called on the nil slice. No condition. -/
set_option linter.unusedSimpArgs false
namespace Go.Eng
open Go.RowKit

theorem ACA.nil {P : Program} {f : FuncId} {args : List V} {sz : Nat} {ty : TypeId} {new : List V} (hc : ACA P f args sz ty [] new) (hfl : new.all flatE = true) :
    ACO P f (.nils :: args) sz ty (fun F es' => (F = fun d q => .sl d q sz new.length) ∧ es' = new) := by
  intro w N xs hN hlen hp
  have hbase : RelM (fun _ => False) ⟨w, fun _ => False, fun _ _ => none, []⟩ N (fun _ _ => none) ⟨env0 0 (.nils :: args), [], 0, args.length + 1⟩ ⟨xs.toArray, []⟩ w := by
    refine ⟨rfl, by simpa using hlen, Bs.Below.refl _, ⟨fun b hb => ⟨hN b hb, fun h => h⟩, fun _ _ _ h => by cases h⟩, fun d v hv => absurd rfl hv, fun d o hd => by simp [get] at hd, fun d o _ _ _ _ _ hd => by simp [get] at hd, fun t v hv => ?_⟩
    obtain ⟨_, h2⟩ := get_env0 hv
    simp only [Nat.sub_zero] at h2
    have ht : t < (V.nils :: args).length := (List.getElem?_eq_some_iff.1 h2).1
    simp only [List.length_cons] at ht hlen
    refine ⟨by simp only; omega, .pur ?_⟩
    have hx : xs[t]? = some xs[t] := List.getElem?_eq_getElem (by omega)
    have := hp t xs[t] v hx h2
    have hget : xs.toArray.getD t undef = xs[t] := by
      rw [Array.getD_eq_getD_getElem?]; simp [hx]
    rw [hget]
    exact this.keep (Keeps.refl _ _) (fun b hb ho => by
      rcases ho with h0 | ⟨d, o, c, h1, _⟩
      · exact h0
      · simp [get] at h1)
  obtain ⟨μ, hr⟩ := le_adoptS (S := ⟨env0 0 (.nils :: args), [], 0, args.length + 1⟩) (t := 0) (d := 0) (sz := sz) (ty := ty) (by simp [env0, get]) _ _ _ _ ⟨_, hbase⟩
  have hr2 : RelM (fun _ => False) ⟨w, fun _ => False, fun _ _ => none, []⟩ N μ ⟨env0 0 (.sl 0 0 sz ([] : List V).length :: args), [(0, ⟨0, sz, ty, []⟩)], 1, (V.sl 0 0 sz ([] : List V).length :: args).length⟩ ⟨xs.toArray, []⟩ w := by
    refine ⟨hr.defers, hr.size, hr.below, hr.n0, hr.fresh, hr.objs, hr.inj, fun t v hv => hr.env t v ?_⟩
    simp only [AS.adoptS, env0, get_cons] at hv ⊢
    split at hv
    · rename_i e; rw [if_pos e]; exact hv
    · rename_i e; rw [if_neg e, if_neg e]; exact hv
  refine (hc 0 0 ⟨w, fun _ => False, fun _ _ => none, []⟩ N μ 1 xs (by simpa using hlen) rfl hr2).mono ?_
  rintro e w' (⟨x, r, outs, nx', μ', rfl, ⟨v', rfl, rfl⟩, hnx, hrel⟩ | ⟨ch, _, hE, _⟩)
  · simp only [List.nil_append] at hrel
    obtain ⟨l, hl, hob⟩ := hrel.objs 0 ⟨v', sz, ty, new⟩ (by simp [get])
    simp only at hl
    refine ⟨x, _, new, l, rfl, ⟨rfl, rfl⟩, hrel.below.plain, fun d v μ' N' hμ => ⟨?_, ?_⟩⟩
    · have hx' := (hrel.env 0 _ (by simp [get]; rfl)).2
      have hx0 : (#[x] : Array Value).getD 0 undef = x := by simp
      rw [hx0] at hx'
      generalize hev : V.sl 0 v' sz new.length = sv at hx'
      cases hx' with
      | pur hp => cases hp <;> cases hev
      | slr d1 v1 sz1 len1 g cap h1 h2 h3 =>
        injection hev with e1 e2 e3 e4
        subst e1; subst e2; subst e3; subst e4
        rw [hl] at h1
        injection h1 with h1
        subst h1
        exact .slr d v sz _ g cap hμ h2 h3
      | slv d1 v1 sz1 A h1 =>
        injection hev with e1 e2 e3 e4
        subst e1; subst e2; subst e3
        rw [hl] at h1
        injection h1 with h1
        subst h1
        rw [e4]
        exact .slv d v sz A hμ
      | _ => cases hev
    · cases l with
      | none => exact hob
      | some gc =>
        obtain ⟨h1, h2, h3, h4, arr, h5, h6, h7⟩ := hob
        refine ⟨h1, h2, h3, h4, arr, h5, h6, fun k e j c he' hj => ?_⟩
        obtain ⟨y, hy, hey⟩ := h7 k e j c he' hj
        have hfc : c.flat = true := List.all_eq_true.1 (List.all_eq_true.1 hfl e (List.mem_of_getElem? he')) c (List.mem_of_getElem? hj)
        exact ⟨y, hy, .pur ((hey.flatP hfc).of_flat hfc)⟩
  · exact hE.elim
end Go.Eng

/- Contracts of functions that rely on what package variables hold; calls of bound methods. No condition. -/
set_option linter.unusedSimpArgs false
namespace Go.Eng
open Go.RowKit

/-- What is known of package variables: it stands while their blocks stand. -/
structure Gp where
  P : World → Prop
  bl : Nat → Prop
  stable : ∀ w w', P w → (∀ b, bl b → w'.heap[b]? = w.heap[b]?) → P w'
  low : ∀ w, P w → ∀ b, bl b → b < w.heap.size
structure Gon (G : Gp) (B : Bs) : Prop where
  here : G.P B.w
  notX : ∀ b, G.bl b → ¬ B.X b
theorem Gon.at {G : Gp} {B : Bs} {w : World} (h : Gon G B) (hb : B.Below w) : G.P w :=
  G.stable _ _ h.here (fun b hbl => hb.block b (G.low _ h.here b hbl) (h.notX b hbl))

def ACQ (G : Gp) (P : Program) (f : FuncId) (args : List V) (R : V → Prop) : Prop :=
  ∀ (w : World) (N : Nat → Prop) (xs : List Value), G.P w → (∀ b, N b → b < w.heap.size) → xs.length = args.length → (∀ (i : Nat) x v, xs[i]? = some x → args[i]? = some v → Pur w N x v) →
    Calls P f xs.toArray w (fun e w' => ∃ x r, e = .returned x ∧ R r ∧ Pur w' N x r ∧ Below w.heap.size w w')
theorem AC.q {P : Program} {f : FuncId} {args : List V} {R : V → Prop} (h : AC P f args R) (G : Gp) : ACQ G P f args R := fun w N xs _ h1 h2 h3 => h w N xs h1 h2 h3
theorem ACQ.mono {G : Gp} {P : Program} {f : FuncId} {args : List V} {R R' : V → Prop} (h : ACQ G P f args R) (hr : ∀ r, R r → R' r) : ACQ G P f args R' :=
  fun w N xs h0 h1 h2 h3 => (h w N xs h0 h1 h2 h3).mono fun _ _ ⟨x, r, he, hR, hp, hb⟩ => ⟨x, r, he, hr r hR, hp, hb⟩
theorem ACQ.relaxP {G : Gp} {P : Program} {f : FuncId} {args : List V} {v' : V} (h : ACQ G P f args (fun r => Relax r v')) : ACQ G P f args (fun r => r = v') :=
  fun w N xs h0 h1 h2 h3 => (h w N xs h0 h1 h2 h3).mono fun _ _ ⟨x, _, he, hR, hp, hb⟩ => ⟨x, v', he, rfl, hR.1 _ _ _ hp, hb⟩
theorem ACQ.argsR {G : Gp} {P : Program} {f : FuncId} {args args' : List V} {R : V → Prop} (h : ACQ G P f args' R) (hr : RelaxL args args') : ACQ G P f args R :=
  fun w N xs h0 h1 h2 h3 => h w N xs h0 h1 (by rw [h2, hr.length]) (fun i x v hx hv => by
    obtain ⟨u, h4, h5⟩ := hr.get i v hv
    exact h5.1 _ _ _ (h3 i x u hx h4))
theorem acq_lenR {G : Gp} {P : Program} {f : FuncId} {args : List V} {R : V → Prop} (i : Nat) {sz : Nat} {es : List V} (h : args[i]? = some (.ro sz es)) (k : es.length ≤ maxLen → ACQ G P f args R) : ACQ G P f args R := by
  intro w N xs hG hN hl hp
  have hi : i < args.length := (List.getElem?_eq_some_iff.1 h).1
  have hx : xs[i]? = some xs[i] := List.getElem?_eq_getElem (by omega)
  exact k (hp i _ _ hx h).ro_len w N xs hG hN hl hp

section
variable {P : Program} {kb : Nat} {w0 : Bs} {N0 : Nat → Prop} {Q : Exit → AS → Prop} {S S' : AS} {G : Gp}

theorem acq_intro {f : FuncId} {fn : Func} {c : Code} {args : List V} {R : V → Prop} (hf : P.funcs[f]? = some fn) (hb : fn.body = some c) (hl : args.length ≤ fn.ntmps)
    (h : ∀ w0 N0, Gon G w0 → AW P w0 N0 c (Ends P fn R) ⟨env0 0 args, [], 0, fn.ntmps⟩) : ACQ G P f args R := by
  intro w N xs hG hN hlen hp
  refine calls_of_wp hf hb (wp_mono (h ⟨w, fun _ => False, fun _ _ => none, []⟩ N ⟨hG, fun _ _ h => h⟩ _ w ⟨fun _ _ => none, ⟨rfl, ?_, Bs.Below.refl _, ⟨fun b hb => ⟨hN b hb, fun h => h⟩, fun _ _ _ h => by cases h⟩, fun d v hv => absurd rfl hv, fun d o hd => ?_, fun d o _ _ _ _ _ hd => ?_, fun t v hv => ?_⟩⟩) ?_)
  · simp only [Array.size_append, List.size_toArray, Array.size_replicate]; omega
  · simp [get] at hd
  · simp [get] at hd
  · obtain ⟨_, h2⟩ := get_env0 hv
    simp only [Nat.sub_zero] at h2
    have ht : t < args.length := (List.getElem?_eq_some_iff.1 h2).1
    refine ⟨by simp only; omega, .pur ?_⟩
    have hx : xs[t]? = some xs[t] := List.getElem?_eq_getElem (by omega)
    have := hp t xs[t] v hx h2
    have hget : (xs.toArray ++ Array.replicate (fn.ntmps - xs.toArray.size) undef).getD t undef = xs[t] := by
      rw [Array.getD_eq_getD_getElem?, Array.getElem?_append_left (by simp; omega)]
      simp [hx]
    rw [hget]
    exact this.keep (Keeps.refl _ _) (fun b hb ho => by
      rcases ho with h0 | ⟨d, o, c, h1, _⟩
      · exact h0
      · simp [get] at h1)
  · rintro e a' w' ⟨S', hE, ⟨μ, hr⟩⟩
    have key : (match aresults P S' fn.results.toList with | some r => R r | none => False) → ∃ v, (results fn a'.tmps).run P w' = .ok v w' ∧ ∃ x r, Ending.returned v = .returned x ∧ R r ∧ Pur w' N x r ∧ Below w.heap.size w w' := by
      intro hk
      split at hk
      · rename_i r hres
        obtain ⟨x, hx, hpx⟩ := aresults_run hr hres
        exact ⟨x, hx, x, r, rfl, hk, hpx, hr.below.plain⟩
      · exact hk.elim
    cases e with
    | ret => exact ⟨hr.defers, key hE⟩
    | normal => exact ⟨hr.defers, key hE⟩
    | _ => exact hE.elim

/-- The model takes a call on pure values of a function that relies on package variables. -/
theorem opq_callQ {ops : List Oper} {i : Nat} {o : Oper} {f : Operand} {fid : FuncId} {fn : Func} {args : Array Operand} {ats : Array TypeId} {vs : List V} {res : V}
    (hG : Gon G w0) (hc : ACQ G P fid vs (fun r => r = res)) (hfn : P.funcs[fid]? = some fn) (hb : fn.body.isSome = true) (hn : (fn.name == "runtime.NumGoroutine") = false)
    (hg : S.gv ops o = some true) (ho : o.op = .call { callee := .value f, args := args, argTypes := ats }) (hf : S.evc true f = some (.fn fid))
    (ha : S.args true args.toList = some vs) (hp : vs.all V.pureV = true) (hs : S.putv o.dst (wrapG o true res) = some S') : OpqStep P w0 ops i o S S' := by
  obtain ⟨hs1, hs2⟩ := putv_ap hs
  refine ⟨wrapG o true res, [], hs1, fun T hT hob N0 D a w hr hi hDb K Q' hK => ?_⟩
  replace hg : T.gv ops o = some true := by rw [← hT.gv]; exact hg
  replace hf : T.evc true f = some (.fn fid) := by rw [← hT.evc (by rw [ho]; simp [Op.operands, Call.operands])]; exact hf
  replace ha : T.args true args.toList = some vs := by rw [← args_congr (S := S) (T := T) (fun x hx => hT.evc (by rw [ho]; simp [Op.operands, Call.operands]; right; simpa using hx) true)]; exact ha
  have hs := ap_putv (S := T) (wrapG o true res) (fun d hd => by rw [← hT.2.1]; exact hs2 d hd)
  obtain ⟨μ, hr⟩ := hr
  rw [wanted_of hr hg, if_pos rfl]
  obtain ⟨h1, h2⟩ := args_spec hr rfl ha
  unfold Oper.wp
  rw [run_call_fn ho (fn_eval hr hf) hfn hb hn]
  have hcall := hc w (Own N0 μ T) (args.toList.map a.eval) (hG.at hr.below) hr.own_lt (by simp [h1]) (fun j x v hx hv => by
    simp only [List.getElem?_map, Option.map_eq_some_iff] at hx
    obtain ⟨y, hy, rfl⟩ := hx
    exact (h2 j y v hy hv).pureV (List.all_eq_true.1 hp v (List.mem_of_getElem? hv)))
  have harr : (args.toList.map a.eval).toArray = args.map a.eval := by apply Array.ext'; simp
  rw [harr] at hcall
  refine hcall.mono ?_
  rintro e w' ⟨x, r, rfl, rfl, hpx, hbw⟩
  refine hK _ _ ⟨μ, ((hr.later hbw).putv hs ?_).more (fun j hj => .inl hj)⟩
  unfold wrapG
  split
  · exact .pur hpx
  · exact .whn _ _ _ (fun _ => .pur hpx) (fun hf => by cases hf)
theorem OpqStep.gen {ops : List Oper} {i : Nat} {o : Oper} (h : OpqStep P w0 ops i o S S') : GenStep P w0 ops i o S S' := by
  obtain ⟨u, O, rfl, h⟩ := h
  exact h S ⟨fun _ _ => rfl, rfl, rfl⟩ (fun _ => rfl)
theorem awl_callQ {ops : List Oper} {i : Nat} {o : Oper} {rest : List Oper} {f : Operand} {fid : FuncId} {fn : Func} {args : Array Operand} {ats : Array TypeId} {vs : List V} {res : V}
    (hG : Gon G w0) (hc : ACQ G P fid vs (fun r => r = res)) (hfn : P.funcs[fid]? = some fn) (hb : fn.body.isSome = true) (hn : (fn.name == "runtime.NumGoroutine") = false)
    (hlt : i < ops.length) (hg : S.gv ops o = some true) (ho : o.op = .call { callee := .value f, args := args, argTypes := ats }) (hf : S.evc true f = some (.fn fid))
    (ha : S.args true args.toList = some vs) (hp : vs.all V.pureV = true) (hs : S.putv o.dst (wrapG o true res) = some S') (h : AWL P w0 N0 ops Q (i + 1) rest S') : AWL P w0 N0 ops Q i (o :: rest) S :=
  awl_gen hlt (opq_callQ hG hc hfn hb hn hg ho hf ha hp hs).gen h
theorem sx_callQ {X : List Nat} {ops : List Oper} {i : Nat} {o : Oper} {f : Operand} {fid : FuncId} {fn : Func} {args : Array Operand} {ats : Array TypeId} {vs : List V} {res : V}
    (hX : i ∈ X) (hG : Gon G w0) (hc : ACQ G P fid vs (fun r => r = res)) (hfn : P.funcs[fid]? = some fn) (hb : fn.body.isSome = true) (hn : (fn.name == "runtime.NumGoroutine") = false)
    (hg : S.gv ops o = some true) (ho : o.op = .call { callee := .value f, args := args, argTypes := ats }) (hf : S.evc true f = some (.fn fid))
    (ha : S.args true args.toList = some vs) (hp : vs.all V.pureV = true) (hs : S.putv o.dst (wrapG o true res) = some S') : StepX P kb w0 X ops i o S S' :=
  .inr (.inr ⟨hX, opq_callQ hG hc hfn hb hn hg ho hf ha hp hs⟩)

/-- The contract with objects handed in, of a function that relies on package variables. -/
def ACSQ (G : Gp) (P : Program) (f : FuncId) (args : List V) (ins : List (Nat × Ob)) (R : V → List (Nat × Ob) → Prop) : Prop :=
  ∀ (B : Bs) (N : Nat → Prop) (μ : Mu) (nx : Nat) (xs : List Value), Gon G B → xs.length = args.length → B.df = [] →
    RelM (fun _ => False) B N μ ⟨env0 0 args, ins, nx, args.length⟩ ⟨xs.toArray, []⟩ B.w →
    Calls P f xs.toArray B.w (fun e w' => ∃ x r outs nx' μ', e = .returned x ∧ R r outs ∧ nx ≤ nx' ∧ RelM (fun _ => False) B N μ' ⟨[(0, r)], outs, nx', 1⟩ ⟨#[x], []⟩ w')
theorem ACS.q {f : FuncId} {args : List V} {ins : List (Nat × Ob)} {R : V → List (Nat × Ob) → Prop} (h : ACS P f args ins R (fun _ => False)) (G : Gp) : ACSQ G P f args ins R :=
  fun B N μ nx xs _ h1 h2 h3 => (h B N μ nx xs h1 h2 h3).mono fun _ _ hh => hh.elim id (fun ⟨_, _, h, _⟩ => h.elim)
theorem ACSQ.mono {f : FuncId} {args : List V} {ins : List (Nat × Ob)} {R R' : V → List (Nat × Ob) → Prop} (h : ACSQ G P f args ins R) (hR : ∀ r o, R r o → R' r o) : ACSQ G P f args ins R' :=
  fun B N μ nx xs h0 h1 h2 h3 => (h B N μ nx xs h0 h1 h2 h3).mono fun _ _ ⟨x, r, outs, nx', μ', a, b, c⟩ => ⟨x, r, outs, nx', μ', a, hR _ _ b, c⟩
/-- What is handed in leaves package variables alone. -/
theorem Gon.hand {D : Nat → Prop} {μ : Mu} {a : Act} {w : World} (hG : Gon G w0) (hr : RelM D w0 N0 μ S a w) {ins : List (Nat × Ob)} (hins : ∀ k q, get ins k = some q → get S.objs k = some q) : Gon G ⟨w, OwnB μ ins, μ, []⟩ :=
  ⟨hG.at hr.below, by
    rintro b hbl ⟨d, q, c, h3, h4⟩
    obtain ⟨l, hl, hob⟩ := hr.objs d q (hins _ _ h3)
    rw [h4] at hl
    injection hl with hl
    subst hl
    rcases hob.1 with h5 | h5
    · exact absurd (G.low _ hG.here b hbl) (by omega)
    · exact hG.notX b hbl h5⟩

/-- A function value with first arguments. -/
theorem clo_eval {D : Nat → Prop} {μ : Mu} {a : Act} {w : World} (h : RelM D w0 N0 μ S a w) {f : Operand} {fid : FuncId} {us : List V} (hf : S.evc true f = some (.clo fid us [])) : ∃ ys : List Value, a.eval f = .func (.func fid) ys.toArray #[] ∧ ys.length = us.length ∧ ∀ (i : Nat) x c, ys[i]? = some x → us[i]? = some c → Enc w (Own N0 μ S) μ x c := by
  have hfv := h.evc hf rfl
  generalize a.eval f = y at hfv
  cases hfv with
  | pur hfv => cases hfv
  | clo _ xs ys cs ds hl hm hc hh hk =>
    have : ys = [] := by cases ys with | nil => rfl | cons _ _ => simp at hm
    subst this
    exact ⟨xs, rfl, hl, hh⟩
theorem call_runC {o : Oper} {a : Act} {w : World} {f : Operand} {fid : FuncId} {fn : Func} {args : Array Operand} {ats : Array TypeId} {ys : List Value} (ho : o.op = .call { callee := .value f, args := args, argTypes := ats }) (hf : a.eval f = .func (.func fid) ys.toArray #[])
    (hfn : P.funcs[fid]? = some fn) (hb : fn.body.isSome = true) (hn : (fn.name == "runtime.NumGoroutine") = false) {K : Act → World → Prop} {Q' : Exit → Act → World → Prop} {R : Ending → World → Prop}
    (hc : Calls P fid (ys ++ args.toList.map a.eval).toArray w R) (h1 : ∀ x w', R (.returned x) w' → K (a.put o.dst x) w') (h2 : ∀ ch w', R (.panicked ch) w' → Q' (.panic ch) a w') (h3 : ∀ w', ¬ R .outgrown w') : o.wp P a w K Q' := by
  have hrun : (execOp a.eval o).run P w = .ok (.enter fid (ys ++ args.toList.map a.eval).toArray) w := by
    unfold execOp
    rw [ho]
    obtain ⟨c, hc⟩ := Option.isSome_iff_exists.1 hb
    have hn' : ¬ fn.name = "runtime.NumGoroutine" := by simpa using hn
    have harr : (ys ++ args.toList.map a.eval).toArray = ys.toArray ++ args.map a.eval := by apply Array.ext'; simp
    simp [resolve, hf, Deferred.ofValue, invoke, callFunc, hfn, hn', hc, harr]
  unfold Oper.wp
  rw [hrun]
  refine hc.mono ?_
  intro e w' hR
  cases e with
  | returned x => exact h1 x w' hR
  | panicked ch => exact h2 ch w' hR
  | outgrown => exact (h3 w' hR).elim
end
end Go.Eng

/- Calls that hand in objects: of functions that rely on package variables, and of bound methods. No condition. -/
set_option linter.unusedSimpArgs false
namespace Go.Eng
open Go.RowKit
section
variable {P : Program} {kb : Nat} {w0 : Bs} {N0 : Nat → Prop} {Q : Exit → AS → Prop} {S S' : AS} {G : Gp}

theorem acsq_intro {f : FuncId} {fn : Func} {c : Code} {args : List V} {ins : List (Nat × Ob)} {R : V → List (Nat × Ob) → Prop} (hf : P.funcs[f]? = some fn) (hb : fn.body = some c) (hl : args.length ≤ fn.ntmps)
    (h : ∀ w0 N0 nx, Gon G w0 → AW P w0 N0 c (EndsS P fn R (fun _ => False) nx) ⟨env0 0 args, ins, nx, fn.ntmps⟩) : ACSQ G P f args ins R := by
  intro B N μ nx xs hG hlen hd hr
  refine calls_of_wp hf hb (wp_mono (h B N nx hG _ B.w ⟨μ, hr.enter hlen hl hd⟩) ?_)
  rintro e a' w' ⟨S', hE, ⟨μ', hr'⟩⟩
  have hdf : a'.defers = [] := by rw [hr'.defers, hd]
  have key : nx ≤ S'.nx ∧ (∃ r outs, aresT P S' fn.results.toList = some r ∧ (∀ k o, get outs k = some o → get S'.objs k = some o) ∧ R r outs) → ∃ v, (results fn a'.tmps).run P w' = .ok v w' ∧
      (∃ x r outs nx' μ', Ending.returned v = .returned x ∧ R r outs ∧ nx ≤ nx' ∧ RelM (fun _ => False) B N μ' ⟨[(0, r)], outs, nx', 1⟩ ⟨#[x], []⟩ w') := by
    rintro ⟨hnx, r, outs, h1, h2, h3⟩
    obtain ⟨x, hx, hex⟩ := aresT_run hr' h1
    exact ⟨x, hx, x, r, outs, S'.nx, μ', rfl, h3, hnx, hr'.leave hd hex h2⟩
  cases e with
  | ret => exact ⟨hdf, key hE⟩
  | normal => exact ⟨hdf, key hE⟩
  | panic ch => exact hE.elim
  | exit id => exact hE.elim
  | goto l => exact hE.elim
  | outgrown => exact hE.elim

/-- A call that is handed objects of the call's own, of a function that relies on package variables. -/
theorem awl_callSQ {ops : List Oper} {i : Nat} {o : Oper} {rest : List Oper} {f : Operand} {fid : FuncId} {fn : Func} {args : Array Operand} {ats : Array TypeId} {vs : List V} {ins : List (Nat × Ob)} {R : V → List (Nat × Ob) → Prop}
    (hG : Gon G w0) (hc : ACSQ G P fid vs ins R) (hfn : P.funcs[fid]? = some fn) (hb : fn.body.isSome = true) (hn : (fn.name == "runtime.NumGoroutine") = false)
    (hg : S.gv ops o = some true) (ho : o.op = .call { callee := .value f, args := args, argTypes := ats }) (hf : S.evc true f = some (.fn fid))
    (ha : S.args true args.toList = some vs) (hins : ∀ k q, get ins k = some q → get S.objs k = some q)
    (h : ∀ r outs nx, R r outs → S.nx + i + 1 ≤ nx → (∀ k, get outs k = none → get ins k = none) ∧ ∃ S', ({ S with objs := outs ++ S.objs, nx := nx } : AS).putv o.dst (wrapG o true r) = some S' ∧ AWL P w0 N0 ops Q (i + 1) rest S') : AWL P w0 N0 ops Q i (o :: rest) S := by
  rintro D a w hD ⟨μ, hr⟩
  refine wpList_step fun K hK => ?_
  rw [wanted_of hr hg, if_pos rfl]
  have hfresh := hr.fresh_lt hD
  obtain ⟨h1, h2⟩ := args_spec hr rfl ha
  have hhand := hr.hand (nx := S.nx + i + 1) hfresh (vs := vs) (xs := args.toList.map a.eval) (ins := ins) (by simp [h1]) hins (fun j x v hx hv => by
    simp only [List.getElem?_map, Option.map_eq_some_iff] at hx
    obtain ⟨y, hy, rfl⟩ := hx
    exact h2 j y v hy hv)
  have hcall := hc ⟨w, OwnB μ ins, μ, []⟩ _ μ (S.nx + i + 1) (args.toList.map a.eval) (hG.hand hr hins) (by simp [h1]) rfl hhand
  refine call_run ho (fn_eval hr hf) hfn hb hn hcall ?_ ?_ ?_
  · rintro x w' ⟨x', r, outs, nx', μ', he, hR, hnx, hrel⟩
    injection he with he
    subst he
    obtain ⟨hcov, S', hs, hrest⟩ := h r outs nx' hR hnx
    obtain ⟨hb1, hb2⟩ := hr.back hins hcov hrel
    refine hK _ _ (hrest (fun _ => False) _ w' (fun j hj => hj.elim) ⟨μ', hb1.putv hs ?_⟩)
    unfold wrapG
    split
    · exact hb2
    · exact .whn _ _ _ (fun _ => hb2) (fun hf => by cases hf)
  · rintro ch w' ⟨x', r, outs, nx', μ', he, _⟩
    cases he
  · rintro w' ⟨x', r, outs, nx', μ', he, _⟩
    cases he

/-- A call of a bound method: first arguments ahead of the others. -/
theorem awl_callC {ops : List Oper} {i : Nat} {o : Oper} {rest : List Oper} {f : Operand} {fid : FuncId} {fn : Func} {args : Array Operand} {ats : Array TypeId} {us vs : List V} {ins : List (Nat × Ob)} {R : V → List (Nat × Ob) → Prop}
    (hc : ACS P fid (us ++ vs) ins R (fun _ => False)) (hfn : P.funcs[fid]? = some fn) (hb : fn.body.isSome = true) (hn : (fn.name == "runtime.NumGoroutine") = false)
    (hg : S.gv ops o = some true) (ho : o.op = .call { callee := .value f, args := args, argTypes := ats }) (hf : S.evc true f = some (.clo fid us []))
    (ha : S.args true args.toList = some vs) (hins : ∀ k q, get ins k = some q → get S.objs k = some q)
    (h : ∀ r outs nx, R r outs → S.nx + i + 1 ≤ nx → (∀ k, get outs k = none → get ins k = none) ∧ ∃ S', ({ S with objs := outs ++ S.objs, nx := nx } : AS).putv o.dst (wrapG o true r) = some S' ∧ AWL P w0 N0 ops Q (i + 1) rest S') : AWL P w0 N0 ops Q i (o :: rest) S := by
  rintro D a w hD ⟨μ, hr⟩
  refine wpList_step fun K hK => ?_
  rw [wanted_of hr hg, if_pos rfl]
  have hfresh := hr.fresh_lt hD
  obtain ⟨h1, h2⟩ := args_spec hr rfl ha
  obtain ⟨ys, hy1, hy2, hy3⟩ := clo_eval hr hf
  have hhand := hr.hand (nx := S.nx + i + 1) hfresh (vs := us ++ vs) (xs := ys ++ args.toList.map a.eval) (ins := ins) (by simp [h1, hy2]) hins (fun j x v hx hv => by
    by_cases hj : j < ys.length
    · rw [List.getElem?_append_left hj] at hx
      rw [List.getElem?_append_left (by rw [← hy2]; exact hj)] at hv
      exact hy3 j x v hx hv
    · rw [List.getElem?_append_right (by omega)] at hx
      rw [List.getElem?_append_right (by omega), ← hy2] at hv
      simp only [List.getElem?_map, Option.map_eq_some_iff] at hx
      obtain ⟨y, hy, rfl⟩ := hx
      exact h2 _ y v hy hv)
  have hcall := hc ⟨w, OwnB μ ins, μ, []⟩ _ μ (S.nx + i + 1) (ys ++ args.toList.map a.eval) (by simp [h1, hy2]) rfl hhand
  refine call_runC ho hy1 hfn hb hn hcall ?_ ?_ ?_
  · rintro x w' (⟨x', r, outs, nx', μ', he, hR, hnx, hrel⟩ | ⟨ch, he, _⟩)
    · injection he with he
      subst he
      obtain ⟨hcov, S', hs, hrest⟩ := h r outs nx' hR hnx
      obtain ⟨hb1, hb2⟩ := hr.back hins hcov hrel
      refine hK _ _ (hrest (fun _ => False) _ w' (fun j hj => hj.elim) ⟨μ', hb1.putv hs ?_⟩)
      unfold wrapG
      split
      · exact hb2
      · exact .whn _ _ _ (fun _ => hb2) (fun hf => by cases hf)
    · cases he
  · rintro ch w' (⟨x', r, outs, nx', μ', he, _⟩ | ⟨ch', _, hE, _⟩)
    · cases he
    · exact hE.elim
  · rintro w' (⟨x', r, outs, nx', μ', he, _⟩ | ⟨ch', he, _⟩) <;> cases he
end
end Go.Eng

/- A range over a string. No condition. -/
set_option linter.unusedSimpArgs false
namespace Go.Eng
open Go.RowKit
section
variable {P : Program} {w0 : Bs} {N0 : Nat → Prop} {Q : Exit → AS → Prop} {S S' : AS}

/-- The call as if it began here: it may write what it owns; all else stands. -/
def baseAt (w0 : Bs) (w : World) (μ : Mu) (S : AS) : Bs := ⟨w, OwnB μ S.objs, μ, w0.df⟩
/-- How such a beginning hangs on the call's own. -/
structure Anch (w0 : Bs) (N0 : Nat → Prop) (μ : Mu) (S : AS) (w : World) : Prop where
  below : w0.Below w
  own : ∀ g, OwnB μ S.objs g → w0.free g
  n0 : ∀ b, N0 b → b < w0.w.heap.size ∧ ¬ w0.X b
  m : ∀ d v l, w0.M d v = some l → μ d v = some l
theorem RelM.anch {D : Nat → Prop} {μ : Mu} {a : Act} {w : World} (h : RelM D w0 N0 μ S a w) : Anch w0 N0 μ S w := by
  refine ⟨h.below, fun g ho => ?_, h.n0.1, h.n0.2⟩
  obtain ⟨d, o, c, h1, h2⟩ := ho
  obtain ⟨l, hl, hob⟩ := h.objs d o h1
  rw [h2] at hl
  injection hl with hl
  subst hl
  exact hob.1
theorem RelM.rebase {D : Nat → Prop} {μ : Mu} {a : Act} {w : World} (h : RelM D w0 N0 μ S a w) {w1 : Bs} (hdf : w1.df = w0.df) : RelM D (baseAt w1 w μ S) N0 μ S a w := by
  have han := h.anch
  refine ⟨h.defers.trans hdf.symm, h.size, Bs.Below.refl _, ⟨fun b hb => ⟨Nat.lt_of_lt_of_le (h.n0.1 b hb).1 h.below.size, fun ho => ?_⟩, fun _ _ _ hh => hh⟩, h.fresh, fun d o hd => ?_, h.inj, h.env⟩
  · rcases han.own b ho with h1 | h1
    · exact absurd (h.n0.1 b hb).1 (by omega)
    · exact (h.n0.1 b hb).2 h1
  · obtain ⟨l, hl, hob⟩ := h.objs d o hd
    refine ⟨l, hl, ?_⟩
    cases l with
    | none => exact hob
    | some gc => exact ⟨.inr ⟨d, o, gc.2, hd, hl⟩, hob.2⟩
/-- Back to where the call began. -/
theorem Anch.back {D2 : Nat → Prop} {μ μ2 : Mu} {a2 : Act} {w w2 : World} {S2 : AS} {N1 : Nat → Prop} (h : Anch w0 N0 μ S w) (hN : ∀ b, N0 b → N1 b) (h2 : RelM D2 (baseAt w0 w μ S) N1 μ2 S2 a2 w2) : RelM D2 w0 N0 μ2 S2 a2 w2 := by
  have hsub : ∀ b, b < w2.heap.size → Own N0 μ2 S2 b → Own N1 μ2 S2 b := fun b _ hb => hb.imp (hN b) id
  have hk : Keeps w2 (Own N1 μ2 S2) w2 := Keeps.refl _ _
  refine ⟨h2.defers, h2.size, ⟨h2.below.os.trans h.below.os, h2.below.tape.trans h.below.tape, h2.below.output.trans h.below.output, Nat.le_trans h.below.size h2.below.size, fun k hk hx => ?_⟩, ⟨h.n0, fun d v l hl => h2.n0.2 d v l (h.m d v l hl)⟩, h2.fresh, fun d o hd => ?_, h2.inj, fun t v hv => ⟨(h2.env t v hv).1, (h2.env t v hv).2.keep hk hsub (fun _ _ _ hh => hh)⟩⟩
  · refine (h2.below.block k (Nat.lt_of_lt_of_le hk h.below.size) (fun ho => ?_)).trans (h.below.block k hk hx)
    rcases h.own k ho with h1 | h1
    · omega
    · exact hx h1
  · obtain ⟨l, hl, hob⟩ := h2.objs d o hd
    refine ⟨l, hl, ?_⟩
    cases l with
    | none => exact hob
    | some gc =>
      obtain ⟨h1, h3, h4, h5, arr, h6, h7, h8⟩ := hob
      refine ⟨?_, h3, h4, h5, arr, h6, h7, fun k e j c he hj => ?_⟩
      · rcases h1 with h1 | h1
        · exact .inl (Nat.le_trans h.below.size h1)
        · exact h.own _ h1
      · obtain ⟨x, hx, hex⟩ := h8 k e j c he hj
        exact ⟨x, hx, hex.keep hk hsub (fun _ _ _ hh => hh)⟩
/-- A block that no value and no object touches changes. -/
theorem RelM.turn {D : Nat → Prop} {μ : Mu} {a : Act} {w w1 : World} {b : Nat} (h : RelM D (baseAt w0 w μ S) N0 μ S a w) (hb : N0 b) (hk : ∀ k, k ≠ b → w1.heap[k]? = w.heap[k]?) (hsz : w1.heap.size = w.heap.size) : RelM D (baseAt w0 w1 μ S) N0 μ S a w1 := by
  have hkeep : Keeps w (Own N0 μ S) w1 := ⟨by omega, fun k _ hn => hk k (fun e => hn (.inl (e ▸ hb)))⟩
  refine ⟨h.defers, h.size, Bs.Below.refl _, ⟨fun x hx => ⟨by have := (h.n0.1 x hx).1; simp only [baseAt] at this ⊢; omega, (h.n0.1 x hx).2⟩, fun _ _ _ hh => hh⟩, h.fresh, fun d o hd => ?_, h.inj, fun t v hv => ⟨(h.env t v hv).1, (h.env t v hv).2.keep hkeep (fun _ _ hh => hh) (fun _ _ _ hh => hh)⟩⟩
  obtain ⟨l, hl, hob⟩ := h.objs d o hd
  refine ⟨l, hl, ?_⟩
  cases l with
  | none => exact hob
  | some gc =>
    obtain ⟨h1, h3, h4, h5, arr, h6, h7, h8⟩ := hob
    have hne : gc.1 ≠ b := fun e => (h.n0.1 b hb).2 (e ▸ ⟨d, o, gc.2, hd, hl⟩)
    refine ⟨.inr ⟨d, o, gc.2, hd, hl⟩, h3, h4, h5, arr, (hk _ hne).trans h6, h7, fun k e j c he hj => ?_⟩
    obtain ⟨x, hx, hex⟩ := h8 k e j c he hj
    exact ⟨x, hx, hex.keep hkeep (fun _ _ hh => hh) (fun _ _ _ hh => hh)⟩

/-- The rune at a place of a string, and its width. -/
def runeAt (l : List UInt8) (pos : Nat) : Nat × Nat := Utf8.decode ⟨l.toArray⟩ pos
theorem runeAt_pos (l : List UInt8) (pos : Nat) : 1 ≤ (runeAt l pos).2 := by
  unfold runeAt Utf8.decode
  simp only
  repeat' split
  all_goals simp

theorem aw_strRange {α : Type} {r0 r1 bid ty d0 d1 d2 d3 : Nat} {o0 o1 o2 o3 : Oper} {x : Operand} {rest : Code} {l : List UInt8} (dI : Nat) (st : α → AS) (Inv : α → Nat → Prop) (x0 : α)
    (g0 : o0.guard = none) (p0 : o0.op = .move x) (q0 : o0.dst = some d0) (g1 : o1.guard = none) (p1 : o1.op = .range ty (.tmp d0)) (q1 : o1.dst = some d1)
    (g2 : o2.guard = none) (p2 : o2.op = .next (.tmp d1) true) (q2 : o2.dst = some d2) (g3 : o3.guard = none) (p3 : o3.op = .extract (.tmp d2) 0) (q3 : o3.dst = some d3)
    (hx : S.evc true x = some (.str l)) (ht : tstr P ty = true) (hn : d0 < S.nt ∧ d1 < S.nt) (hn2 : ∀ y, d2 < (st y).nt ∧ d3 < (st y).nt)
    (hd : ∀ y, get (st y).env d1 = some (.bp dI S.nx 0 0 0)) (h0 : Inv x0 0)
    (hS : ({ S with env := (d1, .bp dI S.nx 0 0 0) :: (d0, .str l) :: S.env, nx := S.nx + 2 } : AS).le (st x0))
    (round : ∀ B N y pos, Inv y pos → pos < l.length → AW P B N rest (ethen (fun T => ∃ y', Inv y' (pos + (runeAt l pos).2) ∧ T.le (st y')) (einBlock bid Q)) { st y with env := (d3, .bool true) :: (d2, .tup [.bool true, .int .i64 pos, .int .i32 (runeAt l pos).1]) :: (st y).env, nx := (st y).nx + 2 })
    (last : ∀ B N y pos, Inv y pos → l.length ≤ pos → AW P B N rest (ethen (fun _ => False) (einBlock bid Q)) { st y with env := (d3, .bool false) :: (d2, .tup [.bool false]) :: (st y).env, nx := (st y).nx + 2 }) :
    AW P w0 N0 (.seq (.region r0 [o0, o1].toArray false) (.block bid (.loop (.seq (.region r1 [o2, o3].toArray false) rest)))) Q S := by
  rintro a w ⟨μ, hr⟩
  have htu := tstr_underlying ht
  refine wp_seq (wp_region_lit ?_)
  refine wpList_plain g0 fun K hK => ?_
  have hrun0 : (execOp a.eval o0).run P w = .ok (.value (a.eval x)) w := by unfold execOp; rw [p0]; rfl
  unfold Oper.wp
  rw [hrun0]
  refine hK _ _ ?_
  rw [q0]
  have hr1 := hr.put (d := d0) hn.1 (hr.evc hx rfl)
  generalize a.put (some d0) (a.eval x) = a1 at hr1
  clear hK K
  refine wpList_plain g1 fun K hK => ?_
  have he : a1.eval (.tmp d0) = .string ⟨l.toArray⟩ := by
    have := (hr1.env d0 (.str l) (by simp [get_cons])).2
    show a1.tmps.getD d0 undef = _
    generalize a1.tmps.getD d0 undef = y at this
    cases this with
    | pur hp => cases hp; rfl
  have hrun1 : (execOp a1.eval o1).run P w = .ok (.value (.pointer (some ⟨w.heap.size, 0, none⟩))) (w.alloc (.stringIter ⟨l.toArray⟩ 0)) := by
    unfold execOp
    rw [p1]
    simp [Instr.range, run_underlying htu, he]
  unfold Oper.wp
  rw [hrun1]
  refine hK _ _ (wpList_nil ?_)
  rw [q1]
  obtain ⟨b, hbw⟩ : ∃ b, b = w.heap.size := ⟨_, rfl⟩
  rw [← hbw]
  have hμn : μ dI S.nx = none := by
    cases hm : μ dI S.nx with
    | none => rfl
    | some l =>
      rcases hr.fresh dI S.nx (by rw [hm]; simp) with h | ⟨j, hj, _⟩
      · omega
      · exact hj.elim
  obtain ⟨μ1, hμ1⟩ : ∃ μ1 : Mu, μ1 = fun d v => if d = dI ∧ v = S.nx then some (some (b, 0)) else μ d v := ⟨_, rfl⟩
  have hμle : ∀ d v l, μ d v = some l → μ1 d v = some l := by
    intro d v l' hl
    rw [hμ1]
    simp only
    split
    · rename_i e; rw [e.1, e.2, hμn] at hl; cases hl
    · exact hl
  have hμI : μ1 dI S.nx = some (some (b, 0)) := by rw [hμ1]; simp
  have hμo : ∀ d o, get S.objs d = some o → μ1 d o.v = μ d o.v := by
    intro d o ho
    obtain ⟨l', hl, _⟩ := hr.objs d o ho
    rw [hl]; exact hμle _ _ _ hl
  obtain ⟨w2, hw2⟩ : ∃ w2, w2 = w.alloc (.stringIter ⟨l.toArray⟩ 0) := ⟨_, rfl⟩
  rw [← hw2]
  have hbel : Below w.heap.size w w2 := by rw [hw2]; exact (Below.refl _ _).alloc (Nat.le_refl _) _
  have hit : w2.heap[b]? = some (.stringIter ⟨l.toArray⟩ 0) := by rw [hw2, hbw]; exact heap_alloc_new w _
  have hsz2 : w2.heap.size = w.heap.size + 1 := by rw [hw2]; simp
  obtain ⟨S2, hS2⟩ : ∃ S2 : AS, S2 = { S with env := (d1, .bp dI S.nx 0 0 0) :: (d0, .str l) :: S.env, nx := S.nx + 2 } := ⟨_, rfl⟩
  rw [← hS2] at hS
  have hobj2 : S2.objs = S.objs := by rw [hS2]
  have hown : ∀ x, OwnB μ1 S2.objs x → OwnB μ S.objs x := by
    rintro x ⟨d, o, c, h1, h2⟩
    rw [hobj2] at h1
    exact ⟨d, o, c, h1, by rw [← hμo d o h1]; exact h2⟩
  have hsub : ∀ x, x < w.heap.size → Own (fun y => N0 y ∨ y = b) μ1 S2 x → Own N0 μ { S with env := (d0, .str l) :: S.env } x := by
    intro x hlt ho
    rcases ho with (h | h) | ⟨d, o, c, h1, h2⟩
    · exact .inl h
    · omega
    · obtain ⟨d, o, c, h1, h2⟩ := hown x ⟨d, o, c, h1, h2⟩
      exact .inr ⟨d, o, c, h1, h2⟩
  have hkeep : Keeps w (Own N0 μ { S with env := (d0, .str l) :: S.env }) w2 := Keeps.of_below hbel _
  have hA2 : Anch w0 N0 μ1 S2 w2 := ⟨hr.below.trans (hbel.mono hr.below.size), fun g ho => hr.anch.own g (hown g ho), hr.n0.1, fun d v l' hl => hμle _ _ _ (hr.n0.2 d v l' hl)⟩
  have hR2 : RelM (fun _ => False) (baseAt w0 w2 μ1 S2) (fun y => N0 y ∨ y = b) μ1 S2 (a1.put (some d1) (.pointer (some ⟨b, 0, none⟩))) w2 := by
    refine ⟨hr1.defers, by rw [hS2]; simp [Act.put, hr1.size], Bs.Below.refl _, ⟨fun x hx => ⟨?_, fun ho => ?_⟩, fun _ _ _ hh => hh⟩, fun d v hv => ?_, fun d o hd => ?_, fun d o d' o' g c c' h1 h2 h3 h4 => ?_, fun t v hv => ?_⟩
    · show x < w2.heap.size
      rcases hx with h | h
      · have := (hr.n0.1 x h).1; have := hr.below.size; omega
      · omega
    · obtain ⟨d, o, c, h1, h2⟩ := hown x ho
      have hlt := hr.block_lt h1 h2
      rcases hx with h | h
      · rcases hr.anch.own x ⟨d, o, c, h1, h2⟩ with h3 | h3
        · have := (hr.n0.1 x h).1; omega
        · exact (hr.n0.1 x h).2 h3
      · omega
    · left
      rw [hS2]
      simp only
      rw [hμ1] at hv
      simp only at hv
      split at hv
      · rename_i e; omega
      · rcases hr.fresh d v hv with h | ⟨j, hj, _⟩
        · omega
        · exact hj.elim
    · rw [hobj2] at hd
      obtain ⟨l', hl, hob⟩ := hr1.objs d o hd
      refine ⟨l', by rw [hμo d o hd]; exact hl, ?_⟩
      cases l' with
      | none => exact hob
      | some gc =>
        obtain ⟨h1, h3, h4, h5, arr, h6, h7, h8⟩ := hob
        refine ⟨.inr ⟨d, o, gc.2, by rw [hobj2]; exact hd, by rw [hμo d o hd]; exact hl⟩, h3, h4, h5, arr, ?_, h7, fun k e j c he' hj => ?_⟩
        · exact (hbel.block _ (hr.block_lt hd hl)).trans h6
        · obtain ⟨y, hy, hey⟩ := h8 k e j c he' hj
          exact ⟨y, hy, hey.keep hkeep hsub hμle⟩
    · rw [hobj2] at h1 h2
      rw [hμo d o h1] at h3
      rw [hμo d' o' h2] at h4
      exact hr.inj d o d' o' g c c' h1 h2 h3 h4
    · rw [hS2] at hv ⊢
      simp only at hv ⊢
      rw [tmps_put a1 d1 _ t (by rw [hr1.size]; exact hn.2)]
      rw [get_cons] at hv
      split at hv
      · rename_i e
        injection hv with hv
        subst hv; subst e
        simp only [if_true]
        exact ⟨hn.2, .bp dI S.nx 0 0 0 b 0 hμI⟩
      · rename_i e
        rw [if_neg e]
        have := hr1.env t v hv
        exact ⟨this.1, by have h' := this.2.keep hkeep hsub hμle; rw [hS2] at h'; exact h'⟩
  generalize a1.put (some d1) (.pointer (some ⟨b, 0, none⟩)) = a2 at hR2
  -- the invariant
  have main : ∀ n y pos a w, l.length - pos = n → Inv y pos → (∃ μ, Anch w0 N0 μ (st y) w ∧ RelM (fun _ => False) (baseAt w0 w μ (st y)) (fun z => N0 z ∨ z = b) μ (st y) a w ∧ μ dI S.nx = some (some (b, 0)) ∧ w.heap[b]? = some (.stringIter ⟨l.toArray⟩ pos)) →
      (Code.loop (.seq (.region r1 [o2, o3].toArray false) rest)).wp P (post w0 N0 (einBlock bid Q)) a w := by
    have hround : ∀ y pos a w, Inv y pos → (∃ μ, Anch w0 N0 μ (st y) w ∧ RelM (fun _ => False) (baseAt w0 w μ (st y)) (fun z => N0 z ∨ z = b) μ (st y) a w ∧ μ dI S.nx = some (some (b, 0)) ∧ w.heap[b]? = some (.stringIter ⟨l.toArray⟩ pos)) →
        (Code.seq (.region r1 [o2, o3].toArray false) rest).wp P (fun e a' w' => (e = .normal ∧ ∃ y' pos', pos < pos' ∧ pos < l.length ∧ Inv y' pos' ∧ (∃ μ, Anch w0 N0 μ (st y') w' ∧ RelM (fun _ => False) (baseAt w0 w' μ (st y')) (fun z => N0 z ∨ z = b) μ (st y') a' w' ∧ μ dI S.nx = some (some (b, 0)) ∧ w'.heap[b]? = some (.stringIter ⟨l.toArray⟩ pos'))) ∨ (e ≠ .normal ∧ post w0 N0 (einBlock bid Q) e a' w')) a w := by
      rintro y pos a w hInv ⟨μ, hA, hR, hμ, hit⟩
      have hblt : b < w.heap.size := (Array.getElem?_eq_some_iff.1 hit).1
      have hev : a.eval (.tmp d1) = .pointer (some ⟨b, 0, none⟩) := by
        have := (hR.env d1 _ (hd y)).2
        show a.tmps.getD d1 undef = _
        generalize a.tmps.getD d1 undef = z at this
        cases this with
        | pur hp => cases hp
        | bp _ _ _ _ _ g cap h1 =>
          rw [hμ] at h1
          injection h1 with h1
          injection h1 with h1
          injection h1 with h1 h2
          subst h1
          rfl
      -- what the two operations leave, and how it goes on
      have fin : ∀ (tv : Value) (t2 : V) (g : Bool) (w1 : World) (pos1 : Nat), (∀ k, k ≠ b → w1.heap[k]? = w.heap[k]?) → w1.heap.size = w.heap.size → (w1.os = w.os ∧ w1.tape = w.tape ∧ w1.output = w.output) → w1.heap[b]? = some (.stringIter ⟨l.toArray⟩ pos1) → (g = true → pos < pos1 ∧ pos < l.length) →
          (∀ N μ', Enc w1 N μ' tv t2) → (execOp a.eval o2).run P w = .ok (.value tv) w1 → (Instr.extract tv 0).run P w1 = .ok (.bool g) w1 →
          (∀ B N, AW P B N rest (ethen (fun T => g = true ∧ ∃ y', Inv y' pos1 ∧ T.le (st y')) (einBlock bid Q)) { st y with env := (d3, .bool g) :: (d2, t2) :: (st y).env, nx := (st y).nx + 2 }) →
          (Code.seq (.region r1 [o2, o3].toArray false) rest).wp P (fun e a' w' => (e = .normal ∧ ∃ y' pos', pos < pos' ∧ pos < l.length ∧ Inv y' pos' ∧ (∃ μ, Anch w0 N0 μ (st y') w' ∧ RelM (fun _ => False) (baseAt w0 w' μ (st y')) (fun z => N0 z ∨ z = b) μ (st y') a' w' ∧ μ dI S.nx = some (some (b, 0)) ∧ w'.heap[b]? = some (.stringIter ⟨l.toArray⟩ pos'))) ∨ (e ≠ .normal ∧ post w0 N0 (einBlock bid Q) e a' w')) a w := by
        intro tv t2 g w1 pos1 hk hsz hos hit1 hg htv hrun hext hgo
        refine wp_seq (wp_region_lit (wpList_plain g2 fun K hK => ?_))
        unfold Oper.wp
        rw [hrun]
        refine hK _ _ (wpList_plain g3 fun K2 hK2 => ?_)
        clear hK K
        rw [q2]
        have hT := hR.turn (w0 := w0) (.inr rfl) hk hsz
        have hP2 := hT.put (d := d2) (hn2 y).1 (htv _ _)
        have hev2 : (a.put (some d2) tv).eval (.tmp d2) = tv := by
          show (a.put (some d2) tv).tmps.getD d2 undef = tv
          rw [tmps_put a d2 tv d2 (by rw [hR.size]; exact (hn2 y).1), if_pos rfl]
        generalize a.put (some d2) tv = a3 at hP2 hev2
        have hrun3 : (execOp a3.eval o3).run P w1 = .ok (.value (.bool g)) w1 := by
          unfold execOp
          rw [p3]
          simp only [hev2, Sem.run_bind, hext, Result.andThen_ok, Sem.run_pure]
        unfold Oper.wp
        rw [hrun3]
        refine hK2 _ _ (wpList_nil ?_)
        rw [q3]
        have hP3 := hP2.put (d := d3) (hn2 y).2 (.pur (.bool g))
        generalize a3.put (some d3) (.bool g) = a4 at hP3
        have hP4 : RelM (fun _ => False) (baseAt w0 w1 μ (st y)) (fun z => N0 z ∨ z = b) μ { st y with env := (d3, .bool g) :: (d2, t2) :: (st y).env, nx := (st y).nx + 2 } a4 w1 :=
          ⟨hP3.defers, hP3.size, hP3.below, hP3.n0, fun d v hv => by
            rcases hP3.fresh d v hv with h | ⟨j, hj, _⟩
            · left; simp only at h ⊢; omega
            · exact hj.elim, hP3.objs, hP3.inj, hP3.env⟩
        have hA1 : Anch w0 N0 μ (st y) w1 := by
          refine ⟨⟨hos.1.trans hA.below.os, hos.2.1.trans hA.below.tape, hos.2.2.trans hA.below.output, by rw [hsz]; exact hA.below.size, fun k hk' hx' => ?_⟩, hA.own, hA.n0, hA.m⟩
          rw [hk k (fun e => ?_)]
          · exact hA.below.block k hk' hx'
          · have := hr.below.size; omega
        refine wp_mono (hgo _ _ a4 w1 ⟨μ, hP4⟩) ?_
        rintro e a' w' ⟨S', hQ, ⟨μ', hR'⟩⟩
        cases e with
        | normal =>
          obtain ⟨hgt, y', hI', hle⟩ := hQ
          obtain ⟨μ3, hR3⟩ := hle _ _ _ _ ⟨μ', hR'⟩
          have hb3 := hA1.back (fun _ h => .inl h) hR3
          refine .inl ⟨rfl, y', pos1, (hg hgt).1, (hg hgt).2, hI', μ3, hb3.anch, hR3.rebase rfl, hR3.n0.2 _ _ _ hμ, ?_⟩
          rw [hR3.below.block b (by show b < w1.heap.size; omega) (hR3.n0.1 b (.inr rfl)).2]
          exact hit1
        | exit id => exact .inr ⟨by simp, S', hQ, μ', hA1.back (fun _ h => .inl h) hR'⟩
        | goto l => exact .inr ⟨by simp, S', hQ, μ', hA1.back (fun _ h => .inl h) hR'⟩
        | ret => exact .inr ⟨by simp, S', hQ, μ', hA1.back (fun _ h => .inl h) hR'⟩
        | panic ch => exact .inr ⟨by simp, S', hQ, μ', hA1.back (fun _ h => .inl h) hR'⟩
        | outgrown => exact .inr ⟨by simp, S', hQ, μ', hA1.back (fun _ h => .inl h) hR'⟩
      have hlen : (ByteArray.mk l.toArray).size = l.length := by simp [ByteArray.size]
      by_cases hlt : pos < l.length
      · have hp := runeAt_pos l pos
        refine fin (.tuple #[.bool true, goInt pos, .int .i32 (runeAt l pos).1]) (.tup [.bool true, .int .i64 pos, .int .i32 (runeAt l pos).1]) true { w with heap := w.heap.setIfInBounds b (.stringIter ⟨l.toArray⟩ (pos + (runeAt l pos).2)) } (pos + (runeAt l pos).2) ?_ (by simp) ⟨rfl, rfl, rfl⟩ ?_ (fun _ => ⟨by omega, hlt⟩) ?_ ?_ rfl (fun B N => (round B N y pos hInv hlt).mono fun e T h => ?_)
        · intro k hk
          simp [Array.getElem?_setIfInBounds, Ne.symm hk]
        · simp [Array.getElem?_setIfInBounds, hblt]
        · intro N μ'
          exact .tup [.bool true, goInt pos, .int .i32 (runeAt l pos).1] _ rfl (fun i x c h1 h2 => by
            rcases i with _ | _ | _ | i
            · simp at h1 h2; subst h1; subst h2; exact .pur (.bool _)
            · simp at h1 h2; subst h1; subst h2; exact .pur (.int _ _)
            · simp at h1 h2; subst h1; subst h2; exact .pur (.int _ _)
            · simp at h1)
        · unfold execOp
          rw [p2]
          simp only [hev]
          have hlt2 : pos < (ByteArray.mk l.toArray).size := by rw [hlen]; exact hlt
          have : (Instr.next (.pointer (some ⟨b, 0, none⟩)) true o2.type).run P w = .ok (.tuple #[.bool true, goInt pos, .int .i32 (runeAt l pos).1]) { w with heap := w.heap.setIfInBounds b (.stringIter ⟨l.toArray⟩ (pos + (runeAt l pos).2)) } := by
            simp only [Instr.next, getObj, setObj, Sem.run_bind, Sem.run, hit, Result.andThen, hlt2, if_true]
            rfl
          rw [Sem.run_bind, this]
          rfl
        · cases e with
          | normal => exact ⟨rfl, h⟩
          | _ => exact h
      · refine fin (.tuple #[.bool false]) (.tup [.bool false]) false w pos (fun _ _ => rfl) rfl ⟨rfl, rfl, rfl⟩ hit (fun h => by cases h) ?_ ?_ rfl (fun B N => (last B N y pos hInv (by omega)).mono fun e T h => ?_)
        · intro N μ'
          exact .tup [.bool false] _ rfl (fun i x c h1 h2 => by
            rcases i with _ | i
            · simp at h1 h2; subst h1; subst h2; exact .pur (.bool _)
            · simp at h1)
        · unfold execOp
          rw [p2]
          simp only [hev]
          have hlt2 : ¬ pos < (ByteArray.mk l.toArray).size := by rw [hlen]; exact hlt
          have : (Instr.next (.pointer (some ⟨b, 0, none⟩)) true o2.type).run P w = .ok (.tuple #[.bool false]) w := by
            simp [Instr.next, getObj, Sem.run, hit, hlt2]
          rw [Sem.run_bind, this]
          rfl
        · cases e with
          | normal => exact h.elim
          | _ => exact h
    have main : ∀ n y pos a w, l.length - pos = n → Inv y pos → (∃ μ, Anch w0 N0 μ (st y) w ∧ RelM (fun _ => False) (baseAt w0 w μ (st y)) (fun z => N0 z ∨ z = b) μ (st y) a w ∧ μ dI S.nx = some (some (b, 0)) ∧ w.heap[b]? = some (.stringIter ⟨l.toArray⟩ pos)) →
        ∀ bb k cs, ∃ e a' w', post w0 N0 (einBlock bid Q) e a' w' ∧ Arrives P (lone (bb.at a (.code (.seq (.region r1 [o2, o3].toArray false) rest) :: .inLoop (.seq (.region r1 [o2, o3].toArray false) rest) :: k)) cs w) bb k cs e a' w' := by
      intro n
      induction n using Nat.strongRecOn with
      | _ n ih =>
        intro y pos a w hn' hInv hJ bb k cs
        obtain ⟨e, a1, w1, hq, harr⟩ := hround y pos a w hInv hJ bb (.inLoop _ :: k) cs
        rcases hq with ⟨rfl, y', pos', h1, h2, h3, h4⟩ | ⟨hne, hq⟩
        · obtain ⟨e2, a2, w2, hq2, harr2⟩ := ih (l.length - pos') (by omega) y' pos' a1 w1 rfl h3 h4 bb k cs
          exact ⟨e2, a2, w2, hq2, .of_steps (Steps.trans harr (.one step_inLoop)) harr2⟩
        · cases e with
          | normal => exact absurd rfl hne
          | exit id => exact ⟨_, a1, w1, hq, .pass (x := .inLoop _) rfl (fun _ _ => .inl (by simp)) harr⟩
          | goto l => exact ⟨_, a1, w1, hq, .pass (x := .inLoop _) rfl (fun _ _ => .inl (by simp)) harr⟩
          | ret => exact ⟨_, a1, w1, hq, .pass (x := .inLoop _) rfl (fun _ _ => .inl (by simp)) harr⟩
          | panic ch => exact ⟨_, a1, w1, hq, .pass (x := .inLoop _) rfl (fun _ _ => .inl (by simp)) harr⟩
          | outgrown => exact ⟨_, a1, w1, hq, .pass (x := .inLoop _) rfl (fun _ _ => .inl (by simp)) harr⟩
    intro n y pos a w hn' hInv hJ bb k cs
    obtain ⟨e, a', w', hq, harr⟩ := main n y pos a w hn' hInv hJ bb k cs
    exact ⟨e, a', w', hq, .of_steps (.one step_loop) harr⟩
  have hI0 : ∃ μ, Anch w0 N0 μ (st x0) w2 ∧ RelM (fun _ => False) (baseAt w0 w2 μ (st x0)) (fun z => N0 z ∨ z = b) μ (st x0) a2 w2 ∧ μ dI S.nx = some (some (b, 0)) ∧ w2.heap[b]? = some (.stringIter ⟨l.toArray⟩ 0) := by
    obtain ⟨μ3, hR3⟩ := hS _ _ _ _ ⟨μ1, hR2⟩
    have hb3 := hA2.back (fun _ h => .inl h) hR3
    exact ⟨μ3, hb3.anch, hR3.rebase rfl, hR3.n0.2 _ _ _ hμI, hit⟩
  refine wp_block (wp_mono (main _ x0 0 a2 w2 rfl h0 hI0) ?_)
  rintro e a' w' ⟨S', hQ, hR⟩
  cases e with
  | exit id' =>
    simp only [einBlock] at hQ
    simp only [Exit.inBlock]
    split
    · rename_i he; rw [if_pos he] at hQ; exact ⟨S', hQ, hR⟩
    · rename_i he; rw [if_neg he] at hQ; exact ⟨S', hQ, hR⟩
  | _ => exact ⟨S', hQ, hR⟩
end
end Go.Eng

/- Inside a region: states that say less, rows that become read lists; calls that use up objects. No condition. -/
set_option linter.unusedSimpArgs false
namespace Go.Eng
open Go.RowKit
section
variable {P : Program} {w0 : Bs} {N0 : Nat → Prop} {Q : Exit → AS → Prop} {S S' : AS}

theorem RelM.later_nx {D : Nat → Prop} {μ : Mu} {a : Act} {w : World} (h : RelM D w0 N0 μ S a w) {i : Nat} (hD : ∀ j, D j → j < i) : RelM (fun _ => False) w0 N0 μ { S with nx := S.nx + i } a w :=
  ⟨h.defers, h.size, h.below, h.n0, fun d v hv => .inl (by
    rcases h.fresh d v hv with h1 | ⟨j, hj, e⟩
    · simp only; omega
    · have := hD j hj
      simp only; omega), h.objs, h.inj, h.env⟩
theorem awl_le {ops : List Oper} {i : Nat} {rest : List Oper} (hle : ({ S with nx := S.nx + i } : AS).le S') (h : AWL P w0 N0 ops Q i rest S') : AWL P w0 N0 ops Q i rest S := by
  rintro D a w hD ⟨μ, hr⟩
  exact h (fun _ => False) a w (fun j hj => hj.elim) (hle _ _ _ _ ⟨μ, hr.later_nx hD⟩)
/-- An own row that is not written any more becomes a read list, inside a region. -/
theorem awl_freeze {ops : List Oper} {i : Nat} {rest : List Oper} (d : Nat) (L M : List Nat) (hS : ({ S with nx := S.nx + i } : AS).freezeK d L M = some S') (h : AWL P w0 N0 ops Q i rest S') : AWL P w0 N0 ops Q i rest S := by
  unfold AS.freezeK at hS
  split at hS
  case h_2 => cases hS
  rename_i S1 h1
  injection hS with hS
  subst hS
  exact awl_le (AS.le_trans (le_freeze h1) (le_keep _ L M)) h

/-- An operation whose run is known, which changes nothing. -/
theorem awl_raw {ops : List Oper} {i : Nat} {o : Oper} {rest : List Oper} {v : V} (hg : o.guard = none)
    (h : ∀ (D : Nat → Prop) (μ : Mu) (a : Act) (w : World), RelM D w0 N0 μ S a w → ∃ x, (execOp a.eval o).run P w = .ok (.value x) w ∧ Enc w (Own N0 μ S) μ x v)
    (hs : S.putv o.dst v = some S') (k : AWL P w0 N0 ops Q (i + 1) rest S') : AWL P w0 N0 ops Q i (o :: rest) S := by
  rintro D a w hD ⟨μ, hr⟩
  refine wpList_plain hg fun K hK => ?_
  obtain ⟨x, hx, hex⟩ := h D μ a w hr
  unfold Oper.wp
  rw [hx]
  exact hK _ _ (k D _ _ (fun j hj => Nat.lt_succ_of_lt (hD j hj)) ⟨μ, hr.putv hs hex⟩)
theorem RelM.bp_at {D : Nat → Prop} {μ : Mu} {a : Act} {w : World} (h : RelM D w0 N0 μ S a w) {t d v sz k off : Nat} (ht : get S.env t = some (.bp d v sz k off)) : ∃ g cap, μ d v = some (some (g, cap)) ∧ a.eval (.tmp t) = .pointer (some ⟨g, k * sz + off, none⟩) := by
  have := (h.env t _ ht).2
  show ∃ g cap, _ ∧ a.tmps.getD t undef = _
  generalize a.tmps.getD t undef = x at this
  cases this with
  | pur hp => cases hp
  | bp d v sz k off g cap hμ => exact ⟨g, cap, hμ, rfl⟩
theorem RelM.nilp_at {D : Nat → Prop} {μ : Mu} {a : Act} {w : World} (h : RelM D w0 N0 μ S a w) {t : Nat} (ht : get S.env t = some .nilp) : a.eval (.tmp t) = .pointer none := by
  have := (h.env t _ ht).2
  show a.tmps.getD t undef = _
  generalize a.tmps.getD t undef = x at this
  cases this with
  | pur hp => cases hp; rfl
theorem RelM.ob_at {D : Nat → Prop} {μ : Mu} {a : Act} {w : World} (h : RelM D w0 N0 μ S a w) {d g cap : Nat} {o : Ob} (ho : get S.objs d = some o) (hm : μ d o.v = some (some (g, cap))) : w0.free g ∧ o.es.length ≤ cap ∧ ∃ arr, w.heap[g]? = some (.cells arr o.ty (0, 0)) ∧ arr.size = cap * o.sz := by
  obtain ⟨l, hl, hob⟩ := h.objs d o ho
  rw [hm] at hl
  injection hl with hl
  subst hl
  obtain ⟨h1, h2, _, _, arr, h5, h6, _⟩ := hob
  exact ⟨h1, h2, arr, h5, h6⟩

/-- The contract of a function that uses up the objects it is handed. -/
def ACZ (P : Program) (f : FuncId) (args : List V) (ins : List (Nat × Ob)) (R : V → Prop) : Prop :=
  ∀ (B : Bs) (N : Nat → Prop) (μ : Mu) (nx : Nat) (xs : List Value), xs.length = args.length → B.df = [] →
    RelM (fun _ => False) B N μ ⟨env0 0 args, ins, nx, args.length⟩ ⟨xs.toArray, []⟩ B.w →
    Calls P f xs.toArray B.w (fun e w' => ∃ x r, e = .returned x ∧ R r ∧ r.flat1 = true ∧ Pur w' (fun _ => False) x r ∧ B.Below w')
theorem awl_callZ {ops : List Oper} {i : Nat} {o : Oper} {rest : List Oper} {f : Operand} {fid : FuncId} {fn : Func} {args : Array Operand} {ats : Array TypeId} {vs : List V} {ins : List (Nat × Ob)} {R : V → Prop}
    (hc : ACZ P fid vs ins R) (hfn : P.funcs[fid]? = some fn) (hb : fn.body.isSome = true) (hn : (fn.name == "runtime.NumGoroutine") = false)
    (hg : S.gv ops o = some true) (ho : o.op = .call { callee := .value f, args := args, argTypes := ats }) (hf : S.evc true f = some (.fn fid))
    (ha : S.args true args.toList = some vs) (hins : ∀ k q, get ins k = some q → get S.objs k = some q)
    (h : ∀ r, R r → ∃ S', ({ S with objs := dropK (ins.map (·.1)) S.objs, nx := S.nx + i + 1 } : AS).putv o.dst (wrapG o true r) = some S' ∧ AWL P w0 N0 ops Q (i + 1) rest S') : AWL P w0 N0 ops Q i (o :: rest) S := by
  rintro D a w hD ⟨μ, hr⟩
  refine wpList_step fun K hK => ?_
  rw [wanted_of hr hg, if_pos rfl]
  have hfresh := hr.fresh_lt hD
  obtain ⟨h1, h2⟩ := args_spec hr rfl ha
  have hhand := hr.hand (nx := S.nx + i + 1) hfresh (vs := vs) (xs := args.toList.map a.eval) (ins := ins) (by simp [h1]) hins (fun j x v hx hv => by
    simp only [List.getElem?_map, Option.map_eq_some_iff] at hx
    obtain ⟨y, hy, rfl⟩ := hx
    exact h2 j y v hy hv)
  have hcall := hc ⟨w, OwnB μ ins, μ, []⟩ _ μ (S.nx + i + 1) (args.toList.map a.eval) (by simp [h1]) rfl hhand
  refine call_run ho (fn_eval hr hf) hfn hb hn hcall ?_ ?_ ?_
  · rintro x w' ⟨x', r, he, hR, hfl, hp, hbw⟩
    injection he with he
    subst he
    obtain ⟨S', hs, hrest⟩ := h r hR
    have hl := hr.lost hfresh hins (objs := dropK (ins.map (·.1)) S.objs) (fun k q hq => by
      obtain ⟨h3, h4⟩ := get_dropK hq
      refine ⟨h3, ?_⟩
      cases hk : get ins k with
      | none => rfl
      | some q' => exact absurd (get_mem hk) h4) hbw
    refine hK _ _ (hrest (fun _ => False) _ w' (fun j hj => hj.elim) ⟨μ, hl.putv hs ?_⟩)
    unfold wrapG
    split
    · exact .pur (hp.of_flat1 hfl)
    · exact .whn _ _ _ (fun _ => .pur (hp.of_flat1 hfl)) (fun hf => by cases hf)
  · rintro ch w' ⟨x', r, he, _⟩
    cases he
  · rintro w' ⟨x', r, he, _⟩
    cases he
end
end Go.Eng
