/- Calls by their contracts; a function's contract from its body; states that say less. No condition. -/
import Derived.Test.YtepkalebaaidcaaEng11
namespace Go.Eng
open Go.RowKit

section
variable {P : Program} {w0 : World} {N0 : Nat → Prop} {Q : Exit → AS → Prop} {S : AS}

/-- Operands one by one, as pure values. -/
def AS.args (S : AS) (c : Bool) : List Operand → Option (List V)
  | [] => some []
  | x :: r => match S.evc c x, S.args c r with
    | some v, some vs => some (v :: vs)
    | _, _ => none

def V.pureV : V → Bool
  | .tup _ => false
  | v => v.pureE

theorem Enc.pureV {w : World} {N : Nat → Prop} {μ : Mu} {x : Value} {v : V} (h : Enc w N μ x v) (hp : v.pureV = true) : Pur w N x v := by
  cases v with
  | tup vs => simp [V.pureV] at hp
  | _ => exact h.pureE hp

theorem args_spec {D : Nat → Prop} {μ : Mu} {a : Act} {w : World} (h : RelM D w0 N0 μ S a w) {c : Bool} (hc : c = true) : ∀ {xs : List Operand} {vs : List V}, S.args c xs = some vs →
    vs.length = xs.length ∧ ∀ (i : Nat) x v, xs[i]? = some x → vs[i]? = some v → Enc w (Own N0 μ S) μ (a.eval x) v
  | [], vs, hv => by simp only [AS.args, Option.some.injEq] at hv; subst hv; simp
  | x :: r, vs, hv => by
    simp only [AS.args] at hv
    split at hv
    case h_2 => cases hv
    rename_i v vs' h1 h2
    injection hv with hv
    subst hv
    obtain ⟨h3, h4⟩ := args_spec h hc h2
    refine ⟨by simp [h3], fun i y u hy hu => ?_⟩
    rcases i with _ | i
    · simp at hy hu; subst hy; subst hu; exact h.evc h1 hc
    · simp at hy hu; exact h4 i y u hy hu

theorem RelM.own_lt {D : Nat → Prop} {μ : Mu} {a : Act} {w : World} (h : RelM D w0 N0 μ S a w) (b : Nat) (hb : Own N0 μ S b) : b < w.heap.size := by
  rcases hb with hb | ⟨d, o, c, h1, h2⟩
  · exact Nat.lt_of_lt_of_le (h.n0 b hb) h.below.size
  · exact h.block_lt h1 h2

/-- A world in which nothing that was there has changed. -/
theorem RelM.later {D : Nat → Prop} {μ : Mu} {a : Act} {w w' : World} (h : RelM D w0 N0 μ S a w) (hb : Below w.heap.size w w') : RelM D w0 N0 μ S a w' := by
  have hk : Keeps w (Own N0 μ S) w' := Keeps.of_below hb _
  refine ⟨h.defers, h.size, h.below.trans (hb.mono h.below.size), h.n0, h.fresh, fun d o hd => ?_, h.inj, fun t u hu => ⟨(h.env t u hu).1, (h.env t u hu).2.keep hk (fun _ _ hh => hh) (fun _ _ _ hh => hh)⟩⟩
  obtain ⟨l, hl, hob⟩ := h.objs d o hd
  exact ⟨l, hl, hob.keep hk (fun _ _ hh => hh) (fun _ _ _ hh => hh) (fun g c e => hb.block g (h.block_lt hd (by rw [hl, e])))⟩

/-- What the function value of a call is. -/
theorem run_call_fn {ρ : Operand → Value} {o : Oper} {f : Operand} {fid : FuncId} {fn : Func} {args : Array Operand} {ats : Array TypeId} {w : World} (ho : o.op = .call { callee := .value f, args := args, argTypes := ats }) (hf : ρ f = .func (.func fid) #[] #[])
    (hfn : P.funcs[fid]? = some fn) (hb : fn.body.isSome = true) (hn : (fn.name == "runtime.NumGoroutine") = false) : (execOp ρ o).run P w = .ok (.enter fid (args.map ρ)) w := by
  unfold execOp
  rw [ho]
  obtain ⟨c, hc⟩ := Option.isSome_iff_exists.1 hb
  have hn' : ¬ fn.name = "runtime.NumGoroutine" := by simpa using hn
  simp [resolve, hf, Deferred.ofValue, invoke, callFunc, hfn, hn', hc]

/-- A call on pure values. -/
theorem awl_call {ops : List Oper} {i : Nat} {o : Oper} {rest : List Oper} {f : Operand} {fid : FuncId} {fn : Func} {args : Array Operand} {ats : Array TypeId} {vs : List V} {R : V → Prop}
    (hg : o.guard = none) (ho : o.op = .call { callee := .value f, args := args, argTypes := ats }) (hf : S.evc true f = some (.fn fid)) (hfn : P.funcs[fid]? = some fn) (hb : fn.body.isSome = true) (hn : (fn.name == "runtime.NumGoroutine") = false)
    (ha : S.args true args.toList = some vs) (hp : vs.all V.pureV = true) (hc : AC P fid vs R) (h : ∀ r, R r → ∃ S', S.putv o.dst r = some S' ∧ AWL P w0 N0 ops Q (i + 1) rest S') : AWL P w0 N0 ops Q i (o :: rest) S := by
  rintro D a w hD ⟨μ, hr⟩
  refine wpList_plain hg fun K hK => ?_
  have hfv := hr.evc hf rfl
  have hfe : a.eval f = .func (.func fid) #[] #[] := by
    generalize a.eval f = y at hfv
    cases hfv with
    | pur hfv => cases hfv with
      | fn => rfl
  obtain ⟨h1, h2⟩ := args_spec hr rfl ha
  unfold Oper.wp
  rw [run_call_fn ho hfe hfn hb hn]
  have hcall := hc w (Own N0 μ S) (args.toList.map a.eval) hr.own_lt (by simp [h1]) (fun j x v hx hv => by
    simp only [List.getElem?_map, Option.map_eq_some_iff] at hx
    obtain ⟨y, hy, rfl⟩ := hx
    exact (h2 j y v hy hv).pureV (List.all_eq_true.1 hp v (List.mem_of_getElem? hv)))
  have harr : (args.toList.map a.eval).toArray = args.map a.eval := by apply Array.ext'; simp
  rw [harr] at hcall
  refine hcall.mono ?_
  rintro e w' ⟨x, r, rfl, hR, hpx, hbw⟩
  obtain ⟨S', hs, hrest⟩ := h r hR
  exact hK _ _ (hrest D _ w' (fun j hj => Nat.lt_succ_of_lt (hD j hj)) ⟨μ, (hr.later hbw).putv hs (.pur hpx)⟩)

/-- Values that hold no memory at all. -/
def V.light : V → Bool
  | .agg cs => cs.all V.flat
  | .tup vs => vs.all fun v => match v with | .agg cs => cs.all V.flat | v => v.flat
  | v => v.flat

theorem Pur.of_light {w w' : World} {N N' : Nat → Prop} {x : Value} {v : V} (h : Pur w N x v) (hl : v.light = true) : Pur w' N' x v := by
  have ha : ∀ (xs : List Value) (cs : List V), cs.all V.flat = true → xs.length = cs.length → (∀ c ∈ cs, c.isCell = true) → (∀ (i : Nat) x c, xs[i]? = some x → cs[i]? = some c → Pur w N x c) → Pur w' N' (.agg xs.toArray) (.agg cs) :=
    fun xs cs h1 h2 h3 h4 => .agg xs cs h2 h3 (fun i x c hx hc => (h4 i x c hx hc).of_flat (List.all_eq_true.1 h1 c (List.mem_of_getElem? hc)))
  cases h with
  | agg xs cs h1 h2 h3 => exact ha xs cs hl h1 h2 h3
  | tup xs cs h1 h2 =>
    refine .tup xs cs h1 (fun i x c hx hc => ?_)
    have hc' := List.all_eq_true.1 hl c (List.mem_of_getElem? hc)
    have hp := h2 i x c hx hc
    cases hp with
    | agg ys ds g1 g2 g3 => exact ha ys ds hc' g1 g2 g3
    | bool b => exact .bool b
    | int k n => exact .int k n
    | str l => exact .str l
    | nils A => exact .nils A
    | fn f => exact .fn f
    | tup | ro | rp | mp => simp [V.flat] at hc'
  | bool b => exact .bool b
  | int k n => exact .int k n
  | str l => exact .str l
  | nils A => exact .nils A
  | fn f => exact .fn f
  | ro | rp | mp => simp [V.light, V.flat] at hl

def AS.views (S : AS) : List V → Option (List V)
  | [] => some []
  | v :: r => match S.view v, S.views r with
    | some u, some us => some (u :: us)
    | _, _ => none

theorem views_spec : ∀ {vs us : List V}, S.views vs = some us → us.length = vs.length ∧ ∀ (i : Nat) v u, vs[i]? = some v → us[i]? = some u → S.view v = some u
  | [], us, h => by simp only [AS.views, Option.some.injEq] at h; subst h; simp
  | c :: cs, us, h => by
    simp only [AS.views] at h
    split at h
    case h_2 => cases h
    rename_i u us' h1 h2
    injection h with h
    subst h
    obtain ⟨h3, h4⟩ := views_spec h2
    refine ⟨by simp [h3], fun i c' u' hc hu => ?_⟩
    rcases i with _ | i
    · simp at hc hu; subst hc; subst hu; exact h1
    · simp at hc hu; exact h4 i c' u' hc hu

/-- A call that reads slices of the call's own and hands back a value without memory. -/
theorem awl_call_view {ops : List Oper} {i : Nat} {o : Oper} {rest : List Oper} {f : Operand} {fid : FuncId} {fn : Func} {args : Array Operand} {ats : Array TypeId} {vs us : List V} {R : V → Prop}
    (hg : o.guard = none) (ho : o.op = .call { callee := .value f, args := args, argTypes := ats }) (hf : S.evc true f = some (.fn fid)) (hfn : P.funcs[fid]? = some fn) (hb : fn.body.isSome = true) (hn : (fn.name == "runtime.NumGoroutine") = false)
    (ha : S.args true args.toList = some vs) (hp : S.views vs = some us) (hc : AC P fid us R) (h : ∀ r, R r → r.light = true ∧ ∃ S', S.putv o.dst r = some S' ∧ AWL P w0 N0 ops Q (i + 1) rest S') : AWL P w0 N0 ops Q i (o :: rest) S := by
  rintro D a w hD ⟨μ, hr⟩
  refine wpList_plain hg fun K hK => ?_
  have hfv := hr.evc hf rfl
  have hfe : a.eval f = .func (.func fid) #[] #[] := by
    generalize a.eval f = y at hfv
    cases hfv with
    | pur hfv => cases hfv with
      | fn => rfl
  obtain ⟨h1, h2⟩ := args_spec hr rfl ha
  obtain ⟨h3, h4⟩ := views_spec hp
  unfold Oper.wp
  rw [run_call_fn ho hfe hfn hb hn]
  have hcall := hc w N0 (args.toList.map a.eval) (fun b hb => Nat.lt_of_lt_of_le (hr.n0 b hb) hr.below.size) (by simp [h1, h3]) (fun j x v hx hv => by
    simp only [List.getElem?_map, Option.map_eq_some_iff] at hx
    obtain ⟨y, hy, rfl⟩ := hx
    have hj : j < vs.length := by rw [← h3]; exact (List.getElem?_eq_some_iff.1 hv).1
    exact hr.view (h2 j y vs[j] hy (List.getElem?_eq_getElem hj)) (h4 j vs[j] v (List.getElem?_eq_getElem hj) hv))
  have harr : (args.toList.map a.eval).toArray = args.map a.eval := by apply Array.ext'; simp
  rw [harr] at hcall
  refine hcall.mono ?_
  rintro e w' ⟨x, r, rfl, hR, hpx, hbw⟩
  obtain ⟨hlt, S', hs, hrest⟩ := h r hR
  exact hK _ _ (hrest D _ w' (fun j hj => Nat.lt_succ_of_lt (hD j hj)) ⟨μ, (hr.later hbw).putv hs (.pur (hpx.of_light hlt))⟩)


/-- What the results of a function are in a state. -/
def aresult (P : Program) (S : AS) : ResultVar → Option V
  | .tmp t => S.evc true (.tmp t)
  | .cell t ty => match S.evc true (.tmp t) with
    | some p => match S.place p, tsz P ty, tagg P ty with
      | some (e, off), some n, some g => e.part off n g
      | _, _, _ => none
    | none => none
def aresultsL (P : Program) (S : AS) : List ResultVar → Option (List V)
  | [] => some []
  | r :: rs => match aresult P S r, aresultsL P S rs with
    | some v, some vs => match S.view v with
      | some u => some (u :: vs)
      | none => none
    | _, _ => none
def aresults (P : Program) (S : AS) (rs : List ResultVar) : Option V :=
  match aresultsL P S rs with
  | some [v] => some v
  | some vs => some (.tup vs)
  | none => none

/-- What must hold where a body ends. -/
def Ends (P : Program) (fn : Func) (R : V → Prop) (e : Exit) (S : AS) : Prop :=
  match e with
  | .ret | .normal => match aresults P S fn.results.toList with | some r => R r | none => False
  | _ => False

/-- A result of a function as the model reads it. -/
def resSem (tmps : Array Value) : ResultVar → Sem Value
  | .tmp t => pure (tmps.getD t undef)
  | .cell b t => do loadVar t (← asAddr (tmps.getD b undef))
theorem results_eq (fn : Func) (tmps : Array Value) : results fn tmps = (do let vs ← fn.results.mapM (resSem tmps); pure (if h : vs.size = 1 then vs[0] else .tuple vs)) := rfl

theorem aresult_run {D : Nat → Prop} {μ : Mu} {a : Act} {w : World} (h : RelM D w0 N0 μ S a w) {r : ResultVar} {v : V} (hv : aresult P S r = some v) :
    ∃ x, (resSem a.tmps r).run P w = .ok x w ∧ Enc w (Own N0 μ S) μ x v := by
  cases r with
  | tmp t => exact ⟨_, rfl, h.evc hv rfl⟩
  | cell t ty =>
    simp only [aresult] at hv
    split at hv
    case h_2 => cases hv
    rename_i p hp
    split at hv
    case h_2 => cases hv
    rename_i e off n g h1 h2 h3
    obtain ⟨ad, sz, hx, hf, hc⟩ := h.place h1 (h.evc hp rfl)
    obtain ⟨y, hy, hey⟩ := run_loadVar (P := P) h2 h3 hf hc hv
    have hx' : a.tmps.getD t undef = .pointer (some (ad.add off)) := hx
    exact ⟨y, by simp only [resSem, hx', Sem.run_bind, asAddr, Sem.run_pure, Result.andThen_ok, hy], hey⟩

theorem aresults_run {D : Nat → Prop} {μ : Mu} {a : Act} {w : World} (h : RelM D w0 N0 μ S a w) {fn : Func} {r : V} (hv : aresults P S fn.results.toList = some r) : ∃ x, (results fn a.tmps).run P w = .ok x w ∧ Pur w N0 x r := by
  have key : ∀ (l : List ResultVar) (vs : List V), aresultsL P S l = some vs → ∃ xs : List Value, (l.mapM (resSem a.tmps)).run P w = .ok xs w ∧
      xs.length = vs.length ∧ ∀ (i : Nat) x v, xs[i]? = some x → vs[i]? = some v → Pur w N0 x v := by
    intro l
    induction l with
    | nil => intro vs hvs; simp only [aresultsL, Option.some.injEq] at hvs; subst hvs; exact ⟨[], rfl, rfl, by simp⟩
    | cons q l ih =>
      intro vs hvs
      simp only [aresultsL] at hvs
      split at hvs
      case h_2 => cases hvs
      rename_i v vs' h1 h2
      split at hvs
      case h_2 => cases hvs
      rename_i u hu
      injection hvs with hvs
      subst hvs
      obtain ⟨x, hx, hex⟩ := aresult_run h h1
      obtain ⟨xs, hxs, hl, hh⟩ := ih vs' h2
      refine ⟨x :: xs, ?_, by simp [hl], fun i y v hy hv => ?_⟩
      · rw [List.mapM_cons, Sem.run_bind, hx, Result.andThen_ok, Sem.run_bind, hxs, Result.andThen_ok]
        rfl
      · rcases i with _ | i
        · simp at hy hv; subst hy; subst hv; exact h.view hex hu
        · simp at hy hv; exact hh i y v hy hv
  unfold aresults at hv
  have hmap : ∀ xs : List Value, (fn.results.toList.mapM (resSem a.tmps)).run P w = .ok xs w →
      (results fn a.tmps).run P w = .ok (if h : xs.toArray.size = 1 then xs.toArray[0] else .tuple xs.toArray) w := by
    intro xs hxs
    rw [results_eq, Sem.run_bind, Array.mapM_eq_mapM_toList, Sem.run_map, hxs]
    rfl
  split at hv
  · rename_i v hvs
    injection hv with hv
    subst hv
    obtain ⟨xs, h1, h2, h3⟩ := key _ _ hvs
    match xs, h2 with
    | [x], _ => exact ⟨x, hmap [x] h1, h3 0 x _ rfl rfl⟩
  · rename_i vs hne hvs
    injection hv with hv
    subst hv
    obtain ⟨xs, h1, h2, h3⟩ := key _ _ hvs
    refine ⟨.tuple xs.toArray, ?_, .tup xs vs h2 h3⟩
    rw [hmap xs h1]
    have : ¬ xs.toArray.size = 1 := by
      intro h0
      have hl : vs.length = 1 := by simp at h0; omega
      match vs, hl with
      | [v], _ => exact hne v rfl
    rw [dif_neg this]
  · cases hv

def env0 : Nat → List V → List (Nat × V)
  | _, [] => []
  | i, v :: vs => (i, v) :: env0 (i + 1) vs

theorem get_env0 : ∀ {vs : List V} {i t : Nat} {v : V}, get (env0 i vs) t = some v → i ≤ t ∧ vs[t - i]? = some v
  | [], i, t, v, h => by simp [env0, get] at h
  | u :: vs, i, t, v, h => by
    simp only [env0, get_cons] at h
    split at h
    · rename_i he
      injection h with h
      subst h; subst he
      exact ⟨Nat.le_refl _, by simp⟩
    · rename_i he
      obtain ⟨h1, h2⟩ := get_env0 h
      refine ⟨by omega, ?_⟩
      rw [show t - i = (t - (i + 1)) + 1 by omega]
      simpa using h2

/-- A contract from the body. -/
theorem ac_intro {f : FuncId} {fn : Func} {c : Code} {args : List V} {R : V → Prop} (hf : P.funcs[f]? = some fn) (hb : fn.body = some c) (hl : args.length ≤ fn.ntmps)
    (h : ∀ w0 N0, AW P w0 N0 c (Ends P fn R) ⟨env0 0 args, [], 0, fn.ntmps⟩) : AC P f args R := by
  intro w N xs hN hlen hp
  refine calls_of_wp hf hb (wp_mono (h w N _ w ⟨fun _ _ => none, ⟨rfl, ?_, Below.refl _ _, hN, fun d v hv => absurd rfl hv, fun d o hd => ?_, fun d o _ _ _ _ _ hd => ?_, fun t v hv => ?_⟩⟩) ?_)
  · simp only [Array.size_append, List.size_toArray, Array.size_replicate]; omega
  · simp [get] at hd
  · simp [get] at hd
  · obtain ⟨_, h2⟩ := get_env0 hv
    simp only [Nat.sub_zero] at h2
    have ht : t < args.length := (List.getElem?_eq_some_iff.1 h2).1
    refine ⟨by simp only; omega, .pur ?_⟩
    have hx : xs[t]? = some xs[t] := List.getElem?_eq_getElem (by omega)
    have := hp t xs[t] v hx h2
    have hget : (xs.toArray ++ Array.replicate (fn.ntmps - xs.toArray.size) undef).getD t undef = xs[t] := by
      rw [Array.getD_eq_getD_getElem?, Array.getElem?_append_left (by simp; omega)]
      simp [hx]
    rw [hget]
    exact this.keep (Keeps.refl _ _) (fun b hb ho => by
      rcases ho with h0 | ⟨d, o, c, h1, _⟩
      · exact h0
      · simp [get] at h1)
  · rintro e a' w' ⟨S', hE, ⟨μ, hr⟩⟩
    have key : (match aresults P S' fn.results.toList with | some r => R r | none => False) → ∃ v, (results fn a'.tmps).run P w' = .ok v w' ∧ ∃ x r, Ending.returned v = .returned x ∧ R r ∧ Pur w' N x r ∧ Below w.heap.size w w' := by
      intro hk
      split at hk
      · rename_i r hres
        obtain ⟨x, hx, hpx⟩ := aresults_run hr hres
        exact ⟨x, hx, x, r, rfl, hk, hpx, hr.below⟩
      · exact hk.elim
    cases e with
    | ret => exact ⟨hr.defers, key hE⟩
    | normal => exact ⟨hr.defers, key hE⟩
    | _ => exact hE.elim

/-- Keeps the named slots and objects. -/
def keepL {α : Type} (l : List (Nat × α)) : List Nat → List (Nat × α)
  | [] => []
  | t :: r => match get l t with
    | some v => (t, v) :: keepL l r
    | none => keepL l r

theorem get_keepL {α : Type} {l : List (Nat × α)} : ∀ {L : List Nat} {t : Nat} {v : α}, get (keepL l L) t = some v → get l t = some v
  | [], t, v, h => by simp [keepL, get] at h
  | k :: L, t, v, h => by
    simp only [keepL] at h
    split at h
    · rename_i u hu
      rw [get_cons] at h
      split at h
      · rename_i e
        subst e
        rw [hu]; exact h
      · exact get_keepL h
    · exact get_keepL h

def AS.keep (S : AS) (L M : List Nat) : AS := { S with env := keepL S.env L, objs := keepL S.objs M }

theorem le_of_get {S S' : AS} (hnt : S'.nt = S.nt) (hnx : S.nx ≤ S'.nx) (he : ∀ t v, get S'.env t = some v → get S.env t = some v) (ho : ∀ d o, get S'.objs d = some o → get S.objs d = some o) : S.le S' := by
  rintro w0 N0 a w ⟨μ, hr⟩
  have hsub : ∀ b, b < w.heap.size → Own N0 μ S' b → Own N0 μ S b := by
    rintro b _ (h0 | ⟨d, o, c, h1, h2⟩)
    · exact .inl h0
    · exact .inr ⟨d, o, c, ho d o h1, h2⟩
  have hk := Keeps.refl w (Own N0 μ S)
  refine ⟨μ, ⟨hr.defers, by rw [hnt]; exact hr.size, hr.below, hr.n0, fun d v hv => ?_, fun d o hd => ?_, fun d o d' o' g c c' h1 h2 => hr.inj d o d' o' g c c' (ho _ _ h1) (ho _ _ h2), fun t v hv => ?_⟩⟩
  · rcases hr.fresh d v hv with h1 | ⟨j, hj, _⟩
    · exact .inl (by omega)
    · exact hj.elim
  · obtain ⟨l, hl, hob⟩ := hr.objs d o (ho _ _ hd)
    exact ⟨l, hl, hob.keep hk hsub (fun _ _ _ hh => hh) (fun _ _ _ => rfl)⟩
  · obtain ⟨h1, h2⟩ := hr.env t v (he _ _ hv)
    exact ⟨by rw [hnt]; exact h1, h2.keep hk hsub (fun _ _ _ hh => hh)⟩

theorem le_keep (S : AS) (L M : List Nat) : S.le (S.keep L M) := le_of_get rfl (Nat.le_refl _) (fun _ _ h => get_keepL h) (fun _ _ h => get_keepL h)
theorem AS.le_refl (S : AS) : S.le S := fun _ _ _ _ h => h
theorem AS.le_trans {S S1 S2 : AS} (h : S.le S1) (k : S1.le S2) : S.le S2 := fun _ _ _ _ hr => k _ _ _ _ (h _ _ _ _ hr)

end
end Go.Eng
