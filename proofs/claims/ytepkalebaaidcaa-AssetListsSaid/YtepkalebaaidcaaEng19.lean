/- Contracts of functions that hand back a row which the caller may write and append to. No condition. -/
import Derived.Test.YtepkalebaaidcaaEng18
set_option linter.unusedSimpArgs false
namespace Go.Eng
open Go.RowKit

/-- The contract: the result is F of a new row's name, the row holds es; the rest of the result holds no memory. -/
def ACO (P : Program) (f : FuncId) (args : List V) (sz : Nat) (ty : TypeId) (R : (Nat → Nat → V) → List V → Prop) : Prop :=
  ∀ (w : World) (N : Nat → Prop) (xs : List Value), (∀ b, N b → b < w.heap.size) → xs.length = args.length → (∀ (i : Nat) x v, xs[i]? = some x → args[i]? = some v → Pur w N x v) →
    Calls P f xs.toArray w (fun e w' => ∃ x F es l, e = .returned x ∧ R F es ∧ Below w.heap.size w w' ∧
      ∀ d v μ N', μ d v = some l → Enc w' N' μ x (F d v) ∧ ObEnc w' N' μ w.heap.size ⟨v, sz, ty, es⟩ l)

theorem ACO.mono {P : Program} {f : FuncId} {args : List V} {sz : Nat} {ty : TypeId} {R R' : (Nat → Nat → V) → List V → Prop} (h : ACO P f args sz ty R) (hr : ∀ F es, R F es → R' F es) : ACO P f args sz ty R' :=
  fun w N xs h1 h2 h3 => (h w N xs h1 h2 h3).mono fun _ _ ⟨x, F, es, l, he, hR, hp⟩ => ⟨x, F, es, l, he, hr F es hR, hp⟩

def flatE (e : V) : Bool := e.cells.all V.flat
def V.reC (q vq d v : Nat) : V → V
  | .sl d' v' sz len => if d' = q ∧ v' = vq then .sl d v sz len else .sl d' v' sz len
  | u => u
def V.re (q vq d v : Nat) : V → V
  | .agg cs => .agg (cs.map (V.reC q vq d v))
  | u => u.reC q vq d v
def V.liteC (q vq : Nat) : V → Bool
  | .sl d' v' _ _ => (d' == q) && (v' == vq)
  | u => u.flat
def V.liteE (q vq : Nat) : V → Bool
  | .agg cs => cs.all (V.liteC q vq)
  | u => u.liteC q vq

section
variable {P : Program} {w0 : World} {N0 : Nat → Prop} {Q : Exit → AS → Prop} {S : AS}

theorem Enc.reC {w : World} {N N' : Nat → Prop} {μ μ' : Mu} {q vq d v : Nat} {x : Value} {u : V} (h : Enc w N μ x u) (hl : u.liteC q vq = true) (hμ : ∀ l, μ q vq = some l → μ' d v = some l) : Enc w N' μ' x (u.reC q vq d v) ∧ (u.reC q vq d v).isCell = true := by
  cases h with
  | pur h =>
    cases h with
    | bool b => exact ⟨.pur (.bool b), rfl⟩
    | int k n => exact ⟨.pur (.int k n), rfl⟩
    | str l => exact ⟨.pur (.str l), rfl⟩
    | nils A => exact ⟨.pur (.nils A), rfl⟩
    | fn f => exact ⟨.pur (.fn f), rfl⟩
    | agg | tup | ro | rp | mp => simp [V.liteC, V.flat] at hl
  | slr d' v' sz len g cap h1 h2 h3 =>
    simp only [V.liteC, Bool.and_eq_true, beq_iff_eq] at hl
    obtain ⟨rfl, rfl⟩ := hl
    simp only [V.reC, and_self, if_true]
    exact ⟨.slr d v sz len g cap (hμ _ h1) h2 h3, rfl⟩
  | slv d' v' sz A h1 =>
    simp only [V.liteC, Bool.and_eq_true, beq_iff_eq] at hl
    obtain ⟨rfl, rfl⟩ := hl
    simp only [V.reC, and_self, if_true]
    exact ⟨.slv d v sz A (hμ _ h1), rfl⟩
  | ss | bp | agg | tup | whn => simp [V.liteC, V.flat] at hl

theorem Enc.re {w : World} {N N' : Nat → Prop} {μ μ' : Mu} {q vq d v : Nat} {x : Value} {u : V} (h : Enc w N μ x u) (hl : u.liteE q vq = true) (hμ : ∀ l, μ q vq = some l → μ' d v = some l) : Enc w N' μ' x (u.re q vq d v) := by
  have key : ∀ (xs : List Value) (cs : List V), xs.length = cs.length → (∀ (i : Nat) x c, xs[i]? = some x → cs[i]? = some c → Enc w N μ x c) → cs.all (V.liteC q vq) = true → Enc w N' μ' (.agg xs.toArray) (.agg (cs.map (V.reC q vq d v))) := by
    intro xs cs h1 h2 h3
    refine .agg xs _ (by simp [h1]) (fun c hc => ?_) (fun i x c hx hc => ?_)
    · simp only [List.mem_map] at hc
      obtain ⟨c0, hc0, rfl⟩ := hc
      obtain ⟨i, hi⟩ := List.getElem?_of_mem hc0
      have hlt : i < xs.length := by rw [h1]; exact (List.getElem?_eq_some_iff.1 hi).1
      exact ((h2 i xs[i] c0 (List.getElem?_eq_getElem hlt) hi).reC (N' := N') (List.all_eq_true.1 h3 c0 hc0) hμ).2
    · simp only [List.getElem?_map, Option.map_eq_some_iff] at hc
      obtain ⟨c0, hc0, rfl⟩ := hc
      exact ((h2 i x c0 hx hc0).reC (List.all_eq_true.1 h3 c0 (List.mem_of_getElem? hc0)) hμ).1
  cases u with
  | agg cs =>
    cases h with
    | pur h => cases h with
      | agg xs _ h1 h2 h3 => exact key xs cs h1 (fun i x c a b => .pur (h3 i x c a b)) hl
    | agg xs _ h1 h2 h3 => exact key xs cs h1 h3 hl
  | _ => exact (h.reC hl hμ).1

/-- A call that hands back a new row d. -/
theorem awl_callO {ops : List Oper} {i : Nat} {o : Oper} {rest : List Oper} {f : Operand} {fid : FuncId} {fn : Func} {args : Array Operand} {ats : Array TypeId} {vs us : List V} {sz : Nat} {ty : TypeId} {R : (Nat → Nat → V) → List V → Prop} (d : Nat)
    (hg : o.guard = none) (ho : o.op = .call { callee := .value f, args := args, argTypes := ats }) (hf : S.evc true f = some (.fn fid)) (hfn : P.funcs[fid]? = some fn) (hb : fn.body.isSome = true) (hn : (fn.name == "runtime.NumGoroutine") = false)
    (ha : S.args true args.toList = some vs) (hp : S.views vs = some us) (hc : ACO P fid us sz ty R)
    (h : ∀ F es, R F es → ∃ S', ({ S with objs := (d, ⟨S.nx + i, sz, ty, es⟩) :: S.objs } : AS).putv o.dst (F d (S.nx + i)) = some S' ∧ AWL P w0 N0 ops Q (i + 1) rest S') : AWL P w0 N0 ops Q i (o :: rest) S := by
  rintro D a w hD ⟨μ, hr⟩
  refine wpList_plain hg fun K hK => ?_
  have hfv := hr.evc hf rfl
  have hfe : a.eval f = .func (.func fid) #[] #[] := by
    generalize a.eval f = y at hfv
    cases hfv with
    | pur hfv => cases hfv with
      | fn => rfl
  obtain ⟨h1, h2⟩ := args_spec hr rfl ha
  obtain ⟨h3, h4⟩ := views_spec hp
  unfold Oper.wp
  rw [run_call_fn ho hfe hfn hb hn]
  have hcall := hc w N0 (args.toList.map a.eval) (fun b hb => Nat.lt_of_lt_of_le (hr.n0 b hb) hr.below.size) (by simp [h1, h3]) (fun j x v hx hv => by
    simp only [List.getElem?_map, Option.map_eq_some_iff] at hx
    obtain ⟨y, hy, rfl⟩ := hx
    have hj : j < vs.length := by rw [← h3]; exact (List.getElem?_eq_some_iff.1 hv).1
    exact hr.view (h2 j y vs[j] hy (List.getElem?_eq_getElem hj)) (h4 j vs[j] v (List.getElem?_eq_getElem hj) hv))
  have harr : (args.toList.map a.eval).toArray = args.map a.eval := by apply Array.ext'; simp
  rw [harr] at hcall
  refine hcall.mono ?_
  rintro e w' ⟨x, F, es, l, rfl, hR, hbw, hpx⟩
  obtain ⟨S', hs, hrest⟩ := h F es hR
  have hi : ¬ D i := fun hd => absurd (hD i hd) (by omega)
  have hmono := hr.muSet_mono hi d l
  obtain ⟨hrel, _⟩ := hr.update (D' := fun j => D j ∨ j = i) (d := d) (o' := ⟨S.nx + i, sz, ty, es⟩) (l' := l) (w' := w') (μ' := muSet μ d (S.nx + i) l) hmono (hr.muSet_fresh i d _) (muSet_same _ _ _ _)
    (hr.below.trans (hbw.mono hr.below.size)) (Keeps.of_below hbw _) (fun d1 o1 g c _ h1 h2 => hbw.block g (hr.block_lt h1 h2))
    (fun g c e => by
      have := (hpx d (S.nx + i) (muSet μ d (S.nx + i) l) (fun _ => False) (muSet_same _ _ _ _)).2
      rw [e] at this
      exact .inl this.1)
    (fun N' _ => by
      have := (hpx d (S.nx + i) (muSet μ d (S.nx + i) l) N' (muSet_same _ _ _ _)).2
      cases l with
      | none => exact this
      | some gc => exact ⟨Nat.le_trans hr.below.size this.1, this.2⟩)
  refine hK _ _ (hrest (fun j => D j ∨ j = i) _ w' (fun j hj => ?_) ⟨_, hrel.putv hs (hpx d (S.nx + i) _ _ (muSet_same _ _ _ _)).1⟩)
  rcases hj with hj | hj
  · have := hD j hj; omega
  · omega

theorem awl_callO1 {ops : List Oper} {i : Nat} {o : Oper} {rest : List Oper} {f : Operand} {fid : FuncId} {fn : Func} {args : Array Operand} {ats : Array TypeId} {vs us : List V} {sz : Nat} {ty : TypeId} {F : Nat → Nat → V} {es : List V} {S' : AS} (d : Nat)
    (hc : ACO P fid us sz ty (fun F' es' => F' = F ∧ es' = es)) (hfn : P.funcs[fid]? = some fn) (hb : fn.body.isSome = true) (hn : (fn.name == "runtime.NumGoroutine") = false)
    (hg : o.guard = none) (ho : o.op = .call { callee := .value f, args := args, argTypes := ats }) (hf : S.evc true f = some (.fn fid))
    (ha : S.args true args.toList = some vs) (hp : S.views vs = some us) (hs : ({ S with objs := (d, ⟨S.nx + i, sz, ty, es⟩) :: S.objs } : AS).putv o.dst (F d (S.nx + i)) = some S')
    (h : AWL P w0 N0 ops Q (i + 1) rest S') : AWL P w0 N0 ops Q i (o :: rest) S :=
  awl_callO d hg ho hf hfn hb hn ha hp hc (fun _ _ ⟨h1, h2⟩ => by subst h1; subst h2; exact ⟨S', hs, h⟩)

def aresL (P : Program) (S : AS) : List ResultVar → Option (List V)
  | [] => some []
  | r :: rs => match aresult P S r, aresL P S rs with
    | some v, some vs => some (v :: vs)
    | _, _ => none

/-- The results as a function of the name of row q of version vq. -/
def aresO (P : Program) (S : AS) (q vq : Nat) (rs : List ResultVar) : Option (Nat → Nat → V) :=
  match aresL P S rs with
  | some [v] => if v.liteE q vq = true then some (fun d w => v.re q vq d w) else none
  | some vs => if vs.all (V.liteE q vq) = true then some (fun d w => .tup (vs.map (V.re q vq d w))) else none
  | none => none

def EndsO (P : Program) (fn : Func) (sz : Nat) (ty : TypeId) (R : (Nat → Nat → V) → List V → Prop) (e : Exit) (S : AS) : Prop :=
  (e = .ret ∨ e = .normal) ∧ ((∃ q o F, get S.objs q = some o ∧ o.sz = sz ∧ o.ty = ty ∧ o.es.all flatE = true ∧ aresO P S q o.v fn.results.toList = some F ∧ R F o.es) ∨
    ∃ F, aresO P S 0 (S.nx + 1) fn.results.toList = some F ∧ R F [])

theorem aresO_run {D : Nat → Prop} {μ : Mu} {a : Act} {w : World} (h : RelM D w0 N0 μ S a w) {fn : Func} {q vq : Nat} {F : Nat → Nat → V} (hv : aresO P S q vq fn.results.toList = some F) :
    ∃ x, (results fn a.tmps).run P w = .ok x w ∧ ∀ d v (μ' : Mu) N', (∀ l, μ q vq = some l → μ' d v = some l) → Enc w N' μ' x (F d v) := by
  have key : ∀ (l : List ResultVar) (vs : List V), aresL P S l = some vs → ∃ xs : List Value, (l.mapM (resSem a.tmps)).run P w = .ok xs w ∧
      xs.length = vs.length ∧ ∀ (i : Nat) x v, xs[i]? = some x → vs[i]? = some v → Enc w (Own N0 μ S) μ x v := by
    intro l
    induction l with
    | nil => intro vs hvs; simp only [aresL, Option.some.injEq] at hvs; subst hvs; exact ⟨[], rfl, rfl, by simp⟩
    | cons q l ih =>
      intro vs hvs
      simp only [aresL] at hvs
      split at hvs
      case h_2 => cases hvs
      rename_i v vs' h1 h2
      injection hvs with hvs
      subst hvs
      obtain ⟨x, hx, hex⟩ := aresult_run h h1
      obtain ⟨xs, hxs, hl, hh⟩ := ih vs' h2
      refine ⟨x :: xs, ?_, by simp [hl], fun i y v hy hv => ?_⟩
      · rw [List.mapM_cons, Sem.run_bind, hx, Result.andThen_ok, Sem.run_bind, hxs, Result.andThen_ok]
        rfl
      · rcases i with _ | i
        · simp at hy hv; subst hy; subst hv; exact hex
        · simp at hy hv; exact hh i y v hy hv
  have hmap : ∀ xs : List Value, (fn.results.toList.mapM (resSem a.tmps)).run P w = .ok xs w →
      (results fn a.tmps).run P w = .ok (if h : xs.toArray.size = 1 then xs.toArray[0] else .tuple xs.toArray) w := by
    intro xs hxs
    rw [results_eq, Sem.run_bind, Array.mapM_eq_mapM_toList, Sem.run_map, hxs]
    rfl
  unfold aresO at hv
  split at hv
  · rename_i v hvs
    split at hv
    case isFalse => cases hv
    rename_i hl
    injection hv with hv
    subst hv
    obtain ⟨xs, h1, h2, h3⟩ := key _ _ hvs
    match xs, h2 with
    | [x], _ => exact ⟨x, hmap [x] h1, fun d v' μ' N' hμ => (h3 0 x _ rfl rfl).re hl hμ⟩
  · rename_i vs hne hvs
    split at hv
    case isFalse => cases hv
    rename_i hl
    injection hv with hv
    subst hv
    obtain ⟨xs, h1, h2, h3⟩ := key _ _ hvs
    refine ⟨.tuple xs.toArray, ?_, fun d v' μ' N' hμ => .tup xs _ (by simp [h2]) (fun i x c hx hc => ?_)⟩
    · rw [hmap xs h1]
      have : ¬ xs.toArray.size = 1 := by
        intro h0
        have hl : vs.length = 1 := by simp at h0; omega
        match vs, hl with
        | [v], _ => exact hne v rfl
      rw [dif_neg this]
    · simp only [List.getElem?_map, Option.map_eq_some_iff] at hc
      obtain ⟨c0, hc0, rfl⟩ := hc
      exact (h3 i x c0 hx hc0).re (List.all_eq_true.1 hl c0 (List.mem_of_getElem? hc0)) hμ
  · cases hv

theorem aco_intro {f : FuncId} {fn : Func} {c : Code} {args : List V} {sz : Nat} {ty : TypeId} {R : (Nat → Nat → V) → List V → Prop} (hf : P.funcs[f]? = some fn) (hb : fn.body = some c) (hl : args.length ≤ fn.ntmps)
    (h : ∀ w0 N0, AW P w0 N0 c (EndsO P fn sz ty R) ⟨env0 0 args, [], 0, fn.ntmps⟩) : ACO P f args sz ty R := by
  intro w N xs hN hlen hp
  refine calls_of_wp hf hb (wp_mono (h w N _ w ⟨fun _ _ => none, ⟨rfl, ?_, Below.refl _ _, hN, fun d v hv => absurd rfl hv, fun d o hd => ?_, fun d o _ _ _ _ _ hd => ?_, fun t v hv => ?_⟩⟩) ?_)
  · simp only [Array.size_append, List.size_toArray, Array.size_replicate]; omega
  · simp [get] at hd
  · simp [get] at hd
  · obtain ⟨_, h2⟩ := get_env0 hv
    simp only [Nat.sub_zero] at h2
    have ht : t < args.length := (List.getElem?_eq_some_iff.1 h2).1
    refine ⟨by simp only; omega, .pur ?_⟩
    have hx : xs[t]? = some xs[t] := List.getElem?_eq_getElem (by omega)
    have := hp t xs[t] v hx h2
    have hget : (xs.toArray ++ Array.replicate (fn.ntmps - xs.toArray.size) undef).getD t undef = xs[t] := by
      rw [Array.getD_eq_getD_getElem?, Array.getElem?_append_left (by simp; omega)]
      simp [hx]
    rw [hget]
    exact this.keep (Keeps.refl _ _) (fun b hb ho => by
      rcases ho with h0 | ⟨d, o, c, h1, _⟩
      · exact h0
      · simp [get] at h1)
  · rintro e a' w' ⟨S', ⟨he, hE⟩, ⟨μ, hr⟩⟩
    have key : ∃ v, (results fn a'.tmps).run P w' = .ok v w' ∧ ∃ x F es l, Ending.returned v = .returned x ∧ R F es ∧ Below w.heap.size w w' ∧
        ∀ d v μ N', μ d v = some l → Enc w' N' μ x (F d v) ∧ ObEnc w' N' μ w.heap.size ⟨v, sz, ty, es⟩ l := by
      rcases hE with ⟨q, o, F, hq, hsz, hty, hfl, hres, hR⟩ | ⟨F, hres, hR⟩
      · obtain ⟨x, hx, hex⟩ := aresO_run hr hres
        obtain ⟨l, hl, hob⟩ := hr.objs q o hq
        refine ⟨x, hx, x, F, o.es, l, rfl, hR, hr.below, fun d v μ' N' hμ => ⟨hex d v μ' N' (fun l' hl' => ?_), ?_⟩⟩
        · rw [hl] at hl'; injection hl' with hl'; subst hl'; exact hμ
        · subst hsz; subst hty
          cases l with
          | none => exact hob
          | some gc =>
            obtain ⟨h1, h2, h3, h4, arr, h5, h6, h7⟩ := hob
            refine ⟨h1, h2, h3, h4, arr, h5, h6, fun k e j c he' hj => ?_⟩
            obtain ⟨y, hy, hey⟩ := h7 k e j c he' hj
            have hfc : c.flat = true := List.all_eq_true.1 (List.all_eq_true.1 hfl e (List.mem_of_getElem? he')) c (List.mem_of_getElem? hj)
            refine ⟨y, hy, ?_⟩
            cases hey with
            | pur hey => exact .pur (hey.of_flat hfc)
            | _ => simp [V.flat] at hfc
      · obtain ⟨x, hx, hex⟩ := aresO_run hr hres
        refine ⟨x, hx, x, F, [], none, rfl, hR, hr.below, fun d v μ' N' hμ => ⟨hex d v μ' N' (fun l' hl' => ?_), rfl⟩⟩
        exfalso
        rcases hr.fresh 0 (S'.nx + 1) (by rw [hl']; simp) with h1 | ⟨j, hj, _⟩
        · omega
        · exact hj
    rcases he with rfl | rfl
    · exact ⟨hr.defers, key⟩
    · exact ⟨hr.defers, key⟩

theorem endso_row {fn : Func} {sz : Nat} {ty : TypeId} {R : (Nat → Nat → V) → List V → Prop} {F : Nat → Nat → V} (q : Nat) {o : Ob} (ho : get S.objs q = some o) (hsz : o.sz = sz) (hty : o.ty = ty) (hfl : o.es.all flatE = true) (hr : aresO P S q o.v fn.results.toList = some F) (h : R F o.es) : EndsO P fn sz ty R .ret S :=
  ⟨.inl rfl, .inl ⟨q, o, F, ho, hsz, hty, hfl, hr, h⟩⟩
theorem endso_none {fn : Func} {sz : Nat} {ty : TypeId} {R : (Nat → Nat → V) → List V → Prop} {F : Nat → Nat → V} (hr : aresO P S 0 (S.nx + 1) fn.results.toList = some F) (h : R F []) : EndsO P fn sz ty R .ret S :=
  ⟨.inl rfl, .inr ⟨F, hr, h⟩⟩

attribute [simp] aresO aresL V.liteE V.liteC V.re V.reC flatE

end
end Go.Eng
